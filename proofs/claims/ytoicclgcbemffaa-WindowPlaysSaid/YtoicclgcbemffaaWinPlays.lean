/- The walk of drawbridgelaw08.WindowPlays. -/
import Derived.Test.YtoicclgcbemffaaWinApart
import Derived.Test.YtoicclgcbemffaaWinRef4
import Derived.Deep.RegionHeld3
import Derived.Deep.DeepCutAuto
import Derived.Deep.QuietTactic
import Derived.BigQuiet
import Derived.Outline
import Derived.OwnWalk
namespace Go.Proofs.Ytoicclgcbemffaa
open Go.RowKit Go.Maps

/-- Both books. -/
structure Pl (W w : World) (g m B r : Nat) (A : Option Addr) (c : Nat) (S : Bk) : Prop where
  a : WB w g m S.all S.first S.L
  b : RS w B r S A c
  lo : W.heap.size ≤ g ∧ W.heap.size ≤ m ∧ g < B ∧ m < B
  ok : BkOk S
  below : Below W.heap.size W w
section
variable {W w w' : World} {g m B r c c' : Nat} {A A' : Option Addr} {S S' : Bk}
theorem RS.base (h : RS w B r S A c) : ∀ a, A = some a → B ≤ a.block := by
  intro a ha
  obtain ⟨_, _, hv, _, _, _, hb⟩ := own_slice h.row
  injection hv with e1
  subst e1
  exact hb a ha
theorem RS.alt (h : RS w B r S A c) : ∀ a, A = some a → a.block < w.heap.size := by
  intro a ha
  subst ha
  exact (h.row.lt a.block rfl).2
theorem RS.but (h : RS w B r S A c) (hb : But g m w w') (h1 : g < B) (h2 : m < B) : RS w' B r S A c := h.keep fun k hk hs => hb.block k hs (by omega) (by omega)
theorem WB.far (h : WB w g m S.all S.first S.L) (hb : Far r A w w') (h1 : g < B) (h2 : m < B) (h3 : B ≤ r) (h4 : ∀ a, A = some a → B ≤ a.block) : WB w' g m S.all S.first S.L :=
  h.keep (hb.block g h.lt.1 (by omega) (fun a ha => by have := h4 a ha; omega)) (hb.block m h.lt.2 (by omega) (fun a ha => by have := h4 a ha; omega))
theorem Pl.alloc (h : Pl W w g m B r A c S) (o : Obj) : Pl W (w.alloc o) g m B r A c S :=
  ⟨h.a.alloc o, h.b.keep (fun _ _ hk => Below.heap_alloc _ _ _ hk), h.lo, h.ok, h.below.alloc (by have := h.below.size; omega) o⟩
theorem Pl.same (h : Pl W w g m B r A c S) (hh : w'.heap = w.heap) (h1 : w'.os = w.os) (h2 : w'.tape = w.tape) (h3 : w'.output = w.output) : Pl W w' g m B r A c S :=
  ⟨h.a.keep (by rw [hh]) (by rw [hh]), h.b.keep (fun _ _ _ => by rw [hh]), h.lo, h.ok, h.below.trans ⟨h1, h2, h3, by rw [hh]; exact Nat.le_refl _, fun _ _ => by rw [hh]⟩⟩
end

theorem Far.cell {r q : Nat} {A : Option Addr} {w w' : World} (h : Far r A w w') (hq : q < w.heap.size) (h1 : q ≠ r) (h2 : ∀ a, A = some a → a.block ≠ q) (o : Nat) : w'.cell? ⟨q, o, none⟩ = w.cell? ⟨q, o, none⟩ := World.cell?_of_block (h.block q hq h1 h2)
def Cells3 (w : World) (q : Nat) (kd s x : Int) : Prop := w.cell? ⟨q, 0, none⟩ = some (.int .i64 kd) ∧ w.cell? ⟨q, 1, none⟩ = some (.int .i64 s) ∧ w.cell? ⟨q, 2, none⟩ = some (.int .i64 x)
theorem Pl.drewN {W w : World} {g m B r c : Nat} {A : Option Addr} {S : Bk} (h : Pl W w g m B r A c S) (n : Nat) : Pl W (w.drewN n) g m B r A c S := h.same rfl rfl rfl rfl
theorem Pl.roomA {W w : World} {g m B r c : Nat} {A : Option Addr} {S : Bk} {s ro : Int} (h : Pl W w g m B r A c S) (hs : (Lit.int .i64 s).wf = true) (hr : roomB S s = ro) (n : Nat) :
    Calls Try.prog 15 #[.pointer (some ⟨g, 0, none⟩), .int .i64 s] (w.drewN n) fun e w' => e = .returned (.int .i64 ro) ∧ w' = w.drewN n :=
  (wroom_any s _ (h.drewN n).a h.ok.inv hs).mono fun e w' ⟨he, hw⟩ => ⟨by rw [he, roomB_eq, hr], hw.symm⟩
theorem Pl.roomB_ {W w : World} {g m B r c : Nat} {A : Option Addr} {S : Bk} {s ro : Int} (h : Pl W w g m B r A c S) (hl : S.L.length < 100000) (hr : roomB S s = ro) (n : Nat) :
    Calls Try.prog 25 #[.pointer (some ⟨r, 0, none⟩), .int .i64 s] (w.drewN n) fun e w' => e = .returned (.int .i64 ro) ∧ w' = w.drewN n :=
  (rroom_any s _ (h.drewN n).b hl).mono fun e w' ⟨he, hw⟩ => ⟨by rw [he, hr], hw.symm⟩
theorem Pl.len {W w : World} {g m B r c : Nat} {A : Option Addr} {S : Bk} (h : Pl W w g m B r A c S) (n : Nat) :
    Calls Try.prog 26 #[.pointer (some ⟨g, 0, none⟩)] (w.drewN n) fun e w' => e = .returned (.int .i64 (S.L.length : Int)) ∧ w' = w.drewN n :=
  (wlen_any _ (h.drewN n).a).mono fun _ _ ⟨he, hw⟩ => ⟨he, hw.symm⟩
def PlMid (W : World) (g m B q : Nat) (kd s x : Int) (S1 : Bk) (v : Value) (wx : World) : Prop := v = .bool false ∧ ∃ A c, Pl W wx g m B B A c S1 ∧ Cells3 wx q kd s x
def PlRel (W : World) (n g m B r : Nat) (iv : Value) (wr : World) : Prop :=
  ∃ k : Nat, ∃ S A c, iv = .int .i64 k ∧ k ≤ n ∧ k ≤ 200 ∧ Pl W wr g m B r A c S ∧ S.L.length ≤ k

set_option maxRecDepth 100000 in
set_option maxHeartbeats 8000000 in
theorem plays_any {A0 : Option Addr} {n c0 : Nat} {D : Nat → Int × Int × Int} (fi0 st : Int) (W : World) (hd : Dos W A0 n D) (hm : n ≤ 140737488351232) (hst : (Lit.int .i64 st).wf = true) :
    Calls Try.prog 8 #[.int .i64 fi0, .slice A0 n c0, .int .i64 st] W (RetT W) := by
  have HD := Lib.hid hd
  have HST := Lib.hid hst
  clear hd hst
  by_cases hbad : fi0 < 0 ∨ 2147483647 < fi0
  · by_cases h1 : fi0 < 0
    all_goals
      go_enter Try.func8, Try.ntmps8
      go_wp2_with fail
      refine (awake8_any W).mono ?_
      rintro e w0 ⟨rfl, hb0⟩
      have HB0 := Lib.hid hb0
      clear hb0
      go_wp2_with fail
      refine (wnew_bad fi0 w0 hbad).mono ?_
      rintro e w1 ⟨rfl, rfl⟩
      first
        | (have h2 : 2147483647 < fi0 := by omega
           clear hbad
           go_wp2
           go_ret
           exact ⟨rfl, HB0.out⟩)
        | (clear hbad
           go_wp2
           go_ret
           exact ⟨rfl, HB0.out⟩)
  have hf0 : 0 ≤ fi0 := by omega
  have hf1 : fi0 ≤ 2147483647 := by omega
  clear hbad
  go_enter Try.func8, Try.ntmps8
  go_wp2_with fail
  refine (awake8_any W).mono ?_
  rintro e w0 ⟨rfl, hb0⟩
  have HB0 := Lib.hid hb0
  have hs0 := hb0.size
  clear hb0
  go_wp2_with fail
  refine (wnew_any fi0 w0 hf0 hf1).mono ?_
  rintro e w1 ⟨g, m, rfl, hwb, hg, hmm, hb1⟩
  have hgm := hwb.lt
  have H1 := Lib.hid (And.intro hwb (HB0.out.trans (hb1.mono hs0)))
  clear hwb hb1 HB0
  go_wp2_with fail
  refine (rnew_any fi0 w1).mono ?_
  rintro e w2 ⟨rfl, hrs, hb2⟩
  obtain ⟨B, hB⟩ : ∃ B, w1.heap.size = B := ⟨_, rfl⟩
  rw [hB] at hrs hgm ⊢
  have hsz2 : W.heap.size ≤ w1.heap.size := H1.out.2.size
  have HP : Hid (Pl W w2 g m B B none 0 ⟨65535, fi0, []⟩) := Lib.hid ⟨H1.out.1.below hb2 (by omega) (by omega), hrs, ⟨by omega, by omega, hgm.1, hgm.2⟩, bk0 fi0 hf0 hf1, H1.out.2.trans (hb2.mono hsz2)⟩
  have hgB : W.heap.size ≤ g ∧ W.heap.size ≤ m ∧ W.heap.size ≤ B := by omega
  clear hrs hb2 H1 hB hsz2
  go_wp2
  go_loopw [10] (fun i wr => PlRel W n g m B B i wr) (fun i _ => n - (intOf i).toNat)
  case atStart => exact ⟨0, _, _, _, rfl, by omega, by omega, HP.out, Nat.le_refl _⟩
  case round =>
    obtain ⟨k, S, A, c, rfl, hkn, hk200, hP, hlS⟩ := hrel
    have HPW := Lib.hid hP
    clear hP HP
    by_cases hin : k < n ∧ k < 200
    · obtain ⟨hlt, hl2⟩ := hin
      obtain ⟨b, of, rfl, hbl, hcs⟩ := HD.out (by omega)
      obtain ⟨⟨h0, h1, h2⟩, hwf⟩ := hcs k hlt
      clear hcs
      obtain ⟨⟨kd, s, x⟩, hDk⟩ : ∃ d, D k = d := ⟨_, rfl⟩
      rw [hDk] at h0 h1 h2 hwf
      have hbel := HPW.out.below
      have c0 : wr.cell? ⟨b, of + k * 3, none⟩ = some (.int .i64 kd) := (hbel.cell (p := ⟨b, _, none⟩) hbl).trans h0
      have c1 : wr.cell? ⟨b, of + k * 3 + 1, none⟩ = some (.int .i64 s) := (hbel.cell (p := ⟨b, _, none⟩) hbl).trans h1
      have c2 : wr.cell? ⟨b, of + k * 3 + 2, none⟩ = some (.int .i64 x) := (hbel.cell (p := ⟨b, _, none⟩) hbl).trans h2
      have HWF := Lib.hid hwf
      have HPA := Lib.hid (HPW.out.alloc (.cells #[.int .i64 kd, .int .i64 s, .int .i64 x] 29))
      obtain ⟨q, hq⟩ : ∃ q, wr.heap.size = q := ⟨_, rfl⟩
      have hqne : q ≠ g ∧ q ≠ m ∧ q ≠ B ∧ (∀ a, A = some a → a.block ≠ q) := by
        have h1 := HPW.out.a.lt
        have h2 := HPW.out.b.lt
        refine ⟨by omega, by omega, by omega, fun a ha => ?_⟩
        have := HPW.out.b.alt a ha
        omega
      have HQ := Lib.hid hqne
      obtain ⟨wa, hwa⟩ : ∃ wa, wr.alloc (.cells #[.int .i64 kd, .int .i64 s, .int .i64 x] 29) = wa := ⟨_, rfl⟩
      have hqa : q < wa.heap.size := by rw [← hwa, ← hq]; simp
      have z0 : wa.cell? ⟨q, 0, none⟩ = some (.int .i64 kd) := by rw [← hwa]; exact World.cell?_alloc_at _ _ _ _ hq.symm
      have z1 : wa.cell? ⟨q, 1, none⟩ = some (.int .i64 s) := by rw [← hwa]; exact World.cell?_alloc_at _ _ _ _ hq.symm
      have z2 : wa.cell? ⟨q, 2, none⟩ = some (.int .i64 x) := by rw [← hwa]; exact World.cell?_alloc_at _ _ _ _ hq.symm
      rw [hwa] at HPA
      have HZ := Lib.hid (And.intro z0 (And.intro z1 z2))
      have hlen1 := doB_len S kd s x
      obtain ⟨⟨e1, S1⟩, hr⟩ : ∃ r, doB S kd s x = r := ⟨_, rfl⟩
      have HOK : Hid (BkOk S1) := Lib.hid (by have := doB_ok HPW.out.ok kd s x; rw [hr] at this; exact this)
      rw [hr] at hlen1
      have HR := Lib.hid hr
      have HL1 := Lib.hid (show S1.L.length ≤ k + 1 by simp only at hlen1; omega)
      have HQE := Lib.hid hq
      have HWA := Lib.hid hwa
      clear h0 h1 h2 hDk hwf hbel hr hlen1 hqne hq hwa z0 z1 z2
      go_upto_region 13 with fail
      rw [HWA.out, HQE.out]
      go_cut [69] (fun v wx => PlMid W g m B q kd s x S1 v wx)
      case first =>
        have HC1 : Hid (∀ w', w'.heap = wa.heap → Calls Try.prog 13 #[.pointer (some ⟨g, 0, none⟩), .agg #[.int .i64 kd, .int .i64 s, .int .i64 x]] w' (WStep g m w' (e1, S1))) := Lib.hid fun w' hw => by
          have := does_any (S := S) kd s x w' (HPA.out.a.keep (by rw [hw]) (by rw [hw])) HPA.out.ok (by omega) HWF.out.2.1
          rwa [HR.out] at this
        have HC2 : Hid (∀ w1, RS w1 B B S A c → ∀ w', w'.heap = w1.heap → Calls Try.prog 23 #[.pointer (some ⟨B, 0, none⟩), .agg #[.int .i64 kd, .int .i64 s, .int .i64 x]] w' (WRef B B A w' (e1, S1))) := Lib.hid fun w1 h1 w' hw => by
          have := refDoes_any kd s x w' (h1.keep (w' := w') (fun _ _ _ => by rw [hw])) HPA.out.ok (by omega)
          rwa [HR.out] at this
        have HZ2 := HZ.out
        obtain ⟨y0, y1, y2⟩ := HZ2
        go_region_held3 (fun w' => w'.cell? ⟨q, 0, none⟩ = some (.int .i64 kd) ∧ w'.cell? ⟨q, 1, none⟩ = some (.int .i64 s) ∧ w'.cell? ⟨q, 2, none⟩ = some (.int .i64 x))
          (first | go_keep | exact ⟨k0, k1, k2⟩ | exact ⟨j0, j1, j2⟩)
          (first
            | (go_at_call 13; refine (HC1.out _ (by rfl)).mono ?_; rintro e w3 ⟨rfl, hwb, hbut⟩; have k0 := (hbut.cell hqa HQ.out.1 HQ.out.2.1 0).trans HZ.out.1; have k1 := (hbut.cell hqa HQ.out.1 HQ.out.2.1 1).trans HZ.out.2.1; have k2 := (hbut.cell hqa HQ.out.1 HQ.out.2.1 2).trans HZ.out.2.2; have hq3 : q < w3.heap.size := Nat.lt_of_lt_of_le hqa hbut.size; have H3 := Lib.hid (And.intro hwb (And.intro (RS.but (w := wa.drew) (HPA.out.b.keep (fun _ _ _ => rfl)) hbut HPA.out.lo.2.2.1 HPA.out.lo.2.2.2) (HPA.out.below.drew.trans (hbut.below HPA.out.lo.1 HPA.out.lo.2.1 HPA.out.below.size)))); clear hwb hbut)
            | (go_at_call 23; refine (HC2.out w3 H3.out.2.1 _ (by rfl)).mono ?_; rintro e w4 ⟨rfl, hwb, hfar⟩; have j0 := (hfar.cell hq3 HQ.out.2.2.1 HQ.out.2.2.2 0).trans k0; have j1 := (hfar.cell hq3 HQ.out.2.2.1 HQ.out.2.2.2 1).trans k1; have j2 := (hfar.cell hq3 HQ.out.2.2.1 HQ.out.2.2.2 2).trans k2; have hfar1 : Far B A w3 w4 := ⟨hfar.os, hfar.tape, hfar.output, hfar.size, hfar.block⟩; have H4 := Lib.hid (And.intro hwb (And.intro hfar1 (And.intro j0 (And.intro j1 j2)))); clear hwb hfar hfar1))
        all_goals
          go_wp2_with fail
          go_meet
          obtain ⟨⟨A1, c1, hrs⟩, hfar, h0, h1, h2⟩ := H4.out
          exact ⟨by simp, A1, c1, ⟨H3.out.1.far hfar HPA.out.lo.2.2.1 HPA.out.lo.2.2.2 (Nat.le_refl _) HPA.out.b.base, hrs, HPA.out.lo, HOK.out, H3.out.2.2.trans (hfar.below hgB.2.2 (fun a ha => by have := HPA.out.b.base a ha; omega) H3.out.2.2.size)⟩, h0, h1, h2⟩
      case rest =>
        obtain ⟨rfl, A1, c1, hP, f0, f1, f2⟩ := hcut
        have HP1 := Lib.hid hP
        obtain ⟨⟨ay, aok⟩, hav⟩ : ∃ r, atB S1 s = r := ⟨_, rfl⟩
        have HAT := Lib.hid hav
        clear hP hav HPA HPW HZ
        go_wp2_with fail
        refine (wat_any s _ HP1.out.a HP1.out.ok.inv HWF.out.2.1).mono ?_
        rintro e w9 ⟨rfl, rfl⟩
        rw [atB_eq, HAT.out]
        simp only [pairV]
        go_wp2_with fail
        refine (rat_any s _ HP1.out.b (by have := HL1.out; omega)).mono ?_
        rintro e w9 ⟨rfl, rfl⟩
        rw [HAT.out]
        simp only [pairV]
        obtain ⟨ro, hro⟩ : ∃ r, roomB S1 s = r := ⟨_, rfl⟩
        have HRA := Lib.hid (HP1.out.roomA HWF.out.2.1 hro)
        have HRB := Lib.hid (HP1.out.roomB_ (by have := HL1.out; omega) hro)
        clear hro
        go_wp2
        go_quiet ((first | (go_at_call 15; exact Calls.quiet_of_same (HRA.out _)) | (go_at_call 25; exact Calls.quiet_of_same (HRB.out _))))
        go_wp2
        go_roundw
        case rel => exact ⟨k + 1, S1, _, _, by go_num, by omega, by omega, HP1.out.drewN _, HL1.out⟩
        case measure => simp [intOf]; omega
    · have hnn : ¬ (k < n ∧ k < 200) := hin
      clear hin
      by_cases hlt : k < n
      all_goals
        obtain ⟨⟨ay, aok⟩, hav⟩ : ∃ r, atB S st = r := ⟨_, rfl⟩
        obtain ⟨ro, hro⟩ : ∃ r, roomB S st = r := ⟨_, rfl⟩
        obtain ⟨c0, c1, c2⟩ := HPW.out.b.cells
        have HAT := Lib.hid hav
        have HRA := Lib.hid (HPW.out.roomA HST.out hro)
        have HRB := Lib.hid (HPW.out.roomB_ (by omega) hro)
        have HLN := Lib.hid HPW.out.len
        clear hav hro
        go_wp2_with fail
        refine (wat_any st _ HPW.out.a HPW.out.ok.inv HST.out).mono ?_
        rintro e w9 ⟨rfl, rfl⟩
        rw [atB_eq, HAT.out]
        simp only [pairV]
        go_wp2_with fail
        refine (rat_any st _ HPW.out.b (by omega)).mono ?_
        rintro e w9 ⟨rfl, rfl⟩
        rw [HAT.out]
        simp only [pairV]
        go_wp2_with fail
        refine (wat_any 0 _ HPW.out.a HPW.out.ok.inv (by decide)).mono ?_
        rintro e w9 ⟨rfl, rfl⟩
        rw [show ∀ a b c, pairV (atF a b c 0) = .tuple #[.int .i64 a, .bool true] from fun _ _ _ => rfl]
        go_wp2
        go_quiet ((first | (go_at_call 15; exact Calls.quiet_of_same (HRA.out _)) | (go_at_call 25; exact Calls.quiet_of_same (HRB.out _)) | (go_at_call 26; exact Calls.quiet_of_same (HLN.out _))))
        go_wp2
        go_ret
        exact ⟨by simp, (HPW.out.drewN _).below⟩
end Go.Proofs.Ytoicclgcbemffaa
