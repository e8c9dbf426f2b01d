/- The walk of drawbridgelaw08.WindowApart. -/
import Derived.Test.YtoicclgcbemffaaWinAwake
import Derived.Test.YtoicclgcbemffaaLiftDo
namespace Go.Proofs.Ytoicclgcbemffaa
open Go.RowKit Go.Maps

/-- Two books apart: neither's blocks are the other's. -/
structure Two (W w : World) (g m g2 m2 : Nat) (S T : Bk) : Prop where
  a : WB w g m S.all S.first S.L
  b : WB w g2 m2 T.all T.first T.L
  ag : g ≠ g2 ∧ g ≠ m2 ∧ m ≠ g2 ∧ m ≠ m2
  lo : W.heap.size ≤ g ∧ W.heap.size ≤ m ∧ W.heap.size ≤ g2 ∧ W.heap.size ≤ m2
  okA : BkOk S
  okB : BkOk T
  below : Below W.heap.size W w
theorem WB.but {w w' : World} {g m g2 m2 : Nat} {all first : Int} {L : List (Int × Int)} (h : WB w g m all first L) (hb : But g2 m2 w w') (h1 : g ≠ g2) (h2 : g ≠ m2) (h3 : m ≠ g2) (h4 : m ≠ m2) : WB w' g m all first L :=
  h.keep (hb.block g h.lt.1 h1 h2) (hb.block m h.lt.2 h3 h4)
section
variable {W w w' : World} {g m g2 m2 : Nat} {S T S' T' : Bk}
theorem Two.stepA (h : Two W w g m g2 m2 S T) (hwb : WB w' g m S'.all S'.first S'.L) (hbut : But g m w w') (hok : BkOk S') : Two W w' g m g2 m2 S' T :=
  ⟨hwb, h.b.but hbut (Ne.symm h.ag.1) (Ne.symm h.ag.2.2.1) (Ne.symm h.ag.2.1) (Ne.symm h.ag.2.2.2), h.ag, h.lo, hok, h.okB, hbut.up h.below h.lo.1 h.lo.2.1 (Nat.le_refl _)⟩
theorem Two.stepB (h : Two W w g m g2 m2 S T) (hwb : WB w' g2 m2 T'.all T'.first T'.L) (hbut : But g2 m2 w w') (hok : BkOk T') : Two W w' g m g2 m2 S T' :=
  ⟨h.a.but hbut h.ag.1 h.ag.2.1 h.ag.2.2.1 h.ag.2.2.2, hwb, h.ag, h.lo, h.okA, hok, hbut.up h.below h.lo.2.2.1 h.lo.2.2.2 (Nat.le_refl _)⟩
theorem Two.alloc (h : Two W w g m g2 m2 S T) (o : Obj) : Two W (w.alloc o) g m g2 m2 S T :=
  ⟨h.a.alloc o, h.b.alloc o, h.ag, h.lo, h.okA, h.okB, h.below.alloc (h.below.size) o⟩
theorem Two.start (h1 : WB w g m S.all S.first S.L) (hg : W.heap.size ≤ g) (hm : W.heap.size ≤ m) (hb : Below W.heap.size W w) (h2 : WB w' g2 m2 T.all T.first T.L) (hg2 : w.heap.size ≤ g2) (hm2 : w.heap.size ≤ m2) (hb2 : Below w.heap.size w w') (hA : BkOk S) (hB : BkOk T) :
    Two W w' g m g2 m2 S T := by
  have l1 := h1.lt
  have hs := hb.size
  exact ⟨h1.below hb2 l1.1 l1.2, h2, ⟨by omega, by omega, by omega, by omega⟩, ⟨hg, hm, by omega, by omega⟩, hA, hB, hb.trans (hb2.mono hs)⟩
end

theorem But.cell {g m k : Nat} {w w' : World} (h : But g m w w') (hk : k < w.heap.size) (h1 : k ≠ g) (h2 : k ≠ m) (o : Nat) : w'.cell? ⟨k, o, none⟩ = w.cell? ⟨k, o, none⟩ := World.cell?_of_block (h.block k hk h1 h2)
def ApRel (W : World) (n g m g2 m2 : Nat) (st : Int) (iv : Value) (wr : World) : Prop :=
  ∃ k : Nat, ∃ S T : Bk, iv = .int .i64 k ∧ k ≤ n ∧ k ≤ 200 ∧ Two W wr g m g2 m2 S T ∧ Apart st S T ∧ S.L.length ≤ k ∧ T.L.length ≤ k
theorem ap_start (W : World) (n g m g2 m2 : Nat) (st : Int) {w : World} (h : Two W w g m g2 m2 ⟨65535, 1000, []⟩ ⟨65535, 1000, []⟩) : ApRel W n g m g2 m2 st (.int .i64 0) w :=
  ⟨0, _, _, rfl, by omega, by omega, h, ⟨rfl, rfl, fun _ => rfl, fun p hp => by cases hp⟩, Nat.le_refl _, Nat.le_refl _⟩

set_option maxRecDepth 100000 in
set_option maxHeartbeats 4000000 in
theorem apart_any {A : Option Addr} {n c : Nat} {D : Nat → Int × Int × Int} (st : Int) (W : World) (hd : Dos W A n D) (hm : n ≤ 140737488351232) (hst : (Lit.int .i64 st).wf = true) :
    Calls Try.prog 4 #[.slice A n c, .int .i64 st] W (RetT W) := by
  have HD := Lib.hid hd
  have HST := Lib.hid hst
  clear hd hst
  go_enter Try.func4, Try.ntmps4
  go_wp2_with fail
  refine (awake8_any W).mono ?_
  rintro e w0 ⟨rfl, hb0⟩
  have HB0 := Lib.hid hb0
  have hs0 := hb0.size
  clear hb0
  go_wp2_with fail
  refine (wnew_any 1000 w0 (by decide) (by decide)).mono ?_
  rintro e w1 ⟨g, m, rfl, hwb, hg, hmm, hb1⟩
  have H1 := Lib.hid (And.intro hwb hb1)
  clear hwb hb1
  go_wp2_with fail
  refine (wnew_any 1000 w1 (by decide) (by decide)).mono ?_
  rintro e w2 ⟨g2, m2, rfl, hwb2, hg2, hm2, hb2⟩
  have HT : Hid (Two W w2 g m g2 m2 ⟨65535, 1000, []⟩ ⟨65535, 1000, []⟩) := Lib.hid (Two.start H1.out.1 (by omega) (by omega) (HB0.out.trans (H1.out.2.mono hs0)) hwb2 hg2 hm2 hb2 (bk0 1000 (by decide) (by decide)) (bk0 1000 (by decide) (by decide)))
  clear hwb2 hb2
  go_wp2
  go_loopw [9] (fun i wr => ApRel W n g m g2 m2 st i wr) (fun i _ => n - (intOf i).toNat)
  case atStart => exact ap_start W n g m g2 m2 st HT.out
  case round =>
    obtain ⟨k, S, T, rfl, hkn, hk200, hT, hA, hlS, hlT⟩ := hrel
    have HTW := Lib.hid hT
    have HAP := Lib.hid hA
    clear hT hA HT H1 HB0
    by_cases hlt : k < n
    case neg =>
      go_wp2
      go_ret
      exact ⟨rfl, HTW.out.below⟩
    by_cases hl2 : k < 200
    case neg =>
      go_wp2
      go_ret
      exact ⟨rfl, HTW.out.below⟩
    obtain ⟨b, of, rfl, hbl, hcs⟩ := HD.out (by omega)
    obtain ⟨⟨h0, h1, h2⟩, hwf⟩ := hcs k hlt
    clear hcs
    obtain ⟨⟨kd, s, x⟩, hDk⟩ : ∃ d, D k = d := ⟨_, rfl⟩
    rw [hDk] at h0 h1 h2 hwf
    have hbel := HTW.out.below
    have c0 : wr.cell? ⟨b, of + k * 3, none⟩ = some (.int .i64 kd) := (hbel.cell (p := ⟨b, _, none⟩) hbl).trans h0
    have c1 : wr.cell? ⟨b, of + k * 3 + 1, none⟩ = some (.int .i64 s) := (hbel.cell (p := ⟨b, _, none⟩) hbl).trans h1
    have c2 : wr.cell? ⟨b, of + k * 3 + 2, none⟩ = some (.int .i64 x) := (hbel.cell (p := ⟨b, _, none⟩) hbl).trans h2
    have HWF := Lib.hid hwf
    have HTA := Lib.hid (HTW.out.alloc (.cells #[.int .i64 kd, .int .i64 s, .int .i64 x] 29))
    have hgne : wr.heap.size ≠ g ∧ wr.heap.size ≠ m := ⟨by have := HTW.out.a.lt; omega, by have := HTW.out.a.lt; omega⟩
    clear h0 h1 h2 hDk hwf hbel
    by_cases h2 : kd = 2
    · subst h2
      go_wp2
      go_roundw
      case rel => exact ⟨k + 1, S, T, by go_num, by omega, by omega, HTA.out, HAP.out, by omega, by omega⟩
      case measure => simp [intOf]; omega
    have e2 : (kd == 2) = false := by simpa using h2
    obtain ⟨⟨e1, S1⟩, hr⟩ : ∃ r, doB S kd s x = r := ⟨_, rfl⟩
    obtain ⟨⟨f1, T1⟩, hrt⟩ : ∃ r, doB T kd s x = r := ⟨_, rfl⟩
    have hlen1 := doB_len S kd s x
    have hlen2 := doB_len T kd s x
    have HOK : Hid (BkOk S1) := Lib.hid (by have := doB_ok HTW.out.okA kd s x; rw [hr] at this; exact this)
    have HOKT : Hid (BkOk T1) := Lib.hid (by have := doB_ok HTW.out.okB kd s x; rw [hrt] at this; exact this)
    have hcases := ap_cases (x := x) (s := s) HAP.out HTW.out.b.once h2
    unfold ApYes at hcases
    rw [hr, hrt] at hcases
    rw [hr] at hlen1
    rw [hrt] at hlen2
    simp only at hcases hlen1 hlen2
    have HR := Lib.hid hr
    have HRT := Lib.hid hrt
    have l1 : S1.L.length ≤ k + 1 := by omega
    have l2 : T1.L.length ≤ k + 1 := by omega
    have HL1 := Lib.hid (And.intro l1 l2)
    have HL0 := Lib.hid (And.intro l1 (show T.L.length ≤ k + 1 by omega))
    clear hr hrt hlen1 hlen2 h2 l1 l2
    rcases hcases with ⟨rfl, rfl, rfl, hap⟩ | ⟨rfl, hne, hap⟩ | ⟨h4, hs, rfl, hap⟩ | ⟨h4, hs, hap⟩
    all_goals have HAP1 := Lib.hid hap
    all_goals
      obtain ⟨⟨ay, aok⟩, hav⟩ : ∃ r, atB S1 st = r := ⟨_, rfl⟩
      have HAT := Lib.hid hav
      have HAT2 := Lib.hid (hap.at_.symm.trans hav)
      clear hav
    all_goals clear hap HTW HAP
    · as_aux_lemma =>
        go_wp2_with fail
        refine (does_any 4 s x _ HTA.out.a HTA.out.okA (by omega) HWF.out.2.1).mono ?_
        rw [HR.out]
        rintro e w3 ⟨rfl, hwb, hbut⟩
        have d0 : w3.cell? ⟨wr.heap.size, 0, none⟩ = some (.int .i64 4) := (hbut.cell (by simp) hgne.1 hgne.2 0).trans (World.cell?_alloc_at _ _ _ _ rfl)
        have d1 : w3.cell? ⟨wr.heap.size, 1, none⟩ = some (.int .i64 s) := (hbut.cell (by simp) hgne.1 hgne.2 1).trans (World.cell?_alloc_at _ _ _ _ rfl)
        have d2 : w3.cell? ⟨wr.heap.size, 2, none⟩ = some (.int .i64 x) := (hbut.cell (by simp) hgne.1 hgne.2 2).trans (World.cell?_alloc_at _ _ _ _ rfl)
        have HT3 := Lib.hid (HTA.out.stepA hwb hbut HOK.out)
        clear hwb hbut
        go_wp2_with fail
        refine (does_any 4 s x w3 HT3.out.b HT3.out.okB (by omega) (HWF.out.2.1)).mono ?_
        rw [HRT.out]
        rintro e w4 ⟨rfl, hwb, hbut⟩
        have HT4 := Lib.hid (HT3.out.stepB hwb hbut HOKT.out)
        clear hwb hbut d0 d1 d2 HT3
        go_wp2_with fail
        refine (wat_any st w4 HT4.out.a HT4.out.okA.inv HST.out).mono ?_
        rintro e w9 ⟨rfl, rfl⟩
        rw [atB_eq, HAT.out]
        simp only [pairV]
        go_wp2_with fail
        refine (wat_any st w4 HT4.out.b HT4.out.okB.inv HST.out).mono ?_
        rintro e w9 ⟨rfl, rfl⟩
        rw [atB_eq, HAT2.out]
        simp only [pairV]
        go_wp2
        go_roundw
        case rel => exact ⟨k + 1, S1, T1, by go_num, by omega, by omega, HT4.out, HAP1.out, HL1.out.1, HL1.out.2⟩
        case measure => simp [intOf]; omega
    · have e0 : (e1 == 0) = false := by simpa using hne
      have HL1 := HL0
      clear hne
      as_aux_lemma =>
        go_wp2_with fail
        refine (does_any 4 s x _ HTA.out.a HTA.out.okA (by omega) HWF.out.2.1).mono ?_
        rw [HR.out]
        rintro e w3 ⟨rfl, hwb, hbut⟩
        have d0 : w3.cell? ⟨wr.heap.size, 0, none⟩ = some (.int .i64 4) := (hbut.cell (by simp) hgne.1 hgne.2 0).trans (World.cell?_alloc_at _ _ _ _ rfl)
        have d1 : w3.cell? ⟨wr.heap.size, 1, none⟩ = some (.int .i64 s) := (hbut.cell (by simp) hgne.1 hgne.2 1).trans (World.cell?_alloc_at _ _ _ _ rfl)
        have d2 : w3.cell? ⟨wr.heap.size, 2, none⟩ = some (.int .i64 x) := (hbut.cell (by simp) hgne.1 hgne.2 2).trans (World.cell?_alloc_at _ _ _ _ rfl)
        have HT3 := Lib.hid (HTA.out.stepA hwb hbut HOK.out)
        clear hwb hbut
        have HT4 := HT3
        clear HT3
        go_wp2_with fail
        refine (wat_any st w3 HT4.out.a HT4.out.okA.inv HST.out).mono ?_
        rintro e w9 ⟨rfl, rfl⟩
        rw [atB_eq, HAT.out]
        simp only [pairV]
        go_wp2_with fail
        refine (wat_any st w3 HT4.out.b HT4.out.okB.inv HST.out).mono ?_
        rintro e w9 ⟨rfl, rfl⟩
        rw [atB_eq, HAT2.out]
        simp only [pairV]
        go_wp2
        go_roundw
        case rel => exact ⟨k + 1, S1, T, by go_num, by omega, by omega, HT4.out, HAP1.out, HL1.out.1, HL1.out.2⟩
        case measure => simp [intOf]; omega
    · have e4 : (kd == 4) = false := by simpa using h4
      have e5 : (kd != 4) = true := by simpa using h4
      have e6 : (s == st) = true := by simpa using hs
      clear h4 hs
      as_aux_lemma =>
        go_wp2_with fail
        refine (does_any kd s x _ HTA.out.a HTA.out.okA (by omega) HWF.out.2.1).mono ?_
        rw [HR.out]
        rintro e w3 ⟨rfl, hwb, hbut⟩
        have d0 : w3.cell? ⟨wr.heap.size, 0, none⟩ = some (.int .i64 kd) := (hbut.cell (by simp) hgne.1 hgne.2 0).trans (World.cell?_alloc_at _ _ _ _ rfl)
        have d1 : w3.cell? ⟨wr.heap.size, 1, none⟩ = some (.int .i64 s) := (hbut.cell (by simp) hgne.1 hgne.2 1).trans (World.cell?_alloc_at _ _ _ _ rfl)
        have d2 : w3.cell? ⟨wr.heap.size, 2, none⟩ = some (.int .i64 x) := (hbut.cell (by simp) hgne.1 hgne.2 2).trans (World.cell?_alloc_at _ _ _ _ rfl)
        have HT3 := Lib.hid (HTA.out.stepA hwb hbut HOK.out)
        clear hwb hbut
        go_wp2_with fail
        refine (does_any kd s x w3 HT3.out.b HT3.out.okB (by omega) (HWF.out.2.1)).mono ?_
        rw [HRT.out]
        rintro e w4 ⟨rfl, hwb, hbut⟩
        have HT4 := Lib.hid (HT3.out.stepB hwb hbut HOKT.out)
        clear hwb hbut d0 d1 d2 HT3
        go_wp2_with fail
        refine (wat_any st w4 HT4.out.a HT4.out.okA.inv HST.out).mono ?_
        rintro e w9 ⟨rfl, rfl⟩
        rw [atB_eq, HAT.out]
        simp only [pairV]
        go_wp2_with fail
        refine (wat_any st w4 HT4.out.b HT4.out.okB.inv HST.out).mono ?_
        rintro e w9 ⟨rfl, rfl⟩
        rw [atB_eq, HAT2.out]
        simp only [pairV]
        go_wp2
        go_roundw
        case rel => exact ⟨k + 1, S1, T1, by go_num, by omega, by omega, HT4.out, HAP1.out, HL1.out.1, HL1.out.2⟩
        case measure => simp [intOf]; omega
    · have e4 : (kd == 4) = false := by simpa using h4
      have e5 : (kd != 4) = true := by simpa using h4
      have e6 : (s == st) = false := by simpa using hs
      have HL1 := HL0
      clear h4 hs
      as_aux_lemma =>
        go_wp2_with fail
        refine (does_any kd s x _ HTA.out.a HTA.out.okA (by omega) HWF.out.2.1).mono ?_
        rw [HR.out]
        rintro e w3 ⟨rfl, hwb, hbut⟩
        have d0 : w3.cell? ⟨wr.heap.size, 0, none⟩ = some (.int .i64 kd) := (hbut.cell (by simp) hgne.1 hgne.2 0).trans (World.cell?_alloc_at _ _ _ _ rfl)
        have d1 : w3.cell? ⟨wr.heap.size, 1, none⟩ = some (.int .i64 s) := (hbut.cell (by simp) hgne.1 hgne.2 1).trans (World.cell?_alloc_at _ _ _ _ rfl)
        have d2 : w3.cell? ⟨wr.heap.size, 2, none⟩ = some (.int .i64 x) := (hbut.cell (by simp) hgne.1 hgne.2 2).trans (World.cell?_alloc_at _ _ _ _ rfl)
        have HT3 := Lib.hid (HTA.out.stepA hwb hbut HOK.out)
        clear hwb hbut
        have HT4 := HT3
        clear HT3
        go_wp2_with fail
        refine (wat_any st w3 HT4.out.a HT4.out.okA.inv HST.out).mono ?_
        rintro e w9 ⟨rfl, rfl⟩
        rw [atB_eq, HAT.out]
        simp only [pairV]
        go_wp2_with fail
        refine (wat_any st w3 HT4.out.b HT4.out.okB.inv HST.out).mono ?_
        rintro e w9 ⟨rfl, rfl⟩
        rw [atB_eq, HAT2.out]
        simp only [pairV]
        go_wp2
        go_roundw
        case rel => exact ⟨k + 1, S1, T, by go_num, by omega, by omega, HT4.out, HAP1.out, HL1.out.1, HL1.out.2⟩
        case measure => simp [intOf]; omega
end Go.Proofs.Ytoicclgcbemffaa
