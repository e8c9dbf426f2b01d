/- The walk of drawbridgelaw08.WindowTurns. -/
import Derived.Test.YtoicclgcbemffaaWinApart
namespace Go.Proofs.Ytoicclgcbemffaa
open Go.RowKit Go.Maps

def TuRel (W : World) (n g m g2 m2 : Nat) (fv iv : Value) (wr : World) : Prop :=
  ∃ k : Nat, ∃ S : Bk, iv = .int .i64 k ∧ fv = .int .i64 S.first ∧ k ≤ n ∧ k ≤ 200 ∧ Two W wr g m g2 m2 S S ∧ S.L.length ≤ k
theorem tu_start (W : World) (n g m g2 m2 : Nat) {w : World} (h : Two W w g m g2 m2 ⟨65535, 1000, []⟩ ⟨65535, 1000, []⟩) : TuRel W n g m g2 m2 (.int .i64 1000) (.int .i64 0) w :=
  ⟨0, _, rfl, rfl, by omega, by omega, h, Nat.le_refl _⟩
theorem doB_first (S : Bk) {kd s x : Int} (h : kd ≠ 4) : (doB S kd s x).2.first = S.first := by
  unfold doB openB shutB spendB growB
  repeat' split
  all_goals first | rfl | (exact absurd ‹_› h)
theorem doB_first4 (S : Bk) {s x : Int} (h : (doB S 4 s x).1 = 0) : (doB S 4 s x).2.first = x := by
  have e : doB S 4 s x = firstB S x := rfl
  rw [e] at h ⊢
  unfold firstB at *
  repeat' split at h
  all_goals first | (cases h) | skip
  rename_i h1 h2
  rw [if_neg h1, if_neg h2]
theorem tu_cases (S : Bk) (kd s x : Int) : (kd = 4 ∧ (doB S kd s x).1 = 0 ∧ (doB S kd s x).2.first = x) ∨ ((kd == 4) = true ∧ ((doB S kd s x).1 == 0) = false ∧ (doB S kd s x).2.first = S.first) ∨ ((kd == 4) = false ∧ (doB S kd s x).2.first = S.first) := by
  by_cases h : kd = 4
  · subst h
    by_cases he : (doB S 4 s x).1 = 0
    · exact .inl ⟨rfl, he, doB_first4 S he⟩
    · exact .inr (.inl ⟨rfl, by simpa using he, by rw [doB_no he]⟩)
  · exact .inr (.inr ⟨by simpa using h, doB_first S h⟩)
def TuTail (W : World) (g m g2 m2 : Nat) (S : Bk) (iv : Value) (wr : World) : Prop := ∃ k : Nat, iv = .int .i64 ((k : Int) - 1) ∧ k ≤ 13 ∧ Two W wr g m g2 m2 S S
set_option maxRecDepth 100000 in
set_option maxHeartbeats 8000000 in
theorem turns_any {A : Option Addr} {n c : Nat} {D : Nat → Int × Int × Int} (nn kd s x : Int) (W : World) (hd : Dos W A n D) (hm : n ≤ 140737488351232) (hs : (Lit.int .i64 s).wf = true) :
    Calls Try.prog 9 #[.slice A n c, .int .i64 nn, .agg #[.int .i64 kd, .int .i64 s, .int .i64 x]] W (RetT W) := by
  obtain ⟨W1, hW1⟩ : ∃ W1, W.alloc (.cells #[.int .i64 kd, .int .i64 s, .int .i64 x] 29) = W1 := ⟨_, rfl⟩
  have HD := Lib.hid hd
  have HS := Lib.hid hs
  have hsz1 : W1.heap.size = W.heap.size + 1 := by rw [← hW1]; simp
  have HWB : Hid (Below W.heap.size W W1) := Lib.hid (hW1 ▸ (Below.refl _ _).alloc (Nat.le_refl _) _)
  have HC : Hid (W1.cell? ⟨W.heap.size, 0, none⟩ = some (.int .i64 kd) ∧ W1.cell? ⟨W.heap.size, 1, none⟩ = some (.int .i64 s) ∧ W1.cell? ⟨W.heap.size, 2, none⟩ = some (.int .i64 x)) := by
    refine Lib.hid ?_
    rw [← hW1]
    exact ⟨World.cell?_alloc_at _ _ _ _ rfl, World.cell?_alloc_at _ _ _ _ rfl, World.cell?_alloc_at _ _ _ _ rfl⟩
  have HSZ := Lib.hid hsz1
  have HEQ := Lib.hid hW1
  clear hd hs hsz1 hW1
  go_enter Try.func9, Try.ntmps9
  go_wp2_with fail
  rw [HEQ.out]
  refine (awake8_any W1).mono ?_
  rintro e w0 ⟨rfl, hb0⟩
  have HB0 := Lib.hid hb0
  have hs0 := hb0.size
  clear hb0
  go_wp2_with fail
  refine (wnew_any 1000 w0 (by decide) (by decide)).mono ?_
  rintro e w1 ⟨g, m, rfl, hwb, hg, hmm, hb1⟩
  have H1 := Lib.hid (And.intro hwb hb1)
  clear hwb hb1
  go_wp2_with fail
  refine (wnew_any 1000 w1 (by decide) (by decide)).mono ?_
  rintro e w2 ⟨g2, m2, rfl, hwb2, hg2, hm2, hb2⟩
  have HT : Hid (Two W1 w2 g m g2 m2 ⟨65535, 1000, []⟩ ⟨65535, 1000, []⟩) := Lib.hid (Two.start H1.out.1 (by omega) (by omega) (HB0.out.trans (H1.out.2.mono hs0)) hwb2 hg2 hm2 hb2 (bk0 1000 (by decide) (by decide)) (bk0 1000 (by decide) (by decide)))
  clear hwb2 hb2
  go_wp2
  go_loopw [11, 12] (fun f i wr => TuRel W1 n g m g2 m2 f i wr) (fun _ i _ => n - (intOf i).toNat)
  case atStart => exact tu_start W1 n g m g2 m2 HT.out
  case round =>
    obtain ⟨k, S, rfl, rfl, hkn, hk200, hT, hlS⟩ := hrel
    have HTW := Lib.hid hT
    clear hT HT H1 HB0
    by_cases hin : k < n ∧ k < 200
    · obtain ⟨hlt, hl2⟩ := hin
      obtain ⟨b, of, rfl, hbl, hcs⟩ := HD.out (by omega)
      obtain ⟨⟨h0, h1, h2⟩, hwf⟩ := hcs k hlt
      clear hcs
      obtain ⟨⟨kd2, s2, x2⟩, hDk⟩ : ∃ d, D k = d := ⟨_, rfl⟩
      rw [hDk] at h0 h1 h2 hwf
      have hbel := HWB.out.trans (HTW.out.below.mono (by rw [HSZ.out]; omega))
      have c0 : wr.cell? ⟨b, of + k * 3, none⟩ = some (.int .i64 kd2) := (hbel.cell (p := ⟨b, _, none⟩) hbl).trans h0
      have c1 : wr.cell? ⟨b, of + k * 3 + 1, none⟩ = some (.int .i64 s2) := (hbel.cell (p := ⟨b, _, none⟩) hbl).trans h1
      have c2 : wr.cell? ⟨b, of + k * 3 + 2, none⟩ = some (.int .i64 x2) := (hbel.cell (p := ⟨b, _, none⟩) hbl).trans h2
      have HWF := Lib.hid hwf
      have hcases := tu_cases S kd2 s2 x2
      have hlen1 := doB_len S kd2 s2 x2
      obtain ⟨⟨e1, S1⟩, hr⟩ : ∃ r, doB S kd2 s2 x2 = r := ⟨_, rfl⟩
      have HOK : Hid (BkOk S1) := Lib.hid (by have := doB_ok HTW.out.okA kd2 s2 x2; rw [hr] at this; exact this)
      rw [hr] at hcases hlen1
      simp only at hcases hlen1
      have HR := Lib.hid hr
      have l1 : S1.L.length ≤ k + 1 := by omega
      have HL1 := Lib.hid l1
      have hgb : b ≠ g ∧ b ≠ m ∧ b ≠ g2 ∧ b ≠ m2 := by have := HTW.out.lo; rw [HSZ.out] at this; omega
      have hblr : b < wr.heap.size := by have := hbel.size; omega
      clear h0 h1 h2 hDk hwf hr hlen1 l1
      go_wp2_with fail
      refine (does_any kd2 s2 x2 wr HTW.out.a HTW.out.okA (by omega) HWF.out.2.1).mono ?_
      rw [HR.out]
      rintro e w3 ⟨rfl, hwb, hbut⟩
      have d0 : w3.cell? ⟨b, of + k * 3, none⟩ = some (.int .i64 kd2) := (hbut.cell hblr hgb.1 hgb.2.1 _).trans c0
      have d1 : w3.cell? ⟨b, of + k * 3 + 1, none⟩ = some (.int .i64 s2) := (hbut.cell hblr hgb.1 hgb.2.1 _).trans c1
      have d2 : w3.cell? ⟨b, of + k * 3 + 2, none⟩ = some (.int .i64 x2) := (hbut.cell hblr hgb.1 hgb.2.1 _).trans c2
      have HT3 := Lib.hid (HTW.out.stepA hwb hbut HOK.out)
      have hbl3 : b < w3.heap.size := by have := hbut.size; omega
      clear hwb hbut c0 c1 c2 HTW hbel
      go_wp2_with fail
      refine (does_any kd2 s2 x2 w3 HT3.out.b HT3.out.okB (by omega) HWF.out.2.1).mono ?_
      rw [HR.out]
      rintro e w4 ⟨rfl, hwb, hbut⟩
      have f0 : w4.cell? ⟨b, of + k * 3, none⟩ = some (.int .i64 kd2) := (hbut.cell hbl3 hgb.2.2.1 hgb.2.2.2 _).trans d0
      have f1 : w4.cell? ⟨b, of + k * 3 + 1, none⟩ = some (.int .i64 s2) := (hbut.cell hbl3 hgb.2.2.1 hgb.2.2.2 _).trans d1
      have f2 : w4.cell? ⟨b, of + k * 3 + 2, none⟩ = some (.int .i64 x2) := (hbut.cell hbl3 hgb.2.2.1 hgb.2.2.2 _).trans d2
      have HT4 := Lib.hid (HT3.out.stepB hwb hbut HOK.out)
      clear hwb hbut d0 d1 d2 HT3
      rcases hcases with ⟨rfl, rfl, hf⟩ | ⟨h4, he, hf⟩ | ⟨h4, hf⟩
      all_goals
        have HF := Lib.hid hf
        clear hf
        go_wp2
        go_roundw
        case rel => exact ⟨k + 1, S1, by go_num, by rw [HF.out], by omega, by omega, HT4.out, HL1.out⟩
        case measure => simp [intOf]; omega
    · by_cases hlt : k < n
      all_goals
        have hnn : ¬ (k < n ∧ k < 200) := hin
        clear hin
        as_aux_lemma =>
          go_wp2_with fail
          refine (first_step (S := S) HTW.out.a nn).mono ?_
          obtain ⟨⟨e1, S1⟩, hr⟩ : ∃ r, firstB S nn = r := ⟨_, rfl⟩
          have HOK : Hid (BkOk S1) := Lib.hid (by have := doB_ok HTW.out.okA 4 0 nn; rw [show doB S 4 0 nn = firstB S nn from rfl, hr] at this; exact this)
          have hno : e1 ≠ 0 → S1 = S := fun h => by have := firstB_no (S := S) (n := nn); rw [hr] at this; exact this h
          have hback : e1 = 0 → firstB S1 S.first = (0, S) := fun h => by have := back_ok HTW.out.okA nn; rw [hr] at this; exact this h
          have HOKS : Hid (BkOk S) := Lib.hid HTW.out.okA
          rw [hr]
          clear hr
          rintro e w3 ⟨rfl, hwb, hbut⟩
          have HT3 := Lib.hid (HTW.out.stepA hwb hbut HOK.out)
          clear hwb hbut HTW
          by_cases he : e1 = 0
          · have HBK := Lib.hid (hback he)
            subst he
            clear hback hno
            go_wp2_with fail
            refine (first_step (S := S1) HT3.out.a S.first).mono ?_
            rw [HBK.out]
            rintro e w4 ⟨rfl, hwb, hbut⟩
            have HT4 := Lib.hid (HT3.out.stepA hwb hbut HOKS.out)
            clear hwb hbut HT3 HBK
            have q0 : w4.cell? ⟨W.heap.size, 0, none⟩ = some (.int .i64 kd) := (HT4.out.below.cell (p := ⟨_, 0, none⟩) (by rw [HSZ.out]; exact Nat.lt_succ_self _)).trans HC.out.1
            have q1 : w4.cell? ⟨W.heap.size, 1, none⟩ = some (.int .i64 s) := (HT4.out.below.cell (p := ⟨_, 1, none⟩) (by rw [HSZ.out]; exact Nat.lt_succ_self _)).trans HC.out.2.1
            have q2 : w4.cell? ⟨W.heap.size, 2, none⟩ = some (.int .i64 x) := (HT4.out.below.cell (p := ⟨_, 2, none⟩) (by rw [HSZ.out]; exact Nat.lt_succ_self _)).trans HC.out.2.2
            go_wp2_with fail
            refine (does_any kd s x w4 HT4.out.a HT4.out.okA (by omega) HS.out).mono ?_
            obtain ⟨⟨e2, S2⟩, hr2⟩ : ∃ r, doB S kd s x = r := ⟨_, rfl⟩
            have HOK2 : Hid (BkOk S2) := Lib.hid (by have := doB_ok HT4.out.okA kd s x; rw [hr2] at this; exact this)
            have hno : e2 ≠ 0 → S2 = S := fun h => by have := doB_no (S := S) (k := kd) (s := s) (n := x); rw [hr2] at this; exact this h
            have HR2 := Lib.hid hr2
            rw [hr2]
            clear hr2
            rintro e w5 ⟨rfl, hwb, hbut⟩
            have HT5 := Lib.hid (HT4.out.stepA hwb hbut HOK2.out)
            clear hwb hbut HT4 q0 q1 q2
            by_cases he2 : e2 = 0
            · subst he2
              clear hno
              have q0 : w5.cell? ⟨W.heap.size, 0, none⟩ = some (.int .i64 kd) := (HT5.out.below.cell (p := ⟨_, 0, none⟩) (by rw [HSZ.out]; exact Nat.lt_succ_self _)).trans HC.out.1
              have q1 : w5.cell? ⟨W.heap.size, 1, none⟩ = some (.int .i64 s) := (HT5.out.below.cell (p := ⟨_, 1, none⟩) (by rw [HSZ.out]; exact Nat.lt_succ_self _)).trans HC.out.2.1
              have q2 : w5.cell? ⟨W.heap.size, 2, none⟩ = some (.int .i64 x) := (HT5.out.below.cell (p := ⟨_, 2, none⟩) (by rw [HSZ.out]; exact Nat.lt_succ_self _)).trans HC.out.2.2
              go_wp2_with fail
              refine (does_any kd s x w5 HT5.out.b HT5.out.okB (by omega) HS.out).mono ?_
              rw [HR2.out]
              rintro e w6 ⟨rfl, hwb, hbut⟩
              have HT6 := Lib.hid (HT5.out.stepB hwb hbut HOK2.out)
              clear hwb hbut HT5
              go_wp2
              go_ret
              exact ⟨rfl, HWB.out.trans (HT6.out.below.mono (by rw [HSZ.out]; omega))⟩
            · have e02 : (e2 == 0) = false := by simpa using he2
              have e03 : (e2 != 0) = true := by simpa using he2
              obtain rfl : S2 = S := hno he2
              clear hno he2 HR2
              go_wp2
              go_loopw [14] (fun i wr => TuTail W1 g m g2 m2 S2 i wr) (fun i _ => (12 - intOf i).toNat)
              case atStart => exact ⟨0, rfl, by omega, HT5.out⟩
              case round =>
                obtain ⟨k2, rfl, hk2, hT2⟩ := hrel
                have HT6 := Lib.hid hT2
                clear hT2 HT5
                obtain ⟨⟨ay, aok⟩, hav⟩ : ∃ r, atB S2 ((k2 : Int) - 1) = r := ⟨_, rfl⟩
                have HAT := Lib.hid hav
                clear hav
                by_cases hk3 : k2 < 13
                · go_wp2_with fail
                  refine (wat_any ((k2 : Int) - 1) _ HT6.out.a HT6.out.okA.inv (WalkArith.wf_i64 (by omega))).mono ?_
                  rintro e w9 ⟨rfl, rfl⟩
                  rw [atB_eq, HAT.out]
                  simp only [pairV]
                  go_wp2_with fail
                  refine (wat_any ((k2 : Int) - 1) _ HT6.out.b HT6.out.okB.inv (WalkArith.wf_i64 (by omega))).mono ?_
                  rintro e w9 ⟨rfl, rfl⟩
                  rw [atB_eq, HAT.out]
                  simp only [pairV]
                  go_wp2
                  go_roundw
                  case rel => exact ⟨k2 + 1, val_eq (by omega), by omega, HT6.out⟩
                  case measure => simp [intOf]; omega
                · go_wp2_with fail
                  refine (wlen_any _ HT6.out.a).mono ?_
                  rintro e w9 ⟨rfl, rfl⟩
                  go_wp2_with fail
                  refine (wlen_any _ HT6.out.b).mono ?_
                  rintro e w9 ⟨rfl, rfl⟩
                  go_wp2
                  go_ret
                  exact ⟨rfl, HWB.out.trans (HT6.out.below.mono (by rw [HSZ.out]; omega))⟩
          · have e01 : (e1 == 0) = false := by simpa using he
            obtain rfl : S1 = S := hno he
            have HT4 := HT3
            clear hback hno he HT3
            have q0 : w3.cell? ⟨W.heap.size, 0, none⟩ = some (.int .i64 kd) := (HT4.out.below.cell (p := ⟨_, 0, none⟩) (by rw [HSZ.out]; exact Nat.lt_succ_self _)).trans HC.out.1
            have q1 : w3.cell? ⟨W.heap.size, 1, none⟩ = some (.int .i64 s) := (HT4.out.below.cell (p := ⟨_, 1, none⟩) (by rw [HSZ.out]; exact Nat.lt_succ_self _)).trans HC.out.2.1
            have q2 : w3.cell? ⟨W.heap.size, 2, none⟩ = some (.int .i64 x) := (HT4.out.below.cell (p := ⟨_, 2, none⟩) (by rw [HSZ.out]; exact Nat.lt_succ_self _)).trans HC.out.2.2
            go_wp2_with fail
            refine (does_any kd s x w3 HT4.out.a HT4.out.okA (by omega) HS.out).mono ?_
            obtain ⟨⟨e2, S2⟩, hr2⟩ : ∃ r, doB S1 kd s x = r := ⟨_, rfl⟩
            have HOK2 : Hid (BkOk S2) := Lib.hid (by have := doB_ok HT4.out.okA kd s x; rw [hr2] at this; exact this)
            have hno : e2 ≠ 0 → S2 = S1 := fun h => by have := doB_no (S := S1) (k := kd) (s := s) (n := x); rw [hr2] at this; exact this h
            have HR2 := Lib.hid hr2
            rw [hr2]
            clear hr2
            rintro e w5 ⟨rfl, hwb, hbut⟩
            have HT5 := Lib.hid (HT4.out.stepA hwb hbut HOK2.out)
            clear hwb hbut HT4 q0 q1 q2
            by_cases he2 : e2 = 0
            · subst he2
              clear hno
              have q0 : w5.cell? ⟨W.heap.size, 0, none⟩ = some (.int .i64 kd) := (HT5.out.below.cell (p := ⟨_, 0, none⟩) (by rw [HSZ.out]; exact Nat.lt_succ_self _)).trans HC.out.1
              have q1 : w5.cell? ⟨W.heap.size, 1, none⟩ = some (.int .i64 s) := (HT5.out.below.cell (p := ⟨_, 1, none⟩) (by rw [HSZ.out]; exact Nat.lt_succ_self _)).trans HC.out.2.1
              have q2 : w5.cell? ⟨W.heap.size, 2, none⟩ = some (.int .i64 x) := (HT5.out.below.cell (p := ⟨_, 2, none⟩) (by rw [HSZ.out]; exact Nat.lt_succ_self _)).trans HC.out.2.2
              go_wp2_with fail
              refine (does_any kd s x w5 HT5.out.b HT5.out.okB (by omega) HS.out).mono ?_
              rw [HR2.out]
              rintro e w6 ⟨rfl, hwb, hbut⟩
              have HT6 := Lib.hid (HT5.out.stepB hwb hbut HOK2.out)
              clear hwb hbut HT5
              go_wp2
              go_ret
              exact ⟨rfl, HWB.out.trans (HT6.out.below.mono (by rw [HSZ.out]; omega))⟩
            · have e02 : (e2 == 0) = false := by simpa using he2
              have e03 : (e2 != 0) = true := by simpa using he2
              obtain rfl : S2 = S1 := hno he2
              clear hno he2 HR2
              go_wp2
              go_loopw [14] (fun i wr => TuTail W1 g m g2 m2 S2 i wr) (fun i _ => (12 - intOf i).toNat)
              case atStart => exact ⟨0, rfl, by omega, HT5.out⟩
              case round =>
                obtain ⟨k2, rfl, hk2, hT2⟩ := hrel
                have HT6 := Lib.hid hT2
                clear hT2 HT5
                obtain ⟨⟨ay, aok⟩, hav⟩ : ∃ r, atB S2 ((k2 : Int) - 1) = r := ⟨_, rfl⟩
                have HAT := Lib.hid hav
                clear hav
                by_cases hk3 : k2 < 13
                · go_wp2_with fail
                  refine (wat_any ((k2 : Int) - 1) _ HT6.out.a HT6.out.okA.inv (WalkArith.wf_i64 (by omega))).mono ?_
                  rintro e w9 ⟨rfl, rfl⟩
                  rw [atB_eq, HAT.out]
                  simp only [pairV]
                  go_wp2_with fail
                  refine (wat_any ((k2 : Int) - 1) _ HT6.out.b HT6.out.okB.inv (WalkArith.wf_i64 (by omega))).mono ?_
                  rintro e w9 ⟨rfl, rfl⟩
                  rw [atB_eq, HAT.out]
                  simp only [pairV]
                  go_wp2
                  go_roundw
                  case rel => exact ⟨k2 + 1, val_eq (by omega), by omega, HT6.out⟩
                  case measure => simp [intOf]; omega
                · go_wp2_with fail
                  refine (wlen_any _ HT6.out.a).mono ?_
                  rintro e w9 ⟨rfl, rfl⟩
                  go_wp2_with fail
                  refine (wlen_any _ HT6.out.b).mono ?_
                  rintro e w9 ⟨rfl, rfl⟩
                  go_wp2
                  go_ret
                  exact ⟨rfl, HWB.out.trans (HT6.out.below.mono (by rw [HSZ.out]; omega))⟩
end Go.Proofs.Ytoicclgcbemffaa
