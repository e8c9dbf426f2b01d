/- The walk of drawbridgelaw04.TableAlike. -/
import Derived.Test.YthpieiipddfpjaaTabTwin
namespace Go.Proofs.Ythpieiipddfpjaa
open Go.RowKit

def AlikeRel (B : Nat) (W : World) (g q n : Nat) (iv : Value) (wr : World) : Prop := ∃ (k : Nat) (T : Tb), iv = .int .i64 k ∧ k ≤ n ∧ k ≤ 120 ∧ B ≤ wr.heap.size ∧ Twin B W wr g q (2 * k) T T
set_option maxRecDepth 100000 in
set_option maxHeartbeats 4000000 in
theorem talike_any {n c : Nat} {A : Option Addr} {D : Nat → St} (low : Int) (f : Rw) (nv : Bool) (w : World) (h : Script w w.heap.size A n D) (hn : n ≤ 140737488351232) :
    Calls Try.prog 6 #[.slice A n c, .int .i64 low, .agg #[.string f.1, .string f.2, .bool nv]] w (RetT w) := by
  obtain ⟨W0, hW0⟩ : ∃ W0, w.alloc (.cells #[.string f.1, .string f.2, .bool nv] 24) = W0 := ⟨_, rfl⟩
  obtain ⟨p, hp⟩ : ∃ p, w.heap.size = p := ⟨_, rfl⟩
  obtain ⟨B, hB⟩ : ∃ B, p + 1 = B := ⟨_, rfl⟩
  have b0 : Below w.heap.size w W0 := by rw [← hW0]; exact (Below.refl _ _).alloc (Nat.le_refl _) _
  have f0 : W0.cell? ⟨p, 0, none⟩ = some (.string f.1) := by rw [← hW0, ← hp]; exact World.cell?_alloc_at _ _ _ _ rfl
  have f1 : W0.cell? ⟨p, 1, none⟩ = some (.string f.2) := by rw [← hW0, ← hp]; exact World.cell?_alloc_at _ _ _ _ rfl
  have f2 : W0.cell? ⟨p, 2, none⟩ = some (.bool nv) := by rw [← hW0, ← hp]; exact World.cell?_alloc_at _ _ _ _ rfl
  have hBs : W0.heap.size = B := by rw [← hW0, ← hB, ← hp]; simp
  have H := Lib.hid ((h.below b0).mono (B' := B) (by omega))
  have HC : Hid (∀ w', Below B W0 w' → w'.cell? ⟨p, 0, none⟩ = some (.string f.1) ∧ w'.cell? ⟨p, 1, none⟩ = some (.string f.2) ∧ w'.cell? ⟨p, 2, none⟩ = some (.bool nv)) := Lib.hid fun w' hb =>
    ⟨(hb.cell (p := ⟨p, 0, none⟩) (by show p < B; omega)).trans f0, (hb.cell (p := ⟨p, 1, none⟩) (by show p < B; omega)).trans f1, (hb.cell (p := ⟨p, 2, none⟩) (by show p < B; omega)).trans f2⟩
  have HE : Hid (∀ w', Below B W0 w' → Below w.heap.size w w') := Lib.hid fun w' hb => b0.trans (hb.mono (by omega))
  have HW := Lib.hid hW0
  have HP := Lib.hid hp
  have hpB : p < B := by omega
  clear h b0 f0 f1 f2 hW0 hp hB
  go_enter Try.func6, Try.ntmps6
  go_wp2_with fail
  rw [HW.out, HP.out]
  refine (awake4_any W0).mono ?_
  rintro e w0 ⟨rfl, hb0⟩
  rw [hBs] at hb0
  have HB0 := Lib.hid hb0
  have hs0 := hb0.size
  clear hb0
  go_wp2_with fail
  refine (few_any (B := B) w0 (H.out.below HB0.out) (by omega) hn).mono ?_
  rintro e w1 ⟨bf, rfl, hb1, hfew⟩
  have HB1 := Lib.hid (HB0.out.trans (hb1.mono (by omega)))
  have hs1 := HB1.out.size
  have HF := Lib.hid hfew
  obtain ⟨g0, g1, g2⟩ := HC.out w1 HB1.out
  obtain ⟨a1, ha1⟩ : ∃ a1 : Nat, f.1.size = a1 := ⟨_, rfl⟩
  obtain ⟨a2, ha2⟩ : ∃ a2 : Nat, f.2.size = a2 := ⟨_, rfl⟩
  clear hb1 hfew HB0 hs0
  obtain rfl | rfl : bf = false ∨ bf = true := by cases bf <;> simp
  · go_wp2_with fail
    go_ret
    exact ⟨rfl, HE.out _ HB1.out⟩
  rcases Nat.lt_or_ge 100000 a1 with z1 | z1
  · go_wp2_with fail
    go_ret
    exact ⟨rfl, HE.out _ HB1.out⟩
  rcases Nat.lt_or_ge 100000 a2 with z2 | z2
  · go_wp2_with fail
    go_ret
    exact ⟨rfl, HE.out _ HB1.out⟩
  go_wp2_with fail
  refine (tnew_any 4096 w1 (by decide) (by decide)).mono ?_
  rintro e w2 ⟨g, F, rfl, ht, hF, hb2⟩
  have HB2 := Lib.hid (HB1.out.trans (hb2.mono (by omega)))
  have hs2 := HB2.out.size
  have HT := Lib.hid ht
  have HFF : Hid (∀ k, F k → B ≤ k) := Lib.hid fun k hk => by have := hF k hk; omega
  clear hb2 ht hF
  go_wp2_with fail
  refine (tnew_any 4096 w2 (by decide) (by decide)).mono ?_
  rintro e w3 ⟨q, G, rfl, ht, hF, hb3⟩
  have HO := Lib.hid (twin_new (B := B) (W := W0) HT.out HFF.out (by omega) ht hF hb3 HB2.out)
  have hs3 : B ≤ w3.heap.size := by have := hb3.size; omega
  clear hb3 ht hF HT HFF g0 g1 g2
  go_wp2
  go_loopw [11] (fun i wr => AlikeRel B W0 g q n i wr) (fun i _ => n - (intOf i).toNat)
  case atStart => exact ⟨0, _, rfl, by omega, by omega, hs3, HO.out⟩
  case round =>
    obtain ⟨k, T, rfl, hk, hk2, hBr, htw⟩ := hrel
    have HTW := Lib.hid htw
    clear htw
    by_cases hlt : k < n ∧ k < 120
    · obtain ⟨hlt, h120⟩ := hlt
      obtain ⟨b, o, rfl, hbB, hc⟩ := (H.out.below HTW.out.bel).2 (by omega)
      obtain ⟨-, c1, c2, c3, -⟩ := hc k hlt
      obtain ⟨y1, y2⟩ := HF.out (by simp) k hlt h120
      have n1 : (k : Int) < n := by omega
      have n2 : (k : Int) < 120 := by omega
      have HD : Hid (∀ w', Below B W0 w' → StAt w' b (o + k * 5) (D k)) := Lib.hid fun w' hb => by
        obtain ⟨b', o', hA, -, hc'⟩ := (H.out.below hb).2 (by omega)
        cases hA
        exact hc' k hlt
      clear hc
      go_wp2_with fail
      refine (HTW.out.step1 (N' := 2 * k + 1) (T' := T.add (D k).sf) hBr (by omega) (by omega) (fun F h => add_any (N := 2 * k) (D k).sf (D k).sv wr h (by omega) (by omega) (by omega))).mono ?_
      rintro e w4 ⟨rfl, htw4, hB4⟩
      have HTW4 := Lib.hid htw4
      obtain ⟨-, d1, d2, d3, -⟩ := HD.out w4 htw4.bel
      clear htw4 c1 c2 c3
      go_wp2_with fail
      refine (HTW4.out.step2 (N' := 2 * k + 2) (T' := T.add (D k).sf) hB4 (by omega) (by omega) (fun F h => (add_any (N := 2 * k + 1) (D k).sf (D k).sv w4 h (by omega) (by omega) (by omega)))).mono ?_
      rintro e w5 ⟨rfl, htw5, hB5⟩
      have HTW5 := Lib.hid htw5
      clear htw5 d1 d2 d3
      go_wp2
      go_roundw
      case rel => exact ⟨k + 1, T.add (D k).sf, by go_num, by omega, by omega, hB5, HTW5.out⟩
      case measure => simp [intOf]; omega
    · have hex : (n : Int) ≤ k ∨ ((k : Int) < n ∧ (120 : Int) ≤ k) := by omega
      obtain ⟨F0, hT0⟩ := HTW.out.one
      obtain ⟨-, hm0, hm1, -, -, -, hfit⟩ := hT0.inv
      have hsz0 := sumc_nonneg T.rows
      obtain ⟨sz, hsz⟩ : ∃ sz, sumc T.rows = sz := ⟨_, rfl⟩
      have HSZ := Lib.hid hsz
      rw [hsz] at hfit hsz0
      have HT0 := Lib.hid hT0
      have HRS : Hid (T.resize sz = ⟨sz, T.gone, T.rows⟩) := Lib.hid (by rw [← hsz]; exact Tb.resize_self T)
      clear hsz hT0
      obtain ⟨cf, hcf⟩ : ∃ cf : Nat, cost f = cf := ⟨_, rfl⟩
      have HCF := Lib.hid hcf
      clear hcf
      rcases hex with n1 | ⟨n1, n2⟩
      all_goals
        go_wp2_with fail
        refine (size_any wr HT0.out).mono ?_
        rintro e w4 ⟨rfl, rfl⟩
        rw [HSZ.out]
        go_wp2_with fail
        refine (HTW.out.step1 (N' := 2 * k) (T' := ⟨sz, T.gone, T.rows⟩) hBr (by omega) (by omega) (fun F h => by have := resize_any (N := 2 * k) sz wr h hsz0 (by omega); rwa [HRS.out] at this)).mono ?_
        rintro e w5 ⟨rfl, htw5, hB5⟩
        have HTW5 := Lib.hid htw5
        obtain ⟨F5, h5⟩ := htw5.one
        obtain ⟨G5, k5⟩ := htw5.two
        obtain ⟨y0, y1, y2⟩ := HC.out w5 htw5.bel
        have HA5 := Lib.hid h5
        have HB5 := Lib.hid k5
        clear htw5 h5 k5
        rcases (show low < 0 ∨ (0 ≤ low ∧ sz < low) ∨ (0 ≤ low ∧ low ≤ sz) by omega) with l1 | ⟨l1, l2⟩ | ⟨l1, l2⟩
        · go_wp2_with fail
          refine (len_any w5 HA5.out).mono ?_
          rintro e w9 ⟨rfl, rfl⟩
          go_wp2_with fail
          refine (len_any w5 HB5.out).mono ?_
          rintro e w9 ⟨rfl, rfl⟩
          go_wp2_with fail
          refine (size_any w5 HA5.out).mono ?_
          rintro e w9 ⟨rfl, rfl⟩
          rw [HSZ.out]
          go_wp2_with fail
          have hBX := hB5
          clear y0 y1 y2
          obtain ⟨TA, hTA⟩ : ∃ TA : Tb, TA = ⟨sz, T.gone, T.rows⟩ := ⟨_, rfl⟩
          rw [← hTA] at HTW5
          obtain ⟨W8, hW8⟩ : ∃ W8, (w5).alloc (.cells #[.string f.1, .string f.2, .bool nv] 24) = W8 := ⟨_, rfl⟩
          have ht8 := HTW5.out.below hBX (show Below (w5).heap.size w5 W8 by rw [← hW8]; exact (Below.refl _ _).alloc (Nat.le_refl _) _)
          have hB8 : B ≤ W8.heap.size := by rw [← hW8]; simp; omega
          obtain ⟨F8, h8⟩ := ht8.one
          obtain ⟨mo, hmo⟩ : ∃ mo, TA.most = mo := ⟨_, rfl⟩
          have HMO := Lib.hid hmo
          have HT8 := Lib.hid ht8
          have HA8 := Lib.hid h8
          have HW8 := Lib.hid hW8
          have HBEL := Lib.hid ht8.bel
          clear ht8 h8 hW8 hTA hmo
          refine (cost_ref f nv _ (by omega) (by omega)).mono ?_
          rintro e w8 ⟨rfl, rfl⟩
          rw [HCF.out]
          obtain ⟨y0, y1, y2⟩ := HC.out W8 HBEL.out
          go_wp2_with fail
          rw [HW8.out]
          refine (most_any W8 HA8.out).mono ?_
          rintro e w9 ⟨rfl, rfl⟩
          rw [HMO.out]
          by_cases hc : mo < (cf : Int)
          · go_wp2_with fail
            refine (HT8.out.step1 (N' := 2 * k + 1) (T' := TA.add f) hB8 (by omega) (by omega) (fun F h => add_any (N := 2 * k) f nv W8 h (by omega) (by omega) (by omega))).mono ?_
            rintro e w10 ⟨rfl, ht10, hB10⟩
            have HBIG : Hid ((TA.add f).rows = []) := Lib.hid (Tb.add_big (by rw [HMO.out, HCF.out]; exact hc))
            obtain ⟨F10, h10⟩ := ht10.one
            have HA10 := Lib.hid h10
            have HB10 := Lib.hid ht10.bel
            clear ht10 h10 y0 y1 y2
            go_wp2_with fail
            refine (len_any w10 HA10.out).mono ?_
            rintro e w9 ⟨rfl, rfl⟩
            rw [HBIG.out]
            go_wp2_with fail
            refine (size_any w10 HA10.out).mono ?_
            rintro e w9 ⟨rfl, rfl⟩
            rw [HBIG.out, show sumc ([] : List Rw) = 0 from rfl]
            go_wp2_with fail
            go_ret
            exact ⟨rfl, HE.out _ HB10.out⟩
          · go_wp2_with fail
            refine (HT8.out.step1 (N' := 2 * k + 1) (T' := TA.add f) hB8 (by omega) (by omega) (fun F h => add_any (N := 2 * k) f nv W8 h (by omega) (by omega) (by omega))).mono ?_
            rintro e w10 ⟨rfl, ht10, hB10⟩
            have HLAST : Hid (atRows (TA.add f).rows 62 = some f) := Lib.hid (Tb.add_last (by rw [HMO.out, HCF.out]; omega))
            obtain ⟨F10, h10⟩ := ht10.one
            have HA10 := Lib.hid h10
            have HB10 := Lib.hid ht10.bel
            clear ht10 h10 y0 y1 y2
            go_wp2_with fail
            refine (at_any 62 w10 HA10.out (by omega)).mono ?_
            rw [HLAST.out]
            rintro e w11 ⟨rfl, hb11⟩
            simp only [atV, fieldV]
            have HB11 := Lib.hid (HB10.out.trans (hb11.mono hB10))
            have hB11 : B ≤ w11.heap.size := Nat.le_trans hB10 hb11.size
            have hp11 : p < w11.heap.size := by omega
            clear hb11
            obtain ⟨y0, y1, y2⟩ := HC.out w11 HB11.out
            go_wp2_with fail
            go_ret
            exact ⟨rfl, HE.out _ (HB11.out.alloc hB11 _)⟩
        · go_wp2_with fail
          refine (len_any w5 HA5.out).mono ?_
          rintro e w9 ⟨rfl, rfl⟩
          go_wp2_with fail
          refine (len_any w5 HB5.out).mono ?_
          rintro e w9 ⟨rfl, rfl⟩
          go_wp2_with fail
          refine (size_any w5 HA5.out).mono ?_
          rintro e w9 ⟨rfl, rfl⟩
          rw [HSZ.out]
          go_wp2_with fail
          have hBX := hB5
          clear y0 y1 y2
          obtain ⟨TA, hTA⟩ : ∃ TA : Tb, TA = ⟨sz, T.gone, T.rows⟩ := ⟨_, rfl⟩
          rw [← hTA] at HTW5
          obtain ⟨W8, hW8⟩ : ∃ W8, (w5).alloc (.cells #[.string f.1, .string f.2, .bool nv] 24) = W8 := ⟨_, rfl⟩
          have ht8 := HTW5.out.below hBX (show Below (w5).heap.size w5 W8 by rw [← hW8]; exact (Below.refl _ _).alloc (Nat.le_refl _) _)
          have hB8 : B ≤ W8.heap.size := by rw [← hW8]; simp; omega
          obtain ⟨F8, h8⟩ := ht8.one
          obtain ⟨mo, hmo⟩ : ∃ mo, TA.most = mo := ⟨_, rfl⟩
          have HMO := Lib.hid hmo
          have HT8 := Lib.hid ht8
          have HA8 := Lib.hid h8
          have HW8 := Lib.hid hW8
          have HBEL := Lib.hid ht8.bel
          clear ht8 h8 hW8 hTA hmo
          refine (cost_ref f nv _ (by omega) (by omega)).mono ?_
          rintro e w8 ⟨rfl, rfl⟩
          rw [HCF.out]
          obtain ⟨y0, y1, y2⟩ := HC.out W8 HBEL.out
          go_wp2_with fail
          rw [HW8.out]
          refine (most_any W8 HA8.out).mono ?_
          rintro e w9 ⟨rfl, rfl⟩
          rw [HMO.out]
          by_cases hc : mo < (cf : Int)
          · go_wp2_with fail
            refine (HT8.out.step1 (N' := 2 * k + 1) (T' := TA.add f) hB8 (by omega) (by omega) (fun F h => add_any (N := 2 * k) f nv W8 h (by omega) (by omega) (by omega))).mono ?_
            rintro e w10 ⟨rfl, ht10, hB10⟩
            have HBIG : Hid ((TA.add f).rows = []) := Lib.hid (Tb.add_big (by rw [HMO.out, HCF.out]; exact hc))
            obtain ⟨F10, h10⟩ := ht10.one
            have HA10 := Lib.hid h10
            have HB10 := Lib.hid ht10.bel
            clear ht10 h10 y0 y1 y2
            go_wp2_with fail
            refine (len_any w10 HA10.out).mono ?_
            rintro e w9 ⟨rfl, rfl⟩
            rw [HBIG.out]
            go_wp2_with fail
            refine (size_any w10 HA10.out).mono ?_
            rintro e w9 ⟨rfl, rfl⟩
            rw [HBIG.out, show sumc ([] : List Rw) = 0 from rfl]
            go_wp2_with fail
            go_ret
            exact ⟨rfl, HE.out _ HB10.out⟩
          · go_wp2_with fail
            refine (HT8.out.step1 (N' := 2 * k + 1) (T' := TA.add f) hB8 (by omega) (by omega) (fun F h => add_any (N := 2 * k) f nv W8 h (by omega) (by omega) (by omega))).mono ?_
            rintro e w10 ⟨rfl, ht10, hB10⟩
            have HLAST : Hid (atRows (TA.add f).rows 62 = some f) := Lib.hid (Tb.add_last (by rw [HMO.out, HCF.out]; omega))
            obtain ⟨F10, h10⟩ := ht10.one
            have HA10 := Lib.hid h10
            have HB10 := Lib.hid ht10.bel
            clear ht10 h10 y0 y1 y2
            go_wp2_with fail
            refine (at_any 62 w10 HA10.out (by omega)).mono ?_
            rw [HLAST.out]
            rintro e w11 ⟨rfl, hb11⟩
            simp only [atV, fieldV]
            have HB11 := Lib.hid (HB10.out.trans (hb11.mono hB10))
            have hB11 : B ≤ w11.heap.size := Nat.le_trans hB10 hb11.size
            have hp11 : p < w11.heap.size := by omega
            clear hb11
            obtain ⟨y0, y1, y2⟩ := HC.out w11 HB11.out
            go_wp2_with fail
            go_ret
            exact ⟨rfl, HE.out _ (HB11.out.alloc hB11 _)⟩
        · go_wp2_with fail
          refine (len_any w5 HA5.out).mono ?_
          rintro e w9 ⟨rfl, rfl⟩
          go_wp2_with fail
          refine (len_any w5 HB5.out).mono ?_
          rintro e w9 ⟨rfl, rfl⟩
          go_wp2_with fail
          refine (size_any w5 HA5.out).mono ?_
          rintro e w9 ⟨rfl, rfl⟩
          rw [HSZ.out]
          go_wp2_with fail
          refine (HTW5.out.step2 (N' := 2 * k) (T' := T.resize low) hB5 (by omega) (by omega) (fun F h => resize_any (N := 2 * k) low w5 h l1 (by omega))).mono ?_
          rintro e w6 ⟨rfl, htw6, hB6⟩
          have HTW6 := Lib.hid htw6
          clear htw6 y0 y1 y2
          go_wp2_with fail
          refine (HTW6.out.step1 (N' := 2 * k) (T' := T.resize low) hB6 (by omega) (by omega) (fun F h => resize_any (N := 2 * k) (T := ⟨sz, T.gone, T.rows⟩) low w6 h l1 (by omega))).mono ?_
          rintro e w7 ⟨rfl, htw7, hBX⟩
          have HTW7 := Lib.hid htw7
          obtain ⟨F7, h7⟩ := htw7.one
          obtain ⟨G7, k7⟩ := htw7.two
          have hle : sumc (T.resize low).rows ≤ low := shrunk_fits l1 _ _
          obtain ⟨y0, y1, y2⟩ := HC.out w7 htw7.bel
          obtain ⟨s7, hs7⟩ : ∃ s7, sumc (T.resize low).rows = s7 := ⟨_, rfl⟩
          rw [hs7] at hle
          have HS7 := Lib.hid hs7
          have HA7 := Lib.hid h7
          have HB7 := Lib.hid k7
          clear htw7 h7 k7 hs7
          go_wp2_with fail
          refine (len_any w7 HA7.out).mono ?_
          rintro e w9 ⟨rfl, rfl⟩
          go_wp2_with fail
          refine (len_any w7 HB7.out).mono ?_
          rintro e w9 ⟨rfl, rfl⟩
          go_wp2_with fail
          refine (size_any w7 HA7.out).mono ?_
          rintro e w9 ⟨rfl, rfl⟩
          rw [HS7.out]
          go_wp2_with fail
          refine (size_any w7 HB7.out).mono ?_
          rintro e w9 ⟨rfl, rfl⟩
          rw [HS7.out]
          go_wp2_with fail
          refine (size_any w7 HA7.out).mono ?_
          rintro e w9 ⟨rfl, rfl⟩
          rw [HS7.out]
          go_wp2_with fail
          clear y0 y1 y2
          obtain ⟨TA, hTA⟩ : ∃ TA : Tb, TA = T.resize low := ⟨_, rfl⟩
          rw [← hTA] at HTW7
          obtain ⟨W8, hW8⟩ : ∃ W8, (w7).alloc (.cells #[.string f.1, .string f.2, .bool nv] 24) = W8 := ⟨_, rfl⟩
          have ht8 := HTW7.out.below hBX (show Below (w7).heap.size w7 W8 by rw [← hW8]; exact (Below.refl _ _).alloc (Nat.le_refl _) _)
          have hB8 : B ≤ W8.heap.size := by rw [← hW8]; simp; omega
          obtain ⟨F8, h8⟩ := ht8.one
          obtain ⟨mo, hmo⟩ : ∃ mo, TA.most = mo := ⟨_, rfl⟩
          have HMO := Lib.hid hmo
          have HT8 := Lib.hid ht8
          have HA8 := Lib.hid h8
          have HW8 := Lib.hid hW8
          have HBEL := Lib.hid ht8.bel
          clear ht8 h8 hW8 hTA hmo
          refine (cost_ref f nv _ (by omega) (by omega)).mono ?_
          rintro e w8 ⟨rfl, rfl⟩
          rw [HCF.out]
          obtain ⟨y0, y1, y2⟩ := HC.out W8 HBEL.out
          go_wp2_with fail
          rw [HW8.out]
          refine (most_any W8 HA8.out).mono ?_
          rintro e w9 ⟨rfl, rfl⟩
          rw [HMO.out]
          by_cases hc : mo < (cf : Int)
          · go_wp2_with fail
            refine (HT8.out.step1 (N' := 2 * k + 1) (T' := TA.add f) hB8 (by omega) (by omega) (fun F h => add_any (N := 2 * k) f nv W8 h (by omega) (by omega) (by omega))).mono ?_
            rintro e w10 ⟨rfl, ht10, hB10⟩
            have HBIG : Hid ((TA.add f).rows = []) := Lib.hid (Tb.add_big (by rw [HMO.out, HCF.out]; exact hc))
            obtain ⟨F10, h10⟩ := ht10.one
            have HA10 := Lib.hid h10
            have HB10 := Lib.hid ht10.bel
            clear ht10 h10 y0 y1 y2
            go_wp2_with fail
            refine (len_any w10 HA10.out).mono ?_
            rintro e w9 ⟨rfl, rfl⟩
            rw [HBIG.out]
            go_wp2_with fail
            refine (size_any w10 HA10.out).mono ?_
            rintro e w9 ⟨rfl, rfl⟩
            rw [HBIG.out, show sumc ([] : List Rw) = 0 from rfl]
            go_wp2_with fail
            go_ret
            exact ⟨rfl, HE.out _ HB10.out⟩
          · go_wp2_with fail
            refine (HT8.out.step1 (N' := 2 * k + 1) (T' := TA.add f) hB8 (by omega) (by omega) (fun F h => add_any (N := 2 * k) f nv W8 h (by omega) (by omega) (by omega))).mono ?_
            rintro e w10 ⟨rfl, ht10, hB10⟩
            have HLAST : Hid (atRows (TA.add f).rows 62 = some f) := Lib.hid (Tb.add_last (by rw [HMO.out, HCF.out]; omega))
            obtain ⟨F10, h10⟩ := ht10.one
            have HA10 := Lib.hid h10
            have HB10 := Lib.hid ht10.bel
            clear ht10 h10 y0 y1 y2
            go_wp2_with fail
            refine (at_any 62 w10 HA10.out (by omega)).mono ?_
            rw [HLAST.out]
            rintro e w11 ⟨rfl, hb11⟩
            simp only [atV, fieldV]
            have HB11 := Lib.hid (HB10.out.trans (hb11.mono hB10))
            have hB11 : B ≤ w11.heap.size := Nat.le_trans hB10 hb11.size
            have hp11 : p < w11.heap.size := by omega
            clear hb11
            obtain ⟨y0, y1, y2⟩ := HC.out w11 HB11.out
            go_wp2_with fail
            go_ret
            exact ⟨rfl, HE.out _ (HB11.out.alloc hB11 _)⟩
end Go.Proofs.Ythpieiipddfpjaa
