/- The walk of drawbridgelaw02.HuffJoins. Printed by wip/gen_joins.py. -/
import Derived.Test.YtfcgacjonekfaaaLaws2d
namespace Go.Proofs.Ytfcgacjonekfaaa
open Go.RowKit

def ModRel (l : List UInt8) (v i : Value) : Prop := ∃ k t : Nat, i = .int .i64 k ∧ v = .int .i64 t ∧ k ≤ l.length ∧ t = nbits (l.take k) % 8 ∧ t < 8

set_option maxRecDepth 100000 in
set_option maxHeartbeats 4000000 in
theorem joins_non (a b : ByteArray) (w : World) (ha : a.size ≤ 32768) (hb : b.size ≤ 32768) (hmod : nbits a.data.toList % 8 ≠ 0) : Calls Try.prog 11 #[.string a, .string b] w (RetT w) := by
  have hget := get_ba a
  have HL := Lib.hid (str_len a)
  have hna := (nbits_le a.data.toList).2
  have hnbb := (nbits_le b.data.toList).2
  rw [str_len] at hna hnbb
  obtain ⟨X, hX⟩ : ∃ X, X = nbytes a.data.toList := ⟨_, rfl⟩
  obtain ⟨Y, hY⟩ : ∃ Y, Y = nbytes b.data.toList := ⟨_, rfl⟩
  have hX17 : X ≤ 200000 := by rw [hX]; unfold nbytes; omega
  have hY17 : Y ≤ 200000 := by rw [hY]; unfold nbytes; omega
  have hdm : decV (decB (encB a.data.toList ++ [255])) = .tuple #[.string ⟨#[]⟩, .int .i64 10] := by rw [dec_more, decV_none]
  have HXE := Lib.hid hX
  have HYE := Lib.hid hY
  have DM := Lib.hid hdm
  have HM := Lib.hid hmod
  clear hX hY hdm hmod hna hnbb
  go_enter Try.func11, Try.ntmps11
  go_wp2_with fail
  refine (awake_any w).mono ?_
  rintro e w1 ⟨rfl, hb1⟩
  go_wp2_with fail
  refine (rlengths_any w1).mono ?_
  rintro e w2 ⟨gl, rfl, hownl, hb2⟩
  have hlc : LC w2 gl := fun i hi => by rw [World.ownsRow.cellAt hownl i (by omega), i64s_get (by rw [tab_lengths.1]; exact hi)]
  have HLC := Lib.hid hlc
  have hb12 := hb1.tr hb2
  clear hownl hlc
  go_wp2
  go_loop [6, 7] (ModRel a.data.toList) (fun _ i => a.size - (intOf i).toNat)
  case atStart => exact ⟨0, 0, rfl, rfl, by omega, rfl, by omega⟩
  case round =>
    obtain ⟨k, t, rfl, rfl, hk, ht, ht8⟩ := hrel
    rw [HL.out] at hk
    have HT := Lib.hid ht
    clear ht
    by_cases hlt : k < a.size
    · have hbb := ba_lt a.data.toList k
      have hb257 : (ba a.data.toList k : Int) < 257 := by omega
      have hcl := HLC.out (ba a.data.toList k) (by omega)
      have hn30 := lens_le (ba a.data.toList k)
      have hnn := nbits_take (l := a.data.toList) (k := k) (by rw [HL.out]; exact hlt)
      generalize lensN.getD (ba a.data.toList k) 0 = n at *
      have HN := Lib.hid hnn
      clear hnn
      go_wp2
      go_round
      case rel => exact ⟨k + 1, (t + n) % 8, by go_num, by go_num, by rw [HL.out]; omega, by rw [HN.out, HT.out]; omega, by omega⟩
      case measure => simp [intOf]; omega
    · obtain rfl : k = a.size := by omega
      have ht2 : t = nbits a.data.toList % 8 := by rw [HT.out, List.take_of_length_le (by rw [HL.out]; exact Nat.le_refl _)]
      have e1 : ((t : Int) == 0) = false := by rw [ht2, beq_eq_false_iff_ne]; have := HM.out; omega
      clear HT ht2 hget
      go_wp2_with fail
      refine (enc_any a w2 (by omega)).mono ?_
      rintro e w3 ⟨v3, rfl, hown3, hb3⟩
      have hbw := hb12.tr hb3
      obtain ⟨A1, c1, rfl, -, -, hrd3, -⟩ := own_slice hown3
      rw [encB_length, ← HXE.out] at hrd3 ⊢
      have HX := Lib.hid hrd3
      have hsx := hbw.size
      clear hown3 hrd3
      by_cases hX0 : 0 < X
      · go_wp2_with (first | (at_builtin; refine wpList_app (.tmp 44) (.tmp 45) tBytes rfl rfl (own_empty2 (base := w.heap.size) (size := 1) w3 hsx) rfl (HX.out.alloc (Nat.le_refl _) _) rfl (bvs_one _) (le_maxLen (by omega)) (by omega) (by simp; omega) ?_; intro v3 w3x hown3 hg3 _) | fail)
        have hbx : Below w.heap.size w w3x := Below.app (hbw.alloc hsx _) (own_empty2 (base := w.heap.size) (size := 1) w3 hsx) hg3 (Nat.le_refl _) (by simp; omega)
        simp only [List.nil_append, Nat.zero_add] at hown3
        clear HX hbw hsx
        obtain ⟨A1, c1, rfl, -, -, hrd1, -⟩ := own_slice hown3
        have HX := Lib.hid hrd1
        have hbw := hbx
        clear hown3 hg3 hrd1 hX0 hbx hb3
        revert HX hbw
        generalize w3x = w3
        intro HX hbw
        go_wp2_with fail
        refine (enc_any b w3 (by omega)).mono ?_
        rintro e w4 ⟨v4, rfl, hown4, hb4⟩
        obtain ⟨A4, c4, rfl, -, -, hrd4, -⟩ := own_slice hown4
        rw [encB_length, ← HYE.out] at hrd4 ⊢
        have HY := Lib.hid hrd4
        have hw4 := hbw.tr hb4
        have hs4 := hw4.size
        have HX4 := Lib.hid (HX.out.below hb4 (Nat.le_refl _))
        have hs34 := hb4.size
        clear hown4 hrd4
        go_wp2_with (first
          | (at_builtin
             refine wpList_app (.tmp 49) (.tmp 50) tBytes rfl rfl (own_empty2 (base := w.heap.size) (size := 1) w4 hs4) rfl ((HX4.out.more hs34).alloc (Nat.le_refl _) _) rfl (bvs_one _) (le_maxLen (by omega)) (by omega) (by simp; omega) ?_
             intro v5 w5 hown5 hg5 hat5)
          | (at_builtin
             refine wpList_app (.tmp 51) (.tmp 52) tBytes rfl rfl hown5 rfl (Rd.grown (HY.out.alloc (Nat.le_refl _) _) hg5 (by simp) (fun g hg => by simp [Value.ownBlock] at hg; omega)) rfl (bvs_one _) (le_maxLen (by omega)) (by omega) (by have := hg5.size; simp at this; omega) ?_
             intro v6 w6 hown6 hg6 _
             have hs5 : w4.heap.size < w5.heap.size := by have := hg5.size; simp at this; omega
             have hw5 : Below w.heap.size w w5 := Below.app (hw4.alloc hs4 _) (own_empty2 (base := w.heap.size) (size := 1) w4 hs4) hg5 (Nat.le_refl _) (by simp; omega)
             have hw6 : Below w.heap.size w w6 := Below.app hw5 hown5 hg6 (Nat.le_refl _) (by omega)
             have hs6 : w5.heap.size ≤ w6.heap.size := hg6.size
             have hx5 : Rd w5 w4.heap.size 1 A1 X (bvs (encB a.data.toList)) := Rd.grown ((HX4.out.more hs34).alloc (Nat.le_refl _) _) hg5 (by simp) (fun g hg => by simp [Value.ownBlock] at hg; omega)
             have hown5g : ∀ g, v5.ownBlock = some g → w4.heap.size ≤ g := fun g hg => by
               rcases hat5 with h | h
               · rw [hg] at h; simp [Value.ownBlock] at h; omega
               · rw [hg] at h; simp at h; omega
             have HX6 := Lib.hid (Rd.grown hx5 hg6 (by omega) hown5g)
             have hs46 : w4.heap.size ≤ w6.heap.size := by omega
             have hs6w := hw6.size
             simp only [List.nil_append, Nat.zero_add] at hown6
             rw [← bvs_append] at hown6
             obtain ⟨A6, c6, rfl, -, -, hrd6, -⟩ := own_slice hown6
             have HB := Lib.hid hrd6
             clear hown6 hg6 hrd6 hown5 hg5 hx5 hat5 hown5g)
          | (at_builtin
             refine wpList_app (.tmp 66) (.tmp 67) tBytes rfl rfl (own_empty2 (base := w.heap.size) (size := 1) w6 hs6w) rfl (HX6.out.alloc hs46 _) rfl (bvs_one _) (le_maxLen (by omega)) (by omega) (by simp; omega) ?_
             intro v9 w9 hown9 hg9 _)
          | (at_builtin
             refine wpList_app (.tmp 68) (.tmp 69) tBytes rfl rfl (World.ownsRow.alloc hown9 _) rfl (Rd.one _ _ _) rfl (oneInt _ _) (le_maxLen (by omega)) (by omega) (by have := hg9.size; simp at this ⊢; omega) ?_
             intro v10 w10 hown10 hg10 _))
        have hs9 : w6.heap.size < w9.heap.size := by have := hg9.size; simp at this; omega
        have hw9 : Below w.heap.size w w9 := Below.app (hw6.alloc hs6w _) (own_empty2 (base := w.heap.size) (size := 1) w6 hs6w) hg9 (Nat.le_refl _) (by simp; omega)
        have hw10 : Below w.heap.size w w10 := Below.app (hw9.alloc (by omega) _) (World.ownsRow.alloc hown9 _) hg10 (Nat.le_refl _) (by simp; omega)
        simp only [List.nil_append, Nat.zero_add] at hown10
        rw [show (Value.int .u8 255) = bv 255 from rfl, show [bv 255] = bvs [255] from rfl, ← bvs_append] at hown10
        obtain ⟨A10, c10, rfl, -, -, hrd10, -⟩ := own_slice hown10
        have HR10 := Lib.hid hrd10
        clear hown10 hrd10 hown9 hg9 hg10
        refine (dec_any HR10.out (by omega)).mono ?_
        rintro e w11 ⟨rfl, hb11⟩
        rw [DM.out]
        go_wp2
        go_ret
        exact ⟨rfl, hw10.tr hb11⟩
      · obtain rfl : X = 0 := by omega
        go_wp2_with fail
        refine (enc_any b w3 (by omega)).mono ?_
        rintro e w4 ⟨v4, rfl, hown4, hb4⟩
        obtain ⟨A4, c4, rfl, -, -, hrd4, -⟩ := own_slice hown4
        rw [encB_length, ← HYE.out] at hrd4 ⊢
        have HY := Lib.hid hrd4
        have hw4 := hbw.tr hb4
        have hs4 := hw4.size
        have HX4 := Lib.hid (HX.out.below hb4 (Nat.le_refl _))
        have hs34 := hb4.size
        clear hown4 hrd4
        go_wp2_with (first
          | (at_builtin
             refine wpList_app (.tmp 49) (.tmp 50) tBytes rfl rfl (own_empty2 (base := w.heap.size) (size := 1) w4 hs4) rfl ((HX4.out.more hs34).alloc (Nat.le_refl _) _) rfl (bvs_one _) (le_maxLen (by omega)) (by omega) (by simp; omega) ?_
             intro v5 w5 hown5 hg5 hat5)
          | (at_builtin
             refine wpList_app (.tmp 51) (.tmp 52) tBytes rfl rfl hown5 rfl (Rd.grown (HY.out.alloc (Nat.le_refl _) _) hg5 (by simp) (fun g hg => by simp [Value.ownBlock] at hg; omega)) rfl (bvs_one _) (le_maxLen (by omega)) (by omega) (by have := hg5.size; simp at this; omega) ?_
             intro v6 w6 hown6 hg6 _
             have hs5 : w4.heap.size < w5.heap.size := by have := hg5.size; simp at this; omega
             have hw5 : Below w.heap.size w w5 := Below.app (hw4.alloc hs4 _) (own_empty2 (base := w.heap.size) (size := 1) w4 hs4) hg5 (Nat.le_refl _) (by simp; omega)
             have hw6 : Below w.heap.size w w6 := Below.app hw5 hown5 hg6 (Nat.le_refl _) (by omega)
             have hs6 : w5.heap.size ≤ w6.heap.size := hg6.size
             have hx5 : Rd w5 w4.heap.size 1 A1 0 (bvs (encB a.data.toList)) := Rd.grown ((HX4.out.more hs34).alloc (Nat.le_refl _) _) hg5 (by simp) (fun g hg => by simp [Value.ownBlock] at hg; omega)
             have hown5g : ∀ g, v5.ownBlock = some g → w4.heap.size ≤ g := fun g hg => by
               rcases hat5 with h | h
               · rw [hg] at h; simp [Value.ownBlock] at h; omega
               · rw [hg] at h; simp at h; omega
             have HX6 := Lib.hid (Rd.grown hx5 hg6 (by omega) hown5g)
             have hs46 : w4.heap.size ≤ w6.heap.size := by omega
             have hs6w := hw6.size
             simp only [List.nil_append, Nat.zero_add] at hown6
             rw [← bvs_append] at hown6
             obtain ⟨A6, c6, rfl, -, -, hrd6, -⟩ := own_slice hown6
             have HB := Lib.hid hrd6
             clear hown6 hg6 hrd6 hown5 hg5 hx5 hat5 hown5g)
          | (at_builtin
             refine wpList_app (.tmp 66) (.tmp 67) tBytes rfl rfl (own_empty2 (base := w.heap.size) (size := 1) w6 hs6w) rfl (HX6.out.alloc hs46 _) rfl (bvs_one _) (le_maxLen (by omega)) (by omega) (by simp; omega) ?_
             intro v9 w9 hown9 hg9 _)
          | (at_builtin
             refine wpList_app (.tmp 68) (.tmp 69) tBytes rfl rfl (World.ownsRow.alloc hown9 _) rfl (Rd.one _ _ _) rfl (oneInt _ _) (le_maxLen (by omega)) (by omega) (by have := hg9.size; simp at this ⊢; omega) ?_
             intro v10 w10 hown10 hg10 _))
        have hs9 : w6.heap.size < w9.heap.size := by have := hg9.size; simp at this; omega
        have hw9 : Below w.heap.size w w9 := Below.app (hw6.alloc hs6w _) (own_empty2 (base := w.heap.size) (size := 1) w6 hs6w) hg9 (Nat.le_refl _) (by simp; omega)
        have hw10 : Below w.heap.size w w10 := Below.app (hw9.alloc (by omega) _) (World.ownsRow.alloc hown9 _) hg10 (Nat.le_refl _) (by simp; omega)
        simp only [List.nil_append, Nat.zero_add] at hown10
        rw [show (Value.int .u8 255) = bv 255 from rfl, show [bv 255] = bvs [255] from rfl, ← bvs_append] at hown10
        obtain ⟨A10, c10, rfl, -, -, hrd10, -⟩ := own_slice hown10
        have HR10 := Lib.hid hrd10
        clear hown10 hrd10 hown9 hg9 hg10
        refine (dec_any HR10.out (by omega)).mono ?_
        rintro e w11 ⟨rfl, hb11⟩
        rw [DM.out]
        go_wp2
        go_ret
        exact ⟨rfl, hw10.tr hb11⟩

set_option maxRecDepth 100000 in
set_option maxHeartbeats 4000000 in
theorem joins_zero (a b : ByteArray) (w : World) (ha : a.size ≤ 32768) (hb : b.size ≤ 32768) (hmod : nbits a.data.toList % 8 = 0) : Calls Try.prog 11 #[.string a, .string b] w (RetT w) := by
  have hget := get_ba a
  have HL := Lib.hid (str_len a)
  have hna := (nbits_le a.data.toList).2
  have hnbb := (nbits_le b.data.toList).2
  rw [str_len] at hna hnbb
  obtain ⟨X, hX⟩ : ∃ X, X = nbytes a.data.toList := ⟨_, rfl⟩
  obtain ⟨Y, hY⟩ : ∃ Y, Y = nbytes b.data.toList := ⟨_, rfl⟩
  have hX17 : X ≤ 200000 := by rw [hX]; unfold nbytes; omega
  have hY17 : Y ≤ 200000 := by rw [hY]; unfold nbytes; omega
  have hdm : decV (decB (encB a.data.toList ++ [255])) = .tuple #[.string ⟨#[]⟩, .int .i64 10] := by rw [dec_more, decV_none]
  have HXE := Lib.hid hX
  have HYE := Lib.hid hY
  have DM := Lib.hid hdm
  have HM := Lib.hid hmod
  clear hX hY hdm hmod hna hnbb
  go_enter Try.func11, Try.ntmps11
  go_wp2_with fail
  refine (awake_any w).mono ?_
  rintro e w1 ⟨rfl, hb1⟩
  go_wp2_with fail
  refine (rlengths_any w1).mono ?_
  rintro e w2 ⟨gl, rfl, hownl, hb2⟩
  have hlc : LC w2 gl := fun i hi => by rw [World.ownsRow.cellAt hownl i (by omega), i64s_get (by rw [tab_lengths.1]; exact hi)]
  have HLC := Lib.hid hlc
  have hb12 := hb1.tr hb2
  clear hownl hlc
  go_wp2
  go_loop [6, 7] (ModRel a.data.toList) (fun _ i => a.size - (intOf i).toNat)
  case atStart => exact ⟨0, 0, rfl, rfl, by omega, rfl, by omega⟩
  case round =>
    obtain ⟨k, t, rfl, rfl, hk, ht, ht8⟩ := hrel
    rw [HL.out] at hk
    have HT := Lib.hid ht
    clear ht
    by_cases hlt : k < a.size
    · have hbb := ba_lt a.data.toList k
      have hb257 : (ba a.data.toList k : Int) < 257 := by omega
      have hcl := HLC.out (ba a.data.toList k) (by omega)
      have hn30 := lens_le (ba a.data.toList k)
      have hnn := nbits_take (l := a.data.toList) (k := k) (by rw [HL.out]; exact hlt)
      generalize lensN.getD (ba a.data.toList k) 0 = n at *
      have HN := Lib.hid hnn
      clear hnn
      go_wp2
      go_round
      case rel => exact ⟨k + 1, (t + n) % 8, by go_num, by go_num, by rw [HL.out]; omega, by rw [HN.out, HT.out]; omega, by omega⟩
      case measure => simp [intOf]; omega
    · obtain rfl : k = a.size := by omega
      have ht2 : t = nbits a.data.toList % 8 := by rw [HT.out, List.take_of_length_le (by rw [HL.out]; exact Nat.le_refl _)]
      have e1 : ((t : Int) == 0) = true := by rw [ht2, beq_iff_eq]; have := HM.out; omega
      clear HT ht2 hget
      go_wp2_with fail
      refine (enc_any a w2 (by omega)).mono ?_
      rintro e w3 ⟨v3, rfl, hown3, hb3⟩
      have hbw := hb12.tr hb3
      obtain ⟨A1, c1, rfl, -, -, hrd3, -⟩ := own_slice hown3
      rw [encB_length, ← HXE.out] at hrd3 ⊢
      have HX := Lib.hid hrd3
      have hsx := hbw.size
      clear hown3 hrd3
      by_cases hX0 : 0 < X
      · go_wp2_with (first | (at_builtin; refine wpList_app (.tmp 44) (.tmp 45) tBytes rfl rfl (own_empty2 (base := w.heap.size) (size := 1) w3 hsx) rfl (HX.out.alloc (Nat.le_refl _) _) rfl (bvs_one _) (le_maxLen (by omega)) (by omega) (by simp; omega) ?_; intro v3 w3x hown3 hg3 _) | fail)
        have hbx : Below w.heap.size w w3x := Below.app (hbw.alloc hsx _) (own_empty2 (base := w.heap.size) (size := 1) w3 hsx) hg3 (Nat.le_refl _) (by simp; omega)
        simp only [List.nil_append, Nat.zero_add] at hown3
        clear HX hbw hsx
        obtain ⟨A1, c1, rfl, -, -, hrd1, -⟩ := own_slice hown3
        have HX := Lib.hid hrd1
        have hbw := hbx
        clear hown3 hg3 hrd1 hX0 hbx hb3
        revert HX hbw
        generalize w3x = w3
        intro HX hbw
        go_wp2_with fail
        refine (enc_any b w3 (by omega)).mono ?_
        rintro e w4 ⟨v4, rfl, hown4, hb4⟩
        obtain ⟨A4, c4, rfl, -, -, hrd4, -⟩ := own_slice hown4
        rw [encB_length, ← HYE.out] at hrd4 ⊢
        have HY := Lib.hid hrd4
        have hw4 := hbw.tr hb4
        have hs4 := hw4.size
        have HX4 := Lib.hid (HX.out.below hb4 (Nat.le_refl _))
        have hs34 := hb4.size
        clear hown4 hrd4
        go_wp2_with (first
          | (at_builtin
             refine wpList_app (.tmp 49) (.tmp 50) tBytes rfl rfl (own_empty2 (base := w.heap.size) (size := 1) w4 hs4) rfl ((HX4.out.more hs34).alloc (Nat.le_refl _) _) rfl (bvs_one _) (le_maxLen (by omega)) (by omega) (by simp; omega) ?_
             intro v5 w5 hown5 hg5 hat5)
          | (at_builtin
             refine wpList_app (.tmp 51) (.tmp 52) tBytes rfl rfl hown5 rfl (Rd.grown (HY.out.alloc (Nat.le_refl _) _) hg5 (by simp) (fun g hg => by simp [Value.ownBlock] at hg; omega)) rfl (bvs_one _) (le_maxLen (by omega)) (by omega) (by have := hg5.size; simp at this; omega) ?_
             intro v6 w6 hown6 hg6 _
             have hs5 : w4.heap.size < w5.heap.size := by have := hg5.size; simp at this; omega
             have hw5 : Below w.heap.size w w5 := Below.app (hw4.alloc hs4 _) (own_empty2 (base := w.heap.size) (size := 1) w4 hs4) hg5 (Nat.le_refl _) (by simp; omega)
             have hw6 : Below w.heap.size w w6 := Below.app hw5 hown5 hg6 (Nat.le_refl _) (by omega)
             have hs6 : w5.heap.size ≤ w6.heap.size := hg6.size
             have hx5 : Rd w5 w4.heap.size 1 A1 X (bvs (encB a.data.toList)) := Rd.grown ((HX4.out.more hs34).alloc (Nat.le_refl _) _) hg5 (by simp) (fun g hg => by simp [Value.ownBlock] at hg; omega)
             have hown5g : ∀ g, v5.ownBlock = some g → w4.heap.size ≤ g := fun g hg => by
               rcases hat5 with h | h
               · rw [hg] at h; simp [Value.ownBlock] at h; omega
               · rw [hg] at h; simp at h; omega
             have HX6 := Lib.hid (Rd.grown hx5 hg6 (by omega) hown5g)
             have hs46 : w4.heap.size ≤ w6.heap.size := by omega
             have hs6w := hw6.size
             simp only [List.nil_append, Nat.zero_add] at hown6
             rw [← bvs_append] at hown6
             obtain ⟨A6, c6, rfl, -, -, hrd6, -⟩ := own_slice hown6
             have HB := Lib.hid hrd6
             clear hown6 hg6 hrd6 hown5 hg5 hx5 hat5 hown5g))
        have hj := enc_any (a ++ b) w6 (by rw [ByteArray.size_append]; omega)
        rw [str_app, enc_join HM.out] at hj
        have HJ := Lib.hid hj
        clear hj
        go_wp2_with fail
        refine HJ.out.mono ?_
        rintro e w7 ⟨v7, rfl, hown7, hb7⟩
        obtain ⟨A7, c7, rfl, -, -, hrd7, -⟩ := own_slice hown7
        have hl7 : (encB a.data.toList ++ encB b.data.toList).length = X + Y := by rw [List.length_append, encB_length, encB_length, ← HXE.out, ← HYE.out]
        rw [hl7] at hrd7 ⊢
        have HR7 := Lib.hid hrd7
        clear hown7 hrd7 hl7
        go_wp2_with fail
        refine (bytes_same (HB.out.below hb7 (Nat.le_refl _)) HR7.out).mono ?_
        rintro e w8 ⟨rfl, rfl⟩
        have hw7 := hw6.tr hb7
        have hs7 := hw7.size
        have HX7 := Lib.hid ((HX6.out.more hs46).below hb7 (Nat.le_refl _))
        have hs67 := hb7.size
        go_wp2_with (first
          | (at_builtin
             refine wpList_app (.tmp 66) (.tmp 67) tBytes rfl rfl (own_empty2 (base := w.heap.size) (size := 1) w7 hs7) rfl (HX7.out.alloc hs67 _) rfl (bvs_one _) (le_maxLen (by omega)) (by omega) (by simp; omega) ?_
             intro v9 w9 hown9 hg9 _)
          | (at_builtin
             refine wpList_app (.tmp 68) (.tmp 69) tBytes rfl rfl (World.ownsRow.alloc hown9 _) rfl (Rd.one _ _ _) rfl (oneInt _ _) (le_maxLen (by omega)) (by omega) (by have := hg9.size; simp at this ⊢; omega) ?_
             intro v10 w10 hown10 hg10 _))
        have hs9 : w7.heap.size < w9.heap.size := by have := hg9.size; simp at this; omega
        have hw9 : Below w.heap.size w w9 := Below.app (hw7.alloc hs7 _) (own_empty2 (base := w.heap.size) (size := 1) w7 hs7) hg9 (Nat.le_refl _) (by simp; omega)
        have hw10 : Below w.heap.size w w10 := Below.app (hw9.alloc (by omega) _) (World.ownsRow.alloc hown9 _) hg10 (Nat.le_refl _) (by simp; omega)
        simp only [List.nil_append, Nat.zero_add] at hown10
        rw [show (Value.int .u8 255) = bv 255 from rfl, show [bv 255] = bvs [255] from rfl, ← bvs_append] at hown10
        obtain ⟨A10, c10, rfl, -, -, hrd10, -⟩ := own_slice hown10
        have HR10 := Lib.hid hrd10
        clear hown10 hrd10 hown9 hg9 hg10
        refine (dec_any HR10.out (by omega)).mono ?_
        rintro e w11 ⟨rfl, hb11⟩
        rw [DM.out]
        go_wp2
        go_ret
        exact ⟨rfl, hw10.tr hb11⟩
      · obtain rfl : X = 0 := by omega
        go_wp2_with fail
        refine (enc_any b w3 (by omega)).mono ?_
        rintro e w4 ⟨v4, rfl, hown4, hb4⟩
        obtain ⟨A4, c4, rfl, -, -, hrd4, -⟩ := own_slice hown4
        rw [encB_length, ← HYE.out] at hrd4 ⊢
        have HY := Lib.hid hrd4
        have hw4 := hbw.tr hb4
        have hs4 := hw4.size
        have HX4 := Lib.hid (HX.out.below hb4 (Nat.le_refl _))
        have hs34 := hb4.size
        clear hown4 hrd4
        go_wp2_with (first
          | (at_builtin
             refine wpList_app (.tmp 49) (.tmp 50) tBytes rfl rfl (own_empty2 (base := w.heap.size) (size := 1) w4 hs4) rfl ((HX4.out.more hs34).alloc (Nat.le_refl _) _) rfl (bvs_one _) (le_maxLen (by omega)) (by omega) (by simp; omega) ?_
             intro v5 w5 hown5 hg5 hat5)
          | (at_builtin
             refine wpList_app (.tmp 51) (.tmp 52) tBytes rfl rfl hown5 rfl (Rd.grown (HY.out.alloc (Nat.le_refl _) _) hg5 (by simp) (fun g hg => by simp [Value.ownBlock] at hg; omega)) rfl (bvs_one _) (le_maxLen (by omega)) (by omega) (by have := hg5.size; simp at this; omega) ?_
             intro v6 w6 hown6 hg6 _
             have hs5 : w4.heap.size < w5.heap.size := by have := hg5.size; simp at this; omega
             have hw5 : Below w.heap.size w w5 := Below.app (hw4.alloc hs4 _) (own_empty2 (base := w.heap.size) (size := 1) w4 hs4) hg5 (Nat.le_refl _) (by simp; omega)
             have hw6 : Below w.heap.size w w6 := Below.app hw5 hown5 hg6 (Nat.le_refl _) (by omega)
             have hs6 : w5.heap.size ≤ w6.heap.size := hg6.size
             have hx5 : Rd w5 w4.heap.size 1 A1 0 (bvs (encB a.data.toList)) := Rd.grown ((HX4.out.more hs34).alloc (Nat.le_refl _) _) hg5 (by simp) (fun g hg => by simp [Value.ownBlock] at hg; omega)
             have hown5g : ∀ g, v5.ownBlock = some g → w4.heap.size ≤ g := fun g hg => by
               rcases hat5 with h | h
               · rw [hg] at h; simp [Value.ownBlock] at h; omega
               · rw [hg] at h; simp at h; omega
             have HX6 := Lib.hid (Rd.grown hx5 hg6 (by omega) hown5g)
             have hs46 : w4.heap.size ≤ w6.heap.size := by omega
             have hs6w := hw6.size
             simp only [List.nil_append, Nat.zero_add] at hown6
             rw [← bvs_append] at hown6
             obtain ⟨A6, c6, rfl, -, -, hrd6, -⟩ := own_slice hown6
             have HB := Lib.hid hrd6
             clear hown6 hg6 hrd6 hown5 hg5 hx5 hat5 hown5g))
        have hj := enc_any (a ++ b) w6 (by rw [ByteArray.size_append]; omega)
        rw [str_app, enc_join HM.out] at hj
        have HJ := Lib.hid hj
        clear hj
        go_wp2_with fail
        refine HJ.out.mono ?_
        rintro e w7 ⟨v7, rfl, hown7, hb7⟩
        obtain ⟨A7, c7, rfl, -, -, hrd7, -⟩ := own_slice hown7
        have hl7 : (encB a.data.toList ++ encB b.data.toList).length = Y := by rw [← Nat.zero_add Y, List.length_append, encB_length, encB_length, ← HXE.out, ← HYE.out]
        rw [hl7] at hrd7 ⊢
        have HR7 := Lib.hid hrd7
        clear hown7 hrd7 hl7
        go_wp2_with fail
        refine (bytes_same (HB.out.below hb7 (Nat.le_refl _)) HR7.out).mono ?_
        rintro e w8 ⟨rfl, rfl⟩
        have hw7 := hw6.tr hb7
        have hs7 := hw7.size
        have HX7 := Lib.hid ((HX6.out.more hs46).below hb7 (Nat.le_refl _))
        have hs67 := hb7.size
        go_wp2_with (first
          | (at_builtin
             refine wpList_app (.tmp 66) (.tmp 67) tBytes rfl rfl (own_empty2 (base := w.heap.size) (size := 1) w7 hs7) rfl (HX7.out.alloc hs67 _) rfl (bvs_one _) (le_maxLen (by omega)) (by omega) (by simp; omega) ?_
             intro v9 w9 hown9 hg9 _)
          | (at_builtin
             refine wpList_app (.tmp 68) (.tmp 69) tBytes rfl rfl (World.ownsRow.alloc hown9 _) rfl (Rd.one _ _ _) rfl (oneInt _ _) (le_maxLen (by omega)) (by omega) (by have := hg9.size; simp at this ⊢; omega) ?_
             intro v10 w10 hown10 hg10 _))
        have hs9 : w7.heap.size < w9.heap.size := by have := hg9.size; simp at this; omega
        have hw9 : Below w.heap.size w w9 := Below.app (hw7.alloc hs7 _) (own_empty2 (base := w.heap.size) (size := 1) w7 hs7) hg9 (Nat.le_refl _) (by simp; omega)
        have hw10 : Below w.heap.size w w10 := Below.app (hw9.alloc (by omega) _) (World.ownsRow.alloc hown9 _) hg10 (Nat.le_refl _) (by simp; omega)
        simp only [List.nil_append, Nat.zero_add] at hown10
        rw [show (Value.int .u8 255) = bv 255 from rfl, show [bv 255] = bvs [255] from rfl, ← bvs_append] at hown10
        obtain ⟨A10, c10, rfl, -, -, hrd10, -⟩ := own_slice hown10
        have HR10 := Lib.hid hrd10
        clear hown10 hrd10 hown9 hg9 hg10
        refine (dec_any HR10.out (by omega)).mono ?_
        rintro e w11 ⟨rfl, hb11⟩
        rw [DM.out]
        go_wp2
        go_ret
        exact ⟨rfl, hw10.tr hb11⟩

set_option maxRecDepth 100000 in
set_option maxHeartbeats 1000000 in
theorem joins_long (a b : ByteArray) (w : World) (h : 32768 < a.size ∨ 32768 < b.size) : Calls Try.prog 11 #[.string a, .string b] w (RetT w) := by
  by_cases h1 : 32768 < a.size
  · go_enter Try.func11, Try.ntmps11
    go_wp2_with fail
    refine (awake_any w).mono ?_
    rintro e w1 ⟨rfl, hb1⟩
    go_wp2
    go_ret
    exact ⟨rfl, hb1⟩
  · have h2 : 32768 < b.size := by omega
    go_enter Try.func11, Try.ntmps11
    go_wp2_with fail
    refine (awake_any w).mono ?_
    rintro e w1 ⟨rfl, hb1⟩
    go_wp2
    go_ret
    exact ⟨rfl, hb1⟩
theorem joins_any (a b : ByteArray) (w : World) : Calls Try.prog 11 #[.string a, .string b] w (RetT w) := by
  by_cases h : 32768 < a.size ∨ 32768 < b.size
  · exact joins_long a b w h
  · by_cases hm : nbits a.data.toList % 8 = 0
    · exact joins_zero a b w (by omega) (by omega) hm
    · exact joins_non a b w (by omega) (by omega) hm
end Go.Proofs.Ytfcgacjonekfaaa
