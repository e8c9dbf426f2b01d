/- The walk of drawbridgelaw02.HuffDecodes. -/
import Derived.Test.YtfcgacjonekfaaaHuffRDec
import Derived.Test.YtfcgacjonekfaaaLaws2c
namespace Go.Proofs.Ytfcgacjonekfaaa
open Go.RowKit

set_option maxRecDepth 100000 in
set_option maxHeartbeats 1000000 in
theorem decodes_long {A : Option Addr} {n c : Nat} (w : World) (h : 65536 < n) : Calls Try.prog 7 #[.slice A n c] w (RetT w) := by
  go_enter Try.func7, Try.ntmps7
  go_wp2_with fail
  refine (awake_any w).mono ?_
  rintro e w1 ⟨rfl, hb1⟩
  go_wp2
  go_ret
  exact ⟨rfl, hb1⟩

set_option maxRecDepth 100000 in
set_option maxHeartbeats 1000000 in
theorem decodes_any {A : Option Addr} {n c : Nat} {l : List UInt8} (w : World) (hr : Rd w w.heap.size 1 A n (bvs l)) : Calls Try.prog 7 #[.slice A n c] w (RetT w) := by
  by_cases h : 65536 < n
  · exact decodes_long w h
  · have hn : n ≤ 65536 := by omega
    have HR := Lib.hid hr
    obtain ⟨dv, hdv⟩ : ∃ dv, dv = decB l := ⟨_, rfl⟩
    have HDV := Lib.hid hdv
    clear hr h hdv
    go_enter Try.func7, Try.ntmps7
    go_wp2_with fail
    refine (awake_any w).mono ?_
    rintro e w1 ⟨rfl, hb1⟩
    have hs1 := hb1.size
    go_wp2_with (at_builtin; refine wpList_app (.tmp 13) (.tmp 14) tBytes rfl rfl (own_empty2 (base := w.heap.size) (size := 1) w1 hs1) rfl ((HR.out.below hb1 (Nat.le_refl _)).alloc hs1 _) rfl (bvs_one _) (le_maxLen (by omega)) (by omega) (by simp; omega) ?_; intro v2 w2 hown2 hg2 _)
    have hb2 : Below w.heap.size w w2 := Below.app (hb1.alloc hs1 _) (own_empty2 (base := w.heap.size) (size := 1) w1 hs1) hg2 (Nat.le_refl _) (by simp; omega)
    obtain ⟨A2, c2, rfl, hc2, hcm2, hr2, -⟩ := own_slice hown2
    simp only [List.nil_append, Nat.zero_add] at hr2 hc2 ⊢
    have HR2 := Lib.hid hr2
    clear hr2 hg2 hown2
    refine (dec_any HR2.out (by omega)).mono ?_
    rintro e w3 ⟨rfl, hb3⟩
    rw [← HDV.out]
    have hb23 := hb2.tr hb3
    cases dv with
    | none =>
      rw [decV_none]
      go_wp2_with fail
      refine (rdec_any ((HR.out.below hb23 (Nat.le_refl _)).more hb23.size) (by omega)).mono ?_
      rintro e w4 ⟨rfl, hb4⟩
      rw [← HDV.out, decV_none]
      go_wp2_with fail
      refine (bytes_same (l := l) (HR2.out.below (hb3.tr hb4) (Nat.le_refl _)) (HR.out.below (hb23.tr hb4) (Nat.le_refl _))).mono ?_
      rintro e w5 ⟨rfl, rfl⟩
      go_wp2
      go_ret
      exact ⟨rfl, hb23.tr hb4⟩
    | some r =>
      rw [decV_some]
      go_wp2_with fail
      refine (rdec_any ((HR.out.below hb23 (Nat.le_refl _)).more hb23.size) (by omega)).mono ?_
      rintro e w4 ⟨rfl, hb4⟩
      rw [← HDV.out, decV_some]
      go_wp2_with fail
      refine (bytes_same (l := l) (HR2.out.below (hb3.tr hb4) (Nat.le_refl _)) (HR.out.below (hb23.tr hb4) (Nat.le_refl _))).mono ?_
      rintro e w5 ⟨rfl, rfl⟩
      go_wp2
      go_ret
      exact ⟨rfl, hb23.tr hb4⟩
end Go.Proofs.Ytfcgacjonekfaaa
