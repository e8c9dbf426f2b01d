/- The walks of drawbridgelaw03.PrefixTakes and PrefixLong. -/
import Derived.Test.YtfcgacjonekfaaaRefTake
import Derived.Test.YtfcgacjonekfaaaLaws3a
namespace Go.Proofs.Ytfcgacjonekfaaa
open Go.RowKit

/-- What TakeInt says, whatever the size of the head. -/
def takeV (bits : Int) (l : List UInt8) : Nat × Nat × Nat := if bits < 1 ∨ 8 < bits then (0, 0, 1) else takeI (2 ^ bits.toNat - 1) l
theorem takeV_in {bits F : Nat} (hF : Full bits F) (l : List UInt8) : takeV bits l = takeI F l := by
  have h1 := hF.lo
  have h8 := hF.hi
  unfold takeV
  rw [if_neg (by omega), Int.toNat_natCast, ← hF.eq, Nat.add_sub_cancel]
theorem takeV_out {bits : Int} (h : bits < 1 ∨ 8 < bits) (l : List UInt8) : takeV bits l = (0, 0, 1) := if_pos h

set_option maxHeartbeats 400000 in
theorem take_all {A : Option Addr} {B n cap : Nat} {bits : Int} {l : List UInt8} {w : World} (hr : Rd w B 1 A n (bvs l)) (hcap : n ≤ cap) (hm : cap ≤ maxLen) :
    Calls Try.prog 22 #[.slice A n cap, .int .i64 bits] w fun e w' => e = .returned (tri (takeV bits l)) ∧ w = w' := by
  by_cases h : bits < 1 ∨ 8 < bits
  · rw [takeV_out h]
    clear hr
    by_cases h1 : bits < 1
    · go_enter Try.func22, Try.ntmps22
      go_wp2
      go_ret3
      exact ⟨rfl, rfl⟩
    · have h2 : 8 < bits := by omega
      go_enter Try.func22, Try.ntmps22
      go_wp2
      go_ret3
      exact ⟨rfl, rfl⟩
  · obtain ⟨k, rfl⟩ := Int.eq_ofNat_of_zero_le (show 0 ≤ bits by omega)
    obtain ⟨F, hF⟩ := Full.mk' k (by omega) (by omega)
    rw [takeV_in hF]
    exact take_any hF hr hcap hm

set_option maxHeartbeats 400000 in
theorem rtake_all {A : Option Addr} {B n cap : Nat} {bits : Int} {l : List UInt8} {w : World} (hr : Rd w B 1 A n (bvs l)) (hcap : n ≤ cap) (hm : cap ≤ maxLen) :
    Calls Try.prog 23 #[.slice A n cap, .int .i64 bits] w fun e w' => e = .returned (tri (takeV bits l)) ∧ w = w' := by
  by_cases h : bits < 1 ∨ 8 < bits
  · rw [takeV_out h]
    clear hr
    by_cases h1 : bits < 1
    · go_enter Try.func23, Try.ntmps23
      go_wp2
      go_ret3
      exact ⟨rfl, rfl⟩
    · have h2 : 8 < bits := by omega
      go_enter Try.func23, Try.ntmps23
      go_wp2
      go_ret3
      exact ⟨rfl, rfl⟩
  · obtain ⟨k, rfl⟩ := Int.eq_ofNat_of_zero_le (show 0 ≤ bits by omega)
    obtain ⟨F, hF⟩ := Full.mk' k (by omega) (by omega)
    rw [takeV_in hF]
    rcases Nat.eq_zero_or_pos n with rfl | hn
    · have hl0 : l = [] := List.eq_nil_of_length_eq_zero hr.blen
      subst hl0
      have h1 := hF.lo
      have h8 := hF.hi
      clear hr h
      go_enter Try.func23, Try.ntmps23
      go_wp2
      go_ret3
      exact ⟨rfl, rfl⟩
    · obtain ⟨hl, b, o, rfl, -, hc⟩ := hr.bas hn
      exact rtake_some b o n cap k F l w hF hn (by omega) hl.symm hc

/-- '[]T{}': a new block without a cell. -/
theorem own_empty {base size : Nat} {e : TypeId} (w : World) (h : base ≤ w.heap.size) : (w.alloc (.cells #[] e)).ownsRow base e size (.slice (some ⟨w.heap.size, 0, none⟩) 0 0) 0 [] :=
  World.ownsRow_lit w #[] 0 h (Nat.zero_le _) (by simp)

set_option maxHeartbeats 1000000 in
theorem takes_any {A : Option Addr} {n c : Nat} {bits : Int} {l : List UInt8} (w : World) (hr : Rd w w.heap.size 1 A n (bvs l)) (hcap : n ≤ c) (hm : c ≤ maxLen) (hz : n ≤ 140737488351232) :
    Calls Try.prog 5 #[.slice A n c, .int .i64 bits] w (RetT w) := by
  have hl := hr.blen
  have HR := Lib.hid hr
  have HL := Lib.hid hl
  clear hr hl
  go_enter Try.func5, Try.ntmps5
  go_wp2_with fail
  refine (counts_any w).mono ?_
  rintro e w1 ⟨rfl, hb⟩
  have hs1 := hb.size
  go_wp2_with (at_builtin; refine wpList_app (.tmp 14) (.tmp 15) tBytes rfl rfl (own_empty (base := w.heap.size) (size := 1) w1 hs1) rfl ((HR.out.below hb (Nat.le_refl _)).alloc hs1 _) rfl (bvs_one _) (le_maxLen (by omega)) (by omega) (by simp; omega) ?_; intro v2 w2 hown2 hg2 _)
  have hb2 : Below w.heap.size w w2 := Below.app (hb.alloc hs1 _) (own_empty (base := w.heap.size) (size := 1) w1 hs1) hg2 (Nat.le_refl _) (by simp; omega)
  obtain ⟨A2, c2, rfl, hc2, hcm2, hr2, -⟩ := own_slice hown2
  simp only [List.nil_append, Nat.zero_add] at hr2 hc2 ⊢
  have HR2 := Lib.hid hr2
  clear hr2 hg2 hown2
  refine (take_all (bits := bits) (B := w2.heap.size) (l := l) HR2.out hc2 hcm2).mono ?_
  rintro e w3 ⟨rfl, rfl⟩
  have HB2 := hb2
  generalize hv : takeV bits l = r
  have HV := Lib.hid hv
  clear hv
  obtain ⟨x, y, z⟩ := r
  simp only [tri]
  go_wp2_with fail
  refine (rtake_all (bits := bits) (l := l) (HR.out.below HB2 (Nat.le_refl _)) hcap hm).mono ?_
  rintro e w4 ⟨rfl, rfl⟩
  rw [HV.out]
  simp only [tri]
  go_wp2_with fail
  refine (bytes_eq (l := l) HR2.out (HR.out.below HB2 (Nat.le_refl _))).mono ?_
  rintro e w5 ⟨rfl, rfl⟩
  go_wp2
  go_ret
  exact ⟨rfl, HB2⟩
end Go.Proofs.Ytfcgacjonekfaaa
