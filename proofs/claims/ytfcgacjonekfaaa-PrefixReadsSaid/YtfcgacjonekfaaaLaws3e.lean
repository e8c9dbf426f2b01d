/- The walk of drawbridgelaw03.PrefixReads. -/
import Derived.Test.YtfcgacjonekfaaaTakeText
namespace Go.Proofs.Ytfcgacjonekfaaa
open Go.RowKit

theorem take_one_a : triT (takeT [1, 97]) = .tuple #[.string ⟨#[97]⟩, .int .i64 2, .int .i64 0] := by
  have : takeT [1, 97] = ([97], 2, 0) := by decide +kernel
  rw [this]; rfl

set_option maxRecDepth 100000 in
set_option maxHeartbeats 2000000 in
theorem reads_any {A : Option Addr} {n c : Nat} {l : List UInt8} (w : World) (hr : Rd w w.heap.size 1 A n (bvs l)) (hcap : n ≤ c) (hm : c ≤ maxLen) :
    Calls Try.prog 13 #[.slice A n c] w (RetT w) := by
  have HR := Lib.hid hr
  clear hr
  go_enter Try.func13, Try.ntmps13
  go_wp2_with fail
  have hr1 : Rd (w.alloc (.cells #[.int .u8 1, .int .u8 97] 5)) (w.alloc (.cells #[.int .u8 1, .int .u8 97] 5)).heap.size 1 (some ⟨w.heap.size, 0, none⟩) 2 (bvs [1, 97]) := (Rd.lit w _ _ 2 rfl).more (by simp)
  refine (takeText_any hr1 (Nat.le_refl _) (le_maxLen (by omega)) (by omega)).mono ?_
  rintro e w1 ⟨rfl, hb1'⟩
  have hb1 : Below w.heap.size w w1 := ((Below.refl _ _).alloc (Nat.le_refl _) _).trans (hb1'.mono (by simp))
  rw [take_one_a]
  have hs1 := hb1.size
  have HB1 := Lib.hid hb1
  clear hr1 hb1' hb1
  by_cases h : 65536 < n
  · go_wp2
    go_ret
    exact ⟨rfl, HB1.out⟩
  · go_wp2_with (at_builtin; refine wpList_app (.tmp 29) (.tmp 30) tBytes rfl rfl (own_empty (base := w.heap.size) (size := 1) w1 hs1) rfl ((HR.out.below HB1.out (Nat.le_refl _)).alloc hs1 _) rfl (bvs_one _) (le_maxLen (by omega)) (by omega) (by simp; omega) ?_; intro v2 w2 hown2 hg2 _)
    have hb2 : Below w.heap.size w w2 := Below.app (HB1.out.alloc hs1 _) (own_empty (base := w.heap.size) (size := 1) w1 hs1) hg2 (Nat.le_refl _) (by simp; omega)
    obtain ⟨A2, c2, rfl, hc2, hcm2, hr2, -⟩ := own_slice hown2
    simp only [List.nil_append, Nat.zero_add] at hr2 hc2 ⊢
    have HR2 := Lib.hid hr2
    have hs2 := hb2.size
    have HB2 := Lib.hid hb2
    clear hr2 hg2 hown2 hb2
    refine (takeText_any HR2.out hc2 hcm2 (by omega)).mono ?_
    rintro e w3 ⟨rfl, hb3⟩
    have hs3 := hb3.size
    have HB3 := Lib.hid (HB2.out.tr2 hb3)
    have hrw := HR2.out.below hb3 (Nat.le_refl _)
    have HR3 := Lib.hid hrw
    clear hrw hb3
    generalize hv : takeT l = r
    have HV := Lib.hid hv
    clear hv
    obtain ⟨x, y, z⟩ := r
    simp only [triT]
    obtain ⟨s, hs⟩ : ∃ s : ByteArray, s = ⟨x.toArray⟩ := ⟨_, rfl⟩
    rw [← hs]
    have HS := Lib.hid hs
    clear hs
    go_wp2_with fail
    have hrr := HR.out.below HB3.out (Nat.le_refl _)
    have hss := HB3.out.size
    refine (rtakeText_any (l := l) (hrr.more hss) hcap hm (by omega)).mono ?_
    rintro e w4 ⟨rfl, hb4⟩
    rw [HV.out]
    simp only [triT]
    rw [← HS.out]
    have hb5 := HB3.out.tr2 hb4
    have HB5 := Lib.hid hb5
    have hr5 := HR.out.below hb5 (Nat.le_refl _)
    have HR5 := Lib.hid hr5
    have hr6 := (HR3.out.more hs3).below hb4 (Nat.le_refl _)
    have HR6 := Lib.hid hr6
    clear hr5 hr6 hb5 hb4 hrr
    go_wp2_with fail
    refine (bytes_eq (l := l) HR6.out HR5.out).mono ?_
    rintro e w5 ⟨rfl, rfl⟩
    go_wp2
    go_ret
    exact ⟨rfl, HB5.out⟩
end Go.Proofs.Ytfcgacjonekfaaa
