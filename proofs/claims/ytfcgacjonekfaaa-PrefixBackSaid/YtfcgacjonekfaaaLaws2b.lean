/- The walks of drawbridgelaw02.awake and HuffSums. -/
import Derived.Test.YtfcgacjonekfaaaHuffDec
import Derived.Test.YtfcgacjonekfaaaHuffSize
namespace Go.Proofs.Ytfcgacjonekfaaa
open Go.RowKit

theorem _root_.Go.RowKit.Below.tr {w w1 w2 : World} (h : Below w.heap.size w w1) (h2 : Below w1.heap.size w1 w2) : Below w.heap.size w w2 := h.trans (h2.mono h.size)

set_option maxRecDepth 100000 in
set_option maxHeartbeats 1000000 in
theorem awake_any (w : World) : Calls Try.prog 24 #[] w (RetT w) := by
  have d1 : decV (decB [7]) = .tuple #[.string ⟨#[48]⟩, .int .i64 0] := by
    have : decB [7] = some [48] := by decide +kernel
    rw [this]; rfl
  have d2 : decV (decB [0]) = .tuple #[.string ByteArray.empty, .int .i64 10] := by
    have : decB [0] = none := by decide +kernel
    rw [this]; rfl
  have n2 : nbytes (⟨#[119, 119]⟩ : ByteArray).data.toList = 2 := by decide +kernel
  have D1 := Lib.hid d1
  have D2 := Lib.hid d2
  have N2 := Lib.hid n2
  clear d1 d2 n2
  go_enter Try.func24, Try.ntmps24
  go_wp2_with fail
  refine (dec_any (l := [7]) ((Rd.one w _ _).more (by simp)) (by omega)).mono ?_
  rintro e w1 ⟨rfl, hb1⟩
  rw [D1.out]
  go_wp2_with fail
  refine (dec_any (l := [0]) ((Rd.one w1 _ _).more (by simp)) (by omega)).mono ?_
  rintro e w2 ⟨rfl, hb2⟩
  rw [D2.out]
  go_wp2_with fail
  refine (size_any ⟨#[119, 119]⟩ w2 (by decide +kernel)).mono ?_
  rintro e w3 ⟨rfl, hb3⟩
  rw [N2.out]
  go_wp2
  go_ret
  have h1 := hb1.size
  have h2 := hb2.size
  simp at h1 h2
  exact ⟨rfl, ((((Below.refl _ _).alloc (Nat.le_refl _) _).trans (hb1.mono (by simp))).alloc (by omega) _ |>.trans (hb2.mono (by simp; omega))).trans (hb3.mono (by omega))⟩

theorem str_app (a b : ByteArray) : (a ++ b).data.toList = a.data.toList ++ b.data.toList := by
  rw [ByteArray.data_append, Array.toList_append]

set_option maxRecDepth 100000 in
set_option maxHeartbeats 1000000 in
theorem sums_any (a b : ByteArray) (w : World) : Calls Try.prog 8 #[.string a, .string b] w (RetT w) := by
  by_cases h1 : 65536 < a.size
  · go_enter Try.func8, Try.ntmps8
    go_wp2_with fail
    refine (awake_any w).mono ?_
    rintro e w1 ⟨rfl, hb1⟩
    go_wp2
    go_ret
    exact ⟨rfl, hb1⟩
  · by_cases h2 : 65536 < b.size
    · go_enter Try.func8, Try.ntmps8
      go_wp2_with fail
      refine (awake_any w).mono ?_
      rintro e w1 ⟨rfl, hb1⟩
      go_wp2
      go_ret
      exact ⟨rfl, hb1⟩
    · have hla := nbits_le a.data.toList
      have hlb := nbits_le b.data.toList
      have hab := nbits_append a.data.toList b.data.toList
      rw [str_len] at hla hlb
      have hsz : (a ++ b).size ≤ 1048576 := by rw [ByteArray.size_append]; omega
      have s1 := size_any a
      have s2 := size_any b
      have s3 := size_any (a ++ b)
      rw [str_app] at s3
      unfold nbytes at s1 s2 s3
      rw [hab] at s3
      generalize nbits a.data.toList = x at *
      generalize nbits b.data.toList = y at *
      generalize hX : (x + 7) / 8 = X at *
      generalize hY : (y + 7) / 8 = Y at *
      generalize hZ : (x + y + 7) / 8 = Z at *
      have e1 : Z ≤ X + Y := by omega
      have e2 : X + Y ≤ Z + 1 := by omega
      have e3 : 5 * a.size ≤ 8 * X := by omega
      have e4 : X ≤ 4 * a.size := by omega
      have hX17 : X ≤ 1048576 := by omega
      have hY17 : Y ≤ 1048576 := by omega
      have hZ17 : Z ≤ 1048576 := by omega
      have S1 := Lib.hid s1
      have S2 := Lib.hid s2
      have S3 := Lib.hid s3
      clear s1 s2 s3 hab hX hY hZ hla hlb
      go_enter Try.func8, Try.ntmps8
      go_wp2_with fail
      refine (awake_any w).mono ?_
      rintro e w1 ⟨rfl, hb1⟩
      go_wp2_with fail
      refine (S1.out w1 (by omega)).mono ?_
      rintro e w2 ⟨rfl, hb2⟩
      go_wp2_with fail
      refine (S2.out w2 (by omega)).mono ?_
      rintro e w3 ⟨rfl, hb3⟩
      go_wp2_with fail
      refine (S3.out w3 hsz).mono ?_
      rintro e w4 ⟨rfl, hb4⟩
      go_wp2_with fail
      refine (S1.out w4 (by omega)).mono ?_
      rintro e w5 ⟨rfl, hb5⟩
      go_wp2_with fail
      refine (S1.out w5 (by omega)).mono ?_
      rintro e w6 ⟨rfl, hb6⟩
      have e5 : decide ((X : Int) ≤ 4 * (a.size : Int)) = true := by simp; omega
      go_wp2
      go_ret
      exact ⟨rfl, ((((hb1.tr hb2).tr hb3).tr hb4).tr hb5).tr hb6⟩
end Go.Proofs.Ytfcgacjonekfaaa
