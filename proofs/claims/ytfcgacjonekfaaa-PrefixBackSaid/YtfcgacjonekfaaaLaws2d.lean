/- The walk of drawbridgelaw02.HuffBack. -/
import Derived.Test.YtfcgacjonekfaaaLaws2c
import Derived.Test.YtfcgacjonekfaaaHuffBackPlain
namespace Go.Proofs.Ytfcgacjonekfaaa
open Go.RowKit

theorem own_empty2 {base size : Nat} {e : TypeId} (w : World) (h : base ≤ w.heap.size) : (w.alloc (.cells #[] e)).ownsRow base e size (.slice (some ⟨w.heap.size, 0, none⟩) 0 0) 0 [] :=
  World.ownsRow_lit w #[] 0 h (Nat.zero_le _) (by simp)
theorem decV_some (l : List UInt8) : decV (some l) = .tuple #[.string ⟨l.toArray⟩, .int .i64 0] := rfl
theorem decV_none : decV none = .tuple #[.string ⟨#[]⟩, .int .i64 10] := rfl
theorem str_back (s : ByteArray) : (⟨s.data.toList.toArray⟩ : ByteArray) = s := by rw [Array.toArray_toList]

set_option maxRecDepth 100000 in
set_option maxHeartbeats 1000000 in
theorem back_long {A : Option Addr} {n c : Nat} (s : ByteArray) (w : World) (h : 65536 < s.size ∨ 65536 < n) : Calls Try.prog 10 #[.string s, .slice A n c] w (RetT w) := by
  by_cases h1 : 65536 < s.size
  · go_enter Try.func10, Try.ntmps10
    go_wp2_with fail
    refine (awake_any w).mono ?_
    rintro e w1 ⟨rfl, hb1⟩
    go_wp2
    go_ret
    exact ⟨rfl, hb1⟩
  · have h2 : 65536 < n := by omega
    go_enter Try.func10, Try.ntmps10
    go_wp2_with fail
    refine (awake_any w).mono ?_
    rintro e w1 ⟨rfl, hb1⟩
    go_wp2
    go_ret
    exact ⟨rfl, hb1⟩

set_option maxRecDepth 100000 in
set_option maxHeartbeats 1000000 in
theorem back_any {A : Option Addr} {n c : Nat} {l : List UInt8} (s : ByteArray) (w : World) (hr : Rd w w.heap.size 1 A n (bvs l)) : Calls Try.prog 10 #[.string s, .slice A n c] w (RetT w) := by
  by_cases h : 65536 < s.size ∨ 65536 < n
  · exact back_long s w h
  · have h1 : s.size ≤ 65536 := by omega
    have h2 : n ≤ 65536 := by omega
    have hnb := (nbits_le s.data.toList).2
    rw [str_len] at hnb
    have hN : nbytes s.data.toList ≤ 1048576 := by unfold nbytes; omega
    have d1 : decV (decB (encB s.data.toList)) = .tuple #[.string s, .int .i64 0] := by rw [dec_enc, decV_some, str_back]
    have HR := Lib.hid hr
    have D1 := Lib.hid d1
    have HLN := Lib.hid hr.blen
    clear hr h hnb d1
    go_enter Try.func10, Try.ntmps10
    go_wp2_with fail
    refine (awake_any w).mono ?_
    rintro e w1 ⟨rfl, hb1⟩
    go_wp2_with fail
    refine (enc_any s w1 (by omega)).mono ?_
    rintro e w2 ⟨v, rfl, hown, hb2⟩
    obtain ⟨A1, c1, rfl, -, -, hrd, -⟩ := own_slice hown
    rw [encB_length] at hrd ⊢
    have HRD := Lib.hid hrd
    clear hown hrd
    go_wp2_with fail
    refine (dec_any HRD.out hN).mono ?_
    rintro e w3 ⟨rfl, hb3⟩
    rw [D1.out]
    have hb13 := (hb1.tr hb2).tr hb3
    go_wp2_with fail
    have hr3 := HR.out.below hb13 (Nat.le_refl _)
    refine (dec_any (hr3.more hb13.size) (by omega)).mono ?_
    clear hr3
    rintro e w4 ⟨rfl, hb4⟩
    cases hd : decB l with
    | none =>
      clear hd
      rw [decV_none]
      go_wp2
      go_ret
      exact ⟨rfl, hb13.tr hb4⟩
    | some u =>
      have he := enc_dec hd
      have hul := dec_length hd
      rw [HLN.out] at hul
      have hu2 : (⟨u.toArray⟩ : ByteArray).data.toList = u := rfl
      have henc := enc_any ⟨u.toArray⟩ w4 (by show u.length ≤ 1048576; omega)
      rw [hu2, he] at henc
      have HE := Lib.hid henc
      clear hd he hul hu2 henc
      rw [decV_some]
      generalize (⟨u.toArray⟩ : ByteArray) = us at *
      have hb14 := hb13.tr hb4
      go_wp2_with fail
      refine HE.out.mono ?_
      rintro e w5 ⟨v5, rfl, hown5, hb5⟩
      obtain ⟨A5, c5, rfl, -, -, hrd5, -⟩ := own_slice hown5
      have HR5 := Lib.hid hrd5
      clear hown5 hrd5
      go_wp2_with fail
      refine (bytes_same HR5.out (HR.out.below (hb14.tr hb5) (Nat.le_refl _))).mono ?_
      rintro e w6 ⟨rfl, rfl⟩
      go_wp2
      go_ret
      exact ⟨rfl, hb14.tr hb5⟩
end Go.Proofs.Ytfcgacjonekfaaa
