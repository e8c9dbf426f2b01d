/- The walk of drawbridgelaw02.HuffEncodes. -/
import Derived.Test.YtfcgacjonekfaaaLaws2b
import Derived.Test.YtfcgacjonekfaaaHuffREnc
import Derived.Test.YtfcgacjonekfaaaBytesEq
namespace Go.Proofs.Ytfcgacjonekfaaa
open Go.RowKit

set_option maxRecDepth 100000 in
set_option maxHeartbeats 1000000 in
theorem encodes_any (s : ByteArray) (w : World) : Calls Try.prog 9 #[.string s] w (RetT w) := by
  by_cases h1 : 65536 < s.size
  · go_enter Try.func9, Try.ntmps9
    go_wp2_with fail
    refine (awake_any w).mono ?_
    rintro e w1 ⟨rfl, hb1⟩
    go_wp2
    go_ret
    exact ⟨rfl, hb1⟩
  · go_enter Try.func9, Try.ntmps9
    go_wp2_with fail
    refine (awake_any w).mono ?_
    rintro e w1 ⟨rfl, hb1⟩
    go_wp2_with fail
    refine (enc_any s w1 (by omega)).mono ?_
    rintro e w2 ⟨v, rfl, hown, hb2⟩
    obtain ⟨A, c, rfl, -, -, hrd, -⟩ := own_slice hown
    rw [encB_length] at hrd ⊢
    have HRD := Lib.hid hrd
    clear hown hrd
    go_wp2_with fail
    refine (renc_any s w2 (by omega)).mono ?_
    rintro e w3 ⟨v', rfl, hown', hb3⟩
    obtain ⟨A', c', rfl, -, -, hrd', -⟩ := own_slice hown'
    have HRD' := Lib.hid hrd'
    clear hown' hrd'
    go_wp2_with fail
    refine (bytes_same (HRD.out.below hb3 (Nat.le_refl _)) HRD'.out).mono ?_
    rintro e w4 ⟨rfl, rfl⟩
    go_wp2_with fail
    refine (size_any s w3 (by omega)).mono ?_
    rintro e w5 ⟨rfl, hb5⟩
    go_wp2
    go_ret
    exact ⟨rfl, ((hb1.tr hb2).tr hb3).tr hb5⟩
end Go.Proofs.Ytfcgacjonekfaaa
