/- The walk of drawbridgelaw03.PrefixTexts. -/
import Derived.Test.YtfcgacjonekfaaaText
namespace Go.Proofs.Ytfcgacjonekfaaa
open Go.RowKit

theorem text_aaa : textB [97, 97, 97] = [130, 24, 199] := by decide +kernel

set_option maxRecDepth 100000 in
set_option maxHeartbeats 1000000 in
theorem texts_any (s : ByteArray) (w : World) : Calls Try.prog 12 #[.string s] w (RetT w) := by
  go_enter Try.func12, Try.ntmps12
  go_wp2_with fail
  refine (putText_any ⟨#[97, 97, 97]⟩ w (by decide)).mono ?_
  rintro e w1 ⟨v, rfl, hown, hb1⟩
  have hp := text_aaa
  rw [show (ByteArray.mk #[97, 97, 97]).data.toList = [97, 97, 97] from rfl, hp] at hown
  obtain ⟨A, c, rfl, hc1, hc2, hrd, -⟩ := own_slice hown
  obtain ⟨-, bb, o, rfl, hbb, hc⟩ := hrd.bas (by decide)
  have hcell : w1.cell? ⟨bb, o, none⟩ = some (.int .u8 130) := hc 0 (by decide)
  clear hc hrd hown hp
  by_cases h : 65536 < s.size
  · go_wp2
    go_ret
    exact ⟨rfl, hb1⟩
  · go_wp2_with fail
    refine (putText_any s w1 (by omega)).mono ?_
    rintro e w2 ⟨v2, rfl, hown2, hb2⟩
    obtain ⟨A2, c2, rfl, -, -, hrd2, -⟩ := own_slice hown2
    have HRD := Lib.hid hrd2
    clear hown2 hrd2 hcell
    go_wp2_with fail
    refine (rputText_any s w2 (by omega)).mono ?_
    rintro e w3 ⟨v3, rfl, hown3, hb3⟩
    obtain ⟨A3, c3, rfl, -, -, hrd3, -⟩ := own_slice hown3
    go_wp2_with fail
    refine (bytes_eq (HRD.out.below hb3 (Nat.le_refl _)) hrd3).mono ?_
    rintro e w4 ⟨rfl, rfl⟩
    go_wp2
    go_ret
    exact ⟨rfl, (hb1.tr2 hb2).tr2 hb3⟩
end Go.Proofs.Ytfcgacjonekfaaa
