/- PrefixTexts: every text is written with its length, as bits where these are fewer bytes: for every input; no condition. -/
import Derived.Test.YtfcgacjonekfaaaLaws3d
import Derived.Test.YtfcgacjonekfaaaLift
namespace Go.Proofs.Ytfcgacjonekfaaa
open Go.ChangeShapes Go.WideShapes Go.ChangeAt Go.RowKit

set_option maxRecDepth 100000 in
theorem prefixTexts_lifted (os : Os) (started : os.Started) (H : Type) (enc : TypeId × Value → H) :
    ReturnsInHanded {} Try.checked os 12 .any (Rows.prefixTextsSpec.pre6 enc Try.prog Try.f12 Rows.prefixTextsRow.domain false) (Rows.prefixTextsSpec.post enc Try.prog Try.f12 false true false false) := by
  refine law_lift started (by kernel_rfl) Try.func12 (by rw [Try.params12]; exact of_decide_eq_true (by kernel_rfl)) rfl Try.underlying4 rfl
    (ChangeSpec.witness6 (enc := enc) (C := Try.checked) false ⟨#[], #[.string ByteArray.empty], []⟩ 8 (by kernel_rfl) (by kernel_rfl) (by kernel_rfl) (by kernel_rfl)) ?_
  intro W base args ds p hval hA hlt hsz
  rw [Try.params12] at hA hval hsz
  obtain ⟨v0, vs0, d0, ds0, p0, q0, hargs, rfl, rfl, g0, r0⟩ := trodAll_cons hA
  obtain ⟨rfl, rfl, rfl⟩ := trodAll_nil r0
  obtain rfl : args = #[v0] := by cases args; simp_all
  obtain ⟨s0, rfl, hz0⟩ := open_str (hval 0 9 v0 rfl rfl) g0 hsz (j := 0) rfl rfl
  refine ⟨rfl, ?_⟩
  exact texts_any s0 W

theorem prefixTexts_holds : Rows.PrefixTextsSaid :=
  OpenClaim.holds_of_wide 12 Try.f12 rfl rfl rfl rfl rfl rfl rfl ⟨rfl, rfl, rfl, rfl, rfl⟩ rfl rfl rfl rfl rfl (by kernel_rfl) Try.func12 (by kernel_rfl)
    (of_decide_eq_true (by kernel_rfl)) (by unfold Func.isWrapper; first | (rw [if_pos (by decide +kernel)]; kernel_rfl) | (rw [if_neg (by decide +kernel)]; exact ⟨rfl, rfl⟩))
    (fun os started H enc _ => prefixTexts_lifted os started H enc)
#print axioms prefixTexts_holds
end Go.Proofs.Ytfcgacjonekfaaa
