/- PrefixReads: every row of bytes begins with the text that the document says, or with none: for every input; no condition. -/
import Derived.Test.YtfcgacjonekfaaaLaws3e
import Derived.Test.YtfcgacjonekfaaaLift
namespace Go.Proofs.Ytfcgacjonekfaaa
open Go.ChangeShapes Go.WideShapes Go.ChangeAt Go.RowKit

set_option maxRecDepth 100000 in
theorem prefixReads_lifted (os : Os) (started : os.Started) (H : Type) (enc : TypeId × Value → H) :
    ReturnsInHanded {} Try.checked os 13 .any (Rows.prefixReadsSpec.pre6 enc Try.prog Try.f13 Rows.prefixReadsRow.domain false) (Rows.prefixReadsSpec.post enc Try.prog Try.f13 false true false false) := by
  refine law_lift started (by kernel_rfl) Try.func13 (by rw [Try.params13]; exact of_decide_eq_true (by kernel_rfl)) rfl Try.underlying4 rfl
    (ChangeSpec.witness6 (enc := enc) (C := Try.checked) false ⟨#[], #[.slice none 0 0], []⟩ 8 (by kernel_rfl) (by kernel_rfl) (by kernel_rfl) (by kernel_rfl)) ?_
  intro W base args ds p hval hA hlt hsz
  rw [Try.params13] at hA hval hsz
  obtain ⟨v0, vs0, d0, ds0, p0, q0, hargs, rfl, rfl, g0, r0⟩ := trodAll_cons hA
  obtain ⟨rfl, rfl, rfl⟩ := trodAll_nil r0
  obtain rfl : args = #[v0] := by cases args; simp_all
  obtain ⟨A0, n0, c0, l0, rfl, hc0, hm0, hz0, hr0⟩ := open_bts (hval 0 31 v0 rfl rfl) g0 (fun x hx => hlt x (by simp [hx])) hsz (j := 0) rfl rfl
  refine ⟨rfl, ?_⟩
  exact reads_any W hr0 hc0 hm0

theorem prefixReads_holds : Rows.PrefixReadsSaid :=
  OpenClaim.holds_of_wide 13 Try.f13 rfl rfl rfl rfl rfl rfl rfl ⟨rfl, rfl, rfl, rfl, rfl⟩ rfl rfl rfl rfl rfl (by kernel_rfl) Try.func13 (by kernel_rfl)
    (of_decide_eq_true (by kernel_rfl)) (by unfold Func.isWrapper; first | (rw [if_pos (by decide +kernel)]; kernel_rfl) | (rw [if_neg (by decide +kernel)]; exact ⟨rfl, rfl⟩))
    (fun os started H enc _ => prefixReads_lifted os started H enc)
#print axioms prefixReads_holds
end Go.Proofs.Ytfcgacjonekfaaa
