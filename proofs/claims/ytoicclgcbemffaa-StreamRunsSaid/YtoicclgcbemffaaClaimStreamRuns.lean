/- StreamRuns: along every row of frames that come and go a stream is never live again once it isn't, but from the beginning; each end ends once; behind a fault of its own nothing goes: for every input; no condition. -/
import Derived.Test.YtoicclgcbemffaaLiftDid
import Derived.Test.YtoicclgcbemffaaLift
namespace Go.Proofs.Ytoicclgcbemffaa
open Go.ChangeShapes Go.WideShapes Go.ChangeAt Go.RowKit

set_option maxRecDepth 100000 in
theorem streamRuns_lifted (os : Os) (started : os.Started) (H : Type) (enc : TypeId × Value → H) :
    ReturnsInHanded {} Try.checked os 7 .any (Rows.streamRunsSpec.pre6 enc Try.prog Try.f7 Rows.streamRunsRow.domain false) (Rows.streamRunsSpec.post enc Try.prog Try.f7 false true false false) := by
  refine law_lift started (by kernel_rfl) Try.func7 (by rw [Try.params7]; exact of_decide_eq_true (by kernel_rfl)) rfl Try.underlying4 rfl
    (ChangeSpec.witness6 (enc := enc) (C := Try.checked) false ⟨#[], #[.slice none 0 0], []⟩ 8 (by kernel_rfl) (by kernel_rfl) (by kernel_rfl) (by kernel_rfl)) ?_
  intro W base args ds p hval hA hlt hsz
  rw [Try.params7] at hA hval hsz
  obtain ⟨v0, vs0, d0, ds0, p0, q0, hargs, rfl, rfl, g0, r0⟩ := trodAll_cons hA
  obtain ⟨rfl, rfl, rfl⟩ := trodAll_nil r0
  obtain rfl : args = #[v0] := by cases args; simp_all
  obtain ⟨A0, n0, c0, D0, rfl, hc0, hm0, hz0, hr0⟩ := open_dids (hval 0 43 v0 rfl rfl) g0 (fun x hx => hlt x (by simp [hx])) hsz (j := 0) rfl rfl
  refine ⟨rfl, ?_⟩
  exact runs_any W hr0 hz0

theorem streamRuns_holds : Rows.StreamRunsSaid :=
  OpenClaim.holds_of_wide 7 Try.f7 rfl rfl rfl rfl rfl rfl rfl ⟨rfl, rfl, rfl, rfl, rfl⟩ rfl rfl rfl rfl rfl (by kernel_rfl) Try.func7 (by kernel_rfl)
    (of_decide_eq_true (by kernel_rfl)) (by unfold Func.isWrapper; first | (rw [if_pos (by decide +kernel)]; kernel_rfl) | (rw [if_neg (by decide +kernel)]; exact ⟨rfl, rfl⟩))
    (fun os started H enc _ => streamRuns_lifted os started H enc)
#print axioms streamRuns_holds
end Go.Proofs.Ytoicclgcbemffaa
