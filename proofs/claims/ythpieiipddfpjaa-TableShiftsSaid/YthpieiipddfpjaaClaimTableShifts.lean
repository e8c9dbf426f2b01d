/- A row that has room beside all others moves each of them on by one, and none goes. -/
import Derived.Test.YthpieiipddfpjaaTabShiftsLaw
import Derived.Test.YthpieiipddfpjaaField
import Derived.Test.YthpieiipddfpjaaLift
namespace Go.Proofs.Ythpieiipddfpjaa
open Go.ChangeShapes Go.WideShapes Go.ChangeAt Go.RowKit

set_option maxRecDepth 100000 in
theorem tableShifts_lifted (os : Os) (started : os.Started) (H : Type) (enc : TypeId × Value → H) :
    ReturnsInHanded {} Try.checked os 7 .any (Rows.tableShiftsSpec.pre6 enc Try.prog Try.f7 Rows.tableShiftsRow.domain false) (Rows.tableShiftsSpec.post enc Try.prog Try.f7 false true false false) := by
  refine law_lift started (by kernel_rfl) Try.func7 (by rw [Try.params7]; exact of_decide_eq_true (by kernel_rfl)) rfl Try.underlying4 rfl
    (ChangeSpec.witness6 (enc := enc) (C := Try.checked) false ⟨#[], #[.slice none 0 0, .agg #[.string ByteArray.empty, .string ByteArray.empty, .bool false]], []⟩ 8 (by kernel_rfl) (by kernel_rfl) (by kernel_rfl) (by kernel_rfl)) ?_
  intro W base args ds p hval hA hlt hsz
  rw [Try.params7] at hA hval hsz
  obtain ⟨v0, vs0, d0, ds0, p0, q0, hargs, rfl, rfl, g0, r0⟩ := trodAll_cons hA
  obtain ⟨v1, vs1, d1, ds1, p1, q1, rfl, rfl, rfl, g1, r1⟩ := trodAll_cons r0
  obtain ⟨rfl, rfl, rfl⟩ := trodAll_nil r1
  obtain rfl : args = #[v0, v1] := by cases args; simp_all
  obtain ⟨A0, n0, c0, D0, rfl, hc0, hm0, hz0, hr0⟩ := open_script (hval 0 22 v0 rfl rfl) g0 (fun x hx => hlt x (by simp [hx])) hsz (j := 0) rfl rfl
  obtain ⟨f1, b1, rfl, hf1, hv1⟩ := open_field2 (hval 1 24 v1 rfl rfl) g1 hsz (j := 1) rfl rfl
  refine ⟨rfl, ?_⟩
  exact tshifts_any f1 b1 W hr0 hz0 hf1 hv1

theorem tableShifts_holds : Rows.TableShiftsSaid :=
  OpenClaim.holds_of_wide 7 Try.f7 rfl rfl rfl rfl rfl rfl rfl ⟨rfl, rfl, rfl, rfl, rfl⟩ rfl rfl rfl rfl rfl (by kernel_rfl) Try.func7 (by kernel_rfl)
    (of_decide_eq_true (by kernel_rfl)) (by unfold Func.isWrapper; first | (rw [if_pos (by decide +kernel)]; kernel_rfl) | (rw [if_neg (by decide +kernel)]; exact ⟨rfl, rfl⟩))
    (fun os started H enc _ => tableShifts_lifted os started H enc)
#print axioms tableShifts_holds
end Go.Proofs.Ythpieiipddfpjaa
