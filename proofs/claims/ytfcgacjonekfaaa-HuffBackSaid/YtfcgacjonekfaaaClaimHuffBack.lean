/- HuffBack: what is encoded is decoded as it was; what is decoded is encoded as it was: for every input; no condition. -/
import Derived.Test.YtfcgacjonekfaaaLaws2d
import Derived.Test.YtfcgacjonekfaaaLift
namespace Go.Proofs.Ytfcgacjonekfaaa
open Go.ChangeShapes Go.WideShapes Go.ChangeAt Go.RowKit

set_option maxRecDepth 100000 in
theorem huffBack_lifted (os : Os) (started : os.Started) (H : Type) (enc : TypeId × Value → H) :
    ReturnsInHanded {} Try.checked os 10 .any (Rows.huffBackSpec.pre6 enc Try.prog Try.f10 Rows.huffBackRow.domain false) (Rows.huffBackSpec.post enc Try.prog Try.f10 false true false false) := by
  refine law_lift started (by kernel_rfl) Try.func10 (by rw [Try.params10]; exact of_decide_eq_true (by kernel_rfl)) rfl Try.underlying4 rfl
    (ChangeSpec.witness6 (enc := enc) (C := Try.checked) false ⟨#[], #[.string ByteArray.empty, .slice none 0 0], []⟩ 8 (by kernel_rfl) (by kernel_rfl) (by kernel_rfl) (by kernel_rfl)) ?_
  intro W base args ds p hval hA hlt hsz
  rw [Try.params10] at hA hval hsz
  obtain ⟨v0, vs0, d0, ds0, p0, q0, hargs, rfl, rfl, g0, r0⟩ := trodAll_cons hA
  obtain ⟨v1, vs1, d1, ds1, p1, q1, rfl, rfl, rfl, g1, r1⟩ := trodAll_cons r0
  obtain ⟨rfl, rfl, rfl⟩ := trodAll_nil r1
  obtain rfl : args = #[v0, v1] := by cases args; simp_all
  obtain ⟨s0, rfl, hz0⟩ := open_str (hval 0 9 v0 rfl rfl) g0 hsz (j := 0) rfl rfl
  obtain ⟨A1, n1, c1, l1, rfl, hc1, hm1, hz1, hr1⟩ := open_bts (hval 1 31 v1 rfl rfl) g1 (fun x hx => hlt x (by simp [hx])) hsz (j := 1) rfl rfl
  refine ⟨rfl, ?_⟩
  exact back_any s0 W hr1

theorem huffBack_holds : Rows.HuffBackSaid :=
  OpenClaim.holds_of_wide 10 Try.f10 rfl rfl rfl rfl rfl rfl rfl ⟨rfl, rfl, rfl, rfl, rfl⟩ rfl rfl rfl rfl rfl (by kernel_rfl) Try.func10 (by kernel_rfl)
    (of_decide_eq_true (by kernel_rfl)) (by unfold Func.isWrapper; first | (rw [if_pos (by decide +kernel)]; kernel_rfl) | (rw [if_neg (by decide +kernel)]; exact ⟨rfl, rfl⟩))
    (fun os started H enc _ => huffBack_lifted os started H enc)
#print axioms huffBack_holds
end Go.Proofs.Ytfcgacjonekfaaa
