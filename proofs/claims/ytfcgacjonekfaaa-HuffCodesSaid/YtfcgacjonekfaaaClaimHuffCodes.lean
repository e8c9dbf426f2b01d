/- HuffCodes: every symbol has the code that the table makes, and no code is the beginning of another one's: for every input; no condition. -/
import Derived.Test.YtfcgacjonekfaaaLaws2a
import Derived.Test.YtfcgacjonekfaaaLift
namespace Go.Proofs.Ytfcgacjonekfaaa
open Go.ChangeShapes Go.WideShapes Go.ChangeAt Go.RowKit

set_option maxRecDepth 100000 in
theorem huffCodes_lifted (os : Os) (started : os.Started) (H : Type) (enc : TypeId × Value → H) :
    ReturnsInHanded {} Try.checked os 3 .any (Rows.huffCodesSpec.pre6 enc Try.prog Try.f3 Rows.huffCodesRow.domain false) (Rows.huffCodesSpec.post enc Try.prog Try.f3 false true false false) := by
  refine law_lift started (by kernel_rfl) Try.func3 (by rw [Try.params3]; exact of_decide_eq_true (by kernel_rfl)) rfl Try.underlying4 rfl
    (ChangeSpec.witness6 (enc := enc) (C := Try.checked) false ⟨#[], #[.int .i64 0, .int .i64 0], []⟩ 8 (by kernel_rfl) (by kernel_rfl) (by kernel_rfl) (by kernel_rfl)) ?_
  intro W base args ds p hval hA hlt hsz
  rw [Try.params3] at hA hval hsz
  obtain ⟨v0, vs0, d0, ds0, p0, q0, hargs, rfl, rfl, g0, r0⟩ := trodAll_cons hA
  obtain ⟨v1, vs1, d1, ds1, p1, q1, rfl, rfl, rfl, g1, r1⟩ := trodAll_cons r0
  obtain ⟨rfl, rfl, rfl⟩ := trodAll_nil r1
  obtain rfl : args = #[v0, v1] := by cases args; simp_all
  obtain ⟨a0, rfl, rfl, rfl, w0⟩ := open_int Try.underlying3 (hval 0 3 v0 rfl rfl) g0
  have h0 := wf_i64 w0
  obtain ⟨a1, rfl, rfl, rfl, w1⟩ := open_int Try.underlying3 (hval 1 3 v1 rfl rfl) g1
  have h1 := wf_i64 w1
  refine ⟨rfl, ?_⟩
  by_cases hi : a0 < 0 ∨ 256 < a0
  · exact codes_out a0 a1 hi W
  · obtain ⟨i, rfl⟩ := Int.eq_ofNat_of_zero_le (show 0 ≤ a0 by omega)
    by_cases ho : a1 < 0
    · exact codes_lo i _ _ rfl rfl a1 ho (by omega) W
    · by_cases ho2 : 256 < a1
      · exact codes_hi i _ _ rfl rfl a1 ho2 (by omega) W
      · obtain ⟨o, rfl⟩ := Int.eq_ofNat_of_zero_le (show 0 ≤ a1 by omega)
        by_cases hne : o = i
        · subst hne
          exact codes_same o _ _ rfl rfl (by omega) W
        · by_cases hlt : lensN.getD o 0 < lensN.getD i 0
          · exact codes_short i _ _ rfl rfl o _ _ rfl rfl (by omega) hne hlt (by omega) W
          · exact codes_long i _ _ rfl rfl o _ _ rfl rfl (by omega) hne (by omega) (by omega) W

theorem huffCodes_holds : Rows.HuffCodesSaid :=
  OpenClaim.holds_of_wide 3 Try.f3 rfl rfl rfl rfl rfl rfl rfl ⟨rfl, rfl, rfl, rfl, rfl⟩ rfl rfl rfl rfl rfl (by kernel_rfl) Try.func3 (by kernel_rfl)
    (of_decide_eq_true (by kernel_rfl)) (by unfold Func.isWrapper; first | (rw [if_pos (by decide +kernel)]; kernel_rfl) | (rw [if_neg (by decide +kernel)]; exact ⟨rfl, rfl⟩))
    (fun os started H enc _ => huffCodes_lifted os started H enc)
#print axioms huffCodes_holds
end Go.Proofs.Ytfcgacjonekfaaa
