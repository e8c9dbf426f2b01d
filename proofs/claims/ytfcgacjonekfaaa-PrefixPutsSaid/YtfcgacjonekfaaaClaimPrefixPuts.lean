/- PrefixPuts: every number behind any flags, with a prefix of any size, is written as the document says, or refused: for every input; no condition. -/
import Derived.Test.YtfcgacjonekfaaaLaws3a
import Derived.Test.YtfcgacjonekfaaaLift
namespace Go.Proofs.Ytfcgacjonekfaaa
open Go.ChangeShapes Go.WideShapes Go.ChangeAt Go.RowKit

set_option maxRecDepth 100000 in
theorem prefixPuts_lifted (os : Os) (started : os.Started) (H : Type) (enc : TypeId × Value → H) :
    ReturnsInHanded {} Try.checked os 4 .any (Rows.prefixPutsSpec.pre6 enc Try.prog Try.f4 Rows.prefixPutsRow.domain false) (Rows.prefixPutsSpec.post enc Try.prog Try.f4 false true false false) := by
  refine law_lift started (by kernel_rfl) Try.func4 (by rw [Try.params4]; exact of_decide_eq_true (by kernel_rfl)) rfl Try.underlying4 rfl
    (ChangeSpec.witness6 (enc := enc) (C := Try.checked) false ⟨#[], #[.int .u8 0, .int .i64 0, .int .u32 0], []⟩ 8 (by kernel_rfl) (by kernel_rfl) (by kernel_rfl) (by kernel_rfl)) ?_
  intro W base args ds p hval hA hlt hsz
  rw [Try.params4] at hA hval hsz
  obtain ⟨v0, vs0, d0, ds0, p0, q0, hargs, rfl, rfl, g0, r0⟩ := trodAll_cons hA
  obtain ⟨v1, vs1, d1, ds1, p1, q1, rfl, rfl, rfl, g1, r1⟩ := trodAll_cons r0
  obtain ⟨v2, vs2, d2, ds2, p2, q2, rfl, rfl, rfl, g2, r2⟩ := trodAll_cons r1
  obtain ⟨rfl, rfl, rfl⟩ := trodAll_nil r2
  obtain rfl : args = #[v0, v1, v2] := by cases args; simp_all
  obtain ⟨a0, rfl, rfl, rfl, w0⟩ := open_int Try.underlying5 (hval 0 5 v0 rfl rfl) g0
  have h0 := wf_u8 w0
  obtain ⟨a1, rfl, rfl, rfl, w1⟩ := open_int Try.underlying3 (hval 1 3 v1 rfl rfl) g1
  have h1 := wf_i64 w1
  obtain ⟨a2, rfl, rfl, rfl, w2⟩ := open_int Try.underlying22 (hval 2 22 v2 rfl rfl) g2
  have h2 := wf_u32 w2
  refine ⟨rfl, ?_⟩
  by_cases hb : a1 < 1 ∨ 8 < a1
  · exact puts_range a0 a1 a2 W hb
  · obtain ⟨f, rfl⟩ := Int.eq_ofNat_of_zero_le h0.1
    obtain ⟨n, rfl⟩ := Int.eq_ofNat_of_zero_le h2.1
    obtain ⟨bits, rfl⟩ := Int.eq_ofNat_of_zero_le (show 0 ≤ a1 by omega)
    obtain ⟨F, hF⟩ := Full.mk' bits (by omega) (by omega)
    by_cases hfl : f % (F + 1) = 0
    · exact puts_ok f bits n F W hF (by omega) (by omega) hfl
    · exact puts_flags f bits n F W hF (by omega) hfl

theorem prefixPuts_holds : Rows.PrefixPutsSaid :=
  OpenClaim.holds_of_wide 4 Try.f4 rfl rfl rfl rfl rfl rfl rfl ⟨rfl, rfl, rfl, rfl, rfl⟩ rfl rfl rfl rfl rfl (by kernel_rfl) Try.func4 (by kernel_rfl)
    (of_decide_eq_true (by kernel_rfl)) (by unfold Func.isWrapper; first | (rw [if_pos (by decide +kernel)]; kernel_rfl) | (rw [if_neg (by decide +kernel)]; exact ⟨rfl, rfl⟩))
    (fun os started H enc _ => prefixPuts_lifted os started H enc)
#print axioms prefixPuts_holds
end Go.Proofs.Ytfcgacjonekfaaa
