/- PrefixBack: a number, and a text, that are written are read as they were, whatever stands behind; without the last byte they are short: for every input; no condition. -/
import Derived.Test.YtfcgacjonekfaaaLaws3f
import Derived.Test.YtfcgacjonekfaaaLift
namespace Go.Proofs.Ytfcgacjonekfaaa
open Go.ChangeShapes Go.WideShapes Go.ChangeAt Go.RowKit

set_option maxRecDepth 100000 in
theorem prefixBack_lifted (os : Os) (started : os.Started) (H : Type) (enc : TypeId × Value → H) :
    ReturnsInHanded {} Try.checked os 14 .any (Rows.prefixBackSpec.pre6 enc Try.prog Try.f14 Rows.prefixBackRow.domain false) (Rows.prefixBackSpec.post enc Try.prog Try.f14 false true false false) := by
  refine law_lift started (by kernel_rfl) Try.func14 (by rw [Try.params14]; exact of_decide_eq_true (by kernel_rfl)) rfl Try.underlying4 rfl
    (ChangeSpec.witness6 (enc := enc) (C := Try.checked) false ⟨#[], #[.int .u32 0, .string ByteArray.empty, .slice none 0 0], []⟩ 8 (by kernel_rfl) (by kernel_rfl) (by kernel_rfl) (by kernel_rfl)) ?_
  intro W base args ds p hval hA hlt hsz
  rw [Try.params14] at hA hval hsz
  obtain ⟨v0, vs0, d0, ds0, p0, q0, hargs, rfl, rfl, g0, r0⟩ := trodAll_cons hA
  obtain ⟨v1, vs1, d1, ds1, p1, q1, rfl, rfl, rfl, g1, r1⟩ := trodAll_cons r0
  obtain ⟨v2, vs2, d2, ds2, p2, q2, rfl, rfl, rfl, g2, r2⟩ := trodAll_cons r1
  obtain ⟨rfl, rfl, rfl⟩ := trodAll_nil r2
  obtain rfl : args = #[v0, v1, v2] := by cases args; simp_all
  obtain ⟨a0, rfl, rfl, rfl, w0⟩ := open_int Try.underlying22 (hval 0 22 v0 rfl rfl) g0
  have h0 := wf_u32 w0
  obtain ⟨s1, rfl, hz1⟩ := open_str (hval 1 9 v1 rfl rfl) g1 hsz (j := 1) rfl rfl
  obtain ⟨A2, n2, c2, l2, rfl, hc2, hm2, hz2, hr2⟩ := open_bts (hval 2 31 v2 rfl rfl) g2 (fun x hx => hlt x (by simp [hx])) hsz (j := 2) rfl rfl
  refine ⟨rfl, ?_⟩
  obtain ⟨x, rfl⟩ := Int.eq_ofNat_of_zero_le h0.1
  by_cases h : 4096 < s1.size ∨ 65536 < n2
  · exact back_out x s1 W h
  · exact back_in x s1 W (by omega) (by omega) hr2

theorem prefixBack_holds : Rows.PrefixBackSaid :=
  OpenClaim.holds_of_wide 14 Try.f14 rfl rfl rfl rfl rfl rfl rfl ⟨rfl, rfl, rfl, rfl, rfl⟩ rfl rfl rfl rfl rfl (by kernel_rfl) Try.func14 (by kernel_rfl)
    (of_decide_eq_true (by kernel_rfl)) (by unfold Func.isWrapper; first | (rw [if_pos (by decide +kernel)]; kernel_rfl) | (rw [if_neg (by decide +kernel)]; exact ⟨rfl, rfl⟩))
    (fun os started H enc _ => prefixBack_lifted os started H enc)
#print axioms prefixBack_holds
end Go.Proofs.Ytfcgacjonekfaaa
