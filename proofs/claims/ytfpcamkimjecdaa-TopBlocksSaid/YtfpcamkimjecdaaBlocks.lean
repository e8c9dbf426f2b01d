/- Lists of fields, encoded one behind the other, laid into frames of any sizes, padded or not, sent in any pieces, are read as they were, in order, and both tables are alike. -/
import Derived.Test.YtfpcamkimjecdaaM14
import Derived.Test.YtfpcamkimjecdaaM13
import Derived.Test.YtfpcamkimjecdaaM7
namespace Go.Proofs.Ytfpcamkimjecdaa
open Go.ChangeShapes Go.WideShapes Go.ChangeAt Go.RowKit

set_option maxRecDepth 100000 in
theorem topBlocks_lifted (os : Os) (started : os.Started) (H : Type) (enc : TypeId × Value → H) :
    ReturnsInHanded {} Try.checked os 3 .any (Rows.topBlocksSpec.pre6 enc Try.prog Try.f3 Rows.topBlocksRow.domain false) (Rows.topBlocksSpec.post enc Try.prog Try.f3 false true false false) := by
  refine law_lift started (by kernel_rfl) Try.func3 (by rw [Try.params3]; exact of_decide_eq_true (by kernel_rfl)) rfl Try.underlying4 rfl
    (ChangeSpec.witness6 (enc := enc) (C := Try.checked) false ⟨#[], #[.slice none 0 0, .slice none 0 0, .slice none 0 0], []⟩ 8 (by kernel_rfl) (by kernel_rfl) (by kernel_rfl) (by kernel_rfl)) ?_
  intro W base args ds p hval hA hlt hsz
  rw [Try.params3] at hA hval hsz
  obtain ⟨v0, vs0, d0, ds0, p0, q0, hargs, rfl, rfl, g0, r0⟩ := trodAll_cons hA
  obtain ⟨v1, vs1, d1, ds1, p1, q1, rfl, rfl, rfl, g1, r1⟩ := trodAll_cons r0
  obtain ⟨v2, vs2, d2, ds2, p2, q2, rfl, rfl, rfl, g2, r2⟩ := trodAll_cons r1
  obtain ⟨rfl, rfl, rfl⟩ := trodAll_nil r2
  obtain rfl : args = #[v0, v1, v2] := by cases args; simp_all
  obtain ⟨A0, n0, c0, D0, rfl, hc0, hm0, hz0, hr0⟩ := open_fdss (hval 0 22 v0 rfl rfl) g0 (fun x hx => hlt x (by simp [hx])) hsz (j := 0) rfl rfl
  obtain ⟨A1, n1, c1, l1, rfl, hc1, hm1, hz1, hr1⟩ := open_bts (hval 1 23 v1 rfl rfl) g1 (fun x hx => hlt x (by simp [hx])) hsz (j := 1) rfl rfl
  obtain ⟨A2, n2, c2, l2, rfl, hc2, hm2, hz2, hr2⟩ := open_bts (hval 2 23 v2 rfl rfl) g2 (fun x hx => hlt x (by simp [hx])) hsz (j := 2) rfl rfl
  refine ⟨rfl, ?_⟩
  exact tblocks_any W hr0 hz0 hr1 hz1 hr2 hz2

theorem topBlocks_holds : Rows.TopBlocksSaid :=
  OpenClaim.holds_of_wide 3 Try.f3 rfl rfl rfl rfl rfl rfl rfl ⟨rfl, rfl, rfl, rfl, rfl⟩ rfl rfl rfl rfl rfl (by kernel_rfl) Try.func3 (by kernel_rfl)
    (of_decide_eq_true (by kernel_rfl)) (by unfold Func.isWrapper; first | (rw [if_pos (by decide +kernel)]; kernel_rfl) | (rw [if_neg (by decide +kernel)]; exact ⟨rfl, rfl⟩))
    (fun os started H enc _ => topBlocks_lifted os started H enc)
#print axioms topBlocks_holds
end Go.Proofs.Ytfpcamkimjecdaa
