/- Walking down the tree is reading the codes. No program in sight. -/
import Derived.Test.YtfcgacjonekfaaaHuffTreeTab
namespace Go.Proofs.Ytfcgacjonekfaaa
open Go.RowKit

theorem tree_root : (treeT.getD 0 newN).2.2 < 0 ∧ wayT 0 = (0, 0) := by
  have := tree_ok
  unfold okTree at this
  rw [Bool.and_eq_true, Bool.and_eq_true, decide_eq_true_eq, beq_iff_eq] at this
  exact ⟨this.1.2, this.2⟩
/-- One bit down the tree is one bit on in the codes. -/
theorem tree_down {i b : Nat} (hi : i < treeT.length) (hs : (treeT.getD i newN).2.2 < 0) (hb : b < 2) :
    nxt (treeT.getD i newN) b < treeT.length ∧ wayT (nxt (treeT.getD i newN) b) = (2 * (wayT i).1 + b, (wayT i).2 + 1) ∧
    (((treeT.getD (nxt (treeT.getD i newN) b) newN).2.2 < 0 ∧ hitB (2 * (wayT i).1 + b) ((wayT i).2 + 1) = false) ∨
      ((treeT.getD (nxt (treeT.getD i newN) b) newN).2.2 = (symAt (2 * (wayT i).1 + b) ((wayT i).2 + 1) : Int) ∧ hitB (2 * (wayT i).1 + b) ((wayT i).2 + 1) = true)) := by
  have h := tree_ok
  unfold okTree at h
  rw [Bool.and_eq_true, Bool.and_eq_true, List.all_eq_true] at h
  have h1 := h.1.1 i (List.mem_range.2 hi)
  rw [Bool.or_eq_true, decide_eq_true_eq, Bool.and_eq_true] at h1
  have h2 : okNode treeT wayTab i b = true := by
    rcases h1 with h1 | h1
    · exact absurd hs (Int.not_lt.2 h1)
    · have : b = 0 ∨ b = 1 := by omega
      rcases this with rfl | rfl
      · exact h1.1
      · exact h1.2
  unfold okNode at h2
  rw [Bool.and_eq_true, Bool.and_eq_true, decide_eq_true_eq, beq_iff_eq] at h2
  refine ⟨h2.1.1, h2.1.2, ?_⟩
  have h3 := h2.2
  split at h3
  · rename_i hn
    exact Or.inl ⟨hn, by simpa [wayT] using h3⟩
  · rw [Bool.and_eq_true, beq_iff_eq] at h3
    exact Or.inr ⟨h3.2, h3.1⟩
end Go.Proofs.Ytfcgacjonekfaaa
