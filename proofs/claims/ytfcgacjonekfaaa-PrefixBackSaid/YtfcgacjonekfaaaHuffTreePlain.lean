/- The tree of codes that drawbridgeref02.Tree makes, step by step, in plain Lean; that walking down it is reading the codes. No program in sight. -/
import Derived.Test.YtfcgacjonekfaaaHuffEncPlain
import Derived.Test.YtfcgacjonekfaaaHuffDecPlain
namespace Go.Proofs.Ytfcgacjonekfaaa
open Go.RowKit

abbrev Node := Nat × Nat × Int
def newN : Node := (0, 0, -1)
def nxt (x : Node) (b : Nat) : Nat := if b = 0 then x.1 else x.2.1
def setNx (x : Node) (b v : Nat) : Node := if b = 0 then (v, x.2) else (x.1, v, x.2.2)
/-- One bit down, a node made where there is none. -/
def stepBit (st : List Node × Nat) (b : Nat) : List Node × Nat :=
  if nxt (st.1.getD st.2 newN) b = 0 then ((st.1 ++ [newN]).set st.2 (setNx (st.1.getD st.2 newN) b st.1.length), st.1.length) else (st.1, nxt (st.1.getD st.2 newN) b)
/-- The bits j-1 .. 0 of a code. -/
def goBits (c : Nat) : Nat → List Node × Nat → List Node × Nat
  | 0, st => st
  | j + 1, st => goBits c j (stepBit st (c / 2 ^ j % 2))
def setSym (st : List Node × Nat) (s : Nat) : List Node := st.1.set st.2 ((st.1.getD st.2 newN).1, (st.1.getD st.2 newN).2.1, (s : Int))
def treeStep (T : List Node) (s : Nat) : List Node := setSym (goBits (codeT.getD s 0) (lensN.getD s 0) (T, 0)) s
def treeAt (s : Nat) : List Node := (List.range s).foldl treeStep [newN]
theorem treeAt_next (s : Nat) : treeAt (s + 1) = treeStep (treeAt s) s := by unfold treeAt; rw [List.range_succ, List.foldl_append, List.foldl_cons, List.foldl_nil]

/-- Sound: what is behind a bit lies in the row. -/
def WfT (T : List Node) : Prop := ∀ i, (T.getD i newN).1 < T.length ∧ (T.getD i newN).2.1 < T.length
structure WfS (st : List Node × Nat) : Prop where
  wf : WfT st.1
  pos : st.2 < st.1.length
theorem WfS.nxt {st : List Node × Nat} (h : WfS st) (b : Nat) : nxt (st.1.getD st.2 newN) b < st.1.length := by
  unfold Go.Proofs.Ytfcgacjonekfaaa.nxt
  split
  · exact (h.wf _).1
  · exact (h.wf _).2
theorem WfS.step {st : List Node × Nat} (h : WfS st) (b : Nat) : WfS (stepBit st b) ∧ (stepBit st b).1.length ≤ st.1.length + 1 ∧ st.1.length ≤ (stepBit st b).1.length := by
  unfold stepBit
  split
  · refine ⟨⟨?_, ?_⟩, by simp, by simp⟩
    · intro i
      simp only [List.length_set, List.length_append, List.length_singleton]
      have hw := h.wf i
      have hp := h.wf st.2
      have h0 := h.pos
      rw [List.getD, List.getElem?_set]
      by_cases hi : st.2 = i
      · rw [if_pos hi, if_pos (by simp; omega)]
        unfold setNx
        simp only [Option.getD_some]
        split <;> refine ⟨?_, ?_⟩ <;> (dsimp only; omega)
      · rw [if_neg hi]
        rcases Nat.lt_or_ge i st.1.length with hl | hl
        · rw [List.getElem?_append_left hl]
          rw [List.getD] at hw
          exact ⟨by omega, by omega⟩
        · rw [List.getElem?_append_right hl]
          rcases Nat.eq_or_lt_of_le hl with he | hlt
          · rw [← he, Nat.sub_self]; simp [newN]
          · rw [List.getElem?_eq_none (by simp; omega)]; simp [newN]
    · simp
  · exact ⟨⟨h.wf, h.nxt b⟩, by simp, by simp⟩
theorem WfS.go {c : Nat} : ∀ (j : Nat) {st : List Node × Nat}, WfS st → WfS (goBits c j st) ∧ (goBits c j st).1.length ≤ st.1.length + j ∧ st.1.length ≤ (goBits c j st).1.length
  | 0, _, h => ⟨h, Nat.le_refl _, Nat.le_refl _⟩
  | j + 1, st, h => by
    have h1 := h.step (c / 2 ^ j % 2)
    have h2 := WfS.go (c := c) j h1.1
    exact ⟨h2.1, by have := h2.2.1; have := h1.2.1; simp only [goBits]; omega, by have := h2.2.2; have := h1.2.2; simp only [goBits]; omega⟩
theorem WfT.setSym {st : List Node × Nat} (h : WfS st) (s : Nat) : WfT (setSym st s) := by
  intro i
  unfold Go.Proofs.Ytfcgacjonekfaaa.setSym
  rw [List.length_set, List.getD, List.getElem?_set]
  by_cases hi : st.2 = i
  · rw [if_pos hi, if_pos h.pos]; exact h.wf st.2
  · rw [if_neg hi]; exact h.wf i
theorem tree_wf (s : Nat) (hs : s ≤ 257) : WfT (treeAt s) ∧ (treeAt s).length ≤ 1 + 30 * s ∧ 0 < (treeAt s).length := by
  induction s with
  | zero =>
    refine ⟨?_, by decide, by decide⟩
    intro i
    show ([newN].getD i newN).1 < 1 ∧ ([newN].getD i newN).2.1 < 1
    cases i <;> simp [newN, List.getD]
  | succ s ih =>
    obtain ⟨h1, h2, h3⟩ := ih (by omega)
    have hg := WfS.go (c := codeT.getD s 0) (lensN.getD s 0) (st := (treeAt s, 0)) ⟨h1, h3⟩
    have hl := lens_le s
    have hlen : (treeAt (s + 1)).length = (goBits (codeT.getD s 0) (lensN.getD s 0) (treeAt s, 0)).1.length := by rw [treeAt_next]; simp [treeStep, setSym]
    refine ⟨by rw [treeAt_next]; exact WfT.setSym hg.1 s, ?_, ?_⟩
    · have h5 : (goBits (codeT.getD s 0) (lensN.getD s 0) (treeAt s, 0)).1.length ≤ (treeAt s).length + lensN.getD s 0 := hg.2.1
      rw [hlen]; omega
    · have h5 : (treeAt s).length ≤ (goBits (codeT.getD s 0) (lensN.getD s 0) (treeAt s, 0)).1.length := hg.2.2
      rw [hlen]; omega

/-- Nodes as cells. -/
def nodeV (x : Node) : List Value := [.int .i64 (x.1 : Int), .int .i64 (x.2.1 : Int), .int .i64 x.2.2]
def rowV (T : List Node) : List Value := T.flatMap nodeV
theorem rowV_length (T : List Node) : (rowV T).length = T.length * 3 := by
  induction T with
  | nil => rfl
  | cons x T ih => rw [rowV, List.flatMap_cons, List.length_append, show T.flatMap nodeV = rowV T from rfl, ih]; simp [nodeV]; omega
theorem rowV_append (T U : List Node) : rowV (T ++ U) = rowV T ++ rowV U := by simp [rowV]
theorem rowV_get (T : List Node) : ∀ (i k : Nat), i < T.length → k < 3 → (rowV T)[i * 3 + k]? = (nodeV (T.getD i newN))[k]? := by
  induction T with
  | nil => intro i k hi; simp at hi
  | cons x T ih =>
    intro i k hi hk
    rw [rowV, List.flatMap_cons]
    cases i with
    | zero => rw [List.getElem?_append_left (by simp [nodeV]; omega)]; simp
    | succ i =>
      rw [List.getElem?_append_right (by simp [nodeV]; omega), show (i + 1) * 3 + k - (nodeV x).length = i * 3 + k by simp [nodeV]; omega]
      have := ih i k (by simpa using hi) hk
      rw [rowV] at this
      rw [this]; rfl
theorem rowV_set (T : List Node) : ∀ (i k : Nat) (v : Value) (y : Node), i < T.length → k < 3 → (nodeV (T.getD i newN)).set k v = nodeV y → (rowV T).set (i * 3 + k) v = rowV (T.set i y) := by
  induction T with
  | nil => intro i k v y hi; simp at hi
  | cons x T ih =>
    intro i k v y hi hk hv
    rw [rowV, List.flatMap_cons]
    cases i with
    | zero =>
      rw [List.set_append_left _ _ (by simp [nodeV]; omega)]
      simp only [Nat.zero_mul, Nat.zero_add]
      rw [show (nodeV x).set k v = nodeV y from hv]
      rfl
    | succ i =>
      rw [List.set_append_right _ _ (by simp [nodeV]; omega), show (i + 1) * 3 + k - (nodeV x).length = i * 3 + k by simp [nodeV]; omega]
      have := ih i k v y (by simpa using hi) hk hv
      rw [rowV] at this
      rw [this]; rfl
theorem rowV_one (T : List Node) : ∀ u ∈ rowV T, u.oneCell' = true := by
  intro u hu
  obtain ⟨x, -, hx⟩ := List.mem_flatMap.1 hu
  simp [nodeV] at hx
  rcases hx with rfl | rfl | rfl <;> rfl
theorem node_next (x : Node) {b : Nat} (hb : b < 2) : (nodeV x)[b]? = some (.int .i64 (nxt x b : Int)) := by
  have : b = 0 ∨ b = 1 := by omega
  rcases this with rfl | rfl <;> rfl
theorem node_setNx (x : Node) {b : Nat} (hb : b < 2) (v : Nat) : (nodeV x).set b (.int .i64 (v : Int)) = nodeV (setNx x b v) := by
  have : b = 0 ∨ b = 1 := by omega
  rcases this with rfl | rfl <;> rfl

def okNode (T : List Node) (W : List (Nat × Nat)) (i b : Nat) : Bool :=
  decide (nxt (T.getD i newN) b < T.length) && (W.getD (nxt (T.getD i newN) b) (0, 0) == (2 * (W.getD i (0, 0)).1 + b, (W.getD i (0, 0)).2 + 1)) &&
    (if (T.getD (nxt (T.getD i newN) b) newN).2.2 < 0 then !hitB (2 * (W.getD i (0, 0)).1 + b) ((W.getD i (0, 0)).2 + 1)
      else hitB (2 * (W.getD i (0, 0)).1 + b) ((W.getD i (0, 0)).2 + 1) && ((T.getD (nxt (T.getD i newN) b) newN).2.2 == (symAt (2 * (W.getD i (0, 0)).1 + b) ((W.getD i (0, 0)).2 + 1) : Int)))
def okTree (T : List Node) (W : List (Nat × Nat)) : Bool :=
  ((List.range T.length).all fun i => decide (0 ≤ (T.getD i newN).2.2) || (okNode T W i 0 && okNode T W i 1)) && decide ((T.getD 0 newN).2.2 < 0) && (W.getD 0 (0, 0) == (0, 0))
end Go.Proofs.Ytfcgacjonekfaaa
