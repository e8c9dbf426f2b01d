/- What drawbridgeref02.Codes makes, step by step, in plain Lean; that it comes to the table. No program in sight. -/
import Derived.Test.YtfcgacjonekfaaaHuffOpenPlain
namespace Go.Proofs.Ytfcgacjonekfaaa
open Go.RowKit

structure CSt where
  code : Nat
  last : Nat
  out : List Nat
  deriving DecidableEq
def CSt.zero : CSt := ⟨0, 5, List.replicate 257 0⟩
/-- The code at a length: doubled until it has as many bits. -/
def CSt.up (n : Nat) (st : CSt) : Nat := st.code * 2 ^ (n - st.last) % 4294967296
/-- One symbol. -/
def CSt.sym1 (n : Nat) (st : CSt) (x : Nat × Nat) : CSt := if x.1 = n then ⟨(st.up n + 1) % 4294967296, n, st.out.set x.2 (st.up n)⟩ else st
def CSt.inner (n s : Nat) (st : CSt) : CSt := (lensN.zipIdx.take s).foldl (CSt.sym1 n) st
/-- Behind the lengths 5 to 4 + d. -/
def CSt.at_ (d : Nat) : CSt := (List.range d).foldl (fun st k => CSt.inner (k + 5) 257 st) CSt.zero
theorem codes_end : (CSt.at_ 26).out = codeT := by decide +kernel
theorem cinner_next (n : Nat) (st : CSt) {s : Nat} (h : s < 257) : CSt.inner n (s + 1) st = CSt.sym1 n (CSt.inner n s st) (lensN.getD s 0, s) := by
  have hl : s < lensN.zipIdx.length := by rw [List.length_zipIdx, tab_lengths.1]; exact h
  unfold CSt.inner
  rw [List.take_succ_eq_append_getElem hl, List.foldl_append]
  have hl' : s < lensN.length := by rw [tab_lengths.1]; exact h
  simp [List.getD, List.getElem?_eq_getElem hl']
theorem cat_next (d : Nat) : CSt.at_ (d + 1) = CSt.inner (d + 5) 257 (CSt.at_ d) := by
  unfold CSt.at_
  rw [List.range_succ, List.foldl_append, List.foldl_cons, List.foldl_nil]
structure CSt.Wf (n : Nat) (st : CSt) : Prop where
  out : st.out.length = 257
  code : st.code < 4294967296
  last : st.last ≤ n
  lo : 5 ≤ st.last
theorem CSt.Wf.sym1 {n : Nat} {st : CSt} (h : st.Wf n) (h5 : 5 ≤ n) (x : Nat × Nat) : (CSt.sym1 n st x).Wf n := by
  unfold CSt.sym1
  split
  · exact ⟨by simp [h.out], Nat.mod_lt _ (by decide), Nat.le_refl _, h5⟩
  · exact h
theorem CSt.Wf.inner {n : Nat} {st : CSt} (h : st.Wf n) (h5 : 5 ≤ n) : ∀ {s : Nat}, s ≤ 257 → (CSt.inner n s st).Wf n := by
  intro s
  induction s with
  | zero => intro _; exact h
  | succ s ih => intro hs; rw [cinner_next n st (by omega)]; exact (ih (by omega)).sym1 h5 _
theorem CSt.Wf.up {n : Nat} {st : CSt} (h : st.Wf n) : st.Wf (n + 1) := ⟨h.out, h.code, by have := h.last; omega, h.lo⟩
theorem CSt.Wf.at_ (d : Nat) : (CSt.at_ d).Wf (d + 5) := by
  induction d with
  | zero => exact ⟨by decide +kernel, by decide, by decide, by decide⟩
  | succ d ih => rw [cat_next]; exact (ih.inner (by omega) (Nat.le_refl _)).up
/-- Doubling once more. -/
theorem up_step (c j : Nat) : c * 2 ^ j % 4294967296 * 2 % 4294967296 = c * 2 ^ (j + 1) % 4294967296 := by
  rw [Nat.pow_succ, ← Nat.mul_assoc, Nat.mod_mul_mod]
def u32s (l : List Nat) : List Value := l.map fun n : Nat => Value.int .u32 (n : Int)
def i64s (l : List Nat) : List Value := l.map fun n : Nat => Value.int .i64 (n : Int)
theorem u32s_length (l : List Nat) : (u32s l).length = l.length := by simp [u32s]
theorem i64s_length (l : List Nat) : (i64s l).length = l.length := by simp [i64s]
theorem u32s_get {l : List Nat} {i : Nat} (h : i < l.length) : (u32s l)[i]? = some (.int .u32 ((l.getD i 0 : Nat) : Int)) := by simp [u32s, List.getD, List.getElem?_eq_getElem h]
theorem i64s_get {l : List Nat} {i : Nat} (h : i < l.length) : (i64s l)[i]? = some (.int .i64 ((l.getD i 0 : Nat) : Int)) := by simp [i64s, List.getD, List.getElem?_eq_getElem h]
theorem u32s_set (l : List Nat) (i x : Nat) : (u32s l).set i (.int .u32 (x : Int)) = u32s (l.set i x) := by simp [u32s, List.map_set]
end Go.Proofs.Ytfcgacjonekfaaa
