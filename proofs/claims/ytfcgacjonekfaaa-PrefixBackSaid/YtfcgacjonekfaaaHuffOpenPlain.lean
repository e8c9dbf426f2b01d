/- What huff.open makes, step by step, in plain Lean; that it comes to the tables. No program in sight. -/
import Derived.Test.YtfcgacjonekfaaaHuffTab
import Derived.Test.YtfcgacjonekfaaaBase
namespace Go.Proofs.Ytfcgacjonekfaaa
open Go.RowKit

/-- The counting: behind the lengths so far. -/
def cntStep (m : List Nat) (n : Nat) : List Nat := m.set n (m.getD n 0 + 1)
def cntAt (k : Nat) : List Nat := (lensN.take k).foldl cntStep (List.replicate 31 0)

/-- The codes given so far. -/
structure OSt where
  pos : Nat
  code : Nat
  codes : List Nat
  first : List Nat
  frm : List Nat
  sym : List Nat
  ok : Bool
  deriving DecidableEq
def OSt.zero : OSt := ⟨0, 0, List.replicate 257 0, List.replicate 31 0, List.replicate 31 0, List.replicate 257 0, true⟩
/-- One symbol. -/
def OSt.sym1 (n : Nat) (st : OSt) (x : Nat × Nat) : OSt :=
  if x.1 = n then { st with sym := st.sym.set st.pos x.2, codes := st.codes.set x.2 st.code, pos := st.pos + 1, code := (st.code + 1) % 4294967296, ok := st.ok && decide (st.pos < 257) }
  else st
/-- A length begins. -/
def OSt.begin (n : Nat) (st : OSt) : OSt :=
  { st with code := st.code * 2 % 4294967296, first := st.first.set n (st.code * 2 % 4294967296), frm := st.frm.set n st.pos }
/-- Behind s symbols of length n. -/
def OSt.inner (n s : Nat) (st : OSt) : OSt := (lensN.zipIdx.take s).foldl (OSt.sym1 n) st
def OSt.outer (st : OSt) (n : Nat) : OSt := OSt.inner n 257 (OSt.begin n st)
/-- Behind n lengths. -/
def OSt.at_ (n : Nat) : OSt := (List.range n).foldl OSt.outer OSt.zero

theorem cnt_end : cntAt 257 = manyT := by decide +kernel
theorem open_end : OSt.at_ 31 = ⟨257, 1073741824, codeT, firstT, fromT, symT, true⟩ := by decide +kernel

theorem cnt_next {k : Nat} (h : k < 257) : cntAt (k + 1) = cntStep (cntAt k) (lensN.getD k 0) := by
  have hl : k < lensN.length := by rw [tab_lengths.1]; exact h
  unfold cntAt
  rw [List.take_succ_eq_append_getElem hl, List.foldl_append]
  simp [List.getD, List.getElem?_eq_getElem hl]
theorem cnt_length (k : Nat) : (cntAt k).length = 31 := by
  unfold cntAt
  have : ∀ (l m : List Nat), (l.foldl cntStep m).length = m.length := by
    intro l
    induction l with
    | nil => intro m; rfl
    | cons a t ih => intro m; rw [List.foldl_cons, ih]; simp [cntStep]
  rw [this]; simp
theorem cnt_le : ∀ (k n : Nat), k ≤ 257 → (cntAt k).getD n 0 ≤ k := by
  intro k
  induction k with
  | zero =>
    intro n _
    show (List.replicate 31 0).getD n 0 ≤ 0
    rw [List.getD, List.getElem?_replicate]
    split <;> simp
  | succ k ih =>
    intro n hk
    rw [cnt_next (by omega), cntStep, List.getD, List.getElem?_set]
    have h1 := ih n (by omega)
    have h2 := ih (lensN.getD k 0) (by omega)
    split
    · split
      · show (cntAt k).getD (lensN.getD k 0) 0 + 1 ≤ k + 1
        omega
      · exact Nat.zero_le _
    · show (cntAt k).getD n 0 ≤ k + 1
      omega
theorem lens_le : ∀ k, lensN.getD k 0 ≤ 30 := by
  intro k
  rcases Nat.lt_or_ge k 257 with h | h
  · have : ∀ k < 257, lensN.getD k 0 ≤ 30 := by decide +kernel
    exact this k h
  · rw [List.getD, List.getElem?_eq_none (by rw [tab_lengths.1]; exact h)]; decide
theorem lens_ge : ∀ k, k < 257 → 5 ≤ lensN.getD k 0 := by decide +kernel
theorem inner_next (n : Nat) (st : OSt) {s : Nat} (h : s < 257) : OSt.inner n (s + 1) st = OSt.sym1 n (OSt.inner n s st) (lensN.getD s 0, s) := by
  have hl : s < lensN.zipIdx.length := by rw [List.length_zipIdx, tab_lengths.1]; exact h
  unfold OSt.inner
  rw [List.take_succ_eq_append_getElem hl, List.foldl_append]
  have hl' : s < lensN.length := by rw [tab_lengths.1]; exact h
  simp [List.getD, List.getElem?_eq_getElem hl']
theorem inner_zero (n : Nat) (st : OSt) : OSt.inner n 0 st = st := rfl
theorem at_next (n : Nat) : OSt.at_ (n + 1) = OSt.inner n 257 (OSt.begin n (OSt.at_ n)) := by
  unfold OSt.at_
  rw [List.range_succ, List.foldl_append, List.foldl_cons, List.foldl_nil, OSt.outer]
theorem sym1_ok {n : Nat} {st : OSt} {x : Nat × Nat} (h : (OSt.sym1 n st x).ok = true) : st.ok = true ∧ (x.1 = n → st.pos < 257) := by
  unfold OSt.sym1 at h
  split at h
  · simp at h; exact ⟨h.1, fun _ => h.2⟩
  · rename_i hne; exact ⟨h, fun e => absurd e hne⟩
theorem inner_ok {n : Nat} {st : OSt} (d : Nat) : ∀ {s : Nat}, s + d ≤ 257 → (OSt.inner n (s + d) st).ok = true → (OSt.inner n s st).ok = true := by
  induction d with
  | zero => intro s _ h; exact h
  | succ d ih =>
    intro s hs h
    rw [show s + (d + 1) = (s + d) + 1 by omega, inner_next n st (by omega)] at h
    exact ih (by omega) (sym1_ok h).1
theorem at_ok (d : Nat) : ∀ {n : Nat}, (OSt.at_ (n + d)).ok = true → (OSt.at_ n).ok = true := by
  induction d with
  | zero => intro n h; exact h
  | succ d ih =>
    intro n h
    rw [show n + (d + 1) = (n + d) + 1 by omega, at_next] at h
    have := inner_ok (s := 0) 257 (by omega) h
    exact ih this
/-- A symbol is put where there is room for it. -/
theorem pos_room {n s : Nat} (hn : n < 31) (hs : s < 257) (h : lensN.getD s 0 = n) : (OSt.inner n s (OSt.begin n (OSt.at_ n))).pos < 257 := by
  have h31 : (OSt.at_ 31).ok = true := by rw [open_end]
  obtain ⟨d, hd⟩ : ∃ d, 31 = (n + 1) + d := ⟨30 - n, by omega⟩
  rw [hd] at h31
  have h1 := at_ok d h31
  rw [at_next] at h1
  obtain ⟨d', hd'⟩ : ∃ d', 257 = (s + 1) + d' := ⟨256 - s, by omega⟩
  have h2 := inner_ok (s := s + 1) d' (by omega) (by rw [← hd']; exact h1)
  rw [inner_next _ _ hs] at h2
  exact (sym1_ok h2).2 h
/-- The rows' lengths stay. -/
structure OSt.Wf (st : OSt) : Prop where
  codes : st.codes.length = 257
  first : st.first.length = 31
  frm : st.frm.length = 31
  sym : st.sym.length = 257
  code : st.code < 4294967296
theorem OSt.Wf.sym1 {n : Nat} {st : OSt} (h : st.Wf) (x : Nat × Nat) : (OSt.sym1 n st x).Wf := by
  unfold OSt.sym1
  split
  · exact ⟨by simp [h.codes], h.first, h.frm, by simp [h.sym], Nat.mod_lt _ (by decide)⟩
  · exact h
theorem OSt.Wf.inner {n : Nat} {st : OSt} (h : st.Wf) : ∀ {s : Nat}, s ≤ 257 → (OSt.inner n s st).Wf := by
  intro s
  induction s with
  | zero => intro _; exact h
  | succ s ih => intro hs; rw [inner_next n st (by omega)]; exact (ih (by omega)).sym1 _
theorem OSt.Wf.begin {st : OSt} (h : st.Wf) (n : Nat) : (OSt.begin n st).Wf := ⟨h.codes, by simp [OSt.begin, h.first], by simp [OSt.begin, h.frm], h.sym, Nat.mod_lt _ (by decide)⟩
theorem OSt.Wf.at_ (n : Nat) : (OSt.at_ n).Wf := by
  induction n with
  | zero => exact ⟨by decide +kernel, by decide +kernel, by decide +kernel, by decide +kernel, by decide⟩
  | succ n ih => rw [at_next]; exact (ih.begin n).inner (Nat.le_refl _)
theorem OSt.Wf.zero : OSt.zero.Wf := OSt.Wf.at_ 0
theorem pos_le {n s : Nat} (hs : s ≤ 257) (st : OSt) : (OSt.inner n s st).pos ≤ st.pos + s := by
  induction s with
  | zero => exact Nat.le_refl _
  | succ s ih =>
    rw [inner_next n st (by omega), OSt.sym1]
    have := ih (by omega)
    split <;> simp <;> omega
theorem pos_at (n : Nat) : (OSt.at_ n).pos ≤ 257 * n := by
  induction n with
  | zero => exact Nat.le_refl _
  | succ n ih => rw [at_next]; have := pos_le (n := n) (Nat.le_refl 257) (OSt.begin n (OSt.at_ n)); simp [OSt.begin] at this ⊢; omega

/-- The block of the book: its fields one behind the other. -/
def blk (m : List Nat) (st : OSt) : List Value :=
  lensN.map (fun n : Nat => Value.int .u8 (n : Int)) ++ (st.codes.map (fun n : Nat => Value.int .u32 (n : Int)) ++ (st.first.map (fun n : Nat => Value.int .u32 (n : Int)) ++ (m.map (fun n : Nat => Value.int .i64 (n : Int)) ++
    (st.frm.map (fun n : Nat => Value.int .i64 (n : Int)) ++ st.sym.map (fun n : Nat => Value.int .i64 (n : Int))))))
section
variable {m : List Nat} {st : OSt} (hm : m.length = 31) (h : st.Wf)
include hm h
theorem blk_length : (blk m st).length = 864 := by simp [blk, tab_lengths.1, h.codes, h.first, hm, h.frm, h.sym]
omit hm h in
theorem blk_size {i : Nat} (hi : i < 257) : (blk m st)[i]? = some (.int .u8 ((lensN.getD i 0 : Nat) : Int)) := by
  have hl : i < lensN.length := by rw [tab_lengths.1]; exact hi
  unfold blk
  rw [List.getElem?_append_left (by simpa using hl), List.getElem?_map, List.getElem?_eq_getElem hl]
  simp [List.getD, List.getElem?_eq_getElem hl]
omit hm in
theorem blk_code {i : Nat} (hi : i < 257) : (blk m st)[257 + i]? = some (.int .u32 ((st.codes.getD i 0 : Nat) : Int)) := by
  have hl : i < st.codes.length := by rw [h.codes]; exact hi
  unfold blk
  rw [List.getElem?_append_right (by simp [tab_lengths.1]), List.getElem?_append_left (by simp [tab_lengths.1, h.codes]; omega), List.getElem?_map]
  simp [tab_lengths.1, List.getD, List.getElem?_eq_getElem hl]
omit hm in
theorem blk_first {i : Nat} (hi : i < 31) : (blk m st)[514 + i]? = some (.int .u32 ((st.first.getD i 0 : Nat) : Int)) := by
  have hl : i < st.first.length := by rw [h.first]; exact hi
  unfold blk
  rw [List.getElem?_append_right (by simp [tab_lengths.1]; omega), List.getElem?_append_right (by simp [tab_lengths.1, h.codes]; omega), List.getElem?_append_left (by simp [tab_lengths.1, h.codes, h.first]; omega), List.getElem?_map]
  simp [tab_lengths.1, h.codes, List.getD, show 514 + i - 257 - 257 = i by omega, List.getElem?_eq_getElem hl]
theorem blk_many {i : Nat} (hi : i < 31) : (blk m st)[545 + i]? = some (.int .i64 ((m.getD i 0 : Nat) : Int)) := by
  have hl : i < m.length := by rw [hm]; exact hi
  unfold blk
  rw [List.getElem?_append_right (by simp [tab_lengths.1]; omega), List.getElem?_append_right (by simp [tab_lengths.1, h.codes]; omega), List.getElem?_append_right (by simp [tab_lengths.1, h.codes, h.first]; omega),
    List.getElem?_append_left (by simp [tab_lengths.1, h.codes, h.first, hm]; omega), List.getElem?_map]
  simp [tab_lengths.1, h.codes, h.first, List.getD, show 545 + i - 257 - 257 - 31 = i by omega, List.getElem?_eq_getElem hl]
theorem blk_from {i : Nat} (hi : i < 31) : (blk m st)[576 + i]? = some (.int .i64 ((st.frm.getD i 0 : Nat) : Int)) := by
  have hl : i < st.frm.length := by rw [h.frm]; exact hi
  unfold blk
  rw [List.getElem?_append_right (by simp [tab_lengths.1]; omega), List.getElem?_append_right (by simp [tab_lengths.1, h.codes]; omega), List.getElem?_append_right (by simp [tab_lengths.1, h.codes, h.first]; omega),
    List.getElem?_append_right (by simp [tab_lengths.1, h.codes, h.first, hm]; omega), List.getElem?_append_left (by simp [tab_lengths.1, h.codes, h.first, hm, h.frm]; omega), List.getElem?_map]
  simp [tab_lengths.1, h.codes, h.first, hm, List.getD, show 576 + i - 257 - 257 - 31 - 31 = i by omega, List.getElem?_eq_getElem hl]
theorem blk_sym {i : Nat} (hi : i < 257) : (blk m st)[607 + i]? = some (.int .i64 ((st.sym.getD i 0 : Nat) : Int)) := by
  have hl : i < st.sym.length := by rw [h.sym]; exact hi
  unfold blk
  rw [List.getElem?_append_right (by simp [tab_lengths.1]; omega), List.getElem?_append_right (by simp [tab_lengths.1, h.codes]; omega), List.getElem?_append_right (by simp [tab_lengths.1, h.codes, h.first]; omega),
    List.getElem?_append_right (by simp [tab_lengths.1, h.codes, h.first, hm]; omega), List.getElem?_append_right (by simp [tab_lengths.1, h.codes, h.first, hm, h.frm]; omega), List.getElem?_map]
  simp [tab_lengths.1, h.codes, h.first, hm, h.frm, List.getD, show 607 + i - 257 - 257 - 31 - 31 - 31 = i by omega, List.getElem?_eq_getElem hl]
theorem set_many {i : Nat} (hi : i < 31) (x : Nat) : (blk m st).set (545 + i) (.int .i64 (x : Int)) = blk (m.set i x) st := by
  unfold blk
  rw [List.set_append_right _ _ (by simp [tab_lengths.1]; omega), List.set_append_right _ _ (by simp [tab_lengths.1, h.codes]; omega), List.set_append_right _ _ (by simp [tab_lengths.1, h.codes, h.first]; omega),
    List.set_append_left _ _ (by simp [tab_lengths.1, h.codes, h.first, hm]; omega), List.map_set]
  simp [tab_lengths.1, h.codes, h.first, show 545 + i - 257 - 257 - 31 = i by omega]
omit hm in
theorem set_first {i : Nat} (hi : i < 31) (x : Nat) : (blk m st).set (514 + i) (.int .u32 (x : Int)) = blk m { st with first := st.first.set i x } := by
  unfold blk
  rw [List.set_append_right _ _ (by simp [tab_lengths.1]; omega), List.set_append_right _ _ (by simp [tab_lengths.1, h.codes]; omega), List.set_append_left _ _ (by simp [tab_lengths.1, h.codes, h.first]; omega), List.map_set]
  simp [tab_lengths.1, h.codes, show 514 + i - 257 - 257 = i by omega]
theorem set_frm {i : Nat} (hi : i < 31) (x : Nat) : (blk m st).set (576 + i) (.int .i64 (x : Int)) = blk m { st with frm := st.frm.set i x } := by
  unfold blk
  rw [List.set_append_right _ _ (by simp [tab_lengths.1]; omega), List.set_append_right _ _ (by simp [tab_lengths.1, h.codes]; omega), List.set_append_right _ _ (by simp [tab_lengths.1, h.codes, h.first]; omega),
    List.set_append_right _ _ (by simp [tab_lengths.1, h.codes, h.first, hm]; omega), List.set_append_left _ _ (by simp [tab_lengths.1, h.codes, h.first, hm, h.frm]; omega), List.map_set]
  simp [tab_lengths.1, h.codes, h.first, hm, show 576 + i - 257 - 257 - 31 - 31 = i by omega]
omit hm in
theorem set_codes {i : Nat} (hi : i < 257) (x : Nat) : (blk m st).set (257 + i) (.int .u32 (x : Int)) = blk m { st with codes := st.codes.set i x } := by
  unfold blk
  rw [List.set_append_right _ _ (by simp [tab_lengths.1]), List.set_append_left _ _ (by simp [tab_lengths.1, h.codes]; omega), List.map_set]
  simp [tab_lengths.1]
theorem set_syms {i : Nat} (hi : i < 257) (x : Nat) : (blk m st).set (607 + i) (.int .i64 (x : Int)) = blk m { st with sym := st.sym.set i x } := by
  unfold blk
  rw [List.set_append_right _ _ (by simp [tab_lengths.1]; omega), List.set_append_right _ _ (by simp [tab_lengths.1, h.codes]; omega), List.set_append_right _ _ (by simp [tab_lengths.1, h.codes, h.first]; omega),
    List.set_append_right _ _ (by simp [tab_lengths.1, h.codes, h.first, hm]; omega), List.set_append_right _ _ (by simp [tab_lengths.1, h.codes, h.first, hm, h.frm]; omega), List.map_set]
  simp [tab_lengths.1, h.codes, h.first, hm, h.frm, show 607 + i - 257 - 257 - 31 - 31 - 31 = i by omega]
theorem set_begin {n : Nat} (hn : n < 31) : ((blk m st).set (514 + n) (.int .u32 ((st.code * 2 % 4294967296 : Nat) : Int))).set (576 + n) (.int .i64 (st.pos : Int)) = blk m (OSt.begin n st) := by
  rw [set_first h hn, set_frm hm (st := { st with first := st.first.set n (st.code * 2 % 4294967296) }) ⟨h.codes, by simp [h.first], h.frm, h.sym, h.code⟩ hn]
  rfl
theorem set_sym {n s : Nat} (hs : s < 257) (hp : st.pos < 257) (he : lensN.getD s 0 = n) :
    ((blk m st).set (607 + st.pos) (.int .i64 (s : Int))).set (257 + s) (.int .u32 (st.code : Int)) = blk m (OSt.sym1 n st (lensN.getD s 0, s)) := by
  rw [set_syms hm h hp, set_codes (st := { st with sym := st.sym.set st.pos s }) ⟨h.codes, h.first, h.frm, by simp [h.sym], h.code⟩ hs, OSt.sym1, if_pos he]
  rfl
end
end Go.Proofs.Ytfcgacjonekfaaa
