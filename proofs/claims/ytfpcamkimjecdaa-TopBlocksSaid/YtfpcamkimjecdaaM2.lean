/- 8 texts in one: HuffTab, HuffOpenPlain, HuffSizePlain, HuffEncPlain, HuffDecPlain, HuffBackPlain, TextPlain, TabPlain. -/
import Derived.WalkKit
import Derived.Test.YtfpcamkimjecdaaM1
import Derived.Maps.OwnSet
import Derived.Maps.Views
/- The tables of the code of texts: lengths, codes; by lengths: the first code, how many, from where; the symbols in order. That the two programs make just these is proved in the walks. Printed by wip/gen_huff.py. -/
namespace Go.Proofs.Ytfpcamkimjecdaa

def lensN : List Nat := [
  13, 23, 28, 28, 28, 28, 28, 28, 28, 24, 30, 28, 28, 30, 28, 28, 28, 28, 28, 28, 28, 28, 30, 28, 28, 28, 28, 28, 28, 28, 28, 28,
  6, 10, 10, 12, 13, 6, 8, 11, 10, 10, 8, 11, 8, 6, 6, 6, 5, 5, 5, 6, 6, 6, 6, 6, 6, 6, 7, 8, 15, 6, 12, 10,
  13, 6, 7, 7, 7, 7, 7, 7, 7, 7, 7, 7, 7, 7, 7, 7, 7, 7, 7, 7, 7, 7, 7, 7, 8, 7, 8, 13, 19, 13, 14, 6,
  15, 5, 6, 5, 6, 5, 6, 6, 6, 5, 7, 7, 6, 6, 6, 5, 6, 7, 6, 5, 5, 6, 7, 7, 7, 7, 7, 15, 11, 14, 13, 28,
  20, 22, 20, 20, 22, 22, 22, 23, 22, 23, 23, 23, 23, 23, 24, 23, 24, 24, 22, 23, 24, 23, 23, 23, 23, 21, 22, 23, 22, 23, 23, 24,
  22, 21, 20, 22, 22, 23, 23, 21, 23, 22, 22, 24, 21, 22, 23, 23, 21, 21, 22, 21, 23, 22, 23, 23, 20, 22, 22, 22, 23, 22, 22, 23,
  26, 26, 20, 19, 22, 23, 22, 25, 26, 26, 26, 27, 27, 26, 24, 25, 19, 21, 26, 27, 27, 26, 27, 24, 21, 21, 26, 26, 28, 27, 27, 27,
  20, 24, 20, 21, 22, 21, 21, 23, 22, 22, 25, 25, 24, 24, 26, 23, 26, 27, 26, 26, 27, 27, 27, 27, 27, 28, 27, 27, 27, 27, 27, 26,
  30]

def codeT : List Nat := [
  8184, 8388568, 268435426, 268435427, 268435428, 268435429, 268435430, 268435431, 268435432, 16777194, 1073741820, 268435433, 268435434, 1073741821, 268435435, 268435436, 268435437, 268435438, 268435439, 268435440, 268435441, 268435442, 1073741822, 268435443, 268435444, 268435445, 268435446, 268435447, 268435448, 268435449, 268435450, 268435451,
  20, 1016, 1017, 4090, 8185, 21, 248, 2042, 1018, 1019, 249, 2043, 250, 22, 23, 24, 0, 1, 2, 25, 26, 27, 28, 29, 30, 31, 92, 251, 32764, 32, 4091, 1020,
  8186, 33, 93, 94, 95, 96, 97, 98, 99, 100, 101, 102, 103, 104, 105, 106, 107, 108, 109, 110, 111, 112, 113, 114, 252, 115, 253, 8187, 524272, 8188, 16380, 34,
  32765, 3, 35, 4, 36, 5, 37, 38, 39, 6, 116, 117, 40, 41, 42, 7, 43, 118, 44, 8, 9, 45, 119, 120, 121, 122, 123, 32766, 2044, 16381, 8189, 268435452,
  1048550, 4194258, 1048551, 1048552, 4194259, 4194260, 4194261, 8388569, 4194262, 8388570, 8388571, 8388572, 8388573, 8388574, 16777195, 8388575, 16777196, 16777197, 4194263, 8388576, 16777198, 8388577, 8388578, 8388579, 8388580, 2097116, 4194264, 8388581, 4194265, 8388582, 8388583, 16777199,
  4194266, 2097117, 1048553, 4194267, 4194268, 8388584, 8388585, 2097118, 8388586, 4194269, 4194270, 16777200, 2097119, 4194271, 8388587, 8388588, 2097120, 2097121, 4194272, 2097122, 8388589, 4194273, 8388590, 8388591, 1048554, 4194274, 4194275, 4194276, 8388592, 4194277, 4194278, 8388593,
  67108832, 67108833, 1048555, 524273, 4194279, 8388594, 4194280, 33554412, 67108834, 67108835, 67108836, 134217694, 134217695, 67108837, 16777201, 33554413, 524274, 2097123, 67108838, 134217696, 134217697, 67108839, 134217698, 16777202, 2097124, 2097125, 67108840, 67108841, 268435453, 134217699, 134217700, 134217701,
  1048556, 16777203, 1048557, 2097126, 4194281, 2097127, 2097128, 8388595, 4194282, 4194283, 33554414, 33554415, 16777204, 16777205, 67108842, 8388596, 67108843, 134217702, 67108844, 67108845, 134217703, 134217704, 134217705, 134217706, 134217707, 268435454, 134217708, 134217709, 134217710, 134217711, 134217712, 67108846,
  1073741823]

def firstT : List Nat := [
  0, 0, 0, 0, 0, 0, 20, 92, 248, 508, 1016, 2042, 4090, 8184, 16380, 32764, 65534, 131068, 262136, 524272, 1048550, 2097116, 4194258, 8388568, 16777194, 33554412, 67108832, 134217694, 268435426, 536870910, 1073741820]

def manyT : List Nat := [
  0, 0, 0, 0, 0, 10, 26, 32, 6, 0, 5, 3, 2, 6, 2, 3, 0, 0, 0, 3, 8, 13, 26, 29, 12, 4, 15, 19, 29, 0, 4]

def fromT : List Nat := [
  0, 0, 0, 0, 0, 0, 10, 36, 68, 74, 74, 79, 82, 84, 90, 92, 95, 95, 95, 95, 98, 106, 119, 145, 174, 186, 190, 205, 224, 253, 253]

def symT : List Nat := [
  48, 49, 50, 97, 99, 101, 105, 111, 115, 116, 32, 37, 45, 46, 47, 51, 52, 53, 54, 55, 56, 57, 61, 65, 95, 98, 100, 102, 103, 104, 108, 109,
  110, 112, 114, 117, 58, 66, 67, 68, 69, 70, 71, 72, 73, 74, 75, 76, 77, 78, 79, 80, 81, 82, 83, 84, 85, 86, 87, 89, 106, 107, 113, 118,
  119, 120, 121, 122, 38, 42, 44, 59, 88, 90, 33, 34, 40, 41, 63, 39, 43, 124, 35, 62, 0, 36, 64, 91, 93, 126, 94, 125, 60, 96, 123, 92,
  195, 208, 128, 130, 131, 162, 184, 194, 224, 226, 153, 161, 167, 172, 176, 177, 179, 209, 216, 217, 227, 229, 230, 129, 132, 133, 134, 136, 146, 154, 156, 160,
  163, 164, 169, 170, 173, 178, 181, 185, 186, 187, 189, 190, 196, 198, 228, 232, 233, 1, 135, 137, 138, 139, 140, 141, 143, 147, 149, 150, 151, 152, 155, 157,
  158, 165, 166, 168, 174, 175, 180, 182, 183, 188, 191, 197, 231, 239, 9, 142, 144, 145, 148, 159, 171, 206, 215, 225, 236, 237, 199, 207, 234, 235, 192, 193,
  200, 201, 202, 205, 210, 213, 218, 219, 238, 240, 242, 243, 255, 203, 204, 211, 212, 214, 221, 222, 223, 241, 244, 245, 246, 247, 248, 250, 251, 252, 253, 254,
  2, 3, 4, 5, 6, 7, 8, 11, 12, 14, 15, 16, 17, 18, 19, 20, 21, 23, 24, 25, 26, 27, 28, 29, 30, 31, 127, 220, 249, 10, 13, 22,
  256]

theorem tab_lengths : lensN.length = 257 ∧ codeT.length = 257 ∧ firstT.length = 31 ∧ manyT.length = 31 ∧ fromT.length = 31 ∧ symT.length = 257 := by decide +kernel
end Go.Proofs.Ytfpcamkimjecdaa

/- What huff.open makes, step by step, in plain Lean; that it comes to the tables. No program in sight. -/
namespace Go.Proofs.Ytfpcamkimjecdaa
open Go.RowKit

/-- The counting: behind the lengths so far. -/
def cntStep (m : List Nat) (n : Nat) : List Nat := m.set n (m.getD n 0 + 1)
def cntAt (k : Nat) : List Nat := (lensN.take k).foldl cntStep (List.replicate 31 0)

/-- The codes given so far. -/
structure OSt where
  pos : Nat
  code : Nat
  codes : List Nat
  first : List Nat
  frm : List Nat
  sym : List Nat
  ok : Bool
  deriving DecidableEq
def OSt.zero : OSt := ⟨0, 0, List.replicate 257 0, List.replicate 31 0, List.replicate 31 0, List.replicate 257 0, true⟩
/-- One symbol. -/
def OSt.sym1 (n : Nat) (st : OSt) (x : Nat × Nat) : OSt :=
  if x.1 = n then { st with sym := st.sym.set st.pos x.2, codes := st.codes.set x.2 st.code, pos := st.pos + 1, code := (st.code + 1) % 4294967296, ok := st.ok && decide (st.pos < 257) }
  else st
/-- A length begins. -/
def OSt.begin (n : Nat) (st : OSt) : OSt :=
  { st with code := st.code * 2 % 4294967296, first := st.first.set n (st.code * 2 % 4294967296), frm := st.frm.set n st.pos }
/-- Behind s symbols of length n. -/
def OSt.inner (n s : Nat) (st : OSt) : OSt := (lensN.zipIdx.take s).foldl (OSt.sym1 n) st
def OSt.outer (st : OSt) (n : Nat) : OSt := OSt.inner n 257 (OSt.begin n st)
/-- Behind n lengths. -/
def OSt.at_ (n : Nat) : OSt := (List.range n).foldl OSt.outer OSt.zero

theorem cnt_end : cntAt 257 = manyT := by decide +kernel
theorem open_end : OSt.at_ 31 = ⟨257, 1073741824, codeT, firstT, fromT, symT, true⟩ := by decide +kernel

theorem cnt_next {k : Nat} (h : k < 257) : cntAt (k + 1) = cntStep (cntAt k) (lensN.getD k 0) := by
  have hl : k < lensN.length := by rw [tab_lengths.1]; exact h
  unfold cntAt
  rw [List.take_succ_eq_append_getElem hl, List.foldl_append]
  simp [List.getD, List.getElem?_eq_getElem hl]
theorem cnt_length (k : Nat) : (cntAt k).length = 31 := by
  unfold cntAt
  have : ∀ (l m : List Nat), (l.foldl cntStep m).length = m.length := by
    intro l
    induction l with
    | nil => intro m; rfl
    | cons a t ih => intro m; rw [List.foldl_cons, ih]; simp [cntStep]
  rw [this]; simp
theorem cnt_le : ∀ (k n : Nat), k ≤ 257 → (cntAt k).getD n 0 ≤ k := by
  intro k
  induction k with
  | zero =>
    intro n _
    show (List.replicate 31 0).getD n 0 ≤ 0
    rw [List.getD, List.getElem?_replicate]
    split <;> simp
  | succ k ih =>
    intro n hk
    rw [cnt_next (by omega), cntStep, List.getD, List.getElem?_set]
    have h1 := ih n (by omega)
    have h2 := ih (lensN.getD k 0) (by omega)
    split
    · split
      · show (cntAt k).getD (lensN.getD k 0) 0 + 1 ≤ k + 1
        omega
      · exact Nat.zero_le _
    · show (cntAt k).getD n 0 ≤ k + 1
      omega
theorem lens_le : ∀ k, lensN.getD k 0 ≤ 30 := by
  intro k
  rcases Nat.lt_or_ge k 257 with h | h
  · have : ∀ k < 257, lensN.getD k 0 ≤ 30 := by decide +kernel
    exact this k h
  · rw [List.getD, List.getElem?_eq_none (by rw [tab_lengths.1]; exact h)]; decide
theorem lens_ge : ∀ k, k < 257 → 5 ≤ lensN.getD k 0 := by decide +kernel
theorem inner_next (n : Nat) (st : OSt) {s : Nat} (h : s < 257) : OSt.inner n (s + 1) st = OSt.sym1 n (OSt.inner n s st) (lensN.getD s 0, s) := by
  have hl : s < lensN.zipIdx.length := by rw [List.length_zipIdx, tab_lengths.1]; exact h
  unfold OSt.inner
  rw [List.take_succ_eq_append_getElem hl, List.foldl_append]
  have hl' : s < lensN.length := by rw [tab_lengths.1]; exact h
  simp [List.getD, List.getElem?_eq_getElem hl']
theorem inner_zero (n : Nat) (st : OSt) : OSt.inner n 0 st = st := rfl
theorem at_next (n : Nat) : OSt.at_ (n + 1) = OSt.inner n 257 (OSt.begin n (OSt.at_ n)) := by
  unfold OSt.at_
  rw [List.range_succ, List.foldl_append, List.foldl_cons, List.foldl_nil, OSt.outer]
theorem sym1_ok {n : Nat} {st : OSt} {x : Nat × Nat} (h : (OSt.sym1 n st x).ok = true) : st.ok = true ∧ (x.1 = n → st.pos < 257) := by
  unfold OSt.sym1 at h
  split at h
  · simp at h; exact ⟨h.1, fun _ => h.2⟩
  · rename_i hne; exact ⟨h, fun e => absurd e hne⟩
theorem inner_ok {n : Nat} {st : OSt} (d : Nat) : ∀ {s : Nat}, s + d ≤ 257 → (OSt.inner n (s + d) st).ok = true → (OSt.inner n s st).ok = true := by
  induction d with
  | zero => intro s _ h; exact h
  | succ d ih =>
    intro s hs h
    rw [show s + (d + 1) = (s + d) + 1 by omega, inner_next n st (by omega)] at h
    exact ih (by omega) (sym1_ok h).1
theorem at_ok (d : Nat) : ∀ {n : Nat}, (OSt.at_ (n + d)).ok = true → (OSt.at_ n).ok = true := by
  induction d with
  | zero => intro n h; exact h
  | succ d ih =>
    intro n h
    rw [show n + (d + 1) = (n + d) + 1 by omega, at_next] at h
    have := inner_ok (s := 0) 257 (by omega) h
    exact ih this
/-- A symbol is put where there is room for it. -/
theorem pos_room {n s : Nat} (hn : n < 31) (hs : s < 257) (h : lensN.getD s 0 = n) : (OSt.inner n s (OSt.begin n (OSt.at_ n))).pos < 257 := by
  have h31 : (OSt.at_ 31).ok = true := by rw [open_end]
  obtain ⟨d, hd⟩ : ∃ d, 31 = (n + 1) + d := ⟨30 - n, by omega⟩
  rw [hd] at h31
  have h1 := at_ok d h31
  rw [at_next] at h1
  obtain ⟨d', hd'⟩ : ∃ d', 257 = (s + 1) + d' := ⟨256 - s, by omega⟩
  have h2 := inner_ok (s := s + 1) d' (by omega) (by rw [← hd']; exact h1)
  rw [inner_next _ _ hs] at h2
  exact (sym1_ok h2).2 h
/-- The rows' lengths stay. -/
structure OSt.Wf (st : OSt) : Prop where
  codes : st.codes.length = 257
  first : st.first.length = 31
  frm : st.frm.length = 31
  sym : st.sym.length = 257
  code : st.code < 4294967296
theorem OSt.Wf.sym1 {n : Nat} {st : OSt} (h : st.Wf) (x : Nat × Nat) : (OSt.sym1 n st x).Wf := by
  unfold OSt.sym1
  split
  · exact ⟨by simp [h.codes], h.first, h.frm, by simp [h.sym], Nat.mod_lt _ (by decide)⟩
  · exact h
theorem OSt.Wf.inner {n : Nat} {st : OSt} (h : st.Wf) : ∀ {s : Nat}, s ≤ 257 → (OSt.inner n s st).Wf := by
  intro s
  induction s with
  | zero => intro _; exact h
  | succ s ih => intro hs; rw [inner_next n st (by omega)]; exact (ih (by omega)).sym1 _
theorem OSt.Wf.begin {st : OSt} (h : st.Wf) (n : Nat) : (OSt.begin n st).Wf := ⟨h.codes, by simp [OSt.begin, h.first], by simp [OSt.begin, h.frm], h.sym, Nat.mod_lt _ (by decide)⟩
theorem OSt.Wf.at_ (n : Nat) : (OSt.at_ n).Wf := by
  induction n with
  | zero => exact ⟨by decide +kernel, by decide +kernel, by decide +kernel, by decide +kernel, by decide⟩
  | succ n ih => rw [at_next]; exact (ih.begin n).inner (Nat.le_refl _)
theorem OSt.Wf.zero : OSt.zero.Wf := OSt.Wf.at_ 0
theorem pos_le {n s : Nat} (hs : s ≤ 257) (st : OSt) : (OSt.inner n s st).pos ≤ st.pos + s := by
  induction s with
  | zero => exact Nat.le_refl _
  | succ s ih =>
    rw [inner_next n st (by omega), OSt.sym1]
    have := ih (by omega)
    split <;> simp <;> omega
theorem hpos_at (n : Nat) : (OSt.at_ n).pos ≤ 257 * n := by
  induction n with
  | zero => exact Nat.le_refl _
  | succ n ih => rw [at_next]; have := pos_le (n := n) (Nat.le_refl 257) (OSt.begin n (OSt.at_ n)); simp [OSt.begin] at this ⊢; omega

/-- The block of the book: its fields one behind the other. -/
def blk (m : List Nat) (st : OSt) : List Value :=
  lensN.map (fun n : Nat => Value.int .u8 (n : Int)) ++ (st.codes.map (fun n : Nat => Value.int .u32 (n : Int)) ++ (st.first.map (fun n : Nat => Value.int .u32 (n : Int)) ++ (m.map (fun n : Nat => Value.int .i64 (n : Int)) ++
    (st.frm.map (fun n : Nat => Value.int .i64 (n : Int)) ++ st.sym.map (fun n : Nat => Value.int .i64 (n : Int))))))
section
variable {m : List Nat} {st : OSt} (hm : m.length = 31) (h : st.Wf)
include hm h
theorem blk_length : (blk m st).length = 864 := by simp [blk, tab_lengths.1, h.codes, h.first, hm, h.frm, h.sym]
omit hm h in
theorem blk_size {i : Nat} (hi : i < 257) : (blk m st)[i]? = some (.int .u8 ((lensN.getD i 0 : Nat) : Int)) := by
  have hl : i < lensN.length := by rw [tab_lengths.1]; exact hi
  unfold blk
  rw [List.getElem?_append_left (by simpa using hl), List.getElem?_map, List.getElem?_eq_getElem hl]
  simp [List.getD, List.getElem?_eq_getElem hl]
omit hm in
theorem blk_code {i : Nat} (hi : i < 257) : (blk m st)[257 + i]? = some (.int .u32 ((st.codes.getD i 0 : Nat) : Int)) := by
  have hl : i < st.codes.length := by rw [h.codes]; exact hi
  unfold blk
  rw [List.getElem?_append_right (by simp [tab_lengths.1]), List.getElem?_append_left (by simp [tab_lengths.1, h.codes]; omega), List.getElem?_map]
  simp [tab_lengths.1, List.getD, List.getElem?_eq_getElem hl]
omit hm in
theorem blk_first {i : Nat} (hi : i < 31) : (blk m st)[514 + i]? = some (.int .u32 ((st.first.getD i 0 : Nat) : Int)) := by
  have hl : i < st.first.length := by rw [h.first]; exact hi
  unfold blk
  rw [List.getElem?_append_right (by simp [tab_lengths.1]; omega), List.getElem?_append_right (by simp [tab_lengths.1, h.codes]; omega), List.getElem?_append_left (by simp [tab_lengths.1, h.codes, h.first]; omega), List.getElem?_map]
  simp [tab_lengths.1, h.codes, List.getD, show 514 + i - 257 - 257 = i by omega, List.getElem?_eq_getElem hl]
theorem blk_many {i : Nat} (hi : i < 31) : (blk m st)[545 + i]? = some (.int .i64 ((m.getD i 0 : Nat) : Int)) := by
  have hl : i < m.length := by rw [hm]; exact hi
  unfold blk
  rw [List.getElem?_append_right (by simp [tab_lengths.1]; omega), List.getElem?_append_right (by simp [tab_lengths.1, h.codes]; omega), List.getElem?_append_right (by simp [tab_lengths.1, h.codes, h.first]; omega),
    List.getElem?_append_left (by simp [tab_lengths.1, h.codes, h.first, hm]; omega), List.getElem?_map]
  simp [tab_lengths.1, h.codes, h.first, List.getD, show 545 + i - 257 - 257 - 31 = i by omega, List.getElem?_eq_getElem hl]
theorem blk_from {i : Nat} (hi : i < 31) : (blk m st)[576 + i]? = some (.int .i64 ((st.frm.getD i 0 : Nat) : Int)) := by
  have hl : i < st.frm.length := by rw [h.frm]; exact hi
  unfold blk
  rw [List.getElem?_append_right (by simp [tab_lengths.1]; omega), List.getElem?_append_right (by simp [tab_lengths.1, h.codes]; omega), List.getElem?_append_right (by simp [tab_lengths.1, h.codes, h.first]; omega),
    List.getElem?_append_right (by simp [tab_lengths.1, h.codes, h.first, hm]; omega), List.getElem?_append_left (by simp [tab_lengths.1, h.codes, h.first, hm, h.frm]; omega), List.getElem?_map]
  simp [tab_lengths.1, h.codes, h.first, hm, List.getD, show 576 + i - 257 - 257 - 31 - 31 = i by omega, List.getElem?_eq_getElem hl]
theorem blk_sym {i : Nat} (hi : i < 257) : (blk m st)[607 + i]? = some (.int .i64 ((st.sym.getD i 0 : Nat) : Int)) := by
  have hl : i < st.sym.length := by rw [h.sym]; exact hi
  unfold blk
  rw [List.getElem?_append_right (by simp [tab_lengths.1]; omega), List.getElem?_append_right (by simp [tab_lengths.1, h.codes]; omega), List.getElem?_append_right (by simp [tab_lengths.1, h.codes, h.first]; omega),
    List.getElem?_append_right (by simp [tab_lengths.1, h.codes, h.first, hm]; omega), List.getElem?_append_right (by simp [tab_lengths.1, h.codes, h.first, hm, h.frm]; omega), List.getElem?_map]
  simp [tab_lengths.1, h.codes, h.first, hm, h.frm, List.getD, show 607 + i - 257 - 257 - 31 - 31 - 31 = i by omega, List.getElem?_eq_getElem hl]
theorem set_many {i : Nat} (hi : i < 31) (x : Nat) : (blk m st).set (545 + i) (.int .i64 (x : Int)) = blk (m.set i x) st := by
  unfold blk
  rw [List.set_append_right _ _ (by simp [tab_lengths.1]; omega), List.set_append_right _ _ (by simp [tab_lengths.1, h.codes]; omega), List.set_append_right _ _ (by simp [tab_lengths.1, h.codes, h.first]; omega),
    List.set_append_left _ _ (by simp [tab_lengths.1, h.codes, h.first, hm]; omega), List.map_set]
  simp [tab_lengths.1, h.codes, h.first, show 545 + i - 257 - 257 - 31 = i by omega]
omit hm in
theorem set_first {i : Nat} (hi : i < 31) (x : Nat) : (blk m st).set (514 + i) (.int .u32 (x : Int)) = blk m { st with first := st.first.set i x } := by
  unfold blk
  rw [List.set_append_right _ _ (by simp [tab_lengths.1]; omega), List.set_append_right _ _ (by simp [tab_lengths.1, h.codes]; omega), List.set_append_left _ _ (by simp [tab_lengths.1, h.codes, h.first]; omega), List.map_set]
  simp [tab_lengths.1, h.codes, show 514 + i - 257 - 257 = i by omega]
theorem set_frm {i : Nat} (hi : i < 31) (x : Nat) : (blk m st).set (576 + i) (.int .i64 (x : Int)) = blk m { st with frm := st.frm.set i x } := by
  unfold blk
  rw [List.set_append_right _ _ (by simp [tab_lengths.1]; omega), List.set_append_right _ _ (by simp [tab_lengths.1, h.codes]; omega), List.set_append_right _ _ (by simp [tab_lengths.1, h.codes, h.first]; omega),
    List.set_append_right _ _ (by simp [tab_lengths.1, h.codes, h.first, hm]; omega), List.set_append_left _ _ (by simp [tab_lengths.1, h.codes, h.first, hm, h.frm]; omega), List.map_set]
  simp [tab_lengths.1, h.codes, h.first, hm, show 576 + i - 257 - 257 - 31 - 31 = i by omega]
omit hm in
theorem set_codes {i : Nat} (hi : i < 257) (x : Nat) : (blk m st).set (257 + i) (.int .u32 (x : Int)) = blk m { st with codes := st.codes.set i x } := by
  unfold blk
  rw [List.set_append_right _ _ (by simp [tab_lengths.1]), List.set_append_left _ _ (by simp [tab_lengths.1, h.codes]; omega), List.map_set]
  simp [tab_lengths.1]
theorem set_syms {i : Nat} (hi : i < 257) (x : Nat) : (blk m st).set (607 + i) (.int .i64 (x : Int)) = blk m { st with sym := st.sym.set i x } := by
  unfold blk
  rw [List.set_append_right _ _ (by simp [tab_lengths.1]; omega), List.set_append_right _ _ (by simp [tab_lengths.1, h.codes]; omega), List.set_append_right _ _ (by simp [tab_lengths.1, h.codes, h.first]; omega),
    List.set_append_right _ _ (by simp [tab_lengths.1, h.codes, h.first, hm]; omega), List.set_append_right _ _ (by simp [tab_lengths.1, h.codes, h.first, hm, h.frm]; omega), List.map_set]
  simp [tab_lengths.1, h.codes, h.first, hm, h.frm, show 607 + i - 257 - 257 - 31 - 31 - 31 = i by omega]
theorem set_begin {n : Nat} (hn : n < 31) : ((blk m st).set (514 + n) (.int .u32 ((st.code * 2 % 4294967296 : Nat) : Int))).set (576 + n) (.int .i64 (st.pos : Int)) = blk m (OSt.begin n st) := by
  rw [set_first h hn, set_frm hm (st := { st with first := st.first.set n (st.code * 2 % 4294967296) }) ⟨h.codes, by simp [h.first], h.frm, h.sym, h.code⟩ hn]
  rfl
theorem set_sym {n s : Nat} (hs : s < 257) (hp : st.pos < 257) (he : lensN.getD s 0 = n) :
    ((blk m st).set (607 + st.pos) (.int .i64 (s : Int))).set (257 + s) (.int .u32 (st.code : Int)) = blk m (OSt.sym1 n st (lensN.getD s 0, s)) := by
  rw [set_syms hm h hp, set_codes (st := { st with sym := st.sym.set st.pos s }) ⟨h.codes, h.first, h.frm, by simp [h.sym], h.code⟩ hs, OSt.sym1, if_pos he]
  rfl
end
end Go.Proofs.Ytfpcamkimjecdaa

/- How many bits and bytes a text needs, in plain Lean. No program in sight. -/
namespace Go.Proofs.Ytfpcamkimjecdaa
open Go.RowKit

def lenAt (c : UInt8) : Nat := lensN.getD c.toNat 0
/-- The bits of a text. -/
def nbits (l : List UInt8) : Nat := (l.map lenAt).sum
def nbytes (l : List UInt8) : Nat := (nbits l + 7) / 8
theorem nbits_append (l k : List UInt8) : nbits (l ++ k) = nbits l + nbits k := by simp [nbits]
theorem nbits_take {l : List UInt8} {k : Nat} (h : k < l.length) : nbits (l.take (k + 1)) = nbits (l.take k) + lensN.getD (ba l k) 0 := by
  rw [List.take_succ_eq_append_getElem h, nbits_append, ba_get h]
  simp [nbits, lenAt]
theorem nbits_le (l : List UInt8) : 5 * l.length ≤ nbits l ∧ nbits l ≤ 30 * l.length := by
  induction l with
  | nil => simp [nbits]
  | cons c t ih =>
    have h1 : lenAt c ≤ 30 := lens_le _
    have h2 : 5 ≤ lenAt c := lens_ge _ (by have := c.toNat_lt; omega)
    simp only [nbits, List.map_cons, List.sum_cons, List.length_cons] at ih ⊢
    omega
theorem nbits_28 (l : List UInt8) : nbits l ≤ 30 * l.length := (nbits_le l).2
/-- A byte of a string, as the walk finds it. -/
theorem get_ba (s : ByteArray) : ∀ (n : Nat) (h : n < s.size), ((s[n]'h).toNat : Int) = (ba s.data.toList n : Int) := by
  intro n h
  have hl : n < s.data.toList.length := by rw [Array.length_toList]; exact h
  rw [ba_get hl]
  rfl
theorem str_len (s : ByteArray) : s.data.toList.length = s.size := by rw [Array.length_toList]; rfl
end Go.Proofs.Ytfpcamkimjecdaa

/- The bits of a text as a number, and its bytes, in plain Lean. No program in sight. -/
namespace Go.Proofs.Ytfpcamkimjecdaa
open Go.RowKit

def codeAt (c : UInt8) : Nat := codeT.getD c.toNat 0
/-- The bits of a text, as one number. -/
def vbits (l : List UInt8) : Nat := l.foldl (fun v c => v * 2 ^ lenAt c + codeAt c) 0
/-- The m lowest bytes of a number, the highest first. -/
def dig : Nat → Nat → List UInt8
  | 0, _ => []
  | m + 1, x => dig m (x / 256) ++ [UInt8.ofNat (x % 256)]
def encB (l : List UInt8) : List UInt8 :=
  if nbits l % 8 = 0 then dig (nbits l / 8) (vbits l) else dig (nbits l / 8 + 1) (vbits l * 2 ^ (8 - nbits l % 8) + (2 ^ (8 - nbits l % 8) - 1))
theorem dig_length (m x : Nat) : (dig m x).length = m := by
  induction m generalizing x with
  | zero => rfl
  | succ m ih => simp [dig, ih]
theorem encB_length (l : List UInt8) : (encB l).length = nbytes l := by
  unfold encB nbytes
  split
  · rw [dig_length]; omega
  · rw [dig_length]; omega
theorem vbits_take {l : List UInt8} {k : Nat} (h : k < l.length) : vbits (l.take (k + 1)) = vbits (l.take k) * 2 ^ lensN.getD (ba l k) 0 + codeT.getD (ba l k) 0 := by
  rw [List.take_succ_eq_append_getElem h, ba_get h]
  unfold vbits
  rw [List.foldl_append, List.foldl_cons, List.foldl_nil, lenAt, codeAt]
theorem code_fits : ∀ i < 257, codeT.getD i 0 < 2 ^ lensN.getD i 0 := by decide +kernel

/-- The greatest number of 64 bits and one. -/
def M64 : Nat := 18446744073709551616
theorem M64_eq : M64 = 2 ^ 64 := by decide
theorem wrap_u64 (x : Nat) : IntKind.u64.wrap (x : Int) = ((x % M64 : Nat) : Int) := by
  show IntKind.u64.wrap (x : Int) = ((x % 18446744073709551616 : Nat) : Int)
  rw [IntKind.wrap_u64]; omega
theorem mod_M64_lt (x : Nat) : x % M64 < M64 := Nat.mod_lt _ (by decide)
/-- 'have<<n | code'. -/
theorem or_code {v n c : Nat} (hn : n ≤ 30) (hc : c < 2 ^ n) : Go.bits .or .u64 ((v % M64 * 2 ^ n % M64 : Nat) : Int) (c : Int) = (((v * 2 ^ n + c) % M64 : Nat) : Int) := by
  have hp : 2 ^ n ≤ 2 ^ 30 := Nat.pow_le_pow_right (by omega) hn
  have e1 : v % M64 * 2 ^ n % M64 = v * 2 ^ n % M64 := by rw [Nat.mod_mul_mod]
  obtain ⟨d, hd⟩ : ∃ d, 64 = n + d := ⟨64 - n, by omega⟩
  have e2 : v * 2 ^ n % M64 = (v % 2 ^ d) * 2 ^ n := by
    rw [M64_eq, hd, Nat.pow_add, Nat.mul_comm (2 ^ n) (2 ^ d), Nat.mul_mod_mul_right]
  have hz : v * 2 ^ n % M64 % 2 ^ n = 0 := by rw [e2]; exact Nat.mul_mod_left _ _
  have hlt : v * 2 ^ n % M64 + c < M64 := by
    rw [e2]
    have h1 : v % 2 ^ d < 2 ^ d := Nat.mod_lt _ (Nat.pow_pos (by decide))
    have h2 : (v % 2 ^ d + 1) * 2 ^ n ≤ 2 ^ d * 2 ^ n := Nat.mul_le_mul_right _ h1
    rw [Nat.add_mul, Nat.one_mul] at h2
    have h3 : 2 ^ d * 2 ^ n = M64 := by rw [← Nat.pow_add, Nat.add_comm, ← hd, M64_eq]
    omega
  have hM : M64 = 18446744073709551616 := rfl
  rw [e1, u64_or_nat _ _ (by rw [← hM]; exact mod_M64_lt _) (by omega), nat_join n _ _ hz hc]
  congr 1
  rw [Nat.add_mod, Nat.mod_eq_of_lt (show c < M64 by rw [hM]; omega), Nat.mod_eq_of_lt hlt]
/-- A byte out of the middle of what is kept of a number. -/
theorem mid_byte (v b : Nat) (hb : b + 8 ≤ 64) : v % M64 / 2 ^ b % 256 = v / 2 ^ b % 256 := by
  obtain ⟨d, hd⟩ : ∃ d, 64 = b + (8 + d) := ⟨64 - b - 8, by omega⟩
  rw [M64_eq, hd, Nat.pow_add, Nat.mod_mul_right_div_self, Nat.pow_add, show (2 : Nat) ^ 8 = 256 from rfl, Nat.mod_mul_right_mod]
theorem dig_step (m v b : Nat) : dig (m + 1) (v / 2 ^ b) = dig m (v / 2 ^ (b + 8)) ++ [UInt8.ofNat (v / 2 ^ b % 256)] := by
  rw [dig, Nat.div_div_eq_div_mul, Nat.pow_add]
theorem dig_char (m v n c r : Nat) (hc : c < 2 ^ n) : dig m ((v * 2 ^ n + c) / 2 ^ (r + n)) = dig m (v / 2 ^ r) := by
  rw [Nat.add_comm r n, Nat.pow_add, ← Nat.div_div_eq_div_mul, Nat.mul_comm v, Nat.mul_add_div (Nat.pow_pos (by decide)), Nat.div_eq_of_lt hc, Nat.add_zero]
/-- The last byte, filled up with ones. -/
theorem dig_last (m v r : Nat) (hr : 0 < r) (hr8 : r < 8) : dig (m + 1) (v * 2 ^ (8 - r) + (2 ^ (8 - r) - 1)) = dig m (v / 2 ^ r) ++ [UInt8.ofNat (v * 2 ^ (8 - r) % 256 + (2 ^ (8 - r) - 1))] := by
  obtain ⟨p, hp⟩ : ∃ p, p = 8 - r := ⟨_, rfl⟩
  have h256 : 256 = 2 ^ p * 2 ^ r := by rw [← Nat.pow_add, hp, show 8 - r + r = 8 by omega]
  have hpos : 0 < 2 ^ p := Nat.pow_pos (by decide)
  rw [← hp, dig]
  congr 1
  · congr 1
    rw [h256, ← Nat.div_div_eq_div_mul, Nat.mul_comm v, Nat.mul_add_div hpos, Nat.div_eq_of_lt (show 2 ^ p - 1 < 2 ^ p by omega), Nat.add_zero]
  · congr 2
    have h1 : v * 2 ^ p % 256 = v % 2 ^ r * 2 ^ p := by rw [h256, Nat.mul_comm (2 ^ p), Nat.mul_mod_mul_right]
    have h2 : v * 2 ^ p % 256 + (2 ^ p - 1) < 256 := by
      rw [h1]
      have : (v % 2 ^ r + 1) * 2 ^ p ≤ 2 ^ r * 2 ^ p := Nat.mul_le_mul_right _ (Nat.mod_lt _ (Nat.pow_pos (by decide)))
      rw [Nat.add_mul, Nat.one_mul, Nat.mul_comm (2 ^ r), ← h256] at this
      omega
    rw [Nat.add_mod, Nat.mod_eq_of_lt (show 2 ^ p - 1 < 256 by omega), Nat.mod_eq_of_lt h2]
theorem last_or : ∀ r < 8, 0 < r → ∀ x < 2 ^ r, x * 2 ^ (8 - r) ||| (255 / 2 ^ r) = x * 2 ^ (8 - r) + (2 ^ (8 - r) - 1) := by decide +kernel
/-- The row that fills up: T bits of the number V are in it, it has N bytes. -/
def fill (N T V : Nat) : List UInt8 := dig (T / 8) (V / 2 ^ (T % 8)) ++ List.replicate (N - T / 8) 0
theorem fill_length {N T : Nat} (V : Nat) (h : T / 8 ≤ N) : (fill N T V).length = N := by simp [fill, dig_length]; omega
theorem fill_zero (N : Nat) : fill N 0 0 = List.replicate N 0 := by simp [fill, dig]
/-- A bit that ends no byte. -/
theorem fill_bit {N T V b : Nat} (hb : b < 2) (h : T % 8 < 7) : fill N (T + 1) (2 * V + b) = fill N T V ∧ (2 * V + b) % 2 ^ ((T + 1) % 8) = V % 2 ^ (T % 8) * 2 + b := by
  have h1 : (T + 1) % 8 = T % 8 + 1 := by omega
  have h2 : (T + 1) / 8 = T / 8 := by omega
  have h3 : (2 * V + b) / 2 ^ (T % 8 + 1) = V / 2 ^ (T % 8) := by
    rw [Nat.pow_succ, Nat.mul_comm (2 ^ (T % 8)) 2, ← Nat.div_div_eq_div_mul, show (2 * V + b) / 2 = V by omega]
  refine ⟨by rw [fill, fill, h1, h2, h3], ?_⟩
  rw [h1, Nat.pow_succ, Nat.mul_comm (2 ^ (T % 8)) 2, Nat.mod_mul]
  rw [show (2 * V + b) % 2 = b by omega, show (2 * V + b) / 2 = V by omega]
  omega
/-- A bit that ends a byte. -/
theorem fill_byte {N T V b : Nat} (hb : b < 2) (h : T % 8 = 7) (hN : T / 8 < N) :
    fill N (T + 1) (2 * V + b) = (fill N T V).set (T / 8) (UInt8.ofNat (V % 2 ^ (T % 8) * 2 + b)) ∧ (2 * V + b) % 2 ^ ((T + 1) % 8) = 0 ∧ V % 2 ^ (T % 8) * 2 + b < 256 := by
  have h1 : (T + 1) % 8 = 0 := by omega
  have h2 : (T + 1) / 8 = T / 8 + 1 := by omega
  have h3 : (2 * V + b) / 256 = V / 2 ^ 7 := by rw [show (2 : Nat) ^ 7 = 128 from rfl]; omega
  have h4 : (2 * V + b) % 256 = V % 2 ^ 7 * 2 + b := by rw [show (2 : Nat) ^ 7 = 128 from rfl]; omega
  refine ⟨?_, by rw [h1]; exact Nat.mod_one _, by rw [h, show (2 : Nat) ^ 7 = 128 from rfl]; omega⟩
  rw [fill, fill, h1, h2, h, Nat.pow_zero, Nat.div_one, dig, h3, h4, List.set_append_right _ _ (by rw [dig_length]; exact Nat.le_refl _), dig_length, Nat.sub_self]
  obtain ⟨d, hd⟩ : ∃ d, N - T / 8 = d + 1 := ⟨N - T / 8 - 1, by omega⟩
  rw [hd, show N - (T / 8 + 1) = d by omega, List.replicate_succ, List.set_cons_zero, List.append_assoc]
  rfl
/-- One bit more of a code. -/
theorem bit_next (V n c j : Nat) (hj : j < n) : 2 * (V * 2 ^ (n - (j + 1)) + c / 2 ^ (j + 1)) + c / 2 ^ j % 2 = V * 2 ^ (n - j) + c / 2 ^ j := by
  have h1 : n - j = n - (j + 1) + 1 := by omega
  have h2 : c / 2 ^ (j + 1) = c / 2 ^ j / 2 := by rw [Nat.pow_succ, Nat.div_div_eq_div_mul]
  rw [h1, h2, Nat.pow_succ, ← Nat.mul_assoc]
  omega
theorem nbits_take_le (l : List UInt8) (k : Nat) : nbits (l.take k) ≤ nbits l := by
  have := nbits_append (l.take k) (l.drop k)
  rw [List.take_append_drop] at this
  omega
theorem and_one32 (x : Nat) (hx : x < 4294967296) : Go.bits .and .u32 (x : Int) 1 = ((x % 2 : Nat) : Int) := by
  rw [show (1 : Int) = ((1 : Nat) : Int) from rfl, u32_and_nat _ _ (by omega) (by omega), nat_mask1]
/-- Filled up with ones. -/
theorem fill_end (l : List UInt8) (p : Nat) (hp : (nbits l + p) % 8 = 0) (hp8 : p < 8) : fill (nbytes l) (nbits l + p) (vbits l * 2 ^ p + (2 ^ p - 1)) = encB l := by
  unfold encB
  rw [fill, hp, Nat.pow_zero, Nat.div_one]
  have hN : nbytes l - (nbits l + p) / 8 = 0 := by unfold nbytes; omega
  rw [hN, List.replicate_zero, List.append_nil]
  by_cases h0 : nbits l % 8 = 0
  · obtain rfl : p = 0 := by omega
    rw [if_pos h0]; simp
  · rw [if_neg h0, show (nbits l + p) / 8 = nbits l / 8 + 1 by omega, show 8 - nbits l % 8 = p by omega]
theorem last_byte {v r p : Nat} (hr : 0 < r) (hr8 : r < 8) (hp : p = 8 - r) : v % M64 * 2 ^ p % M64 % 256 ||| 255 / 2 ^ r = v * 2 ^ p % 256 + (2 ^ p - 1) ∧ v % M64 * 2 ^ p % M64 % 256 ||| 255 / 2 ^ r < 256 := by
  have e1 : v % M64 * 2 ^ p % M64 % 256 = v * 2 ^ p % 256 := by
    rw [Nat.mod_mul_mod]
    exact Nat.mod_mod_of_dvd _ ⟨72057594037927936, by decide⟩
  have h256 : 256 = 2 ^ p * 2 ^ r := by rw [← Nat.pow_add, hp, show 8 - r + r = 8 by omega]
  have e2 : v * 2 ^ p % 256 = v % 2 ^ r * 2 ^ p := by rw [h256, Nat.mul_comm (2 ^ p), Nat.mul_mod_mul_right]
  have h := last_or r hr8 hr (v % 2 ^ r) (Nat.mod_lt _ (Nat.pow_pos (by decide)))
  rw [← hp] at h
  rw [e1, e2, h]
  refine ⟨rfl, ?_⟩
  have hpos : 0 < 2 ^ p := Nat.pow_pos (by decide)
  have : (v % 2 ^ r + 1) * 2 ^ p ≤ 2 ^ r * 2 ^ p := Nat.mul_le_mul_right _ (Nat.mod_lt _ (Nat.pow_pos (by decide)))
  rw [Nat.add_mul, Nat.one_mul, Nat.mul_comm (2 ^ r), ← h256] at this
  omega
end Go.Proofs.Ytfpcamkimjecdaa

/- How a text is read back from its bits, in plain Lean. No program in sight. -/
namespace Go.Proofs.Ytfpcamkimjecdaa
open Go.RowKit

/-- Bit i of a row of bytes, the highest of each byte first. -/
def bitAt (l : List UInt8) (i : Nat) : Nat := ba l (i / 8) / 2 ^ (7 - i % 8) % 2
def bitsB (l : List UInt8) : List Nat := (List.range (8 * l.length)).map (bitAt l)
theorem bitsB_length (l : List UInt8) : (bitsB l).length = 8 * l.length := by simp [bitsB]
theorem bitsB_drop {l : List UInt8} {i : Nat} (h : i < 8 * l.length) : (bitsB l).drop i = bitAt l i :: (bitsB l).drop (i + 1) := by
  rw [List.drop_eq_getElem_cons (by rw [bitsB_length]; exact h)]
  simp [bitsB]
theorem bitAt_lt (l : List UInt8) (i : Nat) : bitAt l i < 2 := Nat.mod_lt _ (by decide)

/-- Do n bits make a code? -/
def hitB (c n : Nat) : Bool := decide (firstT.getD n 0 ≤ c) && decide (c - firstT.getD n 0 < manyT.getD n 0)
def symAt (c n : Nat) : Nat := symT.getD (fromT.getD n 0 + (c - firstT.getD n 0)) 0
/-- Reading on: the bits since the last symbol, how many, whether all are ones; the text so far; the bits to come. -/
def decGo (c n : Nat) (ones : Bool) (out : List UInt8) : List Nat → Option (List UInt8)
  | [] => if 7 < n ∨ ones = false then none else some out
  | b :: t =>
    if hitB (2 * c + b) (n + 1) then
      if symAt (2 * c + b) (n + 1) = 256 then none else decGo 0 0 true (out ++ [UInt8.ofNat (symAt (2 * c + b) (n + 1))]) t
    else decGo (2 * c + b) (n + 1) (ones && (b == 1)) out t
def decB (l : List UInt8) : Option (List UInt8) := decGo 0 0 true [] (bitsB l)

/-- No code yet. -/
structure Mid (c n : Nat) : Prop where
  le : n ≤ 29
  lo : firstT.getD n 0 + manyT.getD n 0 ≤ c
  hi : c < 2 ^ n
theorem first_next : ∀ n < 30, firstT.getD (n + 1) 0 = 2 * (firstT.getD n 0 + manyT.getD n 0) := by decide +kernel
theorem first_last : firstT.getD 30 0 + manyT.getD 30 0 = 2 ^ 30 := by decide +kernel
theorem from_room : ∀ n < 31, fromT.getD n 0 + manyT.getD n 0 ≤ 257 := by decide +kernel
theorem Mid.zero : Mid 0 0 := ⟨by omega, by decide +kernel, by decide⟩
theorem Mid.ge {c n b : Nat} (h : Mid c n) : firstT.getD (n + 1) 0 ≤ 2 * c + b := by
  have := first_next n (by have := h.le; omega)
  have := h.lo
  omega
theorem Mid.lt {c n b : Nat} (h : Mid c n) (hb : b < 2) : 2 * c + b < 2 ^ (n + 1) := by
  have := h.hi
  rw [Nat.pow_succ]; omega
theorem Mid.hit {c n b : Nat} (h : Mid c n) : hitB (2 * c + b) (n + 1) = decide (2 * c + b - firstT.getD (n + 1) 0 < manyT.getD (n + 1) 0) := by
  unfold hitB
  rw [decide_eq_true (h.ge (b := b)), Bool.true_and]
theorem Mid.next {c n b : Nat} (h : Mid c n) (hb : b < 2) (hm : manyT.getD (n + 1) 0 ≤ 2 * c + b - firstT.getD (n + 1) 0) : Mid (2 * c + b) (n + 1) := by
  have hge := h.ge (b := b)
  have hlt := h.lt hb
  refine ⟨?_, by omega, hlt⟩
  rcases Nat.lt_or_ge n 29 with h29 | h29
  · omega
  · have : n = 29 := by have := h.le; omega
    subst this
    have : firstT.getD (29 + 1) 0 + manyT.getD (29 + 1) 0 = 2 ^ (29 + 1) := first_last
    omega
theorem Mid.pow30 {c n : Nat} (h : Mid c n) : c < 536870912 := Nat.lt_of_lt_of_le h.hi (Nat.pow_le_pow_right (by omega) h.le : 2 ^ n ≤ 2 ^ 29)
theorem Mid.room {c n b : Nat} (h : Mid c n) (hm : 2 * c + b - firstT.getD (n + 1) 0 < manyT.getD (n + 1) 0) : fromT.getD (n + 1) 0 + (2 * c + b - firstT.getD (n + 1) 0) < 257 := by
  have := from_room (n + 1) (by have := h.le; omega)
  omega
theorem sym_le : ∀ i, symT.getD i 0 ≤ 256 := by
  intro i
  rcases Nat.lt_or_ge i 257 with h | h
  · have : ∀ i < 257, symT.getD i 0 ≤ 256 := by decide +kernel
    exact this i h
  · rw [List.getD, List.getElem?_eq_none (by rw [tab_lengths.2.2.2.2.2]; exact h)]; decide
/-- 'code<<1 | bit'. -/
theorem or_bit {c b : Nat} (hc : c < 536870912) (hb : b < 2) : Go.bits .or .u32 ((c : Int) * 2) (b : Int) = ((2 * c + b : Nat) : Int) := by
  rw [show ((c : Int) * 2) = ((2 * c : Nat) : Int) by omega, u32_or_nat _ _ (by omega) (by omega), nat_join 1 (2 * c) b (by omega) (by omega)]
/-- The walk's spelling of a bit of a byte. -/
theorem and_one (x : Nat) (hx : x < 256) : Go.bits .and .u32 (x : Int) 1 = ((x % 2 : Nat) : Int) := by
  rw [show (1 : Int) = ((1 : Nat) : Int) from rfl, u32_and_nat _ _ (by omega) (by omega), nat_mask1]
end Go.Proofs.Ytfpcamkimjecdaa

/- What is encoded is decoded as it was, and the other way round, in plain Lean. No program in sight. -/
namespace Go.Proofs.Ytfpcamkimjecdaa
open Go.RowKit

/-- The n lowest bits of a number, the highest first. -/
def nb : Nat → Nat → List Nat
  | 0, _ => []
  | n + 1, v => nb n (v / 2) ++ [v % 2]
theorem nb_length (n v : Nat) : (nb n v).length = n := by
  induction n generalizing v with
  | zero => rfl
  | succ n ih => simp [nb, ih]
theorem nb_lt (n v : Nat) : ∀ b ∈ nb n v, b < 2 := by
  induction n generalizing v with
  | zero => simp [nb]
  | succ n ih =>
    intro b hb
    rw [nb, List.mem_append, List.mem_singleton] at hb
    rcases hb with h | h
    · exact ih _ b h
    · omega
theorem nb_join (m v n c : Nat) (hc : c < 2 ^ n) : nb (m + n) (v * 2 ^ n + c) = nb m v ++ nb n c := by
  induction n generalizing c with
  | zero => simp at hc; subst hc; simp [nb]
  | succ n ih =>
    have h1 : (v * 2 ^ (n + 1) + c) / 2 = v * 2 ^ n + c / 2 := by rw [Nat.pow_succ, ← Nat.mul_assoc]; omega
    have h2 : (v * 2 ^ (n + 1) + c) % 2 = c % 2 := by rw [Nat.pow_succ, ← Nat.mul_assoc]; omega
    rw [← Nat.add_assoc, nb, h1, h2, ih (c / 2) (by rw [Nat.pow_succ] at hc; omega), nb, List.append_assoc]
theorem nb_snoc (n c b : Nat) (hb : b < 2) : nb (n + 1) (2 * c + b) = nb n c ++ [b] := by
  rw [nb, show (2 * c + b) / 2 = c by omega, show (2 * c + b) % 2 = b by omega]
theorem nb_ones (n : Nat) : nb n (2 ^ n - 1) = List.replicate n 1 := by
  induction n with
  | zero => rfl
  | succ n ih =>
    have hp : 0 < 2 ^ n := Nat.pow_pos (by decide)
    rw [nb, Nat.pow_succ, show (2 ^ n * 2 - 1) / 2 = 2 ^ n - 1 by omega, show (2 ^ n * 2 - 1) % 2 = 1 by omega, ih, List.replicate_succ']
theorem nb_inj (n : Nat) : ∀ v w, v < 2 ^ n → w < 2 ^ n → nb n v = nb n w → v = w := by
  induction n with
  | zero => intro v w hv hw _; simp at hv hw; omega
  | succ n ih =>
    intro v w hv hw h
    rw [nb, nb] at h
    have h1 := List.append_inj' h rfl
    have h2 := ih (v / 2) (w / 2) (by rw [Nat.pow_succ] at hv; omega) (by rw [Nat.pow_succ] at hw; omega) h1.1
    have h3 : v % 2 = w % 2 := by simpa using h1.2
    omega
theorem byte_bits : ∀ c < 256, nb 8 c = (List.range 8).map fun i => c / 2 ^ (7 - i) % 2 := by decide +kernel
theorem bitsB_append (l k : List UInt8) : bitsB (l ++ k) = bitsB l ++ bitsB k := by
  unfold bitsB
  rw [List.length_append, Nat.mul_add, List.range_add, List.map_append, List.map_map]
  congr 1
  · apply List.map_congr_left
    intro i hi
    rw [List.mem_range] at hi
    unfold bitAt ba
    rw [List.getD, List.getD, List.getElem?_append_left (by omega)]
  · apply List.map_congr_left
    intro i hi
    show bitAt (l ++ k) (8 * l.length + i) = bitAt k i
    unfold bitAt ba
    rw [show (8 * l.length + i) / 8 = l.length + i / 8 by omega, show (8 * l.length + i) % 8 = i % 8 by omega, List.getD, List.getD, List.getElem?_append_right (by omega), Nat.add_sub_cancel_left]
theorem bitsB_one (c : UInt8) : bitsB [c] = nb 8 c.toNat := by
  rw [byte_bits _ c.toNat_lt]
  unfold bitsB
  apply List.map_congr_left
  intro i hi
  rw [List.mem_range] at hi
  simp at hi
  unfold bitAt ba
  rw [show i / 8 = 0 by omega, show i % 8 = i by omega]
  rfl
theorem bitsB_cons (c : UInt8) (l : List UInt8) : bitsB (c :: l) = nb 8 c.toNat ++ bitsB l := by
  rw [show c :: l = [c] ++ l from rfl, bitsB_append, bitsB_one]
theorem bitsB_inj : ∀ l k : List UInt8, bitsB l = bitsB k → l = k
  | [], k, h => by
    have := congrArg List.length h
    rw [bitsB_length, bitsB_length] at this
    simp at this
    exact (List.eq_nil_of_length_eq_zero (show k.length = 0 by omega)).symm
  | c :: l, [], h => by
    have := congrArg List.length h
    rw [bitsB_length, bitsB_length] at this
    simp at this
  | c :: l, d :: k, h => by
    rw [bitsB_cons, bitsB_cons] at h
    have h1 := List.append_inj h (by rw [nb_length, nb_length])
    have h2 := nb_inj 8 _ _ c.toNat_lt d.toNat_lt h1.1
    rw [UInt8.toNat_inj.1 h2, bitsB_inj l k h1.2]
theorem bitsB_dig (m x : Nat) : bitsB (dig m x) = nb (8 * m) x := by
  induction m generalizing x with
  | zero => rfl
  | succ m ih =>
    have h : x = (x / 256) * 2 ^ 8 + x % 256 := by rw [show (2 : Nat) ^ 8 = 256 from rfl]; omega
    rw [dig, bitsB_append, ih, bitsB_one, toNat_ofNat (by omega), show 8 * (m + 1) = 8 * m + 8 by omega]
    conv => rhs; rw [h]
    rw [nb_join _ _ 8 _ (by rw [show (2 : Nat) ^ 8 = 256 from rfl]; omega)]

/-- The bits of a text. -/
def encBits (l : List UInt8) : List Nat := l.flatMap fun c => nb (lenAt c) (codeAt c)
theorem encBits_append (l k : List UInt8) : encBits (l ++ k) = encBits l ++ encBits k := by simp [encBits]
theorem encBits_one (c : UInt8) : encBits [c] = nb (lenAt c) (codeAt c) := by simp [encBits]
theorem encBits_go (l : List UInt8) : ∀ T v, nb (T + nbits l) (l.foldl (fun v c => v * 2 ^ lenAt c + codeAt c) v) = nb T v ++ encBits l := by
  induction l with
  | nil => intro T v; simp [nbits, encBits]
  | cons c l ih =>
    intro T v
    have hn : T + nbits (c :: l) = (T + lenAt c) + nbits l := by simp [nbits]; omega
    rw [hn, List.foldl_cons, ih, nb_join _ _ _ _ (show codeAt c < 2 ^ lenAt c from code_fits c.toNat (by have := c.toNat_lt; omega)), List.append_assoc]
    rfl
theorem encBits_eq (l : List UInt8) : nb (nbits l) (vbits l) = encBits l := by
  have := encBits_go l 0 0
  rw [Nat.zero_add] at this
  exact this
theorem encBits_length (l : List UInt8) : (encBits l).length = nbits l := by rw [← encBits_eq, nb_length]
/-- The bits of the bytes: the text's, then ones, fewer than eight. -/
theorem encB_bits (l : List UInt8) : ∃ p, p < 8 ∧ (p = 0 ↔ nbits l % 8 = 0) ∧ bitsB (encB l) = encBits l ++ List.replicate p 1 := by
  unfold encB
  by_cases h : nbits l % 8 = 0
  · refine ⟨0, by omega, by simp [h], ?_⟩
    rw [if_pos h, bitsB_dig, show 8 * (nbits l / 8) = nbits l by omega, encBits_eq, List.replicate_zero, List.append_nil]
  · refine ⟨8 - nbits l % 8, by omega, by omega, ?_⟩
    rw [if_neg h, bitsB_dig, show 8 * (nbits l / 8 + 1) = nbits l + (8 - nbits l % 8) by omega,
      nb_join _ _ _ _ (by have : 0 < 2 ^ (8 - nbits l % 8) := Nat.pow_pos (by decide); omega), encBits_eq, nb_ones]
theorem encB_unique {l k : List UInt8} {p : Nat} (hp : p < 8) (h : bitsB k = encBits l ++ List.replicate p 1) : encB l = k := by
  obtain ⟨q, hq, -, hb⟩ := encB_bits l
  have h1 := congrArg List.length h
  have h2 := congrArg List.length hb
  rw [bitsB_length, List.length_append, List.length_replicate] at h1 h2
  have : p = q := by omega
  subst this
  exact bitsB_inj _ _ (hb.trans h.symm)

/-- The bits of one symbol, walked. -/
def walkB (c n : Nat) : List Nat → Option Nat
  | [] => none
  | b :: t => if hitB (2 * c + b) (n + 1) then (match t with | [] => some (symAt (2 * c + b) (n + 1)) | _ => none) else walkB (2 * c + b) (n + 1) t
theorem walkB_go {s : Nat} (hs : s ≠ 256) (out : List UInt8) (rest : List Nat) : ∀ (L : List Nat) (c n : Nat) (ones : Bool), walkB c n L = some s → decGo c n ones out (L ++ rest) = decGo 0 0 true (out ++ [UInt8.ofNat s]) rest
  | [], c, n, ones, h => by simp [walkB] at h
  | b :: t, c, n, ones, h => by
    rw [List.cons_append, decGo]
    by_cases hh : hitB (2 * c + b) (n + 1) = true
    · rw [if_pos hh]
      cases t with
      | nil =>
        simp only [walkB, hh, if_true, Option.some.injEq] at h
        rw [h, if_neg hs, List.nil_append]
      | cons => simp [walkB, hh] at h
    · rw [if_neg hh]
      refine walkB_go hs out rest t _ _ _ ?_
      rw [← h]
      cases t <;> simp [walkB, hh]
theorem walk_sym : ∀ c < 256, walkB 0 0 (nb (lensN.getD c 0) (codeT.getD c 0)) = some c := by decide +kernel
theorem dec_char (c : UInt8) (out : List UInt8) (rest : List Nat) : decGo 0 0 true out (nb (lenAt c) (codeAt c) ++ rest) = decGo 0 0 true (out ++ [c]) rest := by
  have h := walk_sym c.toNat c.toNat_lt
  have hc := c.toNat_lt
  have := walkB_go (s := c.toNat) (by omega) out rest _ 0 0 true h
  rw [UInt8.ofNat_toNat] at this
  exact this
theorem dec_text (l : List UInt8) : ∀ (out : List UInt8) (rest : List Nat), decGo 0 0 true out (encBits l ++ rest) = decGo 0 0 true (out ++ l) rest := by
  induction l with
  | nil => intro out rest; simp [encBits]
  | cons c l ih =>
    intro out rest
    rw [show encBits (c :: l) = nb (lenAt c) (codeAt c) ++ encBits l from rfl, List.append_assoc, dec_char, ih, List.append_assoc]
    rfl
/-- Ones alone: up to fifteen of them are no code. -/
def noHit (c n : Nat) : List Nat → Bool
  | [] => true
  | b :: t => !hitB (2 * c + b) (n + 1) && noHit (2 * c + b) (n + 1) t
theorem noHit_go (out : List UInt8) : ∀ (L : List Nat) (c n : Nat) (ones : Bool), noHit c n L = true → decGo c n ones out L = if 7 < n + L.length ∨ (ones && L.all (· == 1)) = false then none else some out
  | [], c, n, ones, _ => by simp [decGo]
  | b :: t, c, n, ones, h => by
    rw [noHit, Bool.and_eq_true, Bool.not_eq_true'] at h
    rw [decGo, h.1, if_neg (by simp), noHit_go out t _ _ _ h.2, List.length_cons, List.all_cons, Bool.and_assoc, show n + 1 + t.length = n + (t.length + 1) by omega]
theorem ones_noHit : ∀ p < 16, noHit 0 0 (List.replicate p 1) = true := by decide +kernel
theorem dec_ones (p : Nat) (hp : p < 16) (out : List UInt8) : decGo 0 0 true out (List.replicate p 1) = if 7 < p then none else some out := by
  rw [noHit_go out _ 0 0 true (ones_noHit p hp)]
  have h : (List.replicate p 1).all (fun x => x == 1) = true := by rw [List.all_replicate]; simp
  simp only [List.length_replicate, Nat.zero_add, h, Bool.and_self, Bool.true_eq_false, or_false]
theorem dec_enc (l : List UInt8) : decB (encB l) = some l := by
  obtain ⟨p, hp, -, h⟩ := encB_bits l
  unfold decB
  rw [h, dec_text, dec_ones p (by omega), if_neg (by omega), List.nil_append]
theorem dec_more (l : List UInt8) : decB (encB l ++ [255]) = none := by
  obtain ⟨p, hp, -, h⟩ := encB_bits l
  unfold decB
  rw [bitsB_append, bitsB_one, h, show nb 8 (255 : UInt8).toNat = List.replicate 8 1 by decide, List.append_assoc, dec_text, List.replicate_append_replicate, dec_ones _ (by omega), if_pos (by omega)]

/-- A code that is met is its symbol's. -/
theorem sym_codes : ∀ n < 31, ∀ i < manyT.getD n 0, codeT.getD (symT.getD (fromT.getD n 0 + i) 0) 0 = firstT.getD n 0 + i ∧ lensN.getD (symT.getD (fromT.getD n 0 + i) 0) 0 = n := by decide +kernel
theorem hit_code {c n : Nat} (hn : n < 31) (h : hitB c n = true) : codeT.getD (symAt c n) 0 = c ∧ lensN.getD (symAt c n) 0 = n := by
  unfold hitB at h
  rw [Bool.and_eq_true, decide_eq_true_eq, decide_eq_true_eq] at h
  have := sym_codes n hn (c - firstT.getD n 0) h.2
  unfold symAt
  refine ⟨by rw [this.1]; omega, this.2⟩
theorem dec_back : ∀ (L : List Nat) (c n : Nat) (ones : Bool) (out u : List UInt8), Mid c n → (∀ b ∈ L, b < 2) → (ones = true → c = 2 ^ n - 1) → decGo c n ones out L = some u →
    ∃ t p, u = out ++ t ∧ p < 8 ∧ nb n c ++ L = encBits t ++ List.replicate p 1
  | [], c, n, ones, out, u, hm, _, ho, h => by
    rw [decGo] at h
    split at h
    · cases h
    · rename_i hc
      have h7 : ¬ 7 < n := fun e => hc (Or.inl e)
      have h1 : ones = true := by cases ones with | true => rfl | false => exact absurd (Or.inr rfl) hc
      cases h
      refine ⟨[], n, by simp, by omega, ?_⟩
      rw [ho h1, nb_ones]; simp [encBits]
  | b :: L, c, n, ones, out, u, hm, hb, ho, h => by
    have hb2 := hb b (by simp)
    have hL : ∀ x ∈ L, x < 2 := fun x hx => hb x (by simp [hx])
    have hsplit : nb n c ++ b :: L = nb (n + 1) (2 * c + b) ++ L := by rw [nb_snoc n c b hb2, List.append_assoc]; rfl
    rw [decGo] at h
    split at h
    · rename_i hh
      split at h
      · cases h
      · rename_i hs
        obtain ⟨t, p, rfl, hp, he⟩ := dec_back L 0 0 true _ u Mid.zero hL (fun _ => rfl) h
        have hc := hit_code (by have := hm.le; omega) hh
        have hs256 : symAt (2 * c + b) (n + 1) < 256 := by
          have : symAt (2 * c + b) (n + 1) ≤ 256 := sym_le _
          omega
        refine ⟨UInt8.ofNat (symAt (2 * c + b) (n + 1)) :: t, p, by simp, hp, ?_⟩
        rw [hsplit, show encBits (UInt8.ofNat (symAt (2 * c + b) (n + 1)) :: t) = nb (lenAt (UInt8.ofNat (symAt (2 * c + b) (n + 1)))) (codeAt (UInt8.ofNat (symAt (2 * c + b) (n + 1)))) ++ encBits t from rfl,
          List.append_assoc, ← he, lenAt, codeAt, toNat_ofNat hs256, hc.1, hc.2]
        rfl
    · rename_i hh
      have hm2 : Mid (2 * c + b) (n + 1) := hm.next hb2 (by
        rw [Bool.not_eq_true, hm.hit] at hh
        simpa using hh)
      obtain ⟨t, p, rfl, hp, he⟩ := dec_back L _ _ _ out u hm2 hL (fun e => by
        rw [Bool.and_eq_true, beq_iff_eq] at e
        have := ho e.1
        have hpow : 0 < 2 ^ n := Nat.pow_pos (by decide)
        rw [Nat.pow_succ]; omega) h
      exact ⟨t, p, rfl, hp, by rw [hsplit, he]⟩
theorem enc_dec {l u : List UInt8} (h : decB l = some u) : encB u = l := by
  have hb : ∀ b ∈ bitsB l, b < 2 := by
    intro b hb
    unfold bitsB at hb
    obtain ⟨i, -, rfl⟩ := List.mem_map.1 hb
    exact bitAt_lt l i
  obtain ⟨t, p, rfl, hp, he⟩ := dec_back (bitsB l) 0 0 true [] u Mid.zero hb (fun _ => rfl) h
  exact encB_unique hp he
theorem dec_length {l u : List UInt8} (h : decB l = some u) : 5 * u.length ≤ 8 * l.length := by
  have h1 := enc_dec h
  have h2 := (nbits_le u).1
  have h3 := encB_length u
  rw [h1] at h3
  unfold nbytes at h3
  obtain ⟨q, hq, -, hb⟩ := encB_bits u
  have h4 := congrArg List.length hb
  rw [h1, bitsB_length, List.length_append, encBits_length] at h4
  omega
/-- Two texts' bytes are those of both together if the first one's need no ones. -/
theorem enc_join {a b : List UInt8} (h : nbits a % 8 = 0) : encB (a ++ b) = encB a ++ encB b := by
  obtain ⟨p, hp, h0, ha⟩ := encB_bits a
  obtain ⟨q, hq, -, hb⟩ := encB_bits b
  obtain rfl := h0.2 h
  refine encB_unique hq ?_
  rw [bitsB_append, ha, hb, encBits_append, List.replicate_zero, List.append_nil, List.append_assoc]
end Go.Proofs.Ytfpcamkimjecdaa

/- What PutText writes and TakeText reads, and that each reads the other's, in plain Lean. No program in sight. -/
namespace Go.Proofs.Ytfpcamkimjecdaa
open Go.RowKit

/-- A text with its length. -/
def textB (l : List UInt8) : List UInt8 := if nbytes l < l.length then putB 128 127 (nbytes l) ++ encB l else putB 0 127 l.length ++ l
theorem textB_bits {l : List UInt8} (h : nbytes l < l.length) : textB l = putB 128 127 (nbytes l) ++ encB l := if_pos h
theorem textB_raw {l : List UInt8} (h : l.length ≤ nbytes l) : textB l = putB 0 127 l.length ++ l := if_neg (by omega)

/-- The piece that a text's length speaks of. -/
def pieceT (l : List UInt8) : List UInt8 := (l.drop (takeI 127 l).2.1).take (takeI 127 l).1
/-- The text at the beginning, how many bytes it takes, the error. -/
def takeT (l : List UInt8) : List UInt8 × Nat × Nat :=
  if (takeI 127 l).2.2 ≠ 0 then ([], 0, (takeI 127 l).2.2)
  else if 4096 < (takeI 127 l).1 then ([], 0, 2)
  else if l.length < (takeI 127 l).2.1 + (takeI 127 l).1 then ([], 0, 12)
  else if ba l 0 < 128 then (pieceT l, (takeI 127 l).2.1 + (takeI 127 l).1, 0)
  else match decB (pieceT l) with
    | none => ([], 0, 10)
    | some t => if 4096 < t.length then ([], 0, 2) else (t, (takeI 127 l).2.1 + (takeI 127 l).1, 0)
def triT (r : List UInt8 × Nat × Nat) : Value := .tuple #[.string ⟨r.1.toArray⟩, .int .i64 (r.2.1 : Int), .int .i64 (r.2.2 : Int)]

theorem takeTail_bd : ∀ (k a n t : Nat) (l : List UInt8), (takeTail k a n t l).2.2 = 0 → (takeTail k a n t l).1 ≤ 2147483647 ∧ a < (takeTail k a n t l).2.1 ∧ (takeTail k a n t l).2.1 ≤ a + l.length ∧ (takeTail k a n t l).2.1 ≤ a + k
  | 0, a, n, t, l, h => by simp [takeTail] at h
  | k + 1, a, n, t, [], h => by simp [takeTail] at h
  | k + 1, a, n, t, c :: l, h => by
    by_cases h1 : c.toNat < 128
    · by_cases h2 : 2147483647 < n + t * (c.toNat % 128)
      · rw [takeTail, if_pos h1, if_pos h2] at h; simp at h
      · rw [takeTail, if_pos h1, if_neg h2]; simp; omega
    · rw [takeTail, if_neg h1] at h ⊢
      have := takeTail_bd k _ _ _ l h
      simp; omega
theorem takeI_bd {F : Nat} (hF : F ≤ 255) (l : List UInt8) (h : (takeI F l).2.2 = 0) : (takeI F l).1 ≤ 2147483647 ∧ 1 ≤ (takeI F l).2.1 ∧ (takeI F l).2.1 ≤ l.length ∧ (takeI F l).2.1 ≤ 6 := by
  cases l with
  | nil => simp [takeI] at h
  | cons c t =>
    by_cases h1 : c.toNat % (F + 1) < F
    · simp only [takeI]; rw [if_pos h1]; simp; omega
    · simp only [takeI] at h ⊢; rw [if_neg h1] at h ⊢
      have := takeTail_bd _ _ _ _ _ h
      simp; omega
theorem takeTail_err : ∀ (k a n t : Nat) (l : List UInt8), (takeTail k a n t l).2.2 ≤ 12
  | 0, a, n, t, l => by simp [takeTail]
  | k + 1, a, n, t, [] => by simp [takeTail]
  | k + 1, a, n, t, c :: l => by
    rw [takeTail]
    split
    · split <;> simp
    · exact takeTail_err k _ _ _ l
theorem takeI_err (F : Nat) (l : List UInt8) : (takeI F l).2.2 ≤ 12 := by
  cases l with
  | nil => simp [takeI]
  | cons c t =>
    simp only [takeI]
    split
    · simp
    · exact takeTail_err _ _ _ _ _

theorem take_put : ∀ (k k' a s T x : Nat) (rest : List UInt8), 1 ≤ k → k ≤ k' + 1 → x < 128 ^ k → s + T * x ≤ 2147483647 → takeTail k a s T (tailF k' x ++ rest) = (s + T * x, a + (tailF k' x).length, 0) := by
  intro k
  induction k with
  | zero => intro k' a s T x rest h; omega
  | succ k ih =>
    intro k' a s T x rest _ hk hx hs
    by_cases h1 : x < 128
    · rw [tailF_small _ _ h1]
      simp only [List.cons_append, List.nil_append, takeTail, toNat_ofNat (show x < 256 by omega)]
      rw [if_pos h1, Nat.mod_eq_of_lt h1, if_neg (by omega)]
      rfl
    · obtain ⟨q, rfl⟩ : ∃ q, k' = q + 1 := ⟨k' - 1, by
        cases k with
        | zero => simp at hx; omega
        | succ k => omega⟩
      have hk1 : 1 ≤ k := by
        cases k with
        | zero => simp at hx; omega
        | succ k => omega
      rw [tailF_big _ _ (by omega)]
      simp only [List.cons_append, takeTail, toNat_ofNat (show x % 128 + 128 < 256 by omega)]
      rw [if_neg (by omega), show (x % 128 + 128) % 128 = x % 128 by omega]
      have e : s + T * (x % 128) + T * 128 * (x / 128) = s + T * x := by
        rw [Nat.mul_assoc, Nat.add_assoc, ← Nat.mul_add, Nat.mod_add_div]
      rw [ih q (a + 1) _ _ (x / 128) rest hk1 (by omega) (Nat.div_lt_of_lt_mul (by rw [Nat.pow_succ, Nat.mul_comm] at hx; exact hx)) (by rw [e]; exact hs), e]
      simp [Nat.add_assoc, Nat.add_comm]
theorem take_cut : ∀ (k k' a s T x : Nat), 1 ≤ k → k ≤ k' + 1 → x < 128 ^ k → takeTail k a s T ((tailF k' x).take ((tailF k' x).length - 1)) = (0, 0, 12) := by
  intro k
  induction k with
  | zero => intro k' a s T x h; omega
  | succ k ih =>
    intro k' a s T x _ hk hx
    by_cases h1 : x < 128
    · rw [tailF_small _ _ h1]
      simp [takeTail]
    · obtain ⟨q, rfl⟩ : ∃ q, k' = q + 1 := ⟨k' - 1, by
        cases k with
        | zero => simp at hx; omega
        | succ k => omega⟩
      have hk1 : 1 ≤ k := by
        cases k with
        | zero => simp at hx; omega
        | succ k => omega
      rw [tailF_big _ _ (by omega)]
      have hl := (tailF_length q (x / 128)).2
      obtain ⟨m, hm⟩ : ∃ m, (tailF q (x / 128)).length = m + 1 := ⟨_, (Nat.sub_add_cancel hl).symm⟩
      have hi := ih q (a + 1) (s + T * (x % 128)) (T * 128) (x / 128) hk1 (by omega) (Nat.div_lt_of_lt_mul (by rw [Nat.pow_succ, Nat.mul_comm] at hx; exact hx))
      rw [hm] at hi
      simp only [List.length_cons, hm, Nat.add_sub_cancel, List.take_succ_cons, takeTail, toNat_ofNat (show x % 128 + 128 < 256 by omega)]
      rw [if_neg (by omega), show (x % 128 + 128) % 128 = x % 128 by omega]
      simpa using hi

section
variable {f F n : Nat} (hF : 1 ≤ F ∧ F ≤ 255) (hf : f % (F + 1) = 0) (hfF : f + F < 256) (hn : n ≤ 2147483647)
include hF hf hfF hn
theorem takeI_putB (rest : List UInt8) : takeI F (putB f F n ++ rest) = (n, (putB f F n).length, 0) := by
  unfold putB
  by_cases h : n < F
  · rw [if_pos h]
    simp only [List.cons_append, List.nil_append, takeI, toNat_ofNat (show f + n < 256 by omega)]
    have e : (f + n) % (F + 1) = n := by rw [Nat.add_mod, hf, Nat.zero_add, Nat.mod_mod, Nat.mod_eq_of_lt (by omega)]
    rw [e, if_pos h]; rfl
  · rw [if_neg h]
    simp only [List.cons_append, takeI, toNat_ofNat (show f + F < 256 by omega)]
    have e : (f + F) % (F + 1) = F := by rw [Nat.add_mod, hf, Nat.zero_add, Nat.mod_mod, Nat.mod_eq_of_lt (by omega)]
    rw [e, if_neg (by omega), take_put 5 5 1 F 1 (n - F) rest (by omega) (by omega) (by simp; omega) (by omega)]
    simp only [List.length_cons]
    congr 1
    · omega
    · congr 1; omega
theorem takeI_cut : takeI F ((putB f F n).take ((putB f F n).length - 1)) = (0, 0, 12) := by
  unfold putB
  by_cases h : n < F
  · rw [if_pos h]
    simp [takeI]
  · rw [if_neg h]
    have e : (f + F) % (F + 1) = F := by rw [Nat.add_mod, hf, Nat.zero_add, Nat.mod_mod, Nat.mod_eq_of_lt (by omega)]
    have hl := (tailF_length 5 (n - F)).2
    obtain ⟨m, hm⟩ : ∃ m, (tailF 5 (n - F)).length = m + 1 := ⟨_, (Nat.sub_add_cancel hl).symm⟩
    have hi := take_cut 5 5 1 F 1 (n - F) (by omega) (by omega) (by simp; omega)
    rw [hm] at hi
    simp only [List.length_cons, hm, Nat.add_sub_cancel, List.take_succ_cons, takeI, toNat_ofNat (show f + F < 256 by omega)]
    rw [e, if_neg (by omega)]
    simpa using hi
end
section
variable {l : List UInt8} {m a z : Nat} (h : takeI 127 l = (m, a, z))
include h
theorem takeT_err (hz : z ≠ 0) : takeT l = ([], 0, z) := by unfold takeT; rw [h]; exact if_pos hz
theorem takeT_long (hz : z = 0) (hm : 4096 < m) : takeT l = ([], 0, 2) := by unfold takeT; rw [h]; simp [hz, hm]
theorem takeT_short (hz : z = 0) (hm : m ≤ 4096) (hl : l.length < a + m) : takeT l = ([], 0, 12) := by
  unfold takeT; rw [h]; simp only [hz]; rw [if_neg (by omega), if_neg (by omega), if_pos hl]
theorem takeT_raw (hz : z = 0) (hm : m ≤ 4096) (hl : a + m ≤ l.length) (hb : ba l 0 < 128) : takeT l = ((l.drop a).take m, a + m, 0) := by
  unfold takeT pieceT; rw [h]; simp only [hz]; rw [if_neg (by omega), if_neg (by omega), if_neg (by omega), if_pos hb]
theorem takeT_bits (hz : z = 0) (hm : m ≤ 4096) (hl : a + m ≤ l.length) (hb : 128 ≤ ba l 0) : takeT l = match decB ((l.drop a).take m) with
    | none => ([], 0, 10)
    | some t => if 4096 < t.length then ([], 0, 2) else (t, a + m, 0) := by
  unfold takeT pieceT; rw [h]; simp only [hz]; rw [if_neg (by omega), if_neg (by omega), if_neg (by omega), if_neg (by omega)]
end
end Go.Proofs.Ytfpcamkimjecdaa

/- The last place of a row; a map that reads as a function of such places; a table's steps, in plain Lean. No program in sight. -/
namespace Go.Proofs.Ytfpcamkimjecdaa
open Go.RowKit Go.Maps

section
variable {α : Type} [DecidableEq α]
/-- Where r came last, the first of the list having the number g + 1. -/
def pos : List α → Int → α → Option Int
  | [], _, _ => none
  | a :: l, g, r => match pos l (g + 1) r with
    | some x => some x
    | none => if r = a then some (g + 1) else none
theorem pos_cons (a : α) (l : List α) (g : Int) (r : α) : pos (a :: l) g r = match pos l (g + 1) r with | some x => some x | none => if r = a then some (g + 1) else none := rfl
theorem pos_snoc (l : List α) (a : α) (g : Int) (r : α) : pos (l ++ [a]) g r = if r = a then some (g + l.length + 1) else pos l g r := by
  induction l generalizing g with
  | nil => simp [pos]
  | cons b l ih =>
    rw [List.cons_append, pos_cons, ih]
    by_cases h : r = a
    · simp only [h, if_true, List.length_cons]
      congr 1
      omega
    · rw [if_neg h, if_neg h]; rfl
theorem pos_range {l : List α} {g : Int} {r : α} {x : Int} (h : pos l g r = some x) : g < x ∧ x ≤ g + l.length := by
  induction l generalizing g with
  | nil => cases h
  | cons b l ih =>
    rw [pos_cons] at h
    cases hp : pos l (g + 1) r with
    | some y =>
      rw [hp] at h
      injection h with h
      subst h
      have := ih hp
      simp only [List.length_cons]; omega
    | none =>
      rw [hp] at h
      simp only at h
      split at h
      · injection h with h; subst h; simp only [List.length_cons]; omega
      · cases h
theorem pos_none {l : List α} {g : Int} {r : α} : pos l g r = none ↔ r ∉ l := by
  induction l generalizing g with
  | nil => simp [pos]
  | cons b l ih =>
    rw [pos_cons]
    cases hp : pos l (g + 1) r with
    | some y =>
      have : r ∈ l := by
        apply Decidable.byContradiction
        intro hn
        rw [ih.2 hn] at hp; cases hp
      simp [this]
    | none =>
      have := ih.1 hp
      simp only [List.mem_cons, not_or]
      split
      · rename_i h; simp [h]
      · rename_i h; simp [h, this]
/-- The place that is told holds the row, and none behind it does. -/
theorem pos_at {l : List α} {g : Int} {r : α} {x : Int} (h : pos l g r = some x) : l[(x - g - 1).toNat]? = some r ∧ ∀ j, (x - g - 1).toNat < j → l[j]? ≠ some r := by
  induction l generalizing g with
  | nil => cases h
  | cons b l ih =>
    rw [pos_cons] at h
    cases hp : pos l (g + 1) r with
    | some y =>
      rw [hp] at h
      injection h with h
      subst h
      have hr := pos_range hp
      obtain ⟨h1, h2⟩ := ih hp
      have e : (y - g - 1).toNat = (y - (g + 1) - 1).toNat + 1 := by omega
      rw [e]
      refine ⟨by simpa using h1, fun j hj => ?_⟩
      cases j with
      | zero => omega
      | succ j => simpa using h2 j (by omega)
    | none =>
      rw [hp] at h
      simp only at h
      split at h
      · rename_i hra
        injection h with h
        subst h
        rw [show (g + 1 - g - 1).toNat = 0 by omega]
        refine ⟨by simp [hra], fun j hj => ?_⟩
        cases j with
        | zero => omega
        | succ j =>
          have := pos_none.1 hp
          simp only [List.getElem?_cons_succ]
          exact fun e => this (List.mem_of_getElem? e)
      · cases h
theorem pos_cons_ne {a r : α} (l : List α) (g : Int) (h : r ≠ a) : pos (a :: l) g r = pos l (g + 1) r := by
  rw [pos_cons, if_neg h]
  cases pos l (g + 1) r <;> rfl
theorem pos_cons_in {a : α} {l : List α} {g x : Int} (h : pos l (g + 1) a = some x) : pos (a :: l) g a = some x := by rw [pos_cons, h]
theorem pos_cons_out {a : α} {l : List α} {g : Int} (h : pos l (g + 1) a = none) : pos (a :: l) g a = some (g + 1) := by rw [pos_cons, h]; simp
end

def num (x : Int) : DataW Unit := .lit (.int .i64 x)
theorem num_inj {x c : Int} (h : num x = .lit (.int .i64 c)) : c = x := by unfold num at h; simp at h; exact h.symm
/-- A map that reads as the function f of the keys that may be. -/
structure View {α : Type} (κ : α → Lit) (ok : α → Prop) (D : DataW Unit) (f : α → Option Int) : Prop where
  has : ∀ a, ok a → Maps.has D (κ a) = (f a).isSome
  at_ : ∀ a x, ok a → f a = some x → D.atKey (κ a) (num 0) = num x
section
variable {α : Type} [DecidableEq α] {κ : α → Lit} {ok : α → Prop} {D : DataW Unit} {f f' : α → Option Int}
omit [DecidableEq α] in
theorem View.empty (κ : α → Lit) (ok : α → Prop) : View κ ok (.map []) (fun _ => none) := ⟨fun _ _ => rfl, fun _ _ _ h => by cases h⟩
omit [DecidableEq α] in
theorem View.congr (h : View κ ok D f) (hf : ∀ a, ok a → f' a = f a) : View κ ok D f' := ⟨fun a ha => by rw [hf a ha]; exact h.has a ha, fun a x ha hx => h.at_ a x ha (by rw [← hf a ha]; exact hx)⟩
theorem View.put (h : View κ ok D f) (ht : Tidy D) (hl : ∀ a, ok a → WideAt.IsKeyLit (κ a)) (hi : ∀ a b, ok a → ok b → a ≠ b → κ a ≠ κ b) {a : α} (ha : ok a) (x : Int) :
    View κ ok (D.put (κ a) (num x)) (fun r => if r = a then some x else f r) := by
  refine ⟨fun r hr => ?_, fun r y hr hy => ?_⟩
  · by_cases e : r = a
    · subst e; rw [has_put_same ht.isMap (hl _ hr)]; simp
    · rw [has_put_other (hi r a hr ha e), h.has r hr, if_neg e]
  · by_cases e : r = a
    · subst e
      simp only [if_true] at hy
      injection hy with hy
      subst hy
      exact atKey_put_same ht.isMap (hl _ hr) _ _
    · simp only [if_neg e] at hy
      rw [atKey_put_other (hi r a hr ha e)]
      exact h.at_ r y hr hy
theorem View.del (h : View κ ok D f) (hi : ∀ a b, ok a → ok b → a ≠ b → κ a ≠ κ b) {a : α} (ha : ok a) : View κ ok (D.del (κ a)) (fun r => if r = a then none else f r) := by
  refine ⟨fun r hr => ?_, fun r y hr hy => ?_⟩
  · by_cases e : r = a
    · subst e; rw [has_del_same]; simp
    · rw [has_del_other (hi r a hr ha e), h.has r hr, if_neg e]
  · by_cases e : r = a
    · subst e; simp at hy
    · simp only [if_neg e] at hy
      rw [atKey_del_other (hi r a hr ha e)]
      exact h.at_ r y hr hy
omit [DecidableEq α] in
theorem View.none_ (h : View κ ok D f) {a : α} (ha : ok a) (hf : f a = none) (z : DataW Unit) : D.atKey (κ a) z = z := atKey_of_not_has (by rw [h.has a ha, hf]; rfl) z
end

/-- A row: its name, its value. -/
abbrev Rw := ByteArray × ByteArray
def cost (r : Rw) : Nat := r.1.size + r.2.size + 32
/-- A table: what it may cost, how many went, its rows, the oldest first. -/
structure Tb where
  most : Int
  gone : Int
  rows : List Rw
def Tb.size (T : Tb) : Nat := (T.rows.map cost).sum
/-- The oldest go till the cost is not above m. -/
def shrunk (m : Int) : Int → List Rw → Int × List Rw
  | g, [] => (g, [])
  | g, r :: l => if m < ((((r :: l).map cost).sum : Nat) : Int) then shrunk m (g + 1) l else (g, r :: l)
def Tb.shrink (T : Tb) (m : Int) : Tb := { T with gone := (shrunk m T.gone T.rows).1, rows := (shrunk m T.gone T.rows).2 }
def Tb.resize (T : Tb) (m : Int) : Tb := { T with most := m }.shrink m
def Tb.add (T : Tb) (r : Rw) : Tb := if T.most < cost r then T.shrink 0 else { T.shrink (T.most - cost r) with rows := (T.shrink (T.most - cost r)).rows ++ [r] }
theorem shrunk_nil (m g : Int) : shrunk m g [] = (g, []) := rfl
theorem shrunk_go {m g : Int} {r : Rw} {l : List Rw} (h : m < ((((r :: l).map cost).sum : Nat) : Int)) : shrunk m g (r :: l) = shrunk m (g + 1) l := by rw [shrunk, if_pos h]
theorem shrunk_stop {m g : Int} {l : List Rw} (h : (((l.map cost).sum : Nat) : Int) ≤ m) : shrunk m g l = (g, l) := by
  cases l with
  | nil => rfl
  | cons r l => rw [shrunk, if_neg (by omega)]
end Go.Proofs.Ytfpcamkimjecdaa
