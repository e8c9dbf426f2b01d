/- A heap over a list, in plain Lean: up, down. No program in sight. -/
import Derived.Test.YtidfokfnigncmaaBase
namespace Go.Proofs.Ytidfokfnigncmaa
open Go.RowKit

/-- A connection's numbers. -/
structure Lk where
  id : Int
  org : Int
  sn : Int
/-- a comes ahead of b. -/
def lkLt (a b : Lk) : Bool := if a.sn != b.sn then decide (a.sn < b.sn) else decide (a.id < b.id)
theorem lkLt_iff (a b : Lk) : lkLt a b = true ↔ a.sn < b.sn ∨ (a.sn = b.sn ∧ a.id < b.id) := by
  unfold lkLt
  by_cases h : a.sn = b.sn
  · simp [h]
  · simp [h]
theorem lkLt_false (a b : Lk) : lkLt a b = false ↔ ¬ (a.sn < b.sn ∨ (a.sn = b.sn ∧ a.id < b.id)) := by
  rw [← lkLt_iff]; simp
/-- a is not behind b. -/
def lkLe (a b : Lk) : Prop := a.sn < b.sn ∨ (a.sn = b.sn ∧ a.id ≤ b.id)
theorem lkLe_refl (a : Lk) : lkLe a a := .inr ⟨rfl, Int.le_refl _⟩
theorem lkLe_trans {a b c : Lk} (h : lkLe a b) (h2 : lkLe b c) : lkLe a c := by unfold lkLe at *; omega
theorem lkLe_of_lt {a b : Lk} (h : lkLt a b = true) : lkLe a b := by rw [lkLt_iff] at h; unfold lkLe; omega
theorem lkLe_of_not {a b : Lk} (h : lkLt a b = false) : lkLe b a := by rw [lkLt_false] at h; unfold lkLe; omega

section
variable {m : Nat → Lk}
def key (m : Nat → Lk) (H : List Nat) (i : Nat) : Lk := m (H.getD i 0)
/-- The first n of the list are a heap. -/
def IsHeap (m : Nat → Lk) (H : List Nat) (n : Nat) : Prop := ∀ k, 0 < k → k < n → lkLe (key m H ((k - 1) / 2)) (key m H k)
def swapL (H : List Nat) (i j : Nat) : List Nat := (H.set i (H.getD j 0)).set j (H.getD i 0)
theorem swapL_length (H : List Nat) (i j : Nat) : (swapL H i j).length = H.length := by simp [swapL]
theorem swapL_get (H : List Nat) {i j : Nat} (hi : i < H.length) (hj : j < H.length) (k : Nat) : (swapL H i j).getD k 0 = if k = i then H.getD j 0 else if k = j then H.getD i 0 else H.getD k 0 := by
  unfold swapL
  simp only [List.getD_eq_getElem?_getD, List.getElem?_set, List.length_set]
  by_cases h1 : k = i
  · subst h1
    by_cases h2 : j = k
    · subst h2; simp [hi]
    · simp [h2, hi]
  · by_cases h2 : k = j
    · subst h2; simp [h1, hj]
    · rw [if_neg (fun e => h2 e.symm), if_neg (fun e => h1 e.symm), if_neg h1, if_neg h2]
theorem swapL_key (H : List Nat) {i j : Nat} (hi : i < H.length) (hj : j < H.length) (k : Nat) : key m (swapL H i j) k = if k = i then key m H j else if k = j then key m H i else key m H k := by
  unfold key
  rw [swapL_get H hi hj]
  split
  · rfl
  · split <;> rfl
theorem swapL_perm (H : List Nat) {i j : Nat} (hi : i < H.length) (hj : j < H.length) : (swapL H i j).Perm H := by
  unfold swapL
  by_cases e : i = j
  · subst e
    rw [List.set_set, List.getD_eq_getElem?_getD, List.getElem?_eq_getElem hi, Option.getD_some, List.set_getElem_self]
  · rw [List.getD_eq_getElem?_getD, List.getD_eq_getElem?_getD, List.getElem?_eq_getElem hi, List.getElem?_eq_getElem hj]
    exact List.set_set_perm hi hj
/-- On its way up: only at j the order may be broken, towards its parent. -/
def UpInv (m : Nat → Lk) (H : List Nat) (n j : Nat) : Prop :=
  (∀ k, 0 < k → k < n → k ≠ j → lkLe (key m H ((k - 1) / 2)) (key m H k)) ∧ (∀ k, 0 < j → 0 < k → k < n → (k - 1) / 2 = j → lkLe (key m H ((j - 1) / 2)) (key m H k))
theorem UpInv.stop0 {H : List Nat} {n : Nat} (h : UpInv m H n 0) : IsHeap m H n := fun k h0 hk => h.1 k h0 hk (by omega)
theorem UpInv.stop {H : List Nat} {n j : Nat} (h : UpInv m H n j) (hl : lkLt (key m H j) (key m H ((j - 1) / 2)) = false) : IsHeap m H n := fun k h0 hk => by
  by_cases e : k = j
  · subst e; exact lkLe_of_not hl
  · exact h.1 k h0 hk e
theorem UpInv.step {H : List Nat} {n j : Nat} (h : UpInv m H n j) (h0 : 0 < j) (hj : j < n) (hn : n ≤ H.length) (hl : lkLt (key m H j) (key m H ((j - 1) / 2)) = true) : UpInv m (swapL H ((j - 1) / 2) j) n ((j - 1) / 2) := by
  have hk := swapL_key (m := m) H (i := (j - 1) / 2) (j := j) (by omega) (by omega)
  have hlt := lkLe_of_lt hl
  refine ⟨fun k hk0 hkn hne => ?_, fun k hp hk0 hkn hpk => ?_⟩
  · rw [hk, hk k, if_neg hne]
    by_cases e : k = j
    · subst e; rw [if_pos rfl, if_pos rfl]; exact hlt
    · rw [if_neg e]
      by_cases e2 : (k - 1) / 2 = (j - 1) / 2
      · rw [if_pos e2]
        exact lkLe_trans hlt (by rw [← e2]; exact h.1 k hk0 hkn e)
      · rw [if_neg e2]
        by_cases e3 : (k - 1) / 2 = j
        · rw [if_pos e3]; exact h.2 k h0 hk0 hkn e3
        · rw [if_neg e3]; exact h.1 k hk0 hkn e
  · rw [hk, hk k, if_neg (by omega), if_neg (by omega), if_neg (by omega)]
    have hpar := h.1 ((j - 1) / 2) hp (by omega) (by omega)
    by_cases e : k = j
    · subst e; rw [if_pos rfl]; exact hpar
    · rw [if_neg e]
      have := h.1 k hk0 hkn e
      rw [hpk] at this
      exact lkLe_trans hpar this
/-- On its way down. -/
def DnInv (m : Nat → Lk) (H : List Nat) (n i : Nat) : Prop :=
  (∀ k, 0 < k → k < n → (k - 1) / 2 ≠ i → k ≠ i → lkLe (key m H ((k - 1) / 2)) (key m H k)) ∧
  (∀ k, 0 < k → k < n → (k - 1) / 2 = i → 0 < i → lkLe (key m H ((i - 1) / 2)) (key m H k)) ∧
  ((0 < i → lkLe (key m H ((i - 1) / 2)) (key m H i)) ∨ (∀ k, 0 < k → k < n → (k - 1) / 2 = i → lkLe (key m H i) (key m H k)))
/-- The children of i are not ahead of it. -/
def KidsOk (m : Nat → Lk) (H : List Nat) (n i : Nat) : Prop := ∀ k, 0 < k → k < n → (k - 1) / 2 = i → lkLe (key m H i) (key m H k)
theorem DnInv.up {H : List Nat} {n i : Nat} (h : DnInv m H n i) (hk : KidsOk m H n i) : UpInv m H n i :=
  ⟨fun k h0 hn hne => by
    by_cases e : (k - 1) / 2 = i
    · rw [e]; exact hk k h0 hn e
    · exact h.1 k h0 hn e hne, fun k hi h0 hn e => h.2.1 k h0 hn e hi⟩
theorem DnInv.heap {H : List Nat} {n i : Nat} (h : DnInv m H n i) (hk : KidsOk m H n i) (hp : 0 < i → lkLe (key m H ((i - 1) / 2)) (key m H i)) : IsHeap m H n := fun k h0 hn => by
  by_cases e : (k - 1) / 2 = i
  · rw [e]; exact hk k h0 hn e
  · by_cases e2 : k = i
    · subst e2; exact hp h0
    · exact h.1 k h0 hn e e2
/-- j: the child that is swapped; no other child is ahead of it. -/
theorem DnInv.step {H : List Nat} {n i j : Nat} (h : DnInv m H n i) (hn : n ≤ H.length) (hj : j < n) (hp : (j - 1) / 2 = i) (h0 : 0 < j) (hl : lkLt (key m H j) (key m H i) = true) (hmin : ∀ k, 0 < k → k < n → (k - 1) / 2 = i → lkLe (key m H j) (key m H k)) :
    DnInv m (swapL H i j) n j ∧ (0 < j → lkLe (key m (swapL H i j) ((j - 1) / 2)) (key m (swapL H i j) j)) := by
  have hk := swapL_key (m := m) H (i := i) (j := j) (by omega) (by omega)
  have hlt := lkLe_of_lt hl
  have hpar : lkLe (key m (swapL H i j) ((j - 1) / 2)) (key m (swapL H i j) j) := by
    rw [hk, hk j, if_pos hp, if_neg (by omega), if_pos rfl]; exact hlt
  refine ⟨⟨fun k hk0 hkn h1 h2 => ?_, fun k hk0 hkn h1 _ => ?_, .inl fun _ => hpar⟩, fun _ => hpar⟩
  · rw [hk, hk k, if_neg h1, if_neg h2]
    by_cases e : k = i
    · subst e
      rw [if_neg (by omega), if_pos rfl]
      exact h.2.1 j h0 hj hp hk0
    · rw [if_neg e]
      by_cases e2 : (k - 1) / 2 = i
      · rw [if_pos e2]; exact hmin k hk0 hkn e2
      · rw [if_neg e2]; exact h.1 k hk0 hkn e2 e
  · rw [hk, hk k, if_pos hp, if_neg (by omega), if_neg (by omega)]
    have := h.1 k hk0 hkn (by omega) (by omega)
    rwa [h1] at this
/-- The first of a heap is ahead of none. -/
theorem IsHeap.min {H : List Nat} {n : Nat} (h : IsHeap m H n) : ∀ k, k < n → lkLe (key m H 0) (key m H k) := by
  intro k
  induction k using Nat.strongRecOn with
  | _ k ih =>
    intro hk
    rcases Nat.eq_zero_or_pos k with rfl | h0
    · exact lkLe_refl _
    · exact lkLe_trans (ih ((k - 1) / 2) (by omega) (by omega)) (h k h0 hk)
/-- What was at i goes to the end, the last one comes to i. -/
theorem IsHeap.remove {H : List Nat} {n i : Nat} (h : IsHeap m H (n + 1)) (hn : n + 1 = H.length) (hi : i < n) : DnInv m (swapL H i n) n i := by
  have hk := swapL_key (m := m) H (i := i) (j := n) (by omega) (by omega)
  refine ⟨fun k h0 hkn h1 h2 => ?_, fun k h0 hkn h1 hi0 => ?_, ?_⟩
  · rw [hk, hk k, if_neg h1, if_neg (by omega), if_neg h2, if_neg (by omega)]; exact h k h0 (by omega)
  · rw [hk, hk k, if_neg (by omega), if_neg (by omega), if_neg (by omega), if_neg (by omega)]
    have e1 := h k h0 (by omega)
    rw [h1] at e1
    exact lkLe_trans (h i hi0 (by omega)) e1
  · by_cases hc : lkLt (key m H n) (key m H i) = true
    · refine .inr fun k h0 hkn h1 => ?_
      rw [hk, hk k, if_pos rfl, if_neg (by omega), if_neg (by omega)]
      have e1 := h k h0 (by omega)
      rw [h1] at e1
      exact lkLe_trans (lkLe_of_lt hc) e1
    · refine .inl fun hi0 => ?_
      rw [hk, hk i, if_neg (by omega), if_neg (by omega), if_pos rfl]
      exact lkLe_trans (h i hi0 (by omega)) (lkLe_of_not (by simpa using hc))
theorem IsHeap.push {H : List Nat} {n b : Nat} (h : IsHeap m H n) (hn : n = H.length) : UpInv m (H ++ [b]) (n + 1) n := by
  have hk : ∀ k, k < n → key m (H ++ [b]) k = key m H k := fun k hkn => by
    unfold key
    rw [List.getD_eq_getElem?_getD, List.getElem?_append_left (by omega), ← List.getD_eq_getElem?_getD]
  refine ⟨fun k h0 hkn hne => ?_, fun k _ h0 hkn e => by omega⟩
  rw [hk _ (by omega), hk _ (by omega)]
  exact h k h0 (by omega)
theorem IsHeap.take {H : List Nat} {n l : Nat} (h : IsHeap m H n) (hl : n ≤ l) : IsHeap m (H.take l) n := by
  have hk : ∀ k, k < n → key m (H.take l) k = key m H k := fun k hkn => by
    unfold key
    rw [List.getD_eq_getElem?_getD, List.getElem?_take, if_pos (by omega), ← List.getD_eq_getElem?_getD]
  intro k h0 hk2
  rw [hk _ (by omega), hk _ hk2]
  exact h k h0 hk2
end
end Go.Proofs.Ytidfokfnigncmaa
