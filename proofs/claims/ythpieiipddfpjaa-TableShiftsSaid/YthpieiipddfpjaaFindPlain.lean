/- What is found: the least number of a row like it, or of its name; and what stands there. No program in sight. -/
import Derived.Test.YthpieiipddfpjaaTab7
namespace Go.Proofs.Ythpieiipddfpjaa
open Go.RowKit

theorem pos_rev {α : Type} [DecidableEq α] (l : List α) (g : Int) (r : α) : pos l.reverse g r = (l.findIdx? (fun a => a = r)).map (fun i : Nat => g + l.length - i) := by
  induction l with
  | nil => rfl
  | cons a l ih =>
    rw [List.reverse_cons, pos_snoc, ih, List.findIdx?_cons, List.length_reverse]
    by_cases h : r = a
    · rw [if_pos h, h]
      simp
      omega
    · rw [if_neg h, show (decide (a = r)) = false by simpa using fun e => h e.symm]
      simp only [Bool.false_eq_true, if_false, Option.map_map]
      congr 1
      funext i
      simp
      omega
theorem pos_rev' {α : Type} [DecidableEq α] (l : List α) (g : Int) (r : α) : pos l g r = (l.reverse.findIdx? (fun a => a = r)).map (fun i : Nat => g + l.length - i) := by
  have := pos_rev l.reverse g r
  rwa [List.reverse_reverse, List.length_reverse] at this
/-- Where the first is whose name it is, from 1 on; 0: none. -/
def nearA (l : List Rw) (nm : ByteArray) : Nat := match l.findIdx? (fun r => r.1 = nm) with
  | some i => i + 1
  | none => 0
def findA (l : List Rw) (f : Rw) : Int × Bool := match l.findIdx? (fun r => r = f) with
  | some i => (i + 1, true)
  | none => (((nearA l f.1 : Nat) : Int), false)
theorem nearK_all (nm : ByteArray) : nearK nm 61 = nearA statF nm := by
  unfold nearK nearA
  rw [List.take_of_length_le (by rw [statF_length]; exact Nat.le_refl _)]
  cases statF.findIdx? (fun r => r.1 = nm) <;> rfl
theorem findIdx_map (l : List Rw) (nm : ByteArray) : (l.map (·.1)).findIdx? (fun a => a = nm) = l.findIdx? (fun r => r.1 = nm) := by
  rw [List.findIdx?_map]; rfl
theorem findT_all (rows : List Rw) (gone : Int) (f : Rw) : findT rows gone f = findA (statF ++ rows.reverse) f := by
  unfold findT findA
  rw [List.findIdx?_append, nearK_all, statF_length]
  cases h1 : statF.findIdx? (fun r => r = f) with
  | some i => rfl
  | none =>
    simp only [Option.none_or]
    rw [pos_rev']
    cases h2 : rows.reverse.findIdx? (fun r => r = f) with
    | some i => simp; omega
    | none =>
      simp only [Option.map_none]
      unfold nearA
      rw [List.findIdx?_append, statF_length]
      cases h3 : statF.findIdx? (fun r => r.1 = f.1) with
      | some i => simp
      | none =>
        rw [pos_rev', ← List.map_reverse, findIdx_map]
        cases h4 : rows.reverse.findIdx? (fun r => r.1 = f.1) with
        | some i => simp; omega
        | none => simp
theorem findIdx_at {l : List Rw} {p : Rw → Bool} {i : Nat} (h : l.findIdx? p = some i) : ∃ r, l[i]? = some r ∧ p r = true := by
  obtain ⟨hl, hp, -⟩ := List.findIdx?_eq_some_iff_getElem.1 h
  exact ⟨_, List.getElem?_eq_getElem hl, hp⟩
theorem atRows_all (rows : List Rw) (i : Nat) {r : Rw} (h : (statF ++ rows.reverse)[i]? = some r) : atRows rows (i + 1 : Int) = some r := by
  rw [List.getElem?_append] at h
  by_cases hi : i < 61
  · rw [if_pos (by rw [statF_length]; exact hi)] at h
    obtain ⟨r', h1, h2⟩ := atRows_stat rows hi
    rw [h] at h1; injection h1 with h1
    rw [h2, h1]
  · rw [if_neg (by rw [statF_length]; exact hi), statF_length] at h
    have hl : i - 61 < rows.length := by have := (List.getElem?_eq_some_iff.1 h).1; simpa using this
    rw [List.getElem?_reverse hl] at h
    obtain ⟨r', h1, h2⟩ := atRows_came rows (i := rows.length - 1 - (i - 61)) (by omega)
    rw [h] at h1; injection h1 with h1
    rw [show ((i : Int) + 1) = 61 + rows.length - ((rows.length - 1 - (i - 61) : Nat) : Int) by omega, h2, h1]
/-- What is found stands there. -/
theorem findA_at (rows : List Rw) (f : Rw) : ((findA (statF ++ rows.reverse) f).1 = 0 ∧ (findA (statF ++ rows.reverse) f).2 = false) ∨
    ∃ g : Rw, 1 ≤ (findA (statF ++ rows.reverse) f).1 ∧ atRows rows (findA (statF ++ rows.reverse) f).1 = some g ∧ g.1 = f.1 ∧ decide (g.2 = f.2) = (findA (statF ++ rows.reverse) f).2 := by
  unfold findA
  cases h1 : (statF ++ rows.reverse).findIdx? (fun r => r = f) with
  | some i =>
    obtain ⟨r, hr, hp⟩ := findIdx_at h1
    have hp' : r = f := by simpa using hp
    refine .inr ⟨r, by simp only; omega, atRows_all rows i hr, by rw [hp'], by rw [hp']; simp⟩
  | none =>
    simp only
    unfold nearA
    cases h2 : (statF ++ rows.reverse).findIdx? (fun r => r.1 = f.1) with
    | none => exact .inl (by simp)
    | some i =>
      obtain ⟨r, hr, hp⟩ := findIdx_at h2
      have hp' : r.1 = f.1 := by simpa using hp
      refine .inr ⟨r, by simp only; omega, ?_, hp', ?_⟩
      · simp only; rw [← atRows_all rows i hr]; congr 1
      · have := (List.findIdx?_eq_none_iff.1 h1) r (List.mem_of_getElem? hr)
        have hne : r ≠ f := by simpa using this
        simp only [decide_eq_false_iff_not]
        exact fun e => hne (by obtain ⟨a, b⟩ := r; obtain ⟨c, d⟩ := f; simp at hp' e; rw [hp', e])
end Go.Proofs.Ythpieiipddfpjaa
