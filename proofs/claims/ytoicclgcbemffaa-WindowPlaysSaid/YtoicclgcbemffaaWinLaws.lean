/- What the laws of layer 8 ask of a book's numbers, in plain Lean. No program in sight. -/
import Derived.Test.YtoicclgcbemffaaWinStep
namespace Go.Proofs.Ytoicclgcbemffaa
open Go.RowKit Go.Maps

theorem upd_length (L : List (Int × Int)) (s x : Int) : (upd L s x).length = L.length := by simp [upd]
theorem put_len_le (L : List (Int × Int)) (s x : Int) : (putL L s x).length ≤ L.length + 1 := by rw [put_length]; split <;> omega
theorem del_len_le (L : List (Int × Int)) (s : Int) : (delL L s).length ≤ L.length := List.length_filter_le _ _
/-- A step makes a list longer by one at most. -/
theorem doB_len (S : Bk) (k s n : Int) : (doB S k s n).2.L.length ≤ S.L.length + 1 := by
  unfold doB openB shutB spendB growB firstB
  have h0 := put_len_le S.L s 0
  have h1 := del_len_le S.L s
  have h2 := fun x => put_len_le S.L s x
  repeat' split
  all_goals first | (simp only; omega) | (simp only; exact h2 _) | (simp only; exact Nat.le_succ_of_le h1)
/-- What is refused changes nothing. -/
theorem doB_no {S : Bk} {k s n : Int} (h : (doB S k s n).1 ≠ 0) : (doB S k s n).2 = S := by
  have : (doB S k s n).1 = 0 ∨ (doB S k s n).2 = S := by
    unfold doB openB shutB spendB growB firstB
    repeat' split
    all_goals first | exact .inr rfl | exact .inl rfl
  exact this.resolve_left h
theorem doB_once {S : Bk} (h : Once S.L) (k s n : Int) : Once (doB S k s n).2.L := by
  unfold doB openB shutB spendB growB firstB
  repeat' split
  all_goals first | exact h | exact once_put h _ _ | exact once_del h _

/-- What is asked of one stream alone. -/
structure Apart (st : Int) (S T : Bk) : Prop where
  first : S.first = T.first
  own : look S.L st = look T.L st
  all : st = 0 → S.all = T.all
  only : ∀ p ∈ T.L, p.1 = st
theorem Apart.at_ {st : Int} {S T : Bk} (h : Apart st S T) : atB S st = atB T st := by
  unfold atB
  by_cases h0 : st = 0
  · rw [if_pos h0, if_pos h0, h.all h0]
  · rw [if_neg h0, if_neg h0, h.own, h.first]
theorem Apart.first_ {st n : Int} {S T : Bk} (h : Apart st S T) (hT : Once T.L) (he : (doB S 4 st n).1 = 0) (s : Int) : (doB T 4 s n).1 = 0 ∧ Apart st (doB S 4 s n).2 (doB T 4 s n).2 := by
  have d : ∀ U s, doB U 4 s n = firstB U n := fun _ _ => rfl
  rw [d] at he ⊢
  rw [d]
  unfold firstB at he ⊢
  by_cases ha : n < 0 ∨ 2147483647 < n
  · rw [if_pos ha] at he; cases he
  · rw [if_neg ha] at he ⊢
    rw [if_neg ha]
    by_cases hb : (S.L.any fun p => decide (2147483647 - n < p.2)) = true
    · rw [if_pos hb] at he; cases he
    · have hc : ¬ (T.L.any fun p => decide (2147483647 - n < p.2)) = true := by
        intro hc
        rw [List.any_eq_true] at hb hc
        obtain ⟨p, hp, hx⟩ := hc
        refine hb ⟨(p.1, p.2), ?_, hx⟩
        refine look_mem ?_
        have := look_of_mem hT (s := p.1) (x := p.2) hp
        rw [h.only p hp] at this ⊢
        rw [h.own]; exact this
      rw [if_neg hb, if_neg hc]
      exact ⟨rfl, rfl, h.own, h.all, h.only⟩
theorem Apart.same {st : Int} {S T : Bk} (h : Apart st S T) {k n : Int} (h4 : k ≠ 4) (h2 : k ≠ 2) : (doB T k st n).1 = (doB S k st n).1 ∧ Apart st (doB S k st n).2 (doB T k st n).2 := by
  have hp : ∀ x, Apart st { S with L := putL S.L st x } { T with L := putL T.L st x } := fun x => ⟨h.first, by rw [look_put, look_put, if_pos rfl, if_pos rfl], h.all, fun p hp => by
    rcases mem_put hp with rfl | hp
    · rfl
    · exact h.only p hp⟩
  unfold doB
  by_cases k0 : k = 0
  · rw [if_pos k0, if_pos k0]
    unfold openB
    by_cases h1 : st < 1
    · rw [if_pos h1, if_pos h1]; exact ⟨rfl, h⟩
    · rw [if_neg h1, if_neg h1, h.own]
      split
      · exact ⟨rfl, h⟩
      · exact ⟨rfl, hp 0⟩
  rw [if_neg k0, if_neg k0]
  by_cases k1 : k = 1
  · rw [if_pos k1, if_pos k1]
    exact ⟨rfl, h.first, by simp only [shutB]; rw [look_del, look_del, if_pos rfl, if_pos rfl], h.all, fun p hp => h.only p (List.mem_filter.1 hp).1⟩
  rw [if_neg k1, if_neg k1, if_neg h2, if_neg h2]
  by_cases k3 : k = 3
  · rw [if_pos k3, if_pos k3]
    unfold growB
    by_cases ha : n < 1 ∨ 2147483647 < n
    · rw [if_pos ha, if_pos ha]; exact ⟨rfl, h⟩
    · rw [if_neg ha, if_neg ha]
      by_cases h0 : st = 0
      · rw [if_pos h0, if_pos h0, h.all h0]
        split
        · exact ⟨rfl, h⟩
        · exact ⟨rfl, h.first, h.own, fun _ => rfl, h.only⟩
      · rw [if_neg h0, if_neg h0, h.own]
        cases hl : look T.L st with
        | none => exact ⟨rfl, h⟩
        | some x =>
          simp only
          by_cases hx : 2147483647 - n < T.first + x
          · rw [if_pos hx, if_pos (by rw [h.first]; exact hx)]; exact ⟨rfl, h⟩
          · rw [if_neg hx, if_neg (by rw [h.first]; exact hx)]; exact ⟨rfl, hp _⟩
  rw [if_neg k3, if_neg k3, if_neg h4, if_neg h4]
  exact ⟨rfl, h⟩
theorem Apart.other {st s : Int} {S T : Bk} (h : Apart st S T) {k n : Int} (hs : s ≠ st) (h4 : k ≠ 4) (h2 : k ≠ 2) : Apart st (doB S k s n).2 T := by
  have hp : ∀ x, Apart st { S with L := putL S.L s x } T := fun x => ⟨h.first, by rw [look_put, if_neg (Ne.symm hs), h.own], h.all, h.only⟩
  unfold doB
  by_cases k0 : k = 0
  · rw [if_pos k0]
    unfold openB
    repeat' split
    all_goals first | exact h | exact hp 0
  rw [if_neg k0]
  by_cases k1 : k = 1
  · rw [if_pos k1]
    exact ⟨h.first, by simp only [shutB]; rw [look_del, if_neg (Ne.symm hs), h.own], h.all, h.only⟩
  rw [if_neg k1, if_neg h2]
  by_cases k3 : k = 3
  · rw [if_pos k3]
    unfold growB
    by_cases ha : n < 1 ∨ 2147483647 < n
    · rw [if_pos ha]; exact h
    · rw [if_neg ha]
      by_cases h0 : s = 0
      · rw [if_pos h0]
        split
        · exact h
        · exact ⟨h.first, h.own, fun e => absurd (h0.trans e.symm) hs, h.only⟩
      · rw [if_neg h0]
        cases hl : look S.L s with
        | none => exact h
        | some x =>
          simp only
          split
          · exact h
          · exact hp _
  rw [if_neg k3, if_neg h4]
  exact h
/-- Refused: a beginning that may not be. -/
theorem Apart.refused {st s n : Int} {S T : Bk} (h : Apart st S T) {k : Int} (he : (doB S k s n).1 ≠ 0) : Apart st (doB S k s n).2 T := by rw [doB_no he]; exact h

def ApYes (st kd s x : Int) (S T : Bk) : Prop := (doB T kd s x).1 = (doB S kd s x).1 ∧ Apart st (doB S kd s x).2 (doB T kd s x).2
theorem ap_cases {st kd s x : Int} {S T : Bk} (h : Apart st S T) (hT : Once T.L) (h2 : kd ≠ 2) :
    (kd = 4 ∧ (doB S kd s x).1 = 0 ∧ ApYes st kd s x S T) ∨ (kd = 4 ∧ (doB S kd s x).1 ≠ 0 ∧ Apart st (doB S kd s x).2 T) ∨ (kd ≠ 4 ∧ s = st ∧ ApYes st kd s x S T) ∨ (kd ≠ 4 ∧ s ≠ st ∧ Apart st (doB S kd s x).2 T) := by
  by_cases h4 : kd = 4
  · subst h4
    by_cases he : (doB S 4 s x).1 = 0
    · have := h.first_ (n := x) hT he s
      exact .inl ⟨rfl, he, this.1.trans he.symm, this.2⟩
    · exact .inr (.inl ⟨rfl, he, h.refused he⟩)
  · by_cases hs : s = st
    · subst hs
      exact .inr (.inr (.inl ⟨h4, rfl, h.same h4 h2⟩))
    · exact .inr (.inr (.inr ⟨h4, hs, h.other hs h4 h2⟩))

/-- Another beginning and back. -/
theorem back_ok {S : Bk} (h : BkOk S) (n : Int) (h1 : (firstB S n).1 = 0) : firstB (firstB S n).2 S.first = (0, S) := by
  unfold firstB at h1
  by_cases ha : n < 0 ∨ 2147483647 < n
  · rw [if_pos ha] at h1; cases h1
  rw [if_neg ha] at h1
  by_cases hb : (S.L.any fun p => decide (2147483647 - n < p.2)) = true
  · rw [if_pos hb] at h1; cases h1
  have e1 : (firstB S n).2 = { S with first := n } := by unfold firstB; rw [if_neg ha, if_neg hb]
  rw [e1]
  unfold firstB
  have a0 := h.first0
  have a1 := h.first1
  rw [if_neg (by omega), if_neg]
  intro hc
  rw [List.any_eq_true] at hc
  obtain ⟨p, hp, hx⟩ := hc
  have := h.off p hp
  simp at hx
  omega
theorem firstB_no {S : Bk} {n : Int} (h : (firstB S n).1 ≠ 0) : (firstB S n).2 = S := doB_no (k := 4) (s := 0) h
end Go.Proofs.Ytoicclgcbemffaa
