/- One step on a book, in plain Lean: what is answered, what is left. No program in sight. -/
import Derived.Test.YtoicclgcbemffaaWinPlain
namespace Go.Proofs.Ytoicclgcbemffaa
open Go.RowKit Go.Maps

/-- A book's numbers. -/
structure Bk where
  all : Int
  first : Int
  L : List (Int × Int)
def atB (S : Bk) (s : Int) : Int × Bool := if s = 0 then (S.all, true) else match look S.L s with
  | none => (0, false)
  | some x => (S.first + x, true)
def roomB (S : Bk) (s : Int) : Int := if s = 0 then 0 else match look S.L s with
  | none => 0
  | some x => max 0 (min (S.first + x) S.all)
def openB (S : Bk) (s : Int) : Int × Bk := if s < 1 then (1, S) else if (look S.L s).isSome then (5, S) else (0, { S with L := putL S.L s 0 })
def shutB (S : Bk) (s : Int) : Int × Bk := (0, { S with L := delL S.L s })
def spendB (S : Bk) (s n : Int) : Int × Bk := if s = 0 then (4, S) else match look S.L s with
  | none => (4, S)
  | some x => if n < 0 ∨ roomB S s < n then (11, S) else (0, { S with all := S.all - n, L := putL S.L s (x - n) })
def growB (S : Bk) (s n : Int) : Int × Bk := if n < 1 ∨ 2147483647 < n then (1, S) else
  if s = 0 then (if 2147483647 - n < S.all then (11, S) else (0, { S with all := S.all + n })) else match look S.L s with
  | none => (4, S)
  | some x => if 2147483647 - n < S.first + x then (11, S) else (0, { S with L := putL S.L s (x + n) })
def firstB (S : Bk) (n : Int) : Int × Bk := if n < 0 ∨ 2147483647 < n then (1, S) else
  if S.L.any (fun p => decide (2147483647 - n < p.2)) then (11, S) else (0, { S with first := n })
def doB (S : Bk) (kind s n : Int) : Int × Bk :=
  if kind = 0 then openB S s else if kind = 1 then shutB S s else if kind = 2 then spendB S s n else if kind = 3 then growB S s n else if kind = 4 then firstB S n else (0, S)

/-- What a book's numbers may be. -/
structure BkOk (S : Bk) : Prop where
  all0 : 0 ≤ S.all
  all1 : S.all ≤ 2147483647
  first0 : 0 ≤ S.first
  first1 : S.first ≤ 2147483647
  off : ∀ p ∈ S.L, -2147483647 ≤ p.2 ∧ S.first + p.2 ≤ 2147483647
theorem mem_put {L : List (Int × Int)} {s x : Int} {p : Int × Int} (h : p ∈ putL L s x) : p = (s, x) ∨ p ∈ L := by
  unfold putL upd at h
  split at h
  · obtain ⟨q, hq, rfl⟩ := List.mem_map.1 h
    split
    · exact .inl rfl
    · exact .inr hq
  · rcases List.mem_append.1 h with h | h
    · exact .inr h
    · exact .inl (by simpa using h)
theorem look_mem {L : List (Int × Int)} {s x : Int} (h : look L s = some x) : (s, x) ∈ L := by
  unfold look at h
  cases hf : L.find? (fun p => p.1 == s) with
  | none => rw [hf] at h; cases h
  | some p =>
    rw [hf] at h
    injection h with h
    have h1 := List.mem_of_find?_eq_some hf
    have h2 := List.find?_some hf
    simp at h2
    obtain ⟨a, b⟩ := p
    simp only at h h2
    subst h h2
    exact h1
theorem look_of_mem {L : List (Int × Int)} (h : Once L) {s x : Int} (hm : (s, x) ∈ L) : look L s = some x := by
  induction L with
  | nil => cases hm
  | cons p L ih =>
    have hn := List.nodup_cons.1 (show ((p.1 :: L.map (·.1)).Nodup) from h)
    rw [look_cons]
    rcases List.mem_cons.1 hm with e | hm
    · subst e; simp
    · rw [if_neg (fun e : p.1 = s => hn.1 (by rw [e]; exact List.mem_map.2 ⟨(s, x), hm, rfl⟩))]
      exact ih hn.2 hm
theorem BkOk.put {S : Bk} (h : BkOk S) {s x a : Int} (a0 : 0 ≤ a) (a1 : a ≤ 2147483647) (x0 : -2147483647 ≤ x) (x1 : S.first + x ≤ 2147483647) : BkOk { S with all := a, L := putL S.L s x } :=
  ⟨a0, a1, h.first0, h.first1, fun p hp => by
    rcases mem_put hp with rfl | hp
    · exact ⟨x0, x1⟩
    · exact h.off p hp⟩
theorem doB_ok {S : Bk} (h : BkOk S) (kind s n : Int) : BkOk (doB S kind s n).2 := by
  have a0 := h.all0
  have a1 := h.all1
  have f0 := h.first0
  have f1 := h.first1
  unfold doB
  split
  · unfold openB
    split
    · exact h
    split
    · exact h
    · exact h.put a0 a1 (by omega) (by omega)
  split
  · exact ⟨a0, a1, f0, f1, fun p hp => h.off p (List.mem_filter.1 hp).1⟩
  split
  · unfold spendB
    split
    · exact h
    rename_i hs0
    cases hl : look S.L s with
    | none => exact h
    | some x =>
      have hx := h.off _ (look_mem hl)
      simp only
      split
      · exact h
      · rename_i hn
        have hr : roomB S s = max 0 (min (S.first + x) S.all) := by unfold roomB; rw [if_neg hs0, hl]
        rw [hr] at hn
        simp only at hx
        exact h.put (by omega) (by omega) (by omega) (by omega)
  split
  · unfold growB
    split
    · exact h
    rename_i hn
    split
    · split
      · exact h
      · exact ⟨by simp only; omega, by simp only; omega, f0, f1, h.off⟩
    cases hl : look S.L s with
    | none => exact h
    | some x =>
      have hx := h.off _ (look_mem hl)
      simp only at hx ⊢
      split
      · exact h
      · exact h.put a0 a1 (by omega) (by omega)
  split
  · unfold firstB
    split
    · exact h
    rename_i hn
    split
    · exact h
    · rename_i hb
      refine ⟨a0, a1, by simp only; omega, by simp only; omega, fun p hp => ⟨(h.off p hp).1, ?_⟩⟩
      simp only [List.any_eq_true, not_exists, not_and, decide_eq_true_eq] at hb
      have := hb p hp
      simp only
      omega
  · exact h
end Go.Proofs.Ytoicclgcbemffaa
