/- The last place of a row; a map that reads as a function of such places; a table's steps, in plain Lean. No program in sight. -/
import Derived.Test.YthpieiipddfpjaaBase
import Derived.Maps.OwnSet
import Derived.Maps.Views
namespace Go.Proofs.Ythpieiipddfpjaa
open Go.RowKit Go.Maps

section
variable {α : Type} [DecidableEq α]
/-- Where r came last, the first of the list having the number g + 1. -/
def pos : List α → Int → α → Option Int
  | [], _, _ => none
  | a :: l, g, r => match pos l (g + 1) r with
    | some x => some x
    | none => if r = a then some (g + 1) else none
theorem pos_cons (a : α) (l : List α) (g : Int) (r : α) : pos (a :: l) g r = match pos l (g + 1) r with | some x => some x | none => if r = a then some (g + 1) else none := rfl
theorem pos_snoc (l : List α) (a : α) (g : Int) (r : α) : pos (l ++ [a]) g r = if r = a then some (g + l.length + 1) else pos l g r := by
  induction l generalizing g with
  | nil => simp [pos]
  | cons b l ih =>
    rw [List.cons_append, pos_cons, ih]
    by_cases h : r = a
    · simp only [h, if_true, List.length_cons]
      congr 1
      omega
    · rw [if_neg h, if_neg h]; rfl
theorem pos_range {l : List α} {g : Int} {r : α} {x : Int} (h : pos l g r = some x) : g < x ∧ x ≤ g + l.length := by
  induction l generalizing g with
  | nil => cases h
  | cons b l ih =>
    rw [pos_cons] at h
    cases hp : pos l (g + 1) r with
    | some y =>
      rw [hp] at h
      injection h with h
      subst h
      have := ih hp
      simp only [List.length_cons]; omega
    | none =>
      rw [hp] at h
      simp only at h
      split at h
      · injection h with h; subst h; simp only [List.length_cons]; omega
      · cases h
theorem pos_none {l : List α} {g : Int} {r : α} : pos l g r = none ↔ r ∉ l := by
  induction l generalizing g with
  | nil => simp [pos]
  | cons b l ih =>
    rw [pos_cons]
    cases hp : pos l (g + 1) r with
    | some y =>
      have : r ∈ l := by
        apply Decidable.byContradiction
        intro hn
        rw [ih.2 hn] at hp; cases hp
      simp [this]
    | none =>
      have := ih.1 hp
      simp only [List.mem_cons, not_or]
      split
      · rename_i h; simp [h]
      · rename_i h; simp [h, this]
/-- The place that is told holds the row, and none behind it does. -/
theorem pos_at {l : List α} {g : Int} {r : α} {x : Int} (h : pos l g r = some x) : l[(x - g - 1).toNat]? = some r ∧ ∀ j, (x - g - 1).toNat < j → l[j]? ≠ some r := by
  induction l generalizing g with
  | nil => cases h
  | cons b l ih =>
    rw [pos_cons] at h
    cases hp : pos l (g + 1) r with
    | some y =>
      rw [hp] at h
      injection h with h
      subst h
      have hr := pos_range hp
      obtain ⟨h1, h2⟩ := ih hp
      have e : (y - g - 1).toNat = (y - (g + 1) - 1).toNat + 1 := by omega
      rw [e]
      refine ⟨by simpa using h1, fun j hj => ?_⟩
      cases j with
      | zero => omega
      | succ j => simpa using h2 j (by omega)
    | none =>
      rw [hp] at h
      simp only at h
      split at h
      · rename_i hra
        injection h with h
        subst h
        rw [show (g + 1 - g - 1).toNat = 0 by omega]
        refine ⟨by simp [hra], fun j hj => ?_⟩
        cases j with
        | zero => omega
        | succ j =>
          have := pos_none.1 hp
          simp only [List.getElem?_cons_succ]
          exact fun e => this (List.mem_of_getElem? e)
      · cases h
theorem pos_cons_ne {a r : α} (l : List α) (g : Int) (h : r ≠ a) : pos (a :: l) g r = pos l (g + 1) r := by
  rw [pos_cons, if_neg h]
  cases pos l (g + 1) r <;> rfl
theorem pos_cons_in {a : α} {l : List α} {g x : Int} (h : pos l (g + 1) a = some x) : pos (a :: l) g a = some x := by rw [pos_cons, h]
theorem pos_cons_out {a : α} {l : List α} {g : Int} (h : pos l (g + 1) a = none) : pos (a :: l) g a = some (g + 1) := by rw [pos_cons, h]; simp
end

def num (x : Int) : DataW Unit := .lit (.int .i64 x)
theorem num_inj {x c : Int} (h : num x = .lit (.int .i64 c)) : c = x := by unfold num at h; simp at h; exact h.symm
/-- A map that reads as the function f of the keys that may be. -/
structure View {α : Type} (κ : α → Lit) (ok : α → Prop) (D : DataW Unit) (f : α → Option Int) : Prop where
  has : ∀ a, ok a → Maps.has D (κ a) = (f a).isSome
  at_ : ∀ a x, ok a → f a = some x → D.atKey (κ a) (num 0) = num x
section
variable {α : Type} [DecidableEq α] {κ : α → Lit} {ok : α → Prop} {D : DataW Unit} {f f' : α → Option Int}
omit [DecidableEq α] in
theorem View.empty (κ : α → Lit) (ok : α → Prop) : View κ ok (.map []) (fun _ => none) := ⟨fun _ _ => rfl, fun _ _ _ h => by cases h⟩
omit [DecidableEq α] in
theorem View.congr (h : View κ ok D f) (hf : ∀ a, ok a → f' a = f a) : View κ ok D f' := ⟨fun a ha => by rw [hf a ha]; exact h.has a ha, fun a x ha hx => h.at_ a x ha (by rw [← hf a ha]; exact hx)⟩
theorem View.put (h : View κ ok D f) (ht : Tidy D) (hl : ∀ a, ok a → WideAt.IsKeyLit (κ a)) (hi : ∀ a b, ok a → ok b → a ≠ b → κ a ≠ κ b) {a : α} (ha : ok a) (x : Int) :
    View κ ok (D.put (κ a) (num x)) (fun r => if r = a then some x else f r) := by
  refine ⟨fun r hr => ?_, fun r y hr hy => ?_⟩
  · by_cases e : r = a
    · subst e; rw [has_put_same ht.isMap (hl _ hr)]; simp
    · rw [has_put_other (hi r a hr ha e), h.has r hr, if_neg e]
  · by_cases e : r = a
    · subst e
      simp only [if_true] at hy
      injection hy with hy
      subst hy
      exact atKey_put_same ht.isMap (hl _ hr) _ _
    · simp only [if_neg e] at hy
      rw [atKey_put_other (hi r a hr ha e)]
      exact h.at_ r y hr hy
theorem View.del (h : View κ ok D f) (hi : ∀ a b, ok a → ok b → a ≠ b → κ a ≠ κ b) {a : α} (ha : ok a) : View κ ok (D.del (κ a)) (fun r => if r = a then none else f r) := by
  refine ⟨fun r hr => ?_, fun r y hr hy => ?_⟩
  · by_cases e : r = a
    · subst e; rw [has_del_same]; simp
    · rw [has_del_other (hi r a hr ha e), h.has r hr, if_neg e]
  · by_cases e : r = a
    · subst e; simp at hy
    · simp only [if_neg e] at hy
      rw [atKey_del_other (hi r a hr ha e)]
      exact h.at_ r y hr hy
omit [DecidableEq α] in
theorem View.none_ (h : View κ ok D f) {a : α} (ha : ok a) (hf : f a = none) (z : DataW Unit) : D.atKey (κ a) z = z := atKey_of_not_has (by rw [h.has a ha, hf]; rfl) z
end

/-- A row: its name, its value. -/
abbrev Rw := ByteArray × ByteArray
def cost (r : Rw) : Nat := r.1.size + r.2.size + 32
/-- A table: what it may cost, how many went, its rows, the oldest first. -/
structure Tb where
  most : Int
  gone : Int
  rows : List Rw
def Tb.size (T : Tb) : Nat := (T.rows.map cost).sum
/-- The oldest go till the cost is not above m. -/
def shrunk (m : Int) : Int → List Rw → Int × List Rw
  | g, [] => (g, [])
  | g, r :: l => if m < ((((r :: l).map cost).sum : Nat) : Int) then shrunk m (g + 1) l else (g, r :: l)
def Tb.shrink (T : Tb) (m : Int) : Tb := { T with gone := (shrunk m T.gone T.rows).1, rows := (shrunk m T.gone T.rows).2 }
def Tb.resize (T : Tb) (m : Int) : Tb := { T with most := m }.shrink m
def Tb.add (T : Tb) (r : Rw) : Tb := if T.most < cost r then T.shrink 0 else { T.shrink (T.most - cost r) with rows := (T.shrink (T.most - cost r)).rows ++ [r] }
theorem shrunk_nil (m g : Int) : shrunk m g [] = (g, []) := rfl
theorem shrunk_go {m g : Int} {r : Rw} {l : List Rw} (h : m < ((((r :: l).map cost).sum : Nat) : Int)) : shrunk m g (r :: l) = shrunk m (g + 1) l := by rw [shrunk, if_pos h]
theorem shrunk_stop {m g : Int} {l : List Rw} (h : (((l.map cost).sum : Nat) : Int) ≤ m) : shrunk m g l = (g, l) := by
  cases l with
  | nil => rfl
  | cons r l => rw [shrunk, if_neg (by omega)]
end Go.Proofs.Ythpieiipddfpjaa
