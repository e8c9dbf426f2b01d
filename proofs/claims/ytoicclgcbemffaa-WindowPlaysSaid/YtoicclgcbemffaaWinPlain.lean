/- Windows held by streams: a list of streams and numbers, and a map that reads as such a list. In plain Lean. No program in sight. -/
import Derived.Test.YtoicclgcbemffaaBase
import Derived.Maps.OwnSet
import Derived.Maps.Views
namespace Go.Proofs.Ytoicclgcbemffaa
open Go.RowKit Go.Maps

def look (L : List (Int × Int)) (s : Int) : Option Int := (L.find? fun p => p.1 == s).map (·.2)
def upd (L : List (Int × Int)) (s x : Int) : List (Int × Int) := L.map fun p => if p.1 == s then (s, x) else p
def putL (L : List (Int × Int)) (s x : Int) : List (Int × Int) := if (look L s).isSome then upd L s x else L ++ [(s, x)]
def delL (L : List (Int × Int)) (s : Int) : List (Int × Int) := L.filter fun p => p.1 != s
/-- No stream twice. -/
def Once (L : List (Int × Int)) : Prop := (L.map (·.1)).Nodup

theorem look_cons (p : Int × Int) (L : List (Int × Int)) (s : Int) : look (p :: L) s = if p.1 = s then some p.2 else look L s := by
  unfold look
  rw [List.find?_cons]
  by_cases h : p.1 = s
  · simp [h]
  · have : (p.1 == s) = false := by simpa using h
    simp [this, h]
theorem look_none {L : List (Int × Int)} {s : Int} : look L s = none ↔ s ∉ L.map (·.1) := by
  induction L with
  | nil => simp [look]
  | cons p L ih =>
    rw [look_cons]
    by_cases h : p.1 = s
    · simp [h]
    · rw [if_neg h, ih]
      simp only [List.map_cons, List.mem_cons, not_or]
      exact ⟨fun x => ⟨fun e => h e.symm, x⟩, fun x => x.2⟩
theorem look_append (L M : List (Int × Int)) (s : Int) : look (L ++ M) s = (look L s).or (look M s) := by
  induction L with
  | nil => simp [look]
  | cons p L ih =>
    rw [List.cons_append, look_cons, look_cons, ih]
    split <;> rfl
theorem upd_keys (L : List (Int × Int)) (s x : Int) : (upd L s x).map (·.1) = L.map (·.1) := by
  unfold upd
  rw [List.map_map]
  apply List.map_congr_left
  intro p _
  simp only [Function.comp]
  split
  · rename_i h; simpa using (by simpa using h : p.1 = s).symm
  · rfl
theorem look_upd (L : List (Int × Int)) (s x r : Int) : look (upd L s x) r = if r = s then (look L s).map (fun _ => x) else look L r := by
  induction L with
  | nil => simp [look, upd]
  | cons p L ih =>
    rw [show upd (p :: L) s x = (if p.1 == s then (s, x) else p) :: upd L s x from rfl, look_cons, ih, look_cons, look_cons]
    by_cases h : p.1 = s
    · have e : (p.1 == s) = true := by simpa using h
      rw [if_pos e]
      by_cases hr : r = s
      · subst hr; simp [h]
      · simp [h, hr, Ne.symm hr]
    · have e : (p.1 == s) = false := by simpa using h
      rw [e]
      by_cases hr : r = s
      · subst hr; simp [h]
      · by_cases hp : p.1 = r
        · simp [hp, hr]
        · simp [hp, hr]
theorem look_put (L : List (Int × Int)) (s x r : Int) : look (putL L s x) r = if r = s then some x else look L r := by
  unfold putL
  cases hl : look L s with
  | some y =>
    simp only [Option.isSome_some, if_true]
    rw [look_upd, hl]; rfl
  | none =>
    simp only [Option.isSome_none, Bool.false_eq_true, if_false]
    rw [look_append, look_cons]
    by_cases hr : r = s
    · subst hr; simp [hl]
    · simp [Ne.symm hr, hr, look]
theorem look_del (L : List (Int × Int)) (s r : Int) : look (delL L s) r = if r = s then none else look L r := by
  induction L with
  | nil => simp [look, delL]
  | cons p L ih =>
    unfold delL at ih ⊢
    rw [List.filter_cons]
    by_cases h : p.1 = s
    · have e : (p.1 != s) = false := by simpa using h
      rw [e, look_cons]
      simp only [Bool.false_eq_true, if_false]
      rw [ih]
      by_cases hr : r = s
      · simp [hr]
      · have : p.1 ≠ r := fun e => hr (by omega)
        simp [hr, this]
    · have e : (p.1 != s) = true := by simpa using h
      rw [e]
      simp only [if_true]
      rw [look_cons, look_cons, ih]
      by_cases hr : r = s
      · subst hr; simp [h]
      · simp [hr]
theorem once_put {L : List (Int × Int)} (h : Once L) (s x : Int) : Once (putL L s x) := by
  unfold putL Once at *
  cases hl : look L s with
  | some y => simp only [Option.isSome_some, if_true]; rw [upd_keys]; exact h
  | none =>
    simp only [Option.isSome_none, Bool.false_eq_true, if_false, List.map_append, List.map_cons, List.map_nil]
    rw [List.nodup_append]
    refine ⟨h, by simp, fun a ha b hb => ?_⟩
    simp at hb
    subst hb
    intro e; subst e
    exact look_none.1 hl ha
theorem once_del {L : List (Int × Int)} (h : Once L) (s : Int) : Once (delL L s) :=
  List.Nodup.sublist (List.Sublist.map _ List.filter_sublist) h
theorem put_length (L : List (Int × Int)) (s x : Int) : (putL L s x).length = if (look L s).isSome then L.length else L.length + 1 := by
  unfold putL
  split <;> simp [upd]
theorem del_length {L : List (Int × Int)} (h : Once L) (s : Int) : (delL L s).length + (if (look L s).isSome then 1 else 0) = L.length := by
  induction L with
  | nil => simp [delL, look]
  | cons p L ih =>
    have hL : Once L := by unfold Once at h ⊢; exact (List.nodup_cons.1 h).2
    have hn : p.1 ∉ L.map (·.1) := by unfold Once at h; exact (List.nodup_cons.1 h).1
    have := ih hL
    unfold delL at this ⊢
    rw [List.filter_cons, look_cons]
    by_cases hp : p.1 = s
    · have hl : look L s = none := look_none.2 (hp ▸ hn)
      rw [hl] at this
      simp [hp] at this ⊢
      exact this
    · have e : (p.1 != s) = true := by simpa using hp
      simp only [e, if_true, if_neg hp, List.length_cons]
      omega

def key (s : Int) : Lit := .int .i64 s
def num (x : Int) : DataW Unit := .lit (.int .i64 x)
/-- The map reads as the list. -/
structure MapIs (D : DataW Unit) (L : List (Int × Int)) : Prop where
  has : ∀ s, Maps.has D (key s) = (look L s).isSome
  at_ : ∀ s x, look L s = some x → D.atKey (key s) (num 0) = num x
  size : Maps.size D = L.length
theorem key_ne {s r : Int} (h : s ≠ r) : key s ≠ key r := fun e => h (by injection e)
theorem key_lit (s : Int) : WideAt.IsKeyLit (key s) := by unfold key WideAt.IsKeyLit; trivial
theorem MapIs.empty : MapIs (.map []) [] := ⟨fun s => rfl, fun s x h => by simp [look] at h, rfl⟩
theorem MapIs.put {D : DataW Unit} {L : List (Int × Int)} (h : MapIs D L) (ht : Tidy D) (s x : Int) : MapIs (D.put (key s) (num x)) (putL L s x) := by
  refine ⟨fun r => ?_, fun r y hy => ?_, ?_⟩
  · rw [look_put]
    by_cases hr : r = s
    · subst hr; rw [has_put_same ht.isMap (key_lit _)]; simp
    · rw [has_put_other (key_ne hr), h.has]; simp [hr]
  · rw [look_put] at hy
    by_cases hr : r = s
    · subst hr
      rw [if_pos rfl] at hy
      injection hy with hy
      subst hy
      exact atKey_put_same ht.isMap (key_lit _) _ _
    · rw [if_neg hr] at hy
      rw [atKey_put_other (key_ne hr)]
      exact h.at_ r y hy
  · rw [size_put ht, h.has, put_length, h.size]
theorem MapIs.del {D : DataW Unit} {L : List (Int × Int)} (h : MapIs D L) (ht : Tidy D) (ho : Once L) (s : Int) : MapIs (D.del (key s)) (delL L s) := by
  refine ⟨fun r => ?_, fun r y hy => ?_, ?_⟩
  · rw [look_del]
    by_cases hr : r = s
    · subst hr; rw [has_del_same]; simp
    · rw [has_del_other (key_ne hr), h.has]; simp [hr]
  · rw [look_del] at hy
    by_cases hr : r = s
    · rw [if_pos hr] at hy; cases hy
    · rw [if_neg hr] at hy
      rw [atKey_del_other (key_ne hr)]
      exact h.at_ r y hy
  · have h1 := size_del (k := key s) ht
    have h2 := del_length ho s
    rw [h.has, h.size] at h1
    omega
end Go.Proofs.Ytoicclgcbemffaa
