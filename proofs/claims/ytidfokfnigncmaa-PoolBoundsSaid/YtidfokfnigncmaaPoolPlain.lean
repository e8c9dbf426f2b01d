/- A pool, in plain Lean. No program in sight. -/
import Derived.Test.YtidfokfnigncmaaHeapPlain
namespace Go.Proofs.Ytidfokfnigncmaa
open Go.RowKit

/-- A connection; sn below 0: it is busy. -/
structure Ln where
  id : Int
  org : Int
  sn : Int
structure Pl where
  mo : Int
  idl : Int
  la : Int
  L : List Ln
def cnt (L : List Ln) (o : Int) : Nat := L.countP (fun x => x.org = o)
def setSn (L : List Ln) (id s : Int) : List Ln := L.map fun x => if x.id = id then ⟨x.id, x.org, s⟩ else x
def dropId (L : List Ln) (id : Int) : List Ln := L.filter fun x => x.id ≠ id
def findId (L : List Ln) (id : Int) : Option Ln := L.find? fun x => x.id = id
/-- What a pool keeps. -/
structure PlOk (N : Nat) (P : Pl) : Prop where
  sorted : P.L.Pairwise (fun a b => a.id < b.id)
  each : ∀ x ∈ P.L, 1 ≤ x.id ∧ x.id ≤ P.la ∧ 0 ≤ x.org ∧ x.org < 4 ∧ -1 ≤ x.sn ∧ x.sn ≤ 1099511627776
  la0 : 0 ≤ P.la
  la1 : P.la ≤ N
  mo0 : 1 ≤ P.mo
  mo1 : P.mo ≤ 4
  idl0 : 1 ≤ P.idl
  idl1 : P.idl ≤ 1099511627776
  room : ∀ o, (cnt P.L o : Int) ≤ P.mo
  len : P.L.length ≤ N
  few : N ≤ 1099511627776
/-- As an order, with the number behind the time. -/
def lnLe (a b : Ln) : Prop := a.sn < b.sn ∨ (a.sn = b.sn ∧ a.id ≤ b.id)
def IsBest (L : List Ln) (o : Int) (e : Ln) : Prop := e ∈ L ∧ e.org = o ∧ 0 ≤ e.sn ∧ ∀ x ∈ L, x.org = o → 0 ≤ x.sn → lnLe x e
def IsMin (L : List Ln) (e : Ln) : Prop := e ∈ L ∧ 0 ≤ e.sn ∧ ∀ x ∈ L, 0 ≤ x.sn → lnLe e x
def bestStep (o : Int) (acc : Option Ln) (x : Ln) : Option Ln := if x.org = o ∧ 0 ≤ x.sn then (match acc with
  | none => some x
  | some e => if e.sn ≤ x.sn then some x else some e) else acc
def bestOf (L : List Ln) (o : Int) : Option Ln := L.foldl (bestStep o) none
def minStep (lim : Int) (acc : Option Ln) (x : Ln) : Option Ln := if 0 ≤ x.sn ∧ x.sn ≤ lim then (match acc with
  | none => some x
  | some e => if x.sn < e.sn then some x else some e) else acc
def minOf (L : List Ln) (lim : Int) : Option Ln := L.foldl (minStep lim) none
theorem lnLe_refl (a : Ln) : lnLe a a := .inr ⟨rfl, Int.le_refl _⟩
theorem lnLe_trans {a b c : Ln} (h : lnLe a b) (h2 : lnLe b c) : lnLe a c := by unfold lnLe at *; omega
theorem lnLe_anti {a b : Ln} (h : lnLe a b) (h2 : lnLe b a) : a.id = b.id := by unfold lnLe at *; omega

section
variable {L : List Ln} {o lim : Int}
theorem sorted_inj (hs : L.Pairwise (fun a b => a.id < b.id)) {a b : Ln} (ha : a ∈ L) (hb : b ∈ L) (h : a.id = b.id) : a = b := by
  induction L with
  | nil => cases ha
  | cons x l ih =>
    rw [List.pairwise_cons] at hs
    rcases List.mem_cons.1 ha with h1 | h1
    · rcases List.mem_cons.1 hb with h2 | h2
      · rw [h1, h2]
      · have := hs.1 b h2; rw [h1] at h; omega
    · rcases List.mem_cons.1 hb with h2 | h2
      · have := hs.1 a h1; rw [h2] at h; omega
      · exact ih hs.2 h1 h2
theorem best_uniq (hs : L.Pairwise (fun a b => a.id < b.id)) {a b : Ln} (ha : IsBest L o a) (hb : IsBest L o b) : a = b :=
  sorted_inj hs ha.1 hb.1 (lnLe_anti (hb.2.2.2 a ha.1 ha.2.1 ha.2.2.1) (ha.2.2.2 b hb.1 hb.2.1 hb.2.2.1))
theorem min_uniq (hs : L.Pairwise (fun a b => a.id < b.id)) {a b : Ln} (ha : IsMin L a) (hb : IsMin L b) : a = b :=
  sorted_inj hs ha.1 hb.1 (lnLe_anti (ha.2.2 b hb.1 hb.2.1) (hb.2.2 a ha.1 ha.2.1))
def BestGood (o : Int) (L : List Ln) : Option Ln → Prop
  | none => ∀ x ∈ L, x.org = o → x.sn < 0
  | some e => IsBest L o e
theorem best_good : ∀ (l pre : List Ln) (acc : Option Ln), (pre ++ l).Pairwise (fun a b => a.id < b.id) → BestGood o pre acc → BestGood o (pre ++ l) (l.foldl (bestStep o) acc)
  | [], pre, acc, _, h => by simpa using h
  | x :: l, pre, acc, hs, h => by
    have he : pre ++ x :: l = (pre ++ [x]) ++ l := by simp
    rw [he] at hs ⊢
    refine best_good l (pre ++ [x]) (bestStep o acc x) hs ?_
    have hlt : ∀ y ∈ pre, y.id < x.id := fun y hy => by
      rw [List.append_assoc, List.pairwise_append] at hs
      exact hs.2.2 y hy x (by simp)
    unfold bestStep
    by_cases hx : x.org = o ∧ 0 ≤ x.sn
    · rw [if_pos hx]
      cases acc with
      | none =>
        refine ⟨by simp, hx.1, hx.2, fun y hy h1 h2 => ?_⟩
        rcases List.mem_append.1 hy with h3 | h3
        · have := h y h3 h1; omega
        · have : y = x := by simpa using h3
          subst this; exact lnLe_refl _
      | some e =>
        obtain ⟨b1, b2, b3, b4⟩ := h
        simp only
        split
        · rename_i hle
          refine ⟨by simp, hx.1, hx.2, fun y hy h1 h2 => ?_⟩
          rcases List.mem_append.1 hy with h3 | h3
          · have h5 := b4 y h3 h1 h2
            have h6 := hlt y h3
            unfold lnLe at *; omega
          · have : y = x := by simpa using h3
            subst this; exact lnLe_refl _
        · rename_i hle
          refine ⟨by simp [b1], b2, b3, fun y hy h1 h2 => ?_⟩
          rcases List.mem_append.1 hy with h3 | h3
          · exact b4 y h3 h1 h2
          · have : y = x := by simpa using h3
            subst this; unfold lnLe; omega
    · rw [if_neg hx]
      cases acc with
      | none =>
        intro y hy h1
        rcases List.mem_append.1 hy with h3 | h3
        · exact h y h3 h1
        · have : y = x := by simpa using h3
          subst this; omega
      | some e =>
        obtain ⟨b1, b2, b3, b4⟩ := h
        refine ⟨by simp [b1], b2, b3, fun y hy h1 h2 => ?_⟩
        rcases List.mem_append.1 hy with h3 | h3
        · exact b4 y h3 h1 h2
        · have : y = x := by simpa using h3
          subst this; omega
theorem bestOf_good (hs : L.Pairwise (fun a b => a.id < b.id)) : BestGood o L (bestOf L o) := by
  have := best_good (o := o) L [] none (by simpa using hs) (fun x hx => by cases hx)
  exact this
theorem bestOf_some (hs : L.Pairwise (fun a b => a.id < b.id)) {e : Ln} (h : IsBest L o e) : bestOf L o = some e := by
  have hg := bestOf_good (o := o) hs
  cases hb : bestOf L o with
  | none => rw [hb] at hg; have := hg e h.1 h.2.1; have := h.2.2.1; omega
  | some e' => rw [hb] at hg; rw [best_uniq hs hg h]
theorem bestOf_none (hs : L.Pairwise (fun a b => a.id < b.id)) (h : ∀ x ∈ L, x.org = o → x.sn < 0) : bestOf L o = none := by
  have hg := bestOf_good (o := o) hs
  cases hb : bestOf L o with
  | none => rfl
  | some e' => rw [hb] at hg; have := h e' hg.1 hg.2.1; have := hg.2.2.1; omega
def MinGood (lim : Int) (L : List Ln) : Option Ln → Prop
  | none => ∀ x ∈ L, 0 ≤ x.sn → lim < x.sn
  | some e => IsMin L e ∧ e.sn ≤ lim
theorem min_good : ∀ (l pre : List Ln) (acc : Option Ln), (pre ++ l).Pairwise (fun a b => a.id < b.id) → MinGood lim pre acc → MinGood lim (pre ++ l) (l.foldl (minStep lim) acc)
  | [], pre, acc, _, h => by simpa using h
  | x :: l, pre, acc, hs, h => by
    have he : pre ++ x :: l = (pre ++ [x]) ++ l := by simp
    rw [he] at hs ⊢
    refine min_good l (pre ++ [x]) (minStep lim acc x) hs ?_
    have hlt : ∀ y ∈ pre, y.id < x.id := fun y hy => by
      rw [List.append_assoc, List.pairwise_append] at hs
      exact hs.2.2 y hy x (by simp)
    unfold minStep
    by_cases hx : 0 ≤ x.sn ∧ x.sn ≤ lim
    · rw [if_pos hx]
      cases acc with
      | none =>
        refine ⟨⟨by simp, hx.1, fun y hy h1 => ?_⟩, hx.2⟩
        rcases List.mem_append.1 hy with h3 | h3
        · have := h y h3 h1; unfold lnLe; omega
        · have : y = x := by simpa using h3
          subst this; exact lnLe_refl _
      | some e =>
        obtain ⟨⟨b1, b2, b3⟩, b4⟩ := h
        simp only
        split
        · rename_i hle
          refine ⟨⟨by simp, hx.1, fun y hy h1 => ?_⟩, hx.2⟩
          rcases List.mem_append.1 hy with h3 | h3
          · have h5 := b3 y h3 h1
            unfold lnLe at *; omega
          · have : y = x := by simpa using h3
            subst this; exact lnLe_refl _
        · rename_i hle
          refine ⟨⟨by simp [b1], b2, fun y hy h1 => ?_⟩, b4⟩
          rcases List.mem_append.1 hy with h3 | h3
          · exact b3 y h3 h1
          · have : y = x := by simpa using h3
            subst this
            have := hlt e b1
            unfold lnLe; omega
    · rw [if_neg hx]
      cases acc with
      | none =>
        intro y hy h1
        rcases List.mem_append.1 hy with h3 | h3
        · exact h y h3 h1
        · have : y = x := by simpa using h3
          subst this; omega
      | some e =>
        obtain ⟨⟨b1, b2, b3⟩, b4⟩ := h
        refine ⟨⟨by simp [b1], b2, fun y hy h1 => ?_⟩, b4⟩
        rcases List.mem_append.1 hy with h3 | h3
        · exact b3 y h3 h1
        · have : y = x := by simpa using h3
          subst this; unfold lnLe; omega
theorem minOf_good (hs : L.Pairwise (fun a b => a.id < b.id)) : MinGood lim L (minOf L lim) := by
  have := min_good (lim := lim) L [] none (by simpa using hs) (fun x hx => by cases hx)
  exact this
theorem minOf_some (hs : L.Pairwise (fun a b => a.id < b.id)) {e : Ln} (h : IsMin L e) (hl : e.sn ≤ lim) : minOf L lim = some e := by
  have hg := minOf_good (lim := lim) hs
  cases hb : minOf L lim with
  | none => rw [hb] at hg; have := hg e h.1 h.2.1; omega
  | some e' => rw [hb] at hg; rw [min_uniq hs hg.1 h]
theorem minOf_none (hs : L.Pairwise (fun a b => a.id < b.id)) (h : ∀ x ∈ L, 0 ≤ x.sn → lim < x.sn) : minOf L lim = none := by
  have hg := minOf_good (lim := lim) hs
  cases hb : minOf L lim with
  | none => rfl
  | some e' => rw [hb] at hg; have := h e' hg.1.1 hg.1.2.1; have := hg.2; omega
end
/-- Those that rested too long, one after the other. -/
def expL : Nat → List Ln → Int → List Int × List Ln
  | 0, L, _ => ([], L)
  | n + 1, L, lim => match minOf L lim with
    | none => ([], L)
    | some e => (e.id :: (expL n (dropId L e.id) lim).1, (expL n (dropId L e.id) lim).2)
theorem dropId_le (L : List Ln) (id : Int) : (dropId L id).length ≤ L.length := List.length_filter_le _ _
theorem expL_none {n : Nat} {L : List Ln} {lim : Int} (h : minOf L lim = none) : expL n L lim = ([], L) := by
  cases n with
  | zero => rfl
  | succ n => rw [expL, h]
theorem expL_some {n : Nat} {L : List Ln} {lim : Int} {e : Ln} (h : minOf L lim = some e) : expL (n + 1) L lim = (e.id :: (expL n (dropId L e.id) lim).1, (expL n (dropId L e.id) lim).2) := by
  rw [expL, h]
def Pl.get (P : Pl) (o now : Int) : (Int × Bool × Int) × Pl :=
  if o < 0 ∨ 4 ≤ o ∨ now < 0 ∨ 1099511627776 < now then ((0, false, 1), P) else
    match bestOf P.L o with
    | some e => ((e.id, false, 0), { P with L := setSn P.L e.id (-1) })
    | none => if P.mo ≤ cnt P.L o then ((0, false, 3), P) else ((P.la + 1, true, 0), { P with la := P.la + 1, L := P.L ++ [⟨P.la + 1, o, -1⟩] })
def Pl.put (P : Pl) (id now : Int) : Int × Pl :=
  if now < 0 ∨ 1099511627776 < now then (1, P) else
    match findId P.L id with
    | none => (4, P)
    | some e => if 0 ≤ e.sn then (5, P) else (0, { P with L := setSn P.L id now })
def Pl.drop (P : Pl) (id : Int) : Int × Pl := match findId P.L id with
  | none => (4, P)
  | some _ => (0, { P with L := dropId P.L id })
def Pl.expire (P : Pl) (now : Int) : List Int × Pl := if now < P.idl then ([], P) else ((expL P.L.length P.L (now - P.idl)).1, { P with L := (expL P.L.length P.L (now - P.idl)).2 })
def Pl.origin (P : Pl) (id : Int) : Int × Bool := match findId P.L id with
  | none => (0, false)
  | some e => (e.org, true)
def idleN (L : List Ln) (o : Int) : Nat := L.countP (fun x => x.org = o ∧ 0 ≤ x.sn)
def Pl.count (P : Pl) (o : Int) : Int × Int := ((cnt P.L o : Int) - idleN P.L o, idleN P.L o)

section
variable {N : Nat} {P : Pl} {L : List Ln}
theorem findId_some {id : Int} {e : Ln} (h : findId L id = some e) : e ∈ L ∧ e.id = id := ⟨List.mem_of_find?_eq_some h, by have := List.find?_some h; simpa using this⟩
theorem findId_none {id : Int} (h : findId L id = none) : ∀ x ∈ L, x.id ≠ id := fun x hx => by
  have := List.find?_eq_none.1 h x hx
  simpa using this
theorem findId_mem (hs : L.Pairwise (fun a b => a.id < b.id)) {e : Ln} (he : e ∈ L) : findId L e.id = some e := by
  cases h : findId L e.id with
  | none => exact absurd rfl (findId_none h e he)
  | some e' =>
    obtain ⟨h1, h2⟩ := findId_some h
    rw [sorted_inj hs h1 he h2]
theorem setSn_sorted (hs : L.Pairwise (fun a b => a.id < b.id)) (id s : Int) : (setSn L id s).Pairwise (fun a b => a.id < b.id) := by
  unfold setSn
  rw [List.pairwise_map]
  refine hs.imp fun {a b} h => ?_
  split <;> split <;> exact h
theorem setSn_cnt (id s o : Int) : cnt (setSn L id s) o = cnt L o := by
  unfold cnt setSn
  rw [List.countP_map]
  congr 1
  funext x
  simp only [Function.comp]
  split <;> rfl
theorem mem_setSn {id s : Int} {x : Ln} (h : x ∈ setSn L id s) : ∃ y ∈ L, x.id = y.id ∧ x.org = y.org ∧ (x.sn = y.sn ∨ x.sn = s) := by
  unfold setSn at h
  obtain ⟨y, hy, rfl⟩ := List.mem_map.1 h
  refine ⟨y, hy, ?_⟩
  split
  · exact ⟨rfl, rfl, .inr rfl⟩
  · exact ⟨rfl, rfl, .inl rfl⟩
theorem PlOk.set (h : PlOk N P) {id s : Int} (h0 : -1 ≤ s) (h1 : s ≤ 1099511627776) : PlOk N { P with L := setSn P.L id s } := by
  refine ⟨setSn_sorted h.sorted _ _, fun x hx => ?_, h.la0, h.la1, h.mo0, h.mo1, h.idl0, h.idl1, fun o => by simp only [setSn_cnt]; exact h.room o, by simpa [setSn] using h.len, h.few⟩
  obtain ⟨y, hy, e1, e2, e3⟩ := mem_setSn hx
  obtain ⟨a, b, c, d, e, f⟩ := h.each y hy
  rw [e1, e2]
  exact ⟨a, b, c, d, by omega, by omega⟩
theorem cnt_drop_le (L : List Ln) (id o : Int) : cnt (dropId L id) o ≤ cnt L o := List.filter_sublist.countP_le
theorem PlOk.drop (h : PlOk N P) {id : Int} : PlOk N { P with L := dropId P.L id } :=
  ⟨h.sorted.filter _, fun x hx => h.each x (List.mem_filter.1 hx).1, h.la0, h.la1, h.mo0, h.mo1, h.idl0, h.idl1, fun o => by have := cnt_drop_le P.L id o; have := h.room o; simp only; omega, Nat.le_trans (dropId_le _ _) h.len, h.few⟩
theorem PlOk.more (h : PlOk N P) {N' : Nat} (hn : N ≤ N') (hf : N' ≤ 1099511627776) : PlOk N' P := ⟨h.sorted, h.each, h.la0, by have := h.la1; omega, h.mo0, h.mo1, h.idl0, h.idl1, h.room, by have := h.len; omega, hf⟩
theorem PlOk.add (h : PlOk N P) {o : Int} (h0 : 0 ≤ o) (h1 : o < 4) (hr : (cnt P.L o : Int) < P.mo) (hf : N + 1 ≤ 1099511627776) : PlOk (N + 1) { P with la := P.la + 1, L := P.L ++ [⟨P.la + 1, o, -1⟩] } := by
  have hla := h.la0
  refine ⟨?_, fun x hx => ?_, by simp only; omega, by have := h.la1; simp only; omega, h.mo0, h.mo1, h.idl0, h.idl1, fun o' => ?_, by have := h.len; simp; omega, hf⟩
  · rw [List.pairwise_append]
    refine ⟨h.sorted, by simp, fun a ha b hb => ?_⟩
    have : b = ⟨P.la + 1, o, -1⟩ := by simpa using hb
    subst this
    have := (h.each a ha).2.1
    simp only; omega
  · rcases List.mem_append.1 hx with h2 | h2
    · obtain ⟨a, b, c, d, e, f⟩ := h.each x h2
      exact ⟨a, by simp only; omega, c, d, e, f⟩
    · have : x = ⟨P.la + 1, o, -1⟩ := by simpa using h2
      subst this
      exact ⟨by simp only; omega, Int.le_refl _, h0, h1, by simp, by simp⟩
  · unfold cnt
    rw [List.countP_append]
    have := h.room o'
    unfold cnt at this hr
    by_cases e : o = o'
    · subst e; simp; omega
    · simp [e]; omega
end
end Go.Proofs.Ytidfokfnigncmaa
