/- A slice somewhere in a block of the program's own; append onto it; frames by footprints. No program in sight. -/
import Derived.Test.YtidfokfnigncmaaBase
import Derived.ArgAppend
import Derived.Deep.Upon
namespace Go.Proofs.Ytidfokfnigncmaa
open Go.RowKit

/-- 'Kept F w w'': every block outside F is as it was. -/
structure Kept (F : Nat → Prop) (w w' : World) : Prop where
  os : w'.os = w.os
  tape : w'.tape = w.tape
  output : w'.output = w.output
  size : w.heap.size ≤ w'.heap.size
  block : ∀ k, k < w.heap.size → ¬ F k → w'.heap[k]? = w.heap[k]?
/-- What belongs to the thing later belonged to it, or is new. -/
def Grew (w : World) (F F' : Nat → Prop) : Prop := ∀ k, F' k → F k ∨ w.heap.size ≤ k
section
variable {F F' G : Nat → Prop} {w w' w2 : World}
theorem Kept.refl (F : Nat → Prop) (w : World) : Kept F w w := ⟨rfl, rfl, rfl, Nat.le_refl _, fun _ _ _ => rfl⟩
theorem Kept.trans (h : Kept F w w') (h2 : Kept F' w' w2) (hg : Grew w F F') : Kept F w w2 :=
  ⟨h2.os.trans h.os, h2.tape.trans h.tape, h2.output.trans h.output, Nat.le_trans h.size h2.size, fun k hk hn =>
    (h2.block k (Nat.lt_of_lt_of_le hk h.size) (fun hf => (hg k hf).elim hn (fun hle => by omega))).trans (h.block k hk hn)⟩
theorem Grew.refl (w : World) (F : Nat → Prop) : Grew w F F := fun _ h => .inl h
theorem Grew.trans {F2 : Nat → Prop} (h : Grew w F F') (h2 : Grew w' F' F2) (hs : w.heap.size ≤ w'.heap.size) : Grew w F F2 := fun k hk => (h2 k hk).elim (h k) (fun hle => .inr (by omega))
theorem Kept.same (h : Kept F w w') (h2 : Kept F w' w2) : Kept F w w2 := h.trans h2 (Grew.refl _ _)
theorem Kept.mono (h : Kept F w w') (hf : ∀ k, F k → G k) : Kept G w w' := ⟨h.os, h.tape, h.output, h.size, fun k hk hn => h.block k hk (fun hfk => hn (hf k hfk))⟩
theorem Kept.below {B : Nat} (h : Kept F w w') (hf : ∀ k, F k → B ≤ k) (hs : B ≤ w.heap.size) : Below B w w' := ⟨h.os, h.tape, h.output, h.size, fun k hk => h.block k (by omega) (fun hfk => by have := hf k hfk; omega)⟩
theorem Kept.of_below (h : Below w.heap.size w w') : Kept F w w' := ⟨h.os, h.tape, h.output, h.size, fun k hk _ => h.block k hk⟩
theorem Kept.alloc (h : Kept F w w') (o : Obj) : Kept F w (w'.alloc o) := ⟨h.os, h.tape, h.output, by have := h.size; simp; omega, fun k hk hn => (Below.heap_alloc _ _ _ (Nat.lt_of_lt_of_le hk h.size)).trans (h.block k hk hn)⟩
theorem Kept.drew (h : Kept F w w') : Kept F w w'.drew := ⟨h.os, h.tape, h.output, h.size, h.block⟩
theorem Kept.drewN (h : Kept F w w') (n : Nat) : Kept F w (w'.drewN n) := ⟨h.os, h.tape, h.output, h.size, h.block⟩
theorem Kept.setCell (h : Kept F w w') {g : Nat} (hg : F g) (o : Nat) (v : Value) : Kept F w (w'.setCell ⟨g, o, none⟩ v) :=
  ⟨h.os, h.tape, h.output, by simpa [World.setCell] using h.size, fun k hk hn => (Below.heap_setCell _ ⟨g, o, none⟩ v _ (fun e => hn (by simp only at e; rw [e]; exact hg))).trans (h.block k hk hn)⟩
theorem Kept.grown (h : Kept F w w') {row : Option Nat} (hg : w'.grownBy w2 row) (hr : ∀ k, row = some k → F k ∨ w.heap.size ≤ k) : Kept F w w2 :=
  ⟨hg.os.trans h.os, hg.tape.trans h.tape, hg.output.trans h.output, Nat.le_trans h.size hg.size, fun k hk hn => (hg.block k (Nat.lt_of_lt_of_le hk h.size) (fun e => (hr k e.symm).elim hn (fun hle => by omega))).trans (h.block k hk hn)⟩
theorem Kept.cell (h : Kept F w w') {k : Nat} (hk : k < w.heap.size) (hn : ¬ F k) (o : Nat) : w'.cell? ⟨k, o, none⟩ = w.cell? ⟨k, o, none⟩ := World.cell?_of_block (h.block k hk hn)
theorem Kept.frozen (h : Kept F w w') {k : Nat} (hk : k < w.heap.size) (hn : ¬ F k) (o : Nat) : w'.frozen? ⟨k, o, none⟩ = w.frozen? ⟨k, o, none⟩ := World.frozen?_of_block (h.block k hk hn)
end

theorem heapNew (w : World) (o : Obj) : (w.alloc o).heap[w.heap.size]? = some o := by
  show (w.heap.push o)[w.heap.size]? = _
  simp
theorem heapNew1 (w : World) (o o2 : Obj) : ((w.alloc o).alloc o2).heap[w.heap.size + 1]? = some o2 := by
  have := heapNew (w.alloc o) o2
  rwa [show (w.alloc o).heap.size = w.heap.size + 1 by simp] at this

/-- A slice value v of n elements that holds xs, in a block of element type e, with room behind up to its capacity. -/
def Lies (w : World) (e : TypeId) (size : Nat) (v : Value) (n : Nat) (xs : List Value) : Prop :=
  xs.length = n * size ∧ ((v = .slice none 0 0 ∧ n = 0) ∨ ∃ g o cap cur, v = .slice (some ⟨g, o, none⟩) n cap ∧ w.heap[g]? = some (.cells cur e (0, 0)) ∧ n ≤ cap ∧ cap ≤ maxLen ∧ o + cap * size ≤ cur.size ∧ ∀ j, j < n * size → w.cell? ⟨g, o + j, none⟩ = xs[j]?)
section
variable {w w' : World} {e : TypeId} {size n : Nat} {v : Value} {xs : List Value}
theorem Lies.nil (w : World) (e : TypeId) (size : Nat) : Lies w e size (.slice none 0 0) 0 [] := ⟨by simp, .inl ⟨rfl, rfl⟩⟩
theorem Lies.keep (h : Lies w e size v n xs) (hk : ∀ g, v.ownBlock = some g → w'.heap[g]? = w.heap[g]?) : Lies w' e size v n xs := by
  refine ⟨h.1, ?_⟩
  rcases h.2 with h2 | ⟨g, o, cap, cur, rfl, hb, hn, hc, hs, hcell⟩
  · exact .inl h2
  · have := hk g rfl
    exact .inr ⟨g, o, cap, cur, rfl, this.trans hb, hn, hc, hs, fun j hj => (World.cell?_of_block (a := ⟨g, o + j, none⟩) this).trans (hcell j hj)⟩
theorem Lies.form (h : Lies w e size v n xs) : ∃ A c, v = .slice A n c ∧ n ≤ c ∧ c ≤ maxLen ∧ (∀ a, A = some a → a.block < w.heap.size) := by
  rcases h.2 with ⟨rfl, rfl⟩ | ⟨g, o, cap, cur, rfl, hb, hn, hc, _⟩
  · exact ⟨none, 0, rfl, Nat.le_refl _, Nat.zero_le _, fun a ha => by cases ha⟩
  · exact ⟨_, cap, rfl, hn, hc, fun a ha => by cases ha; exact (Array.getElem?_eq_some_iff.1 hb).1⟩
theorem Lies.rd (h : Lies w e size v n xs) {A : Option Addr} {c : Nat} (hv : v = .slice A n c) : Rd w w.heap.size size A n xs := by
  refine ⟨h.1, fun hn => ?_⟩
  rcases h.2 with ⟨hv2, h0⟩ | ⟨g, o, cap, cur, hv2, hb, _, _, _, hcell⟩
  · omega
  · rw [hv] at hv2
    injection hv2 with h1 h2 h3
    exact ⟨g, o, h1, (Array.getElem?_eq_some_iff.1 hb).1, hcell⟩
theorem Lies.of_own {base : Nat} (h : w.ownsRow base e size v n xs) : Lies w e size v n xs := by
  refine ⟨h.1, ?_⟩
  rcases h.2 with h2 | ⟨g, cap, cur, hv, _, hb, hn, hc, hs, ht⟩
  · exact .inl h2
  · subst hv
    refine .inr ⟨g, 0, cap, cur, rfl, hb, hn, hc, by omega, fun j hj => ?_⟩
    rw [Nat.zero_add]
    exact h.cellAt j hj
/-- 's[1:]' -/
theorem Lies.tail (h : Lies w e size v n xs) (hn : 0 < n) {A : Option Addr} {c : Nat} (hv : v = .slice A n c) : Lies w e size (.slice (if c = 1 then A else A.map (·.add size)) (n - 1) (c - 1)) (n - 1) (xs.drop size) := by
  have h1 : (n - 1) * size = n * size - size := by rw [Nat.sub_mul, Nat.one_mul]
  have hsz : size ≤ n * size := Nat.le_mul_of_pos_left _ hn
  refine ⟨by rw [List.length_drop, h.1, h1], ?_⟩
  rcases h.2 with ⟨_, h0⟩ | ⟨g, o, cap, cur, hv2, hb, hnc, hc, hs, hcell⟩
  · omega
  · rw [hv] at hv2
    injection hv2 with e1 e2 e3
    subst e1 e3
    by_cases hc1 : c = 1
    · subst hc1
      have : n = 1 := by omega
      subst this
      exact .inr ⟨g, o, 0, cur, by simp, hb, by omega, Nat.zero_le _, by omega, fun j hj => by simp at hj⟩
    · have hcs : (c - 1) * size = c * size - size := by rw [Nat.sub_mul, Nat.one_mul]
      have hcz : size ≤ c * size := Nat.le_mul_of_pos_left _ (by omega)
      refine .inr ⟨g, o + size, c - 1, cur, by rw [if_neg hc1]; simp [Addr.add_lit], hb, by omega, by omega, by omega, fun j hj => ?_⟩
      rw [List.getElem?_drop, Nat.add_assoc]
      exact hcell (size + j) (by omega)
end

theorem setCells_block (g : Nat) (e : TypeId) : ∀ (vs : List Value) (k : Nat) (w : World) (cur : Array Value), w.heap[g]? = some (.cells cur e (0, 0)) →
    ∃ cur', (w.setCells g k vs).heap[g]? = some (.cells cur' e (0, 0)) ∧ cur'.size = cur.size := by
  intro vs
  induction vs with
  | nil => intro k w cur h; exact ⟨cur, h, rfl⟩
  | cons v vs ih =>
    intro k w cur h
    have h1 : (w.setCell ⟨g, k, none⟩ v).heap[g]? = some (.cells (cur.setIfInBounds k v) e (0, 0)) := by
      simp only [World.setCell, Array.getElem?_modify, if_true]
      rw [h]; rfl
    obtain ⟨cur', h2, h3⟩ := ih (k + 1) _ _ h1
    exact ⟨cur', h2, by rw [h3]; simp⟩
theorem setCells_outer (g k : Nat) (vs : List Value) (w : World) : (w.setCells g k vs).os = w.os ∧ (w.setCells g k vs).tape = w.tape ∧ (w.setCells g k vs).output = w.output ∧ (w.setCells g k vs).heap.size = w.heap.size := by
  induction vs generalizing k w with
  | nil => exact ⟨rfl, rfl, rfl, rfl⟩
  | cons v vs ih =>
    obtain ⟨a, b, c, d⟩ := ih (k + 1) (w.setCell ⟨g, k, none⟩ v)
    exact ⟨a, b, c, d.trans (by simp [World.setCell])⟩

section
variable {P : Program} {w : World}
/-- 'append(s, x...)' of one element or more onto such a slice. -/
theorem run_app_lies {t e : TypeId} {z : Value} {size bytes : Nat} (ty : TypeId) (hT : SlT P t e z size bytes) {v : Value} {n : Nat} {xs : List Value} (h : Lies w e size v n xs)
    {B : Nat} {A : Option Addr} {m c : Nat} {news : List Value} (hr : Rd w B size A m news) (hm : 0 < m) (h1 : ∀ u ∈ news, u.oneCell' = true)
    (h63 : n + m ≤ maxLen) (hbytes : (n + m) * bytes ≤ 140737488355328) :
    ∃ v' w', (Builtin.append_ #[t, t] ty #[v, .slice A m c]).run P w = .ok v' w' ∧ Lies w' e size v' (n + m) (xs ++ news) ∧ w.grownBy w' v.ownBlock ∧
      (v'.ownBlock = v.ownBlock ∨ ∀ k, v'.ownBlock = some k → w.heap.size ≤ k) := by
  obtain ⟨i, hi, hz, hs, hby⟩ := info_parts hT.info
  obtain ⟨ab, ao, rfl, _, hac⟩ := hr.2 hm
  have hnews : ∀ j u, news[j]? = some u → w.cell? ((⟨ab, ao, none⟩ : Addr).add j) = some u := by
    intro j u hu
    rw [Addr.add_lit, hac j (by have := (List.getElem?_eq_some_iff.1 hu).1; rw [hr.1] at this; exact this), hu]
  rcases h.2 with ⟨rfl, rfl⟩ | ⟨g, o, cap, cur, rfl, hb, hnc, hcm, hcs, hcell⟩
  · have hx : xs = [] := List.eq_nil_of_length_eq_zero (by simpa using h.1)
    subst hx
    obtain ⟨v', w', hrun, h2, h3, h4⟩ := run_app (P := P) ty hT (base := 0) (World.ownsRow_nil w 0 e size) hr (c := c) h1 h63 hbytes (Nat.zero_le _)
    exact ⟨v', w', hrun, Lies.of_own h2, h3, h4.imp id (fun h k hk => by rw [h] at hk; injection hk with hk; omega)⟩
  · by_cases hroom : n + m ≤ cap
    · have hl : news.length = m * i.size := by rw [hs]; exact hr.1
      have hfit : n * size + m * size ≤ cap * size := by rw [← Nat.add_mul]; exact Nat.mul_le_mul_right _ hroom
      have hsome : ∀ j, j < news.length → (w.cell? ⟨g, o + n * i.size + j, none⟩).isSome = true := by
        intro j hj
        rw [hr.1] at hj
        unfold World.cell?
        rw [hb, hs]
        simp
        omega
      have hfz : ∀ j, j < news.length → w.frozen? ⟨g, o + n * i.size + j, none⟩ = false := by
        intro j _
        unfold World.frozen?
        rw [hb]; simp
      have hrun := run_append_room_cells (P := P) w t ty e i hT.ht hi g o n cap ⟨ab, ao, none⟩ m c news hl hnews h1 hroom hsome hfz
      obtain ⟨o1, o2, o3, o4⟩ := setCells_outer g (o + n * i.size) news w
      obtain ⟨cur', hb', hsz'⟩ := setCells_block g e news (o + n * i.size) w cur hb
      refine ⟨_, _, hrun, ⟨by rw [List.length_append, h.1, hr.1, Nat.add_mul], .inr ⟨g, o, cap, cur', rfl, hb', hroom, hcm, by omega, fun j hj => ?_⟩⟩, ⟨o1, o2, o3, by omega, fun k hk hne => World.heap_setCells_other w g _ news hk (fun e => hne (by simp [Value.ownBlock, e]))⟩, .inl rfl⟩
      rw [Nat.add_mul] at hj
      by_cases hjn : j < n * size
      · rw [World.cell?_setCells_out g news _ w _ (fun _ _ => .inl (by simp only; rw [hs]; omega)), hcell j hjn, List.getElem?_append_left (by rw [h.1]; exact hjn)]
      · have hin := World.cell?_setCells_in g news (o + n * i.size) w hsome (j - n * size) (by rw [hr.1]; omega)
        rw [show o + n * i.size + (j - n * size) = o + j by rw [hs]; omega] at hin
        rw [hin, List.getElem?_append_right (by rw [h.1]; omega), h.1, List.getElem?_eq_getElem (by rw [hr.1]; omega)]
    · have holds : ∀ j u, xs[j]? = some u → w.cell? ((⟨g, o, none⟩ : Addr).add j) = some u := by
        intro j u hu
        rw [Addr.add_lit, hcell j (by have := (List.getElem?_eq_some_iff.1 hu).1; rw [h.1] at this; exact this), hu]
      obtain ⟨v', w', hrun, h2, h3⟩ := run_append_arg_grows (P := P) w t ty e i z size bytes hT.ht hi hz hs hby hT.hz hT.pos ⟨g, o, none⟩ n cap xs h.1 holds ⟨ab, ao, none⟩ m c news hr.1 hnews (by omega) h63 hbytes
      refine ⟨v', w', hrun, Lies.of_own h2, ⟨h3.os, h3.tape, h3.output, h3.size, fun k hk _ => h3.block k hk (by simp)⟩, .inr fun k hk => (h2.lt k hk).1⟩
end
end Go.Proofs.Ytidfokfnigncmaa
