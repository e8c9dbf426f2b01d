/- 7 texts in one: TextPlain, Lies, TabPlain, Tab, Tab2, Tab3, Tab4. -/
import Derived.Test.YthpieiipddfpjaaM1
import Derived.ArgAppend
import Derived.Deep.Upon
import Derived.Maps.OwnSet
import Derived.Maps.Views
import Derived.Test.YthpieiipddfpjaaChecked
import Derived.Maps.OwnOps
import Derived.DeepKeys4
import Derived.MapViews
import Derived.ChangeSame
import Derived.StillTailTactics
import Derived.Deep.LoopGhost
import Derived.Deep.DeepCutAuto
import Derived.Deep.RegionLaw
import Derived.Deep.QuietTactic
import Derived.BigQuiet
import Derived.Outline
import Derived.IntWalk
/- What PutText writes and TakeText reads, and that each reads the other's, in plain Lean. No program in sight. -/
namespace Go.Proofs.Ythpieiipddfpjaa
open Go.RowKit

/-- A text with its length. -/
def textB (l : List UInt8) : List UInt8 := if nbytes l < l.length then putB 128 127 (nbytes l) ++ encB l else putB 0 127 l.length ++ l
theorem textB_bits {l : List UInt8} (h : nbytes l < l.length) : textB l = putB 128 127 (nbytes l) ++ encB l := if_pos h
theorem textB_raw {l : List UInt8} (h : l.length ≤ nbytes l) : textB l = putB 0 127 l.length ++ l := if_neg (by omega)

/-- The piece that a text's length speaks of. -/
def pieceT (l : List UInt8) : List UInt8 := (l.drop (takeI 127 l).2.1).take (takeI 127 l).1
/-- The text at the beginning, how many bytes it takes, the error. -/
def takeT (l : List UInt8) : List UInt8 × Nat × Nat :=
  if (takeI 127 l).2.2 ≠ 0 then ([], 0, (takeI 127 l).2.2)
  else if 4096 < (takeI 127 l).1 then ([], 0, 2)
  else if l.length < (takeI 127 l).2.1 + (takeI 127 l).1 then ([], 0, 12)
  else if ba l 0 < 128 then (pieceT l, (takeI 127 l).2.1 + (takeI 127 l).1, 0)
  else match decB (pieceT l) with
    | none => ([], 0, 10)
    | some t => if 4096 < t.length then ([], 0, 2) else (t, (takeI 127 l).2.1 + (takeI 127 l).1, 0)
def triT (r : List UInt8 × Nat × Nat) : Value := .tuple #[.string ⟨r.1.toArray⟩, .int .i64 (r.2.1 : Int), .int .i64 (r.2.2 : Int)]

theorem takeTail_bd : ∀ (k a n t : Nat) (l : List UInt8), (takeTail k a n t l).2.2 = 0 → (takeTail k a n t l).1 ≤ 2147483647 ∧ a < (takeTail k a n t l).2.1 ∧ (takeTail k a n t l).2.1 ≤ a + l.length ∧ (takeTail k a n t l).2.1 ≤ a + k
  | 0, a, n, t, l, h => by simp [takeTail] at h
  | k + 1, a, n, t, [], h => by simp [takeTail] at h
  | k + 1, a, n, t, c :: l, h => by
    by_cases h1 : c.toNat < 128
    · by_cases h2 : 2147483647 < n + t * (c.toNat % 128)
      · rw [takeTail, if_pos h1, if_pos h2] at h; simp at h
      · rw [takeTail, if_pos h1, if_neg h2]; simp; omega
    · rw [takeTail, if_neg h1] at h ⊢
      have := takeTail_bd k _ _ _ l h
      simp; omega
theorem takeI_bd {F : Nat} (hF : F ≤ 255) (l : List UInt8) (h : (takeI F l).2.2 = 0) : (takeI F l).1 ≤ 2147483647 ∧ 1 ≤ (takeI F l).2.1 ∧ (takeI F l).2.1 ≤ l.length ∧ (takeI F l).2.1 ≤ 6 := by
  cases l with
  | nil => simp [takeI] at h
  | cons c t =>
    by_cases h1 : c.toNat % (F + 1) < F
    · simp only [takeI]; rw [if_pos h1]; simp; omega
    · simp only [takeI] at h ⊢; rw [if_neg h1] at h ⊢
      have := takeTail_bd _ _ _ _ _ h
      simp; omega
theorem takeTail_err : ∀ (k a n t : Nat) (l : List UInt8), (takeTail k a n t l).2.2 ≤ 12
  | 0, a, n, t, l => by simp [takeTail]
  | k + 1, a, n, t, [] => by simp [takeTail]
  | k + 1, a, n, t, c :: l => by
    rw [takeTail]
    split
    · split <;> simp
    · exact takeTail_err k _ _ _ l
theorem takeI_err (F : Nat) (l : List UInt8) : (takeI F l).2.2 ≤ 12 := by
  cases l with
  | nil => simp [takeI]
  | cons c t =>
    simp only [takeI]
    split
    · simp
    · exact takeTail_err _ _ _ _ _

theorem take_put : ∀ (k k' a s T x : Nat) (rest : List UInt8), 1 ≤ k → k ≤ k' + 1 → x < 128 ^ k → s + T * x ≤ 2147483647 → takeTail k a s T (tailF k' x ++ rest) = (s + T * x, a + (tailF k' x).length, 0) := by
  intro k
  induction k with
  | zero => intro k' a s T x rest h; omega
  | succ k ih =>
    intro k' a s T x rest _ hk hx hs
    by_cases h1 : x < 128
    · rw [tailF_small _ _ h1]
      simp only [List.cons_append, List.nil_append, takeTail, toNat_ofNat (show x < 256 by omega)]
      rw [if_pos h1, Nat.mod_eq_of_lt h1, if_neg (by omega)]
      rfl
    · obtain ⟨q, rfl⟩ : ∃ q, k' = q + 1 := ⟨k' - 1, by
        cases k with
        | zero => simp at hx; omega
        | succ k => omega⟩
      have hk1 : 1 ≤ k := by
        cases k with
        | zero => simp at hx; omega
        | succ k => omega
      rw [tailF_big _ _ (by omega)]
      simp only [List.cons_append, takeTail, toNat_ofNat (show x % 128 + 128 < 256 by omega)]
      rw [if_neg (by omega), show (x % 128 + 128) % 128 = x % 128 by omega]
      have e : s + T * (x % 128) + T * 128 * (x / 128) = s + T * x := by
        rw [Nat.mul_assoc, Nat.add_assoc, ← Nat.mul_add, Nat.mod_add_div]
      rw [ih q (a + 1) _ _ (x / 128) rest hk1 (by omega) (Nat.div_lt_of_lt_mul (by rw [Nat.pow_succ, Nat.mul_comm] at hx; exact hx)) (by rw [e]; exact hs), e]
      simp [Nat.add_assoc, Nat.add_comm]
theorem take_cut : ∀ (k k' a s T x : Nat), 1 ≤ k → k ≤ k' + 1 → x < 128 ^ k → takeTail k a s T ((tailF k' x).take ((tailF k' x).length - 1)) = (0, 0, 12) := by
  intro k
  induction k with
  | zero => intro k' a s T x h; omega
  | succ k ih =>
    intro k' a s T x _ hk hx
    by_cases h1 : x < 128
    · rw [tailF_small _ _ h1]
      simp [takeTail]
    · obtain ⟨q, rfl⟩ : ∃ q, k' = q + 1 := ⟨k' - 1, by
        cases k with
        | zero => simp at hx; omega
        | succ k => omega⟩
      have hk1 : 1 ≤ k := by
        cases k with
        | zero => simp at hx; omega
        | succ k => omega
      rw [tailF_big _ _ (by omega)]
      have hl := (tailF_length q (x / 128)).2
      obtain ⟨m, hm⟩ : ∃ m, (tailF q (x / 128)).length = m + 1 := ⟨_, (Nat.sub_add_cancel hl).symm⟩
      have hi := ih q (a + 1) (s + T * (x % 128)) (T * 128) (x / 128) hk1 (by omega) (Nat.div_lt_of_lt_mul (by rw [Nat.pow_succ, Nat.mul_comm] at hx; exact hx))
      rw [hm] at hi
      simp only [List.length_cons, hm, Nat.add_sub_cancel, List.take_succ_cons, takeTail, toNat_ofNat (show x % 128 + 128 < 256 by omega)]
      rw [if_neg (by omega), show (x % 128 + 128) % 128 = x % 128 by omega]
      simpa using hi

section
variable {f F n : Nat} (hF : 1 ≤ F ∧ F ≤ 255) (hf : f % (F + 1) = 0) (hfF : f + F < 256) (hn : n ≤ 2147483647)
include hF hf hfF hn
theorem takeI_putB (rest : List UInt8) : takeI F (putB f F n ++ rest) = (n, (putB f F n).length, 0) := by
  unfold putB
  by_cases h : n < F
  · rw [if_pos h]
    simp only [List.cons_append, List.nil_append, takeI, toNat_ofNat (show f + n < 256 by omega)]
    have e : (f + n) % (F + 1) = n := by rw [Nat.add_mod, hf, Nat.zero_add, Nat.mod_mod, Nat.mod_eq_of_lt (by omega)]
    rw [e, if_pos h]; rfl
  · rw [if_neg h]
    simp only [List.cons_append, takeI, toNat_ofNat (show f + F < 256 by omega)]
    have e : (f + F) % (F + 1) = F := by rw [Nat.add_mod, hf, Nat.zero_add, Nat.mod_mod, Nat.mod_eq_of_lt (by omega)]
    rw [e, if_neg (by omega), take_put 5 5 1 F 1 (n - F) rest (by omega) (by omega) (by simp; omega) (by omega)]
    simp only [List.length_cons]
    congr 1
    · omega
    · congr 1; omega
theorem takeI_cut : takeI F ((putB f F n).take ((putB f F n).length - 1)) = (0, 0, 12) := by
  unfold putB
  by_cases h : n < F
  · rw [if_pos h]
    simp [takeI]
  · rw [if_neg h]
    have e : (f + F) % (F + 1) = F := by rw [Nat.add_mod, hf, Nat.zero_add, Nat.mod_mod, Nat.mod_eq_of_lt (by omega)]
    have hl := (tailF_length 5 (n - F)).2
    obtain ⟨m, hm⟩ : ∃ m, (tailF 5 (n - F)).length = m + 1 := ⟨_, (Nat.sub_add_cancel hl).symm⟩
    have hi := take_cut 5 5 1 F 1 (n - F) (by omega) (by omega) (by simp; omega)
    rw [hm] at hi
    simp only [List.length_cons, hm, Nat.add_sub_cancel, List.take_succ_cons, takeI, toNat_ofNat (show f + F < 256 by omega)]
    rw [e, if_neg (by omega)]
    simpa using hi
end
section
variable {l : List UInt8} {m a z : Nat} (h : takeI 127 l = (m, a, z))
include h
theorem takeT_err (hz : z ≠ 0) : takeT l = ([], 0, z) := by unfold takeT; rw [h]; exact if_pos hz
theorem takeT_long (hz : z = 0) (hm : 4096 < m) : takeT l = ([], 0, 2) := by unfold takeT; rw [h]; simp [hz, hm]
theorem takeT_short (hz : z = 0) (hm : m ≤ 4096) (hl : l.length < a + m) : takeT l = ([], 0, 12) := by
  unfold takeT; rw [h]; simp only [hz]; rw [if_neg (by omega), if_neg (by omega), if_pos hl]
theorem takeT_raw (hz : z = 0) (hm : m ≤ 4096) (hl : a + m ≤ l.length) (hb : ba l 0 < 128) : takeT l = ((l.drop a).take m, a + m, 0) := by
  unfold takeT pieceT; rw [h]; simp only [hz]; rw [if_neg (by omega), if_neg (by omega), if_neg (by omega), if_pos hb]
theorem takeT_bits (hz : z = 0) (hm : m ≤ 4096) (hl : a + m ≤ l.length) (hb : 128 ≤ ba l 0) : takeT l = match decB ((l.drop a).take m) with
    | none => ([], 0, 10)
    | some t => if 4096 < t.length then ([], 0, 2) else (t, a + m, 0) := by
  unfold takeT pieceT; rw [h]; simp only [hz]; rw [if_neg (by omega), if_neg (by omega), if_neg (by omega), if_neg (by omega)]
end
end Go.Proofs.Ythpieiipddfpjaa

/- A slice somewhere in a block of the program's own; append onto it; frames by footprints. No program in sight. -/
namespace Go.Proofs.Ythpieiipddfpjaa
open Go.RowKit

/-- 'Kept F w w'': every block outside F is as it was. -/
structure Kept (F : Nat → Prop) (w w' : World) : Prop where
  os : w'.os = w.os
  tape : w'.tape = w.tape
  output : w'.output = w.output
  size : w.heap.size ≤ w'.heap.size
  block : ∀ k, k < w.heap.size → ¬ F k → w'.heap[k]? = w.heap[k]?
/-- What belongs to the thing later belonged to it, or is new. -/
def Grew (w : World) (F F' : Nat → Prop) : Prop := ∀ k, F' k → F k ∨ w.heap.size ≤ k
section
variable {F F' G : Nat → Prop} {w w' w2 : World}
theorem Kept.refl (F : Nat → Prop) (w : World) : Kept F w w := ⟨rfl, rfl, rfl, Nat.le_refl _, fun _ _ _ => rfl⟩
theorem Kept.trans (h : Kept F w w') (h2 : Kept F' w' w2) (hg : Grew w F F') : Kept F w w2 :=
  ⟨h2.os.trans h.os, h2.tape.trans h.tape, h2.output.trans h.output, Nat.le_trans h.size h2.size, fun k hk hn =>
    (h2.block k (Nat.lt_of_lt_of_le hk h.size) (fun hf => (hg k hf).elim hn (fun hle => by omega))).trans (h.block k hk hn)⟩
theorem Grew.refl (w : World) (F : Nat → Prop) : Grew w F F := fun _ h => .inl h
theorem Grew.trans {F2 : Nat → Prop} (h : Grew w F F') (h2 : Grew w' F' F2) (hs : w.heap.size ≤ w'.heap.size) : Grew w F F2 := fun k hk => (h2 k hk).elim (h k) (fun hle => .inr (by omega))
theorem Kept.same (h : Kept F w w') (h2 : Kept F w' w2) : Kept F w w2 := h.trans h2 (Grew.refl _ _)
theorem Kept.mono (h : Kept F w w') (hf : ∀ k, F k → G k) : Kept G w w' := ⟨h.os, h.tape, h.output, h.size, fun k hk hn => h.block k hk (fun hfk => hn (hf k hfk))⟩
theorem Kept.below {B : Nat} (h : Kept F w w') (hf : ∀ k, F k → B ≤ k) (hs : B ≤ w.heap.size) : Below B w w' := ⟨h.os, h.tape, h.output, h.size, fun k hk => h.block k (by omega) (fun hfk => by have := hf k hfk; omega)⟩
theorem Kept.of_below (h : Below w.heap.size w w') : Kept F w w' := ⟨h.os, h.tape, h.output, h.size, fun k hk _ => h.block k hk⟩
theorem Kept.alloc (h : Kept F w w') (o : Obj) : Kept F w (w'.alloc o) := ⟨h.os, h.tape, h.output, by have := h.size; simp; omega, fun k hk hn => (Below.heap_alloc _ _ _ (Nat.lt_of_lt_of_le hk h.size)).trans (h.block k hk hn)⟩
theorem Kept.drew (h : Kept F w w') : Kept F w w'.drew := ⟨h.os, h.tape, h.output, h.size, h.block⟩
theorem Kept.drewN (h : Kept F w w') (n : Nat) : Kept F w (w'.drewN n) := ⟨h.os, h.tape, h.output, h.size, h.block⟩
theorem Kept.setCell (h : Kept F w w') {g : Nat} (hg : F g) (o : Nat) (v : Value) : Kept F w (w'.setCell ⟨g, o, none⟩ v) :=
  ⟨h.os, h.tape, h.output, by simpa [World.setCell] using h.size, fun k hk hn => (Below.heap_setCell _ ⟨g, o, none⟩ v _ (fun e => hn (by simp only at e; rw [e]; exact hg))).trans (h.block k hk hn)⟩
theorem Kept.grown (h : Kept F w w') {row : Option Nat} (hg : w'.grownBy w2 row) (hr : ∀ k, row = some k → F k ∨ w.heap.size ≤ k) : Kept F w w2 :=
  ⟨hg.os.trans h.os, hg.tape.trans h.tape, hg.output.trans h.output, Nat.le_trans h.size hg.size, fun k hk hn => (hg.block k (Nat.lt_of_lt_of_le hk h.size) (fun e => (hr k e.symm).elim hn (fun hle => by omega))).trans (h.block k hk hn)⟩
theorem Kept.cell (h : Kept F w w') {k : Nat} (hk : k < w.heap.size) (hn : ¬ F k) (o : Nat) : w'.cell? ⟨k, o, none⟩ = w.cell? ⟨k, o, none⟩ := World.cell?_of_block (h.block k hk hn)
theorem Kept.frozen (h : Kept F w w') {k : Nat} (hk : k < w.heap.size) (hn : ¬ F k) (o : Nat) : w'.frozen? ⟨k, o, none⟩ = w.frozen? ⟨k, o, none⟩ := World.frozen?_of_block (h.block k hk hn)
end

theorem heapNew (w : World) (o : Obj) : (w.alloc o).heap[w.heap.size]? = some o := by
  show (w.heap.push o)[w.heap.size]? = _
  simp
theorem heapNew1 (w : World) (o o2 : Obj) : ((w.alloc o).alloc o2).heap[w.heap.size + 1]? = some o2 := by
  have := heapNew (w.alloc o) o2
  rwa [show (w.alloc o).heap.size = w.heap.size + 1 by simp] at this

/-- A slice value v of n elements that holds xs, in a block of element type e, with room behind up to its capacity. -/
def Lies (w : World) (e : TypeId) (size : Nat) (v : Value) (n : Nat) (xs : List Value) : Prop :=
  xs.length = n * size ∧ ((v = .slice none 0 0 ∧ n = 0) ∨ ∃ g o cap cur, v = .slice (some ⟨g, o, none⟩) n cap ∧ w.heap[g]? = some (.cells cur e (0, 0)) ∧ n ≤ cap ∧ cap ≤ maxLen ∧ o + cap * size ≤ cur.size ∧ ∀ j, j < n * size → w.cell? ⟨g, o + j, none⟩ = xs[j]?)
section
variable {w w' : World} {e : TypeId} {size n : Nat} {v : Value} {xs : List Value}
theorem Lies.nil (w : World) (e : TypeId) (size : Nat) : Lies w e size (.slice none 0 0) 0 [] := ⟨by simp, .inl ⟨rfl, rfl⟩⟩
theorem Lies.keep (h : Lies w e size v n xs) (hk : ∀ g, v.ownBlock = some g → w'.heap[g]? = w.heap[g]?) : Lies w' e size v n xs := by
  refine ⟨h.1, ?_⟩
  rcases h.2 with h2 | ⟨g, o, cap, cur, rfl, hb, hn, hc, hs, hcell⟩
  · exact .inl h2
  · have := hk g rfl
    exact .inr ⟨g, o, cap, cur, rfl, this.trans hb, hn, hc, hs, fun j hj => (World.cell?_of_block (a := ⟨g, o + j, none⟩) this).trans (hcell j hj)⟩
theorem Lies.form (h : Lies w e size v n xs) : ∃ A c, v = .slice A n c ∧ n ≤ c ∧ c ≤ maxLen ∧ (∀ a, A = some a → a.block < w.heap.size) := by
  rcases h.2 with ⟨rfl, rfl⟩ | ⟨g, o, cap, cur, rfl, hb, hn, hc, _⟩
  · exact ⟨none, 0, rfl, Nat.le_refl _, Nat.zero_le _, fun a ha => by cases ha⟩
  · exact ⟨_, cap, rfl, hn, hc, fun a ha => by cases ha; exact (Array.getElem?_eq_some_iff.1 hb).1⟩
theorem Lies.rd (h : Lies w e size v n xs) {A : Option Addr} {c : Nat} (hv : v = .slice A n c) : Rd w w.heap.size size A n xs := by
  refine ⟨h.1, fun hn => ?_⟩
  rcases h.2 with ⟨hv2, h0⟩ | ⟨g, o, cap, cur, hv2, hb, _, _, _, hcell⟩
  · omega
  · rw [hv] at hv2
    injection hv2 with h1 h2 h3
    exact ⟨g, o, h1, (Array.getElem?_eq_some_iff.1 hb).1, hcell⟩
theorem Lies.of_own {base : Nat} (h : w.ownsRow base e size v n xs) : Lies w e size v n xs := by
  refine ⟨h.1, ?_⟩
  rcases h.2 with h2 | ⟨g, cap, cur, hv, _, hb, hn, hc, hs, ht⟩
  · exact .inl h2
  · subst hv
    refine .inr ⟨g, 0, cap, cur, rfl, hb, hn, hc, by omega, fun j hj => ?_⟩
    rw [Nat.zero_add]
    exact h.cellAt j hj
/-- 's[1:]' -/
theorem Lies.tail (h : Lies w e size v n xs) (hn : 0 < n) {A : Option Addr} {c : Nat} (hv : v = .slice A n c) : Lies w e size (.slice (if c = 1 then A else A.map (·.add size)) (n - 1) (c - 1)) (n - 1) (xs.drop size) := by
  have h1 : (n - 1) * size = n * size - size := by rw [Nat.sub_mul, Nat.one_mul]
  have hsz : size ≤ n * size := Nat.le_mul_of_pos_left _ hn
  refine ⟨by rw [List.length_drop, h.1, h1], ?_⟩
  rcases h.2 with ⟨_, h0⟩ | ⟨g, o, cap, cur, hv2, hb, hnc, hc, hs, hcell⟩
  · omega
  · rw [hv] at hv2
    injection hv2 with e1 e2 e3
    subst e1 e3
    by_cases hc1 : c = 1
    · subst hc1
      have : n = 1 := by omega
      subst this
      exact .inr ⟨g, o, 0, cur, by simp, hb, by omega, Nat.zero_le _, by omega, fun j hj => by simp at hj⟩
    · have hcs : (c - 1) * size = c * size - size := by rw [Nat.sub_mul, Nat.one_mul]
      have hcz : size ≤ c * size := Nat.le_mul_of_pos_left _ (by omega)
      refine .inr ⟨g, o + size, c - 1, cur, by rw [if_neg hc1]; simp [Addr.add_lit], hb, by omega, by omega, by omega, fun j hj => ?_⟩
      rw [List.getElem?_drop, Nat.add_assoc]
      exact hcell (size + j) (by omega)
end

theorem setCells_block (g : Nat) (e : TypeId) : ∀ (vs : List Value) (k : Nat) (w : World) (cur : Array Value), w.heap[g]? = some (.cells cur e (0, 0)) →
    ∃ cur', (w.setCells g k vs).heap[g]? = some (.cells cur' e (0, 0)) ∧ cur'.size = cur.size := by
  intro vs
  induction vs with
  | nil => intro k w cur h; exact ⟨cur, h, rfl⟩
  | cons v vs ih =>
    intro k w cur h
    have h1 : (w.setCell ⟨g, k, none⟩ v).heap[g]? = some (.cells (cur.setIfInBounds k v) e (0, 0)) := by
      simp only [World.setCell, Array.getElem?_modify, if_true]
      rw [h]; rfl
    obtain ⟨cur', h2, h3⟩ := ih (k + 1) _ _ h1
    exact ⟨cur', h2, by rw [h3]; simp⟩
theorem setCells_outer (g k : Nat) (vs : List Value) (w : World) : (w.setCells g k vs).os = w.os ∧ (w.setCells g k vs).tape = w.tape ∧ (w.setCells g k vs).output = w.output ∧ (w.setCells g k vs).heap.size = w.heap.size := by
  induction vs generalizing k w with
  | nil => exact ⟨rfl, rfl, rfl, rfl⟩
  | cons v vs ih =>
    obtain ⟨a, b, c, d⟩ := ih (k + 1) (w.setCell ⟨g, k, none⟩ v)
    exact ⟨a, b, c, d.trans (by simp [World.setCell])⟩

section
variable {P : Program} {w : World}
/-- 'append(s, x...)' of one element or more onto such a slice. -/
theorem run_app_lies {t e : TypeId} {z : Value} {size bytes : Nat} (ty : TypeId) (hT : SlT P t e z size bytes) {v : Value} {n : Nat} {xs : List Value} (h : Lies w e size v n xs)
    {B : Nat} {A : Option Addr} {m c : Nat} {news : List Value} (hr : Rd w B size A m news) (hm : 0 < m) (h1 : ∀ u ∈ news, u.oneCell' = true)
    (h63 : n + m ≤ maxLen) (hbytes : (n + m) * bytes ≤ 140737488355328) :
    ∃ v' w', (Builtin.append_ #[t, t] ty #[v, .slice A m c]).run P w = .ok v' w' ∧ Lies w' e size v' (n + m) (xs ++ news) ∧ w.grownBy w' v.ownBlock ∧
      (v'.ownBlock = v.ownBlock ∨ ∀ k, v'.ownBlock = some k → w.heap.size ≤ k) := by
  obtain ⟨i, hi, hz, hs, hby⟩ := info_parts hT.info
  obtain ⟨ab, ao, rfl, _, hac⟩ := hr.2 hm
  have hnews : ∀ j u, news[j]? = some u → w.cell? ((⟨ab, ao, none⟩ : Addr).add j) = some u := by
    intro j u hu
    rw [Addr.add_lit, hac j (by have := (List.getElem?_eq_some_iff.1 hu).1; rw [hr.1] at this; exact this), hu]
  rcases h.2 with ⟨rfl, rfl⟩ | ⟨g, o, cap, cur, rfl, hb, hnc, hcm, hcs, hcell⟩
  · have hx : xs = [] := List.eq_nil_of_length_eq_zero (by simpa using h.1)
    subst hx
    obtain ⟨v', w', hrun, h2, h3, h4⟩ := run_app (P := P) ty hT (base := 0) (World.ownsRow_nil w 0 e size) hr (c := c) h1 h63 hbytes (Nat.zero_le _)
    exact ⟨v', w', hrun, Lies.of_own h2, h3, h4.imp id (fun h k hk => by rw [h] at hk; injection hk with hk; omega)⟩
  · by_cases hroom : n + m ≤ cap
    · have hl : news.length = m * i.size := by rw [hs]; exact hr.1
      have hfit : n * size + m * size ≤ cap * size := by rw [← Nat.add_mul]; exact Nat.mul_le_mul_right _ hroom
      have hsome : ∀ j, j < news.length → (w.cell? ⟨g, o + n * i.size + j, none⟩).isSome = true := by
        intro j hj
        rw [hr.1] at hj
        unfold World.cell?
        rw [hb, hs]
        simp
        omega
      have hfz : ∀ j, j < news.length → w.frozen? ⟨g, o + n * i.size + j, none⟩ = false := by
        intro j _
        unfold World.frozen?
        rw [hb]; simp
      have hrun := run_append_room_cells (P := P) w t ty e i hT.ht hi g o n cap ⟨ab, ao, none⟩ m c news hl hnews h1 hroom hsome hfz
      obtain ⟨o1, o2, o3, o4⟩ := setCells_outer g (o + n * i.size) news w
      obtain ⟨cur', hb', hsz'⟩ := setCells_block g e news (o + n * i.size) w cur hb
      refine ⟨_, _, hrun, ⟨by rw [List.length_append, h.1, hr.1, Nat.add_mul], .inr ⟨g, o, cap, cur', rfl, hb', hroom, hcm, by omega, fun j hj => ?_⟩⟩, ⟨o1, o2, o3, by omega, fun k hk hne => World.heap_setCells_other w g _ news hk (fun e => hne (by simp [Value.ownBlock, e]))⟩, .inl rfl⟩
      rw [Nat.add_mul] at hj
      by_cases hjn : j < n * size
      · rw [World.cell?_setCells_out g news _ w _ (fun _ _ => .inl (by simp only; rw [hs]; omega)), hcell j hjn, List.getElem?_append_left (by rw [h.1]; exact hjn)]
      · have hin := World.cell?_setCells_in g news (o + n * i.size) w hsome (j - n * size) (by rw [hr.1]; omega)
        rw [show o + n * i.size + (j - n * size) = o + j by rw [hs]; omega] at hin
        rw [hin, List.getElem?_append_right (by rw [h.1]; omega), h.1, List.getElem?_eq_getElem (by rw [hr.1]; omega)]
    · have holds : ∀ j u, xs[j]? = some u → w.cell? ((⟨g, o, none⟩ : Addr).add j) = some u := by
        intro j u hu
        rw [Addr.add_lit, hcell j (by have := (List.getElem?_eq_some_iff.1 hu).1; rw [h.1] at this; exact this), hu]
      obtain ⟨v', w', hrun, h2, h3⟩ := run_append_arg_grows (P := P) w t ty e i z size bytes hT.ht hi hz hs hby hT.hz hT.pos ⟨g, o, none⟩ n cap xs h.1 holds ⟨ab, ao, none⟩ m c news hr.1 hnews (by omega) h63 hbytes
      refine ⟨v', w', hrun, Lies.of_own h2, ⟨h3.os, h3.tape, h3.output, h3.size, fun k hk _ => h3.block k hk (by simp)⟩, .inr fun k hk => (h2.lt k hk).1⟩
end
end Go.Proofs.Ythpieiipddfpjaa

/- The last place of a row; a map that reads as a function of such places; a table's steps, in plain Lean. No program in sight. -/
namespace Go.Proofs.Ythpieiipddfpjaa
open Go.RowKit Go.Maps

section
variable {α : Type} [DecidableEq α]
/-- Where r came last, the first of the list having the number g + 1. -/
def pos : List α → Int → α → Option Int
  | [], _, _ => none
  | a :: l, g, r => match pos l (g + 1) r with
    | some x => some x
    | none => if r = a then some (g + 1) else none
theorem pos_cons (a : α) (l : List α) (g : Int) (r : α) : pos (a :: l) g r = match pos l (g + 1) r with | some x => some x | none => if r = a then some (g + 1) else none := rfl
theorem pos_snoc (l : List α) (a : α) (g : Int) (r : α) : pos (l ++ [a]) g r = if r = a then some (g + l.length + 1) else pos l g r := by
  induction l generalizing g with
  | nil => simp [pos]
  | cons b l ih =>
    rw [List.cons_append, pos_cons, ih]
    by_cases h : r = a
    · simp only [h, if_true, List.length_cons]
      congr 1
      omega
    · rw [if_neg h, if_neg h]; rfl
theorem pos_range {l : List α} {g : Int} {r : α} {x : Int} (h : pos l g r = some x) : g < x ∧ x ≤ g + l.length := by
  induction l generalizing g with
  | nil => cases h
  | cons b l ih =>
    rw [pos_cons] at h
    cases hp : pos l (g + 1) r with
    | some y =>
      rw [hp] at h
      injection h with h
      subst h
      have := ih hp
      simp only [List.length_cons]; omega
    | none =>
      rw [hp] at h
      simp only at h
      split at h
      · injection h with h; subst h; simp only [List.length_cons]; omega
      · cases h
theorem pos_none {l : List α} {g : Int} {r : α} : pos l g r = none ↔ r ∉ l := by
  induction l generalizing g with
  | nil => simp [pos]
  | cons b l ih =>
    rw [pos_cons]
    cases hp : pos l (g + 1) r with
    | some y =>
      have : r ∈ l := by
        apply Decidable.byContradiction
        intro hn
        rw [ih.2 hn] at hp; cases hp
      simp [this]
    | none =>
      have := ih.1 hp
      simp only [List.mem_cons, not_or]
      split
      · rename_i h; simp [h]
      · rename_i h; simp [h, this]
/-- The place that is told holds the row, and none behind it does. -/
theorem pos_at {l : List α} {g : Int} {r : α} {x : Int} (h : pos l g r = some x) : l[(x - g - 1).toNat]? = some r ∧ ∀ j, (x - g - 1).toNat < j → l[j]? ≠ some r := by
  induction l generalizing g with
  | nil => cases h
  | cons b l ih =>
    rw [pos_cons] at h
    cases hp : pos l (g + 1) r with
    | some y =>
      rw [hp] at h
      injection h with h
      subst h
      have hr := pos_range hp
      obtain ⟨h1, h2⟩ := ih hp
      have e : (y - g - 1).toNat = (y - (g + 1) - 1).toNat + 1 := by omega
      rw [e]
      refine ⟨by simpa using h1, fun j hj => ?_⟩
      cases j with
      | zero => omega
      | succ j => simpa using h2 j (by omega)
    | none =>
      rw [hp] at h
      simp only at h
      split at h
      · rename_i hra
        injection h with h
        subst h
        rw [show (g + 1 - g - 1).toNat = 0 by omega]
        refine ⟨by simp [hra], fun j hj => ?_⟩
        cases j with
        | zero => omega
        | succ j =>
          have := pos_none.1 hp
          simp only [List.getElem?_cons_succ]
          exact fun e => this (List.mem_of_getElem? e)
      · cases h
theorem pos_cons_ne {a r : α} (l : List α) (g : Int) (h : r ≠ a) : pos (a :: l) g r = pos l (g + 1) r := by
  rw [pos_cons, if_neg h]
  cases pos l (g + 1) r <;> rfl
theorem pos_cons_in {a : α} {l : List α} {g x : Int} (h : pos l (g + 1) a = some x) : pos (a :: l) g a = some x := by rw [pos_cons, h]
theorem pos_cons_out {a : α} {l : List α} {g : Int} (h : pos l (g + 1) a = none) : pos (a :: l) g a = some (g + 1) := by rw [pos_cons, h]; simp
end

def num (x : Int) : DataW Unit := .lit (.int .i64 x)
theorem num_inj {x c : Int} (h : num x = .lit (.int .i64 c)) : c = x := by unfold num at h; simp at h; exact h.symm
/-- A map that reads as the function f of the keys that may be. -/
structure View {α : Type} (κ : α → Lit) (ok : α → Prop) (D : DataW Unit) (f : α → Option Int) : Prop where
  has : ∀ a, ok a → Maps.has D (κ a) = (f a).isSome
  at_ : ∀ a x, ok a → f a = some x → D.atKey (κ a) (num 0) = num x
section
variable {α : Type} [DecidableEq α] {κ : α → Lit} {ok : α → Prop} {D : DataW Unit} {f f' : α → Option Int}
omit [DecidableEq α] in
theorem View.empty (κ : α → Lit) (ok : α → Prop) : View κ ok (.map []) (fun _ => none) := ⟨fun _ _ => rfl, fun _ _ _ h => by cases h⟩
omit [DecidableEq α] in
theorem View.congr (h : View κ ok D f) (hf : ∀ a, ok a → f' a = f a) : View κ ok D f' := ⟨fun a ha => by rw [hf a ha]; exact h.has a ha, fun a x ha hx => h.at_ a x ha (by rw [← hf a ha]; exact hx)⟩
theorem View.put (h : View κ ok D f) (ht : Tidy D) (hl : ∀ a, ok a → WideAt.IsKeyLit (κ a)) (hi : ∀ a b, ok a → ok b → a ≠ b → κ a ≠ κ b) {a : α} (ha : ok a) (x : Int) :
    View κ ok (D.put (κ a) (num x)) (fun r => if r = a then some x else f r) := by
  refine ⟨fun r hr => ?_, fun r y hr hy => ?_⟩
  · by_cases e : r = a
    · subst e; rw [has_put_same ht.isMap (hl _ hr)]; simp
    · rw [has_put_other (hi r a hr ha e), h.has r hr, if_neg e]
  · by_cases e : r = a
    · subst e
      simp only [if_true] at hy
      injection hy with hy
      subst hy
      exact atKey_put_same ht.isMap (hl _ hr) _ _
    · simp only [if_neg e] at hy
      rw [atKey_put_other (hi r a hr ha e)]
      exact h.at_ r y hr hy
theorem View.del (h : View κ ok D f) (hi : ∀ a b, ok a → ok b → a ≠ b → κ a ≠ κ b) {a : α} (ha : ok a) : View κ ok (D.del (κ a)) (fun r => if r = a then none else f r) := by
  refine ⟨fun r hr => ?_, fun r y hr hy => ?_⟩
  · by_cases e : r = a
    · subst e; rw [has_del_same]; simp
    · rw [has_del_other (hi r a hr ha e), h.has r hr, if_neg e]
  · by_cases e : r = a
    · subst e; simp at hy
    · simp only [if_neg e] at hy
      rw [atKey_del_other (hi r a hr ha e)]
      exact h.at_ r y hr hy
omit [DecidableEq α] in
theorem View.none_ (h : View κ ok D f) {a : α} (ha : ok a) (hf : f a = none) (z : DataW Unit) : D.atKey (κ a) z = z := atKey_of_not_has (by rw [h.has a ha, hf]; rfl) z
end

/-- A row: its name, its value. -/
abbrev Rw := ByteArray × ByteArray
def cost (r : Rw) : Nat := r.1.size + r.2.size + 32
/-- A table: what it may cost, how many went, its rows, the oldest first. -/
structure Tb where
  most : Int
  gone : Int
  rows : List Rw
def Tb.size (T : Tb) : Nat := (T.rows.map cost).sum
/-- The oldest go till the cost is not above m. -/
def shrunk (m : Int) : Int → List Rw → Int × List Rw
  | g, [] => (g, [])
  | g, r :: l => if m < ((((r :: l).map cost).sum : Nat) : Int) then shrunk m (g + 1) l else (g, r :: l)
def Tb.shrink (T : Tb) (m : Int) : Tb := { T with gone := (shrunk m T.gone T.rows).1, rows := (shrunk m T.gone T.rows).2 }
def Tb.resize (T : Tb) (m : Int) : Tb := { T with most := m }.shrink m
def Tb.add (T : Tb) (r : Rw) : Tb := if T.most < cost r then T.shrink 0 else { T.shrink (T.most - cost r) with rows := (T.shrink (T.most - cost r)).rows ++ [r] }
theorem shrunk_nil (m g : Int) : shrunk m g [] = (g, []) := rfl
theorem shrunk_go {m g : Int} {r : Rw} {l : List Rw} (h : m < ((((r :: l).map cost).sum : Nat) : Int)) : shrunk m g (r :: l) = shrunk m (g + 1) l := by rw [shrunk, if_pos h]
theorem shrunk_stop {m g : Int} {l : List Rw} (h : (((l.map cost).sum : Nat) : Int) ≤ m) : shrunk m g l = (g, l) := by
  cases l with
  | nil => rfl
  | cons r l => rw [shrunk, if_neg (by omega)]
end Go.Proofs.Ythpieiipddfpjaa

/- A table in memory; the walks of table.New, Most, Size, Len, cost. -/
namespace Go.Proofs.Ythpieiipddfpjaa
open Go.RowKit Go.Maps

theorem laidOutT : laidOutB Try.prog = true := by kernel_rfl
theorem rowRow : (85 : TypeId) < Try.prog.types.size := of_decide_eq_true (by kernel_rfl)
theorem wideRow : (match Try.prog.underlying 85 with | some (.array _ _) | some (.struct _) => true | _ => false) = true := by kernel_rfl
set_option maxRecDepth 100000 in
theorem lawRow : Keyed Try.prog 85 := Keyed.of_law (deep_law_laid laidOutT (m := 3) (by omega) rowRow (by kernel_rfl) wideRow)
theorem lawStr : Keyed Try.prog 9 := string_keyed Try.underlying9
theorem zeroInt (w : World) : (zeroValue 3).run Try.prog w = .ok (.int .i64 0) w := by kernel_rfl
theorem tRows : SlT Try.prog 80 85 (.agg #[.string ByteArray.empty, .string ByteArray.empty]) 2 32 :=
  ⟨Try.underlying80, by kernel_rfl, rfl, by decide⟩

def rowV (r : Rw) : Value := .agg #[.string r.1, .string r.2]
def rcs (l : List Rw) : List Value := l.flatMap fun r => [.string r.1, .string r.2]
theorem rcs_cons (r : Rw) (l : List Rw) : rcs (r :: l) = .string r.1 :: .string r.2 :: rcs l := rfl
theorem rcs_length (l : List Rw) : (rcs l).length = l.length * 2 := by
  induction l with
  | nil => rfl
  | cons p l ih => rw [rcs_cons]; simp only [List.length_cons, ih]; omega
theorem rcs_get {l : List Rw} : ∀ {i : Nat} {r : Rw}, l[i]? = some r → (rcs l)[i * 2]? = some (.string r.1) ∧ (rcs l)[i * 2 + 1]? = some (.string r.2) := by
  induction l with
  | nil => intro i p h; simp at h
  | cons q L ih =>
    intro i p h
    rw [rcs_cons]
    cases i with
    | zero => simp at h; subst h; exact ⟨rfl, rfl⟩
    | succ i =>
      have := ih (i := i) (r := p) (by simpa using h)
      rw [show (i + 1) * 2 = i * 2 + 1 + 1 by omega]
      simpa using this
theorem rcs_app (l k : List Rw) : rcs (l ++ k) = rcs l ++ rcs k := by simp [rcs, List.flatMap_append]
theorem rcs_drop (r : Rw) (l : List Rw) : (rcs (r :: l)).drop 2 = rcs l := rfl

def okS (s : ByteArray) : Prop := s.size ≤ maxLen
def okR (r : Rw) : Prop := okS r.1 ∧ okS r.2
def strKey (s : ByteArray) : Lit := .string s.data.toList
theorem strKey_ok {s : ByteArray} (h : okS s) : keyOf Try.prog 9 (.string s) = some (strKey s) := WideMaps.keyOf_string_mk Try.underlying9 h
theorem keyTypeRow : Try.prog.keyType 85 = true := by kernel_rfl
theorem cellsRow : Try.prog.cellsOf 85 = 2 := by kernel_rfl
theorem cellsStr : Try.prog.cellsOf 9 = 1 := by kernel_rfl
theorem keyLits_str (d : Nat) {s : ByteArray} (h : okS s) : Try.prog.keyLits (d + 1) 9 [.string s] = some [.string s.data.toList] := by
  unfold Program.keyLits
  rw [Try.underlying9]
  simp only
  exact if_pos h
theorem keyLits_row (d : Nat) {r : Rw} (h : okR r) : Try.prog.keyLits (d + 2) 85 [.string r.1, .string r.2] = some [.string r.1.data.toList, .string r.2.data.toList] := by
  have h1 := keyLits_str d h.1
  have h2 := keyLits_str d h.2
  unfold Program.keyLits
  rw [Try.underlying85]
  simp only
  rw [if_pos ⟨by rw [cellsRow]; rfl, by simp⟩]
  simp [cellsStr, h1, h2]
theorem rowKey_ex {r : Rw} (h : okR r) : ∃ l, keyOf Try.prog 85 (rowV r) = some l := by
  obtain ⟨d, hd⟩ : ∃ d, Try.prog.types.size + 1 = d + 2 := ⟨Try.prog.types.size - 1, by have h := Nat.lt_of_le_of_lt (Nat.zero_le _) rowRow; omega⟩
  have hf : (rowV r).formed Try.prog 85 = true := by
    unfold rowV
    simp [Value.formed, Try.underlying85, cellsRow]
  refine ⟨.string (keyBytes [.string r.1.data.toList, .string r.2.data.toList]), ?_⟩
  unfold keyOf
  rw [Try.underlying85]
  simp only
  rw [keyTypeRow, hf, hd]
  simp only [Bool.and_self, if_true]
  rw [show (rowV r).cells.toList = [.string r.1, .string r.2] from rfl, keyLits_row d h]
  rfl
noncomputable def rowKey (r : Rw) : Lit := (keyOf Try.prog 85 (rowV r)).getD (.bool true)
theorem rowKey_ok {r : Rw} (h : okR r) : keyOf Try.prog 85 (rowV r) = some (rowKey r) := by
  obtain ⟨l, hl⟩ := rowKey_ex h
  unfold rowKey
  rw [hl]; rfl
theorem rowKey_ne (a b : Rw) (ha : okR a) (hb : okR b) (h : a ≠ b) : rowKey a ≠ rowKey b := by
  intro e
  have h1 := rowKey_ok ha
  rw [e] at h1
  have := Keyed.inj lawRow h1 (rowKey_ok hb)
  obtain ⟨a1, a2⟩ := a
  obtain ⟨b1, b2⟩ := b
  simp [rowV] at this
  exact h (by rw [this.1, this.2])
set_option maxRecDepth 100000 in
theorem rowKey_lit (a : Rw) (ha : okR a) : WideAt.IsKeyLit (rowKey a) := Keyed.key lawRow (rowKey_ok ha)
theorem strKey_ne (a b : ByteArray) (ha : okS a) (hb : okS b) (h : a ≠ b) : strKey a ≠ strKey b := by
  intro e
  have h1 := strKey_ok ha
  rw [e] at h1
  have := Keyed.inj lawStr h1 (strKey_ok hb)
  simp at this
  exact h this
set_option maxRecDepth 100000 in
theorem strKey_lit (a : ByteArray) (ha : okS a) : WideAt.IsKeyLit (strKey a) := Keyed.key lawStr (strKey_ok ha)

/-- A table's blocks. -/
def foot (g mb mn : Nat) (A : Option Addr) (k : Nat) : Prop := k = g ∨ k = mb ∨ k = mn ∨ ∃ a, A = some a ∧ a.block = k
/-- A table in memory, as it lies there. -/
structure Raw (w : World) (g mb mn : Nat) (A : Option Addr) (c N : Nat) (most size gone : Int) (rows : List Rw) (fb : Rw → Option Int) (fn : ByteArray → Option Int) : Prop where
  book : w.heap[g]? = some (.cells #[.int .i64 most, .int .i64 size, .slice A rows.length c, .int .i64 gone, .map (some mb), .map (some mn)] 82 (0, 0))
  row : Lies w 85 2 (.slice A rows.length c) rows.length (rcs rows)
  both : ∃ D : DataW Unit, w.ownsMap Try.prog 85 (plainElem Try.prog 3) mb N D ∧ View rowKey okR D fb
  name : ∃ D : DataW Unit, w.ownsMap Try.prog 9 (plainElem Try.prog 3) mn N D ∧ View strKey okS D fn
  ne : g ≠ mb ∧ g ≠ mn ∧ mb ≠ mn
  apart : ∀ a, A = some a → a.block ≠ g ∧ a.block ≠ mb ∧ a.block ≠ mn
section
variable {w w' : World} {g mb mn c N : Nat} {A : Option Addr} {most size gone : Int} {rows : List Rw} {fb : Rw → Option Int} {fn : ByteArray → Option Int}
theorem Raw.lt (h : Raw w g mb mn A c N most size gone rows fb fn) : ∀ k, foot g mb mn A k → k < w.heap.size := by
  rintro k (rfl | rfl | rfl | ⟨a, ha, rfl⟩)
  · exact (Array.getElem?_eq_some_iff.1 h.book).1
  · obtain ⟨D, hD, _⟩ := h.both; exact hD.lt
  · obtain ⟨D, hD, _⟩ := h.name; exact hD.lt
  · obtain ⟨A', c', hv, _, _, hb⟩ := h.row.form
    injection hv with e1
    subst e1
    exact hb a ha
theorem Raw.keep (h : Raw w g mb mn A c N most size gone rows fb fn) (hk : ∀ k, foot g mb mn A k → w'.heap[k]? = w.heap[k]?) : Raw w' g mb mn A c N most size gone rows fb fn := by
  obtain ⟨D1, ⟨e1, l1, a1, b1⟩, v1⟩ := h.both
  obtain ⟨D2, ⟨e2, l2, a2, b2⟩, v2⟩ := h.name
  refine ⟨(hk g (.inl rfl)).trans h.book, h.row.keep fun q hq => hk q ?_, ⟨D1, ⟨e1, l1, (hk mb (.inr (.inl rfl))).trans a1, b1⟩, v1⟩, ⟨D2, ⟨e2, l2, (hk mn (.inr (.inr (.inl rfl)))).trans a2, b2⟩, v2⟩, h.ne, h.apart⟩
  cases A with
  | none => cases hq
  | some a => exact .inr (.inr (.inr ⟨a, rfl, by simpa [Value.ownBlock] using hq⟩))
theorem Raw.alloc (h : Raw w g mb mn A c N most size gone rows fb fn) (o : Obj) : Raw (w.alloc o) g mb mn A c N most size gone rows fb fn := h.keep fun k hk => Below.heap_alloc _ _ _ (h.lt k hk)
theorem Raw.cells (h : Raw w g mb mn A c N most size gone rows fb fn) : w.cell? ⟨g, 0, none⟩ = some (.int .i64 most) ∧ w.cell? ⟨g, 1, none⟩ = some (.int .i64 size) ∧ w.cell? ⟨g, 2, none⟩ = some (.slice A rows.length c) ∧
    w.cell? ⟨g, 3, none⟩ = some (.int .i64 gone) ∧ w.cell? ⟨g, 4, none⟩ = some (.map (some mb)) ∧ w.cell? ⟨g, 5, none⟩ = some (.map (some mn)) := by
  refine ⟨?_, ?_, ?_, ?_, ?_, ?_⟩ <;> (unfold World.cell?; rw [h.book]; rfl)
theorem Raw.free (h : Raw w g mb mn A c N most size gone rows fb fn) (o : Nat) : w.frozen? ⟨g, o, none⟩ = false := by
  unfold World.frozen?; rw [h.book]; simp
/-- A row's cells. -/
theorem Raw.at_ (h : Raw w g mb mn A c N most size gone rows fb fn) {i : Nat} {r : Rw} (hi : rows[i]? = some r) : ∃ q o, A = some ⟨q, o, none⟩ ∧ q < w.heap.size ∧ w.cell? ⟨q, o + i * 2, none⟩ = some (.string r.1) ∧ w.cell? ⟨q, o + i * 2 + 1, none⟩ = some (.string r.2) := by
  have hlt : i < rows.length := (List.getElem?_eq_some_iff.1 hi).1
  obtain ⟨q, o, hA, hq, hc⟩ := (h.row.rd rfl).2 (by omega)
  have e := rcs_get hi
  exact ⟨q, o, hA, hq, (hc _ (by omega)).trans e.1, (hc (i * 2 + 1) (by omega)).trans e.2⟩
end

theorem cost_any (r : Rw) (w : World) (h1 : r.1.size ≤ 140737488355328) (h2 : r.2.size ≤ 140737488355328) :
    Calls Try.prog 48 #[.agg #[.string r.1, .string r.2]] w fun e w' => e = .returned (.int .i64 (cost r : Nat)) ∧ w' = w.alloc (.cells #[.string r.1, .string r.2] 85) := by
  go_enter Try.func48, Try.ntmps48
  go_wp2
  go_ret
  exact ⟨ret_v (by unfold cost; congr 1), rfl⟩

theorem tnew_bad (n : Int) (w : World) (h : n < 0 ∨ 65536 < n) : Calls Try.prog 15 #[.int .i64 n] w fun e w' => e = .returned (.tuple #[.pointer none, .int .i64 1]) ∧ w = w' := by
  rcases h with h | h
  · go_enter Try.func15, Try.ntmps15
    go_wp2; go_ret2; exact ⟨rfl, rfl⟩
  · have h0 : ¬ n < 0 := by omega
    go_enter Try.func15, Try.ntmps15
    go_wp2; go_ret2; exact ⟨rfl, rfl⟩

/-- A table in memory, as a table. -/
structure TM (w : World) (g mb mn : Nat) (A : Option Addr) (c N : Nat) (T : Tb) : Prop where
  raw : Raw w g mb mn A c N T.most T.size T.gone T.rows (pos T.rows T.gone) (pos (T.rows.map (·.1)) T.gone)
  ok : ∀ r ∈ T.rows, okR r
  most0 : 0 ≤ T.most
  most1 : T.most ≤ 65536
  gone0 : 0 ≤ T.gone
  many : T.gone + T.rows.length ≤ N
  few : N ≤ 1099511627776
  fits : (T.size : Int) ≤ T.most
/-- A table in memory: its block, its footprint. -/
def TabIs (w : World) (g : Nat) (F : Nat → Prop) (N : Nat) (T : Tb) : Prop := ∃ mb mn A c, F = foot g mb mn A ∧ TM w g mb mn A c N T
def TNew (n : Int) (W : World) (e : Ending) (w' : World) : Prop := ∃ g F, e = .returned (.tuple #[.pointer (some ⟨g, 0, none⟩), .int .i64 0]) ∧ TabIs w' g F 0 ⟨n, 0, []⟩ ∧ (∀ k, F k → W.heap.size ≤ k) ∧ Below W.heap.size W w'

theorem tnew_any (n : Int) (w : World) (h0 : 0 ≤ n) (h1 : n ≤ 65536) : Calls Try.prog 15 #[.int .i64 n] w (TNew n w) := by
  have hmm := @run_makeMap Try.prog
  go_enter Try.func15, Try.ntmps15
  go_wp2
  go_ret2
  refine ⟨w.heap.size + 2, foot (w.heap.size + 2) w.heap.size (w.heap.size + 1) none, rfl, ⟨w.heap.size, w.heap.size + 1, none, 0, rfl, ⟨⟨?_, Lies.nil _ _ _, ⟨.map [], ?_, View.empty _ _⟩, ⟨.map [], ?_, View.empty _ _⟩, ⟨by omega, by omega, by omega⟩, fun a ha => by cases ha⟩, (fun r hr => by cases hr), h0, h1, Int.le_refl _, by simp, by omega, h0⟩⟩, ?_, (((Below.refl _ _).alloc (Nat.le_refl _) _).alloc (by simp) _).alloc (by simp; omega) _⟩
  · have := heapNew ((w.alloc (.map #[] 0)).alloc (.map #[] 0)) (.cells #[.int .i64 n, .int .i64 0, .slice none 0 0, .int .i64 0, .map (some w.heap.size), .map (some (w.heap.size + 1))] 82)
    rw [show ((w.alloc (.map #[] 0)).alloc (.map #[] 0)).heap.size = w.heap.size + 2 by simp] at this
    exact this
  · exact ((World.ownsMap_made w _ _ _).alloc _).alloc _
  · have := (World.ownsMap_made (w.alloc (.map #[] 0)) Try.prog 9 (plainElem (H := Unit) Try.prog 3)).alloc (.cells #[.int .i64 n, .int .i64 0, .slice none 0 0, .int .i64 0, .map (some w.heap.size), .map (some (w.heap.size + 1))] 82)
    rwa [show (w.alloc (.map #[] 0)).heap.size = w.heap.size + 1 by simp] at this
  · rintro k (rfl | rfl | rfl | ⟨a, ha, _⟩)
    · omega
    · omega
    · omega
    · cases ha
end Go.Proofs.Ythpieiipddfpjaa

/- What stores into a table's block and its maps leave; look-ups in its maps. -/
namespace Go.Proofs.Ythpieiipddfpjaa
open Go.RowKit Go.Maps

section
variable {w w' : World} {g mb mn c N : Nat} {A : Option Addr} {most size gone : Int} {rows : List Rw} {fb fb' : Rw → Option Int} {fn fn' : ByteArray → Option Int}
theorem Raw.congr (h : Raw w g mb mn A c N most size gone rows fb fn) (h1 : ∀ r, okR r → fb' r = fb r) (h2 : ∀ s, okS s → fn' s = fn s) : Raw w g mb mn A c N most size gone rows fb' fn' := by
  obtain ⟨D1, o1, v1⟩ := h.both
  obtain ⟨D2, o2, v2⟩ := h.name
  exact ⟨h.book, h.row, ⟨D1, o1, v1.congr h1⟩, ⟨D2, o2, v2.congr h2⟩, h.ne, h.apart⟩
theorem Raw.more (h : Raw w g mb mn A c N most size gone rows fb fn) {N' : Nat} (hN : N ≤ N') : Raw w g mb mn A c N' most size gone rows fb fn := by
  obtain ⟨D1, o1, v1⟩ := h.both
  obtain ⟨D2, o2, v2⟩ := h.name
  exact ⟨h.book, h.row, ⟨D1, o1.mono hN, v1⟩, ⟨D2, o2.mono hN, v2⟩, h.ne, h.apart⟩
theorem Raw.put (h : Raw w g mb mn A c N most size gone rows fb fn) {o : Nat} {v : Value} {most' size' gone' : Int} {A' : Option Addr} {c' : Nat} {rows' : List Rw}
    (hb : (#[Value.int .i64 most, .int .i64 size, .slice A rows.length c, .int .i64 gone, .map (some mb), .map (some mn)] : Array Value).setIfInBounds o v = #[.int .i64 most', .int .i64 size', .slice A' rows'.length c', .int .i64 gone', .map (some mb), .map (some mn)])
    (hr : Lies w 85 2 (.slice A' rows'.length c') rows'.length (rcs rows')) (ha : ∀ a, A' = some a → a.block ≠ g ∧ a.block ≠ mb ∧ a.block ≠ mn) :
    Raw (w.setCell ⟨g, o, none⟩ v) g mb mn A' c' N most' size' gone' rows' fb fn := by
  have hk : ∀ k, k ≠ g → (w.setCell ⟨g, o, none⟩ v).heap[k]? = w.heap[k]? := fun k hk => Below.heap_setCell _ _ _ _ (by simpa using hk)
  obtain ⟨D1, ⟨e1, l1, a1, b1⟩, v1⟩ := h.both
  obtain ⟨D2, ⟨e2, l2, a2, b2⟩, v2⟩ := h.name
  refine ⟨?_, hr.keep fun q hq => hk q ?_, ⟨D1, ⟨e1, l1, (hk mb (Ne.symm h.ne.1)).trans a1, b1⟩, v1⟩, ⟨D2, ⟨e2, l2, (hk mn (Ne.symm h.ne.2.1)).trans a2, b2⟩, v2⟩, h.ne, ha⟩
  · simp only [World.setCell, Array.getElem?_modify, if_true]
    rw [h.book]
    simp only [Option.map_some]
    rw [← hb]
    rfl
  · cases A' with
    | none => cases hq
    | some a => simp only [Value.ownBlock, Option.some.injEq] at hq; subst hq; exact (ha a rfl).1
theorem Raw.setMost (h : Raw w g mb mn A c N most size gone rows fb fn) (v : Int) : Raw (w.setCell ⟨g, 0, none⟩ (.int .i64 v)) g mb mn A c N v size gone rows fb fn := h.put rfl h.row h.apart
theorem Raw.setSize (h : Raw w g mb mn A c N most size gone rows fb fn) (v : Int) : Raw (w.setCell ⟨g, 1, none⟩ (.int .i64 v)) g mb mn A c N most v gone rows fb fn := h.put rfl h.row h.apart
theorem Raw.setGone (h : Raw w g mb mn A c N most size gone rows fb fn) (v : Int) : Raw (w.setCell ⟨g, 3, none⟩ (.int .i64 v)) g mb mn A c N most size v rows fb fn := h.put rfl h.row h.apart
theorem Raw.setRows (h : Raw w g mb mn A c N most size gone rows fb fn) {A' : Option Addr} {c' : Nat} {rows' : List Rw} (hr : Lies w 85 2 (.slice A' rows'.length c') rows'.length (rcs rows'))
    (ha : ∀ a, A' = some a → a.block ≠ g ∧ a.block ≠ mb ∧ a.block ≠ mn) : Raw (w.setCell ⟨g, 2, none⟩ (.slice A' rows'.length c')) g mb mn A' c' N most size gone rows' fb fn := h.put rfl hr ha
/-- The oldest row goes. -/
def cut1 (A : Option Addr) (c : Nat) : Option Addr := if c = 1 then A else A.map (·.add 2)
theorem cut1_block {A : Option Addr} {c : Nat} {a : Addr} (h : cut1 A c = some a) : ∃ a0, A = some a0 ∧ a0.block = a.block := by
  unfold cut1 at h
  split at h
  · exact ⟨a, h, rfl⟩
  · cases A with
    | none => cases h
    | some a0 => simp at h; subst h; exact ⟨a0, rfl, rfl⟩
theorem Raw.tail {r : Rw} {l : List Rw} (h : Raw w g mb mn A c N most size gone (r :: l) fb fn) : Raw (w.setCell ⟨g, 2, none⟩ (.slice (cut1 A c) l.length (c - 1))) g mb mn (cut1 A c) (c - 1) N most size gone l fb fn := by
  refine h.setRows ?_ (fun a ha => ?_)
  · have := h.row.tail (by simp) rfl
    simpa [rcs_drop, cut1] using this
  · obtain ⟨a0, h0, hb⟩ := cut1_block ha
    rw [← hb]; exact h.apart a0 h0
/-- A map's block is another. -/
theorem Raw.newBoth (h : Raw w g mb mn A c N most size gone rows fb fn) {D : DataW Unit} {N' : Nat} (hg : w.grownBy w' (some mb)) (ho : w'.ownsMap Try.prog 85 (plainElem Try.prog 3) mb N' D) (hv : View rowKey okR D fb') (hN : N ≤ N') :
    Raw w' g mb mn A c N' most size gone rows fb' fn := by
  obtain ⟨D2, o2, v2⟩ := h.name
  have hl := h.lt
  refine ⟨(hg.block g (hl g (.inl rfl)) (by simpa using h.ne.1)).trans h.book, h.row.keep fun q hq => ?_, ⟨D, ho, hv⟩, ⟨D2, (o2.kept hg (by simpa using Ne.symm h.ne.2.2)).mono hN, v2⟩, h.ne, h.apart⟩
  cases A with
  | none => cases hq
  | some a =>
    simp only [Value.ownBlock, Option.some.injEq] at hq
    subst hq
    exact hg.block _ (hl _ (.inr (.inr (.inr ⟨a, rfl, rfl⟩)))) (by simpa using (h.apart a rfl).2.1)
theorem Raw.newName (h : Raw w g mb mn A c N most size gone rows fb fn) {D : DataW Unit} {N' : Nat} (hg : w.grownBy w' (some mn)) (ho : w'.ownsMap Try.prog 9 (plainElem Try.prog 3) mn N' D) (hv : View strKey okS D fn') (hN : N ≤ N') :
    Raw w' g mb mn A c N' most size gone rows fb fn' := by
  obtain ⟨D1, o1, v1⟩ := h.both
  have hl := h.lt
  refine ⟨(hg.block g (hl g (.inl rfl)) (by simpa using h.ne.2.1)).trans h.book, h.row.keep fun q hq => ?_, ⟨D1, (o1.kept hg (by simpa using h.ne.2.2)).mono hN, v1⟩, ⟨D, ho, hv⟩, h.ne, h.apart⟩
  cases A with
  | none => cases hq
  | some a =>
    simp only [Value.ownBlock, Option.some.injEq] at hq
    subst hq
    exact hg.block _ (hl _ (.inr (.inr (.inr ⟨a, rfl, rfl⟩)))) (by simpa using (h.apart a rfl).2.2)
/-- Looked up. -/
theorem Raw.lookB (h : Raw w g mb mn A c N most size gone rows fb fn) {r : Rw} {x : Int} (hr : okR r) (hf : fb r = some x) (k : Nat) :
    (Instr.lookup 78 (.map (some mb)) (rowV r) false).run Try.prog (w.drewN k) = .ok (.int .i64 x) (w.drewN k) := by
  obtain ⟨D, ho, hv⟩ := (h.keep (w' := w.drewN k) (fun _ _ => rfl)).both
  obtain ⟨y, hrun, hat, _⟩ := ho.lookup_int lawRow Try.underlying78 Try.underlying3 (zeroInt _) (rowKey_ok hr)
  have := (hv.at_ r x hr hf).symm.trans hat
  rw [num_inj this] at hrun
  exact hrun
theorem Raw.lookN (h : Raw w g mb mn A c N most size gone rows fb fn) {s : ByteArray} {x : Int} (hr : okS s) (hf : fn s = some x) (k : Nat) :
    (Instr.lookup 79 (.map (some mn)) (.string s) false).run Try.prog (w.drewN k) = .ok (.int .i64 x) (w.drewN k) := by
  obtain ⟨D, ho, hv⟩ := (h.keep (w' := w.drewN k) (fun _ _ => rfl)).name
  obtain ⟨y, hrun, hat, _⟩ := ho.lookup_int lawStr Try.underlying79 Try.underlying3 (zeroInt _) (strKey_ok hr)
  have := (hv.at_ s x hr hf).symm.trans hat
  rw [num_inj this] at hrun
  exact hrun
/-- 'v, ok := m[k]' -/
def okV : Option Int → Value
  | some x => .tuple #[.int .i64 x, .bool true]
  | none => .tuple #[.int .i64 0, .bool false]
theorem Raw.lookB2 (h : Raw w g mb mn A c N most size gone rows fb fn) {r : Rw} (hr : okR r) (k : Nat) :
    (Instr.lookup 78 (.map (some mb)) (rowV r) true).run Try.prog (w.drewN k) = .ok (okV (fb r)) (w.drewN k) := by
  obtain ⟨D, ho, hv⟩ := (h.keep (w' := w.drewN k) (fun _ _ => rfl)).both
  obtain ⟨v, ps, hrun, hR⟩ := ho.look_ok lawRow Try.underlying78 (zeroInt _) (plainElem_int Try.underlying3 (by decide)) (rowKey_ok hr)
  obtain ⟨y, rfl, hy, _⟩ := plainElem_int_inv Try.underlying3 hR
  simp only [Prod.mk.injEq] at hy
  rw [hrun, hv.has r hr]
  cases hf : fb r with
  | none =>
    have := hy.1.symm.trans (hv.none_ hr hf _)
    simp at this
    rw [this]; rfl
  | some x =>
    have := (hv.at_ r x hr hf).symm.trans hy.1
    rw [num_inj this]; rfl
theorem Raw.lookN2 (h : Raw w g mb mn A c N most size gone rows fb fn) {s : ByteArray} (hr : okS s) (k : Nat) :
    (Instr.lookup 79 (.map (some mn)) (.string s) true).run Try.prog (w.drewN k) = .ok (okV (fn s)) (w.drewN k) := by
  obtain ⟨D, ho, hv⟩ := (h.keep (w' := w.drewN k) (fun _ _ => rfl)).name
  obtain ⟨v, ps, hrun, hR⟩ := ho.look_ok lawStr Try.underlying79 (zeroInt _) (plainElem_int Try.underlying3 (by decide)) (strKey_ok hr)
  obtain ⟨y, rfl, hy, _⟩ := plainElem_int_inv Try.underlying3 hR
  simp only [Prod.mk.injEq] at hy
  rw [hrun, hv.has s hr]
  cases hf : fn s with
  | none =>
    have := hy.1.symm.trans (hv.none_ hr hf _)
    simp at this
    rw [this]; rfl
  | some x =>
    have := (hv.at_ s x hr hf).symm.trans hy.1
    rw [num_inj this]; rfl
end
end Go.Proofs.Ythpieiipddfpjaa

/- The walk of table.shrink. -/
namespace Go.Proofs.Ythpieiipddfpjaa
open Go.RowKit Go.Maps

def sumc (l : List Rw) : Int := ((l.map cost).sum : Nat)
theorem sumc_cons (r : Rw) (l : List Rw) : sumc (r :: l) = (cost r : Int) + sumc l := by unfold sumc; simp
theorem sumc_nonneg (l : List Rw) : 0 ≤ sumc l := by unfold sumc; omega
/-- A slice's block is one of the old one's. -/
def Sub (A' A : Option Addr) : Prop := ∀ a, A' = some a → ∃ a0, A = some a0 ∧ a0.block = a.block
theorem Sub.refl (A : Option Addr) : Sub A A := fun a h => ⟨a, h, rfl⟩
theorem Sub.trans {A B C : Option Addr} (h : Sub A B) (h2 : Sub B C) : Sub A C := fun a ha => by
  obtain ⟨b, hb, e⟩ := h a ha
  obtain ⟨c, hc, e2⟩ := h2 b hb
  exact ⟨c, hc, e2.trans e⟩
theorem Sub.foot {A' A : Option Addr} (h : Sub A' A) {g mb mn k : Nat} (hk : foot g mb mn A' k) : foot g mb mn A k := by
  rcases hk with h1 | h1 | h1 | ⟨a, ha, h1⟩
  · exact .inl h1
  · exact .inr (.inl h1)
  · exact .inr (.inr (.inl h1))
  · obtain ⟨a0, h0, e⟩ := h a ha
    exact .inr (.inr (.inr ⟨a0, h0, e.trans h1⟩))
/-- A table whose maps tell the last places. -/
def Tbl (w : World) (g mb mn : Nat) (A : Option Addr) (c N : Nat) (most gone : Int) (rows : List Rw) : Prop :=
  Raw w g mb mn A c N most (sumc rows) gone rows (pos rows gone) (pos (rows.map (·.1)) gone) ∧ (∀ r ∈ rows, okR r) ∧ 0 ≤ gone ∧ gone + rows.length ≤ N ∧ N ≤ 1099511627776 ∧ sumc rows ≤ 4294967296
/-- While it shrinks. -/
def ShrRel (W : World) (g mb mn : Nat) (A0 : Option Addr) (N : Nat) (m most gone0 : Int) (rows0 : List Rw) (k : Nat) (wr : World) : Prop :=
  ∃ A c gone rows, Tbl wr g mb mn A c N most gone rows ∧ Kept (foot g mb mn A0) W wr ∧ Sub A A0 ∧ shrunk m gone0 rows0 = shrunk m gone rows ∧ k = rows.length
/-- Behind the oldest row's going, its places still told. -/
def ShrMid (W : World) (g mb mn : Nat) (A0 : Option Addr) (N x : Nat) (most gone : Int) (r : Rw) (l : List Rw) (wr : World) : Prop :=
  ∃ A c, Raw wr g mb mn A c N most (sumc l) (gone + 1) l (pos (r :: l) gone) (pos ((r :: l).map (·.1)) gone) ∧ Kept (foot g mb mn A0) W wr ∧ Sub A A0 ∧
    wr.cell? ⟨x, 0, none⟩ = some (.string r.1) ∧ wr.cell? ⟨x, 1, none⟩ = some (.string r.2) ∧ x < wr.heap.size ∧ ¬ foot g mb mn A0 x

/-- .. the row's place no more. -/
def ShrMid2 (W : World) (g mb mn : Nat) (A0 : Option Addr) (N x : Nat) (most gone : Int) (r : Rw) (l : List Rw) (wr : World) : Prop :=
  ∃ A c, Raw wr g mb mn A c N most (sumc l) (gone + 1) l (pos l (gone + 1)) (pos ((r :: l).map (·.1)) gone) ∧ Kept (foot g mb mn A0) W wr ∧ Sub A A0 ∧
    wr.cell? ⟨x, 0, none⟩ = some (.string r.1) ∧ wr.cell? ⟨x, 1, none⟩ = some (.string r.2) ∧ x < wr.heap.size ∧ ¬ foot g mb mn A0 x
/-- .. nor its name's. -/
def ShrEnd (W : World) (g mb mn : Nat) (A0 : Option Addr) (N : Nat) (most gone : Int) (l : List Rw) (wr : World) : Prop :=
  ∃ A c, Raw wr g mb mn A c N most (sumc l) (gone + 1) l (pos l (gone + 1)) (pos (l.map (·.1)) (gone + 1)) ∧ Kept (foot g mb mn A0) W wr ∧ Sub A A0
section
variable {α : Type} [DecidableEq α]
theorem pos_head (a : α) (l : List α) (g : Int) : ∃ y, pos (a :: l) g a = some y ∧ (y = g + 1 ↔ pos l (g + 1) a = none) := by
  cases h : pos l (g + 1) a with
  | none => exact ⟨g + 1, pos_cons_out h, by simp⟩
  | some y => exact ⟨y, pos_cons_in h, by have := pos_range h; simp; omega⟩
theorem pos_gone {a : α} {l : List α} {g : Int} (h : pos l (g + 1) a = none) (r : α) : pos l (g + 1) r = if r = a then none else pos (a :: l) g r := by
  by_cases e : r = a
  · subst e; rw [if_pos rfl, h]
  · rw [if_neg e, pos_cons_ne _ _ e]
theorem pos_stays {a : α} {l : List α} {g : Int} (h : pos l (g + 1) a ≠ none) (r : α) : pos l (g + 1) r = pos (a :: l) g r := by
  by_cases e : r = a
  · subst e
    obtain ⟨y, hy⟩ := Option.ne_none_iff_exists'.1 h
    rw [hy, pos_cons_in hy]
  · rw [pos_cons_ne _ _ e]
end

def ShrPost (W : World) (g mb mn : Nat) (A0 : Option Addr) (N : Nat) (m most gone0 : Int) (rows0 : List Rw) (e : Ending) (w' : World) : Prop :=
  e = .returned (.tuple #[]) ∧ ∃ A' c', Tbl w' g mb mn A' c' N most (shrunk m gone0 rows0).1 (shrunk m gone0 rows0).2 ∧ Kept (foot g mb mn A0) W w' ∧ Sub A' A0
set_option maxRecDepth 100000 in
set_option maxHeartbeats 4000000 in
theorem shrink_any {g mb mn c N : Nat} {A : Option Addr} {most gone : Int} {rows : List Rw} (m : Int) (w : World) (h : Tbl w g mb mn A c N most gone rows) :
    Calls Try.prog 49 #[.pointer (some ⟨g, 0, none⟩), .int .i64 m] w (ShrPost w g mb mn A N m most gone rows) := by
  have H := Lib.hid h
  clear h
  go_enter Try.func49, Try.ntmps49
  go_wp2
  go_loopg [4] rows.length (fun k _ wr => ShrRel w g mb mn A N m most gone rows k wr)
  case atStart => exact ⟨A, c, gone, rows, H.out, Kept.refl _ _, Sub.refl _, rfl, rfl⟩
  case round =>
    obtain ⟨A1, c1, gone1, rows1, ⟨hraw, hok, hg0, hmany, hfew, hsm⟩, hkept, hsub, hsh, hk⟩ := hrel
    have HR := Lib.hid hraw
    have HOK := Lib.hid hok
    have HK := Lib.hid hkept
    have HS := Lib.hid hsub
    have HSH := Lib.hid hsh
    have HE := Lib.hid hk
    obtain ⟨c0, c1', c2, c3, c4, c5⟩ := hraw.cells
    have hf1 := hraw.free 1
    have hf2 := hraw.free 2
    have hf3 := hraw.free 3
    have hs0 := sumc_nonneg rows1
    clear hraw hok hkept hsub hsh hk
    cases rows1 with
    | nil =>
      have hfin : ∀ wx : World, wx = wr → ShrPost w g mb mn A N m most gone rows (.returned (.tuple #[])) wx := fun wx hw => by
        subst hw
        refine ⟨rfl, A1, c1, ?_, HK.out, HS.out⟩
        rw [HSH.out, shrunk_nil]
        exact ⟨HR.out, HOK.out, hg0, hmany, hfew, hsm⟩
      have HF := Lib.hid hfin
      clear hfin
      go_wp2
      all_goals (go_end0; exact HF.out _ rfl)
    | cons r l =>
      by_cases hgo : m < sumc (r :: l)
      case neg =>
        have HF : Hid (∀ wx : World, wx = wr → ShrPost w g mb mn A N m most gone rows (.returned (.tuple #[])) wx) := Lib.hid fun wx hw => by
          subst hw
          refine ⟨rfl, A1, c1, ?_, HK.out, HS.out⟩
          rw [HSH.out, shrunk_stop (show sumc (r :: l) ≤ m by omega)]
          exact ⟨HR.out, HOK.out, hg0, hmany, hfew, hsm⟩
        go_wp2
        all_goals (go_end0; exact HF.out _ rfl)
      have HSC := Lib.hid (sumc_cons r l)
      have hsl := sumc_nonneg l
      have hcost : r.1.size + r.2.size + 32 ≤ 4294967296 := by
        have := HSC.out
        have hc : cost r = r.1.size + r.2.size + 32 := rfl
        rw [hc] at this
        omega
      obtain ⟨S, hS⟩ : ∃ S, sumc (r :: l) = S := ⟨_, rfl⟩
      rw [hS] at c1' hgo hsm hs0
      have HSS := Lib.hid hS
      clear hS
      obtain ⟨q, o, rfl, hq, r0, r1⟩ := HR.out.at_ (i := 0) (r := r) rfl
      have hgs := HR.out.lt g (.inl rfl)
      simp only [Nat.zero_mul, Nat.add_zero] at r0 r1
      simp only [List.length_cons] at c2 hmany
      go_upto_region 4 with fail
      obtain ⟨A2, hA2⟩ : ∃ A2, (if c1 = 1 then some (⟨q, o, none⟩ : Addr) else some ⟨q, o + 2, none⟩) = A2 := ⟨_, rfl⟩
      rw [hA2]
      have HA2 : Hid (cut1 (some ⟨q, o, none⟩) c1 = A2) := Lib.hid (by rw [← hA2]; unfold cut1; simp [Addr.add_lit])
      clear hA2
      go_cut [46] (fun _ wx => ShrMid w g mb mn A N wr.heap.size most gone1 r l wx)
      case first =>
        have hfin : IntKind.i64.wrap (S - (cost r : Int)) = sumc l := by
          have := HSC.out
          rw [HSS.out] at this
          rw [IntWalk.i64_in _ ⟨by omega, by omega⟩]
          omega
        have HFIN := Lib.hid hfin
        clear hfin
        have hmid : Hid (ShrMid w g mb mn A N wr.heap.size most gone1 r l (((((wr.setCell ⟨g, 2, none⟩ (.slice A2 l.length (c1 - 1))).setCell ⟨g, 3, none⟩ (.int .i64 (gone1 + 1))).setCell ⟨g, 1, none⟩ (.int .i64 (IntKind.i64.wrap (S - (cost r : Int))))).alloc (.cells #[.string r.1, .string r.2] 85)).alloc (.cells #[.string r.1, .string r.2] 85)).drew) := by
          refine Lib.hid ?_
          have hnf : ¬ foot g mb mn A wr.heap.size := fun hf => by
            have h1 := H.out.1.lt _ hf
            have h2 := HK.out.size
            omega
          rw [HFIN.out]
          refine ⟨A2, c1 - 1, ?_, ?_, ?_, ?_, ?_, ?_, hnf⟩
          · have := (((HR.out.tail.setGone (gone1 + 1)).setSize (sumc l)).alloc (.cells #[.string r.1, .string r.2] 85)).alloc (.cells #[.string r.1, .string r.2] 85)
            rw [HA2.out] at this
            exact this.keep (fun _ _ => rfl)
          · exact (((((HK.out.setCell (.inl rfl) _ _).setCell (.inl rfl) _ _).setCell (.inl rfl) _ _).alloc _).alloc _).drew
          · rw [← HA2.out]
            exact Sub.trans (fun a ha => cut1_block ha) HS.out
          · exact (World.cell?_alloc_lt _ _ _ (by simp [World.setCell])).trans (World.cell?_alloc_at _ _ _ _ (by simp [World.setCell]))
          · exact (World.cell?_alloc_lt _ _ _ (by simp [World.setCell])).trans (World.cell?_alloc_at _ _ _ _ (by simp [World.setCell]))
          · simp [World.setCell]; omega
        clear HR
        go_region_law (first
          | (go_simp; go_at_call 48; refine (cost_any r _ (by omega) (by omega)).mono ?_; rintro e w2 ⟨rfl, rfl⟩))
        all_goals
          go_wp2_with fail
          go_meet
          exact hmid.out
      case rest =>
        obtain ⟨A3, c3', hraw, hkept, hsub, x0, x1, hxl, hxf⟩ := hcut
        obtain ⟨d0, d1, d2, d3, d4, d5⟩ := hraw.cells
        have hokr := HOK.out r (by simp)
        obtain ⟨y, hy, hyn⟩ := pos_head r l gone1
        have hlk : ∀ k, (Instr.lookup 78 (.map (some mb)) (.agg #[.string r.1, .string r.2]) false).run Try.prog (wc.drewN k) = .ok (.int .i64 y) (wc.drewN k) := fun k => hraw.lookB hokr hy k
        have hlk0 : (Instr.lookup 78 (.map (some mb)) (.agg #[.string r.1, .string r.2]) false).run Try.prog wc = .ok (.int .i64 y) wc := hraw.lookB hokr hy 0
        have HM := Lib.hid (And.intro hraw (And.intro hkept (And.intro hsub (And.intro x0 (And.intro x1 (And.intro hxl hxf))))))
        have HY := Lib.hid (And.intro hy hyn)
        have HOKR := Lib.hid hokr
        clear hraw hkept hsub hy hyn HR HK HS c0 c1' c2 c3 c4 c5 hf1 hf2 hf3 r0 r1 hxf hokr
        go_wp2
        go_quiet (fail)
        go_upto_if 59 with fail
        rename_i nq
        obtain ⟨wd, hwd⟩ : ∃ wd, wc.drewN nq = wd := ⟨_, rfl⟩
        rw [hwd]
        have HN : Hid (ShrMid w g mb mn A N wr.heap.size most gone1 r l wd) := Lib.hid (by
          rw [← hwd]
          exact ⟨A3, c3', HM.out.1.keep (fun _ _ => rfl), HM.out.2.1.drewN _, HM.out.2.2⟩)
        clear x0 x1 d0 d1 d2 d3 d4 d5 HM hlk hlk0 hwd hxl
        go_cut [60] (fun _ wx => ShrMid2 w g mb mn A N wr.heap.size most gone1 r l wx)
        case first =>
          obtain ⟨A4, c4', hraw, hkept, hsub, x0, x1, hxl, hxf⟩ := HN.out
          obtain ⟨d0, d1, d2, d3, d4, d5⟩ := hraw.cells
          have HRW := Lib.hid (And.intro hraw (And.intro hkept (And.intro hsub (And.intro x0 (And.intro x1 (And.intro hxl hxf))))))
          obtain ⟨D, ho, hv⟩ := hraw.both
          have HD := Lib.hid ho
          have HV := Lib.hid hv
          clear ho hv hraw hkept hsub hxf
          by_cases hb : y = gone1 + 1
          · have e59 : (y == gone1 + 1) = true := by simpa using hb
            have HB := Lib.hid hb
            clear hb
            go_wp2
            go_still_tail 5, (by kernel_rfl)
            change wpList _ _ _ _ _ wd.drew
            go_wp2_with (at_delete; refine wpList_delete_own _ rfl _ _ 78 85 rfl 3 lawRow Try.underlying78 _ mb _ D rfl HD.out _ (rowKey r) rfl (rowKey_ok HOKR.out) ?_; intro w1 hown1 hturn1)
            go_meet
            obtain ⟨hraw, hkept, hsub, x0, x1, hxl, hxf⟩ := HRW.out
            have hg := hturn1.grown
            have hr2 := (hraw.keep (w' := wd.drew) (fun _ _ => rfl)).newBoth hg hown1 (HV.out.del rowKey_ne HOKR.out) (Nat.le_refl _)
            have hxne : wr.heap.size ≠ mb := fun e => hxf (.inr (.inl e))
            have hcx : ∀ j, w1.cell? ⟨wr.heap.size, j, none⟩ = wd.cell? ⟨wr.heap.size, j, none⟩ := fun j => World.cell?_of_block (hg.block wr.heap.size hxl (by simpa using hxne))
            exact ⟨A4, c4', hr2.congr (fun r' _ => pos_gone (HY.out.2.1 HB.out) r') (fun _ _ => rfl), hkept.drew.grown hg (fun k hk => by cases hk; exact .inl (.inr (.inl rfl))), hsub, (hcx 0).trans x0, (hcx 1).trans x1, Nat.lt_of_lt_of_le hxl hg.size, hxf⟩
          · have e59 : (y == gone1 + 1) = false := by simpa using hb
            have HB := Lib.hid hb
            clear hb
            go_wp2
            go_meet
            obtain ⟨hraw, hrest⟩ := HRW.out
            exact ⟨A4, c4', hraw.congr (fun r' _ => pos_stays (fun e => HB.out (HY.out.2.2 e)) r') (fun _ _ => rfl), hrest⟩
        case rest =>
          obtain ⟨A5, c5', hraw, hkept, hsub, x0, x1, hxl, hxf⟩ := hcut
          obtain ⟨d0, d1, d2, d3, d4, d5⟩ := hraw.cells
          obtain ⟨y2, hy2, hyn2⟩ := pos_head r.1 (l.map (·.1)) gone1
          have hlk : ∀ k, (Instr.lookup 79 (.map (some mn)) (.string r.1) false).run Try.prog (wc.drewN k) = .ok (.int .i64 y2) (wc.drewN k) := fun k => hraw.lookN HOKR.out.1 hy2 k
          have hlk0 : (Instr.lookup 79 (.map (some mn)) (.string r.1) false).run Try.prog wc = .ok (.int .i64 y2) wc := hraw.lookN HOKR.out.1 hy2 0
          have HM := Lib.hid (And.intro hraw (And.intro hkept (And.intro hsub (And.intro x0 (And.intro x1 (And.intro hxl hxf))))))
          have HY2 := Lib.hid (And.intro hy2 hyn2)
          clear hraw hkept hsub hy2 hyn2 HN hxf
          go_wp2
          go_quiet (fail)
          go_upto_if 76 with fail
          obtain ⟨wd2, hwd2⟩ : ∃ wd2, wc.drewN nq = wd2 := ⟨_, rfl⟩
          rw [hwd2]
          have HN : Hid (ShrMid2 w g mb mn A N wr.heap.size most gone1 r l wd2) := Lib.hid (by
            rw [← hwd2]
            exact ⟨A5, c5', HM.out.1.keep (fun _ _ => rfl), HM.out.2.1.drewN _, HM.out.2.2⟩)
          clear x0 x1 d0 d1 d2 d3 d4 d5 HM hlk hlk0 hwd2 hxl
          obtain ⟨A4, c4', hraw, hkept, hsub, x0, x1, hxl, hxf⟩ := HN.out
          obtain ⟨d0, d1, d2, d3, d4, d5⟩ := hraw.cells
          have HRW := Lib.hid (And.intro hraw (And.intro hkept (And.intro hsub (And.intro x0 (And.intro x1 (And.intro hxl hxf))))))
          obtain ⟨D, ho, hv⟩ := hraw.name
          have HD := Lib.hid ho
          have HV := Lib.hid hv
          clear ho hv hraw hkept hsub hxf
          by_cases hb : y2 = gone1 + 1
          · have e59 : (y2 == gone1 + 1) = true := by simpa using hb
            have HB := Lib.hid hb
            clear hb
            go_wp2
            go_still_tail 6, (by kernel_rfl)
            change wpList _ _ _ _ _ wd2.drew
            go_wp2_with (at_delete; refine wpList_delete_own _ rfl _ _ 79 9 rfl 3 lawStr Try.underlying79 _ mn _ D rfl HD.out _ (strKey r.1) rfl (strKey_ok HOKR.out.1) ?_; intro w1 hown1 hturn1)
            have hend : ShrEnd w g mb mn A N most gone1 l w1 := by
              obtain ⟨hraw, hkept, hsub, x0, x1, hxl, hxf⟩ := HRW.out
              have hg := hturn1.grown
              have hr2 := (hraw.keep (w' := wd2.drew) (fun _ _ => rfl)).newName hg hown1 (HV.out.del strKey_ne HOKR.out.1) (Nat.le_refl _)
              exact ⟨A4, c4', hr2.congr (fun _ _ => rfl) (fun r' _ => pos_gone (HY2.out.2.1 HB.out) r'), hkept.drew.grown hg (fun k hk => by cases hk; exact .inl (.inr (.inr (.inl rfl)))), hsub⟩
            have HM := Lib.hid hend
            clear hend
            go_roundg l.length
            case measure => have := HE.out; simp at this; omega
            case rel =>
              obtain ⟨A6, c6', hraw6, hkept6, hsub6⟩ := HM.out
              refine ⟨A6, c6', gone1 + 1, l, ⟨hraw6, fun r' hr' => HOK.out r' (List.mem_cons_of_mem _ hr'), by omega, by omega, hfew, ?_⟩, hkept6, hsub6, ?_, rfl⟩
              · have := HSC.out; rw [HSS.out] at this; omega
              · rw [HSH.out]
                exact shrunk_go (by show m < sumc (r :: l); rw [HSS.out]; exact hgo)
          · have e59 : (y2 == gone1 + 1) = false := by simpa using hb
            have HB := Lib.hid hb
            clear hb
            go_wp2
            have hend : ShrEnd w g mb mn A N most gone1 l wd2 := by
              obtain ⟨hraw, hrest⟩ := HRW.out
              exact ⟨A4, c4', hraw.congr (fun _ _ => rfl) (fun r' _ => pos_stays (fun e => HB.out (HY2.out.2.2 e)) r'), hrest.1, hrest.2.1⟩
            have HM := Lib.hid hend
            clear hend
            go_roundg l.length
            case measure => have := HE.out; simp at this; omega
            case rel =>
              obtain ⟨A6, c6', hraw6, hkept6, hsub6⟩ := HM.out
              refine ⟨A6, c6', gone1 + 1, l, ⟨hraw6, fun r' hr' => HOK.out r' (List.mem_cons_of_mem _ hr'), by omega, by omega, hfew, ?_⟩, hkept6, hsub6, ?_, rfl⟩
              · have := HSC.out; rw [HSS.out] at this; omega
              · rw [HSH.out]
                exact shrunk_go (by show m < sumc (r :: l); rw [HSS.out]; exact hgo)
end Go.Proofs.Ythpieiipddfpjaa

/- The walks of table.Most, Size, Len, Resize. -/
namespace Go.Proofs.Ythpieiipddfpjaa
open Go.RowKit Go.Maps

theorem shrunk_fits {m : Int} (hm : 0 ≤ m) : ∀ (l : List Rw) (g : Int), sumc (shrunk m g l).2 ≤ m := by
  intro l
  induction l with
  | nil => intro g; rw [shrunk_nil]; exact hm
  | cons r l ih =>
    intro g
    by_cases h : m < sumc (r :: l)
    · rw [shrunk_go h]; exact ih _
    · rw [shrunk_stop (show sumc (r :: l) ≤ m by omega)]; show sumc (r :: l) ≤ m; omega
section
variable {w w' : World} {g mb mn c N : Nat} {A : Option Addr} {T : Tb} {F : Nat → Prop}
theorem TM.tbl (h : TM w g mb mn A c N T) : Tbl w g mb mn A c N T.most T.gone T.rows :=
  ⟨h.raw, h.ok, h.gone0, h.many, h.few, by have h1 := h.fits; have h2 := h.most1; show (T.size : Int) ≤ _; omega⟩
theorem TM.of {most gone : Int} {rows : List Rw} (h : Tbl w g mb mn A c N most gone rows) (h0 : 0 ≤ most) (h1 : most ≤ 65536) (hf : sumc rows ≤ most) : TM w g mb mn A c N ⟨most, gone, rows⟩ :=
  ⟨h.1, h.2.1, h0, h1, h.2.2.1, h.2.2.2.1, h.2.2.2.2.1, hf⟩
theorem TM.keep (h : TM w g mb mn A c N T) (hk : ∀ k, foot g mb mn A k → w'.heap[k]? = w.heap[k]?) : TM w' g mb mn A c N T := ⟨h.raw.keep hk, h.ok, h.most0, h.most1, h.gone0, h.many, h.few, h.fits⟩
theorem TabIs.keep (h : TabIs w g F N T) (hk : ∀ k, F k → w'.heap[k]? = w.heap[k]?) : TabIs w' g F N T := by
  obtain ⟨mb, mn, A, c, rfl, ht⟩ := h
  exact ⟨mb, mn, A, c, rfl, ht.keep hk⟩
theorem TabIs.lt (h : TabIs w g F N T) : ∀ k, F k → k < w.heap.size := by
  obtain ⟨mb, mn, A, c, rfl, ht⟩ := h
  exact ht.raw.lt
theorem TabIs.alloc (h : TabIs w g F N T) (o : Obj) : TabIs (w.alloc o) g F N T := h.keep fun k hk => Below.heap_alloc _ _ _ (h.lt k hk)
/-- Another thing's call leaves it. -/
theorem TabIs.kept {G : Nat → Prop} (h : TabIs w g F N T) (hk : Kept G w w') (hd : ∀ k, F k → ¬ G k) : TabIs w' g F N T := h.keep fun k hf => hk.block k (h.lt k hf) (hd k hf)
theorem TabIs.inv (h : TabIs w g F N T) : (∀ r ∈ T.rows, okR r) ∧ 0 ≤ T.most ∧ T.most ≤ 65536 ∧ 0 ≤ T.gone ∧ T.gone + T.rows.length ≤ N ∧ N ≤ 1099511627776 ∧ sumc T.rows ≤ T.most := by
  obtain ⟨mb, mn, A, c, rfl, ht⟩ := h
  exact ⟨ht.ok, ht.most0, ht.most1, ht.gone0, ht.many, ht.few, ht.fits⟩
end
/-- What a call that changes a table hands back. -/
def TStep (W : World) (g : Nat) (F : Nat → Prop) (N : Nat) (T' : Tb) (v : Value) (e : Ending) (w' : World) : Prop :=
  e = .returned v ∧ ∃ F', TabIs w' g F' N T' ∧ Kept F W w' ∧ Grew W F F'

theorem most_any {g N : Nat} {F : Nat → Prop} {T : Tb} (w : World) (h : TabIs w g F N T) : Calls Try.prog 20 #[.pointer (some ⟨g, 0, none⟩)] w fun e w' => e = .returned (.int .i64 T.most) ∧ w = w' := by
  obtain ⟨mb, mn, A, c, rfl, ht⟩ := h
  obtain ⟨c0, -⟩ := ht.raw.cells
  clear ht
  go_enter Try.func20, Try.ntmps20
  go_wp2; go_ret; exact ⟨rfl, rfl⟩
theorem size_any {g N : Nat} {F : Nat → Prop} {T : Tb} (w : World) (h : TabIs w g F N T) : Calls Try.prog 21 #[.pointer (some ⟨g, 0, none⟩)] w fun e w' => e = .returned (.int .i64 (sumc T.rows)) ∧ w = w' := by
  obtain ⟨mb, mn, A, c, rfl, ht⟩ := h
  obtain ⟨-, c0, -⟩ := ht.tbl.1.cells
  clear ht
  go_enter Try.func21, Try.ntmps21
  go_wp2; go_ret; exact ⟨rfl, rfl⟩
theorem len_any {g N : Nat} {F : Nat → Prop} {T : Tb} (w : World) (h : TabIs w g F N T) : Calls Try.prog 23 #[.pointer (some ⟨g, 0, none⟩)] w fun e w' => e = .returned (.int .i64 (T.rows.length : Int)) ∧ w = w' := by
  obtain ⟨mb, mn, A, c, rfl, ht⟩ := h
  obtain ⟨-, -, c0, -⟩ := ht.raw.cells
  clear ht
  go_enter Try.func23, Try.ntmps23
  go_wp2; go_ret; exact ⟨rfl, rfl⟩
theorem most_nil (w : World) : Calls Try.prog 20 #[.pointer none] w fun e w' => e = .returned (.int .i64 0) ∧ w = w' := by
  go_enter Try.func20, Try.ntmps20
  go_wp2; go_ret; exact ⟨rfl, rfl⟩
theorem size_nil (w : World) : Calls Try.prog 21 #[.pointer none] w fun e w' => e = .returned (.int .i64 0) ∧ w = w' := by
  go_enter Try.func21, Try.ntmps21
  go_wp2; go_ret; exact ⟨rfl, rfl⟩
theorem len_nil (w : World) : Calls Try.prog 23 #[.pointer none] w fun e w' => e = .returned (.int .i64 0) ∧ w = w' := by
  go_enter Try.func23, Try.ntmps23
  go_wp2; go_ret; exact ⟨rfl, rfl⟩
theorem resize_nil (m : Int) (w : World) : Calls Try.prog 26 #[.pointer none, .int .i64 m] w fun e w' => e = .returned (.int .i64 1) ∧ w = w' := by
  go_enter Try.func26, Try.ntmps26
  go_wp2; go_ret; exact ⟨rfl, rfl⟩
theorem resize_bad {g : Nat} (m : Int) (w : World) (hm : m < 0 ∨ 65536 < m) : Calls Try.prog 26 #[.pointer (some ⟨g, 0, none⟩), .int .i64 m] w fun e w' => e = .returned (.int .i64 1) ∧ w = w' := by
  by_cases h1 : m < 0
  · clear hm
    go_enter Try.func26, Try.ntmps26
    go_wp2; go_ret; exact ⟨rfl, rfl⟩
  · have h2 : 65536 < m := by omega
    clear hm
    go_enter Try.func26, Try.ntmps26
    go_wp2; go_ret; exact ⟨rfl, rfl⟩

set_option maxHeartbeats 1000000 in
theorem resize_any {g N : Nat} {F : Nat → Prop} {T : Tb} (m : Int) (w : World) (h : TabIs w g F N T) (h0 : 0 ≤ m) (h1 : m ≤ 65536) :
    Calls Try.prog 26 #[.pointer (some ⟨g, 0, none⟩), .int .i64 m] w (TStep w g F N (T.resize m) (.int .i64 0)) := by
  obtain ⟨mb, mn, A, c, rfl, ht⟩ := h
  have htb := ht.tbl
  obtain ⟨c0, -⟩ := ht.raw.cells
  have hf := ht.raw.free 0
  have hC := Lib.hid (shrink_any m (w.setCell ⟨g, 0, none⟩ (.int .i64 m)) (most := m) (show Tbl (w.setCell ⟨g, 0, none⟩ (.int .i64 m)) g mb mn A c N m T.gone T.rows from ⟨htb.1.setMost m, htb.2⟩))
  clear ht htb
  go_enter Try.func26, Try.ntmps26
  go_wp2_with fail
  refine hC.out.mono ?_
  rintro e w' ⟨rfl, A', c', htb, hk, hs⟩
  have H := Lib.hid (And.intro htb (And.intro hk hs))
  clear htb hk hs hC
  go_wp2
  go_ret
  exact ⟨rfl, foot g mb mn A', ⟨mb, mn, A', c', rfl, TM.of H.out.1 h0 h1 (shrunk_fits h0 _ _)⟩, ((Kept.refl _ _).setCell (.inl rfl) _ _).same H.out.2.1, fun k hf => .inl (H.out.2.2.foot hf)⟩
end Go.Proofs.Ythpieiipddfpjaa
