/- 10 texts in one: HuffEncPlain, HuffDecPlain, HuffBackPlain, TextPlain, TabPlain, Tab, Tab2, Tab3, Tab4, TabRows. -/
import Derived.Test.YtpkmciohehaboaaGreatDoorM1
import Derived.Maps.OwnSet
import Derived.Maps.Views
import Derived.Test.YtpkmciohehaboaaGreatDoorChecked
import Derived.Maps.OwnOps
import Derived.DeepKeys4
import Derived.MapViews
import Derived.ChangeSame
import Derived.StillTailTactics
import Derived.Deep.LoopGhost
import Derived.Deep.DeepCutAuto
import Derived.Deep.RegionLaw
import Derived.Deep.QuietTactic
import Derived.BigQuiet
import Derived.Outline
import Derived.IntWalk
/- The bits of a text as a number, and its bytes, in plain Lean. No program in sight. -/
namespace Go.Proofs.YtpkmciohehaboaaGreatDoor
open Go.RowKit

def codeAt (c : UInt8) : Nat := codeT.getD c.toNat 0
/-- The bits of a text, as one number. -/
def vbits (l : List UInt8) : Nat := l.foldl (fun v c => v * 2 ^ lenAt c + codeAt c) 0
/-- The m lowest bytes of a number, the highest first. -/
def dig : Nat → Nat → List UInt8
  | 0, _ => []
  | m + 1, x => dig m (x / 256) ++ [UInt8.ofNat (x % 256)]
def encB (l : List UInt8) : List UInt8 :=
  if nbits l % 8 = 0 then dig (nbits l / 8) (vbits l) else dig (nbits l / 8 + 1) (vbits l * 2 ^ (8 - nbits l % 8) + (2 ^ (8 - nbits l % 8) - 1))
theorem dig_length (m x : Nat) : (dig m x).length = m := by
  induction m generalizing x with
  | zero => rfl
  | succ m ih => simp [dig, ih]
theorem encB_length (l : List UInt8) : (encB l).length = nbytes l := by
  unfold encB nbytes
  split
  · rw [dig_length]; omega
  · rw [dig_length]; omega
theorem vbits_take {l : List UInt8} {k : Nat} (h : k < l.length) : vbits (l.take (k + 1)) = vbits (l.take k) * 2 ^ lensN.getD (ba l k) 0 + codeT.getD (ba l k) 0 := by
  rw [List.take_succ_eq_append_getElem h, ba_get h]
  unfold vbits
  rw [List.foldl_append, List.foldl_cons, List.foldl_nil, lenAt, codeAt]
theorem code_fits : ∀ i < 257, codeT.getD i 0 < 2 ^ lensN.getD i 0 := by decide +kernel

/-- The row that fills up: T bits of the number V are in it, it has N bytes. -/
def fill (N T V : Nat) : List UInt8 := dig (T / 8) (V / 2 ^ (T % 8)) ++ List.replicate (N - T / 8) 0
theorem fill_length {N T : Nat} (V : Nat) (h : T / 8 ≤ N) : (fill N T V).length = N := by simp [fill, dig_length]; omega
theorem fill_zero (N : Nat) : fill N 0 0 = List.replicate N 0 := by simp [fill, dig]
/-- A bit that ends no byte. -/
theorem fill_bit {N T V b : Nat} (hb : b < 2) (h : T % 8 < 7) : fill N (T + 1) (2 * V + b) = fill N T V ∧ (2 * V + b) % 2 ^ ((T + 1) % 8) = V % 2 ^ (T % 8) * 2 + b := by
  have h1 : (T + 1) % 8 = T % 8 + 1 := by omega
  have h2 : (T + 1) / 8 = T / 8 := by omega
  have h3 : (2 * V + b) / 2 ^ (T % 8 + 1) = V / 2 ^ (T % 8) := by
    rw [Nat.pow_succ, Nat.mul_comm (2 ^ (T % 8)) 2, ← Nat.div_div_eq_div_mul, show (2 * V + b) / 2 = V by omega]
  refine ⟨by rw [fill, fill, h1, h2, h3], ?_⟩
  rw [h1, Nat.pow_succ, Nat.mul_comm (2 ^ (T % 8)) 2, Nat.mod_mul]
  rw [show (2 * V + b) % 2 = b by omega, show (2 * V + b) / 2 = V by omega]
  omega
/-- A bit that ends a byte. -/
theorem fill_byte {N T V b : Nat} (hb : b < 2) (h : T % 8 = 7) (hN : T / 8 < N) :
    fill N (T + 1) (2 * V + b) = (fill N T V).set (T / 8) (UInt8.ofNat (V % 2 ^ (T % 8) * 2 + b)) ∧ (2 * V + b) % 2 ^ ((T + 1) % 8) = 0 ∧ V % 2 ^ (T % 8) * 2 + b < 256 := by
  have h1 : (T + 1) % 8 = 0 := by omega
  have h2 : (T + 1) / 8 = T / 8 + 1 := by omega
  have h3 : (2 * V + b) / 256 = V / 2 ^ 7 := by rw [show (2 : Nat) ^ 7 = 128 from rfl]; omega
  have h4 : (2 * V + b) % 256 = V % 2 ^ 7 * 2 + b := by rw [show (2 : Nat) ^ 7 = 128 from rfl]; omega
  refine ⟨?_, by rw [h1]; exact Nat.mod_one _, by rw [h, show (2 : Nat) ^ 7 = 128 from rfl]; omega⟩
  rw [fill, fill, h1, h2, h, Nat.pow_zero, Nat.div_one, dig, h3, h4, List.set_append_right _ _ (by rw [dig_length]; exact Nat.le_refl _), dig_length, Nat.sub_self]
  obtain ⟨d, hd⟩ : ∃ d, N - T / 8 = d + 1 := ⟨N - T / 8 - 1, by omega⟩
  rw [hd, show N - (T / 8 + 1) = d by omega, List.replicate_succ, List.set_cons_zero, List.append_assoc]
  rfl
/-- One bit more of a code. -/
theorem bit_next (V n c j : Nat) (hj : j < n) : 2 * (V * 2 ^ (n - (j + 1)) + c / 2 ^ (j + 1)) + c / 2 ^ j % 2 = V * 2 ^ (n - j) + c / 2 ^ j := by
  have h1 : n - j = n - (j + 1) + 1 := by omega
  have h2 : c / 2 ^ (j + 1) = c / 2 ^ j / 2 := by rw [Nat.pow_succ, Nat.div_div_eq_div_mul]
  rw [h1, h2, Nat.pow_succ, ← Nat.mul_assoc]
  omega
theorem nbits_take_le (l : List UInt8) (k : Nat) : nbits (l.take k) ≤ nbits l := by
  have := nbits_append (l.take k) (l.drop k)
  rw [List.take_append_drop] at this
  omega
theorem and_one32 (x : Nat) (hx : x < 4294967296) : Go.bits .and .u32 (x : Int) 1 = ((x % 2 : Nat) : Int) := by
  rw [show (1 : Int) = ((1 : Nat) : Int) from rfl, u32_and_nat _ _ (by omega) (by omega), nat_mask1]
/-- Filled up with ones. -/
theorem fill_end (l : List UInt8) (p : Nat) (hp : (nbits l + p) % 8 = 0) (hp8 : p < 8) : fill (nbytes l) (nbits l + p) (vbits l * 2 ^ p + (2 ^ p - 1)) = encB l := by
  unfold encB
  rw [fill, hp, Nat.pow_zero, Nat.div_one]
  have hN : nbytes l - (nbits l + p) / 8 = 0 := by unfold nbytes; omega
  rw [hN, List.replicate_zero, List.append_nil]
  by_cases h0 : nbits l % 8 = 0
  · obtain rfl : p = 0 := by omega
    rw [if_pos h0]; simp
  · rw [if_neg h0, show (nbits l + p) / 8 = nbits l / 8 + 1 by omega, show 8 - nbits l % 8 = p by omega]
end Go.Proofs.YtpkmciohehaboaaGreatDoor

/- How a text is read back from its bits, in plain Lean. No program in sight. -/
namespace Go.Proofs.YtpkmciohehaboaaGreatDoor
open Go.RowKit

/-- Bit i of a row of bytes, the highest of each byte first. -/
def bitAt (l : List UInt8) (i : Nat) : Nat := ba l (i / 8) / 2 ^ (7 - i % 8) % 2
def bitsB (l : List UInt8) : List Nat := (List.range (8 * l.length)).map (bitAt l)
theorem bitsB_length (l : List UInt8) : (bitsB l).length = 8 * l.length := by simp [bitsB]
theorem bitsB_drop {l : List UInt8} {i : Nat} (h : i < 8 * l.length) : (bitsB l).drop i = bitAt l i :: (bitsB l).drop (i + 1) := by
  rw [List.drop_eq_getElem_cons (by rw [bitsB_length]; exact h)]
  simp [bitsB]
theorem bitAt_lt (l : List UInt8) (i : Nat) : bitAt l i < 2 := Nat.mod_lt _ (by decide)

/-- Do n bits make a code? -/
def hitB (c n : Nat) : Bool := decide (firstT.getD n 0 ≤ c) && decide (c - firstT.getD n 0 < manyT.getD n 0)
def symAt (c n : Nat) : Nat := symT.getD (fromT.getD n 0 + (c - firstT.getD n 0)) 0
/-- Reading on: the bits since the last symbol, how many, whether all are ones; the text so far; the bits to come. -/
def decGo (c n : Nat) (ones : Bool) (out : List UInt8) : List Nat → Option (List UInt8)
  | [] => if 7 < n ∨ ones = false then none else some out
  | b :: t =>
    if hitB (2 * c + b) (n + 1) then
      if symAt (2 * c + b) (n + 1) = 256 then none else decGo 0 0 true (out ++ [UInt8.ofNat (symAt (2 * c + b) (n + 1))]) t
    else decGo (2 * c + b) (n + 1) (ones && (b == 1)) out t
def decB (l : List UInt8) : Option (List UInt8) := decGo 0 0 true [] (bitsB l)

/-- No code yet. -/
structure Mid (c n : Nat) : Prop where
  le : n ≤ 29
  lo : firstT.getD n 0 + manyT.getD n 0 ≤ c
  hi : c < 2 ^ n
theorem first_next : ∀ n < 30, firstT.getD (n + 1) 0 = 2 * (firstT.getD n 0 + manyT.getD n 0) := by decide +kernel
theorem first_last : firstT.getD 30 0 + manyT.getD 30 0 = 2 ^ 30 := by decide +kernel
theorem from_room : ∀ n < 31, fromT.getD n 0 + manyT.getD n 0 ≤ 257 := by decide +kernel
theorem Mid.zero : Mid 0 0 := ⟨by omega, by decide +kernel, by decide⟩
theorem Mid.ge {c n b : Nat} (h : Mid c n) : firstT.getD (n + 1) 0 ≤ 2 * c + b := by
  have := first_next n (by have := h.le; omega)
  have := h.lo
  omega
theorem Mid.lt {c n b : Nat} (h : Mid c n) (hb : b < 2) : 2 * c + b < 2 ^ (n + 1) := by
  have := h.hi
  rw [Nat.pow_succ]; omega
theorem Mid.hit {c n b : Nat} (h : Mid c n) : hitB (2 * c + b) (n + 1) = decide (2 * c + b - firstT.getD (n + 1) 0 < manyT.getD (n + 1) 0) := by
  unfold hitB
  rw [decide_eq_true (h.ge (b := b)), Bool.true_and]
theorem Mid.next {c n b : Nat} (h : Mid c n) (hb : b < 2) (hm : manyT.getD (n + 1) 0 ≤ 2 * c + b - firstT.getD (n + 1) 0) : Mid (2 * c + b) (n + 1) := by
  have hge := h.ge (b := b)
  have hlt := h.lt hb
  refine ⟨?_, by omega, hlt⟩
  rcases Nat.lt_or_ge n 29 with h29 | h29
  · omega
  · have : n = 29 := by have := h.le; omega
    subst this
    have : firstT.getD (29 + 1) 0 + manyT.getD (29 + 1) 0 = 2 ^ (29 + 1) := first_last
    omega
theorem Mid.pow30 {c n : Nat} (h : Mid c n) : c < 536870912 := Nat.lt_of_lt_of_le h.hi (Nat.pow_le_pow_right (by omega) h.le : 2 ^ n ≤ 2 ^ 29)
theorem Mid.room {c n b : Nat} (h : Mid c n) (hm : 2 * c + b - firstT.getD (n + 1) 0 < manyT.getD (n + 1) 0) : fromT.getD (n + 1) 0 + (2 * c + b - firstT.getD (n + 1) 0) < 257 := by
  have := from_room (n + 1) (by have := h.le; omega)
  omega
theorem sym_le : ∀ i, symT.getD i 0 ≤ 256 := by
  intro i
  rcases Nat.lt_or_ge i 257 with h | h
  · have : ∀ i < 257, symT.getD i 0 ≤ 256 := by decide +kernel
    exact this i h
  · rw [List.getD, List.getElem?_eq_none (by rw [tab_lengths.2.2.2.2.2]; exact h)]; decide
/-- 'code<<1 | bit'. -/
theorem or_bit {c b : Nat} (hc : c < 536870912) (hb : b < 2) : Go.bits .or .u32 ((c : Int) * 2) (b : Int) = ((2 * c + b : Nat) : Int) := by
  rw [show ((c : Int) * 2) = ((2 * c : Nat) : Int) by omega, u32_or_nat _ _ (by omega) (by omega), nat_join 1 (2 * c) b (by omega) (by omega)]
/-- The walk's spelling of a bit of a byte. -/
theorem and_one (x : Nat) (hx : x < 256) : Go.bits .and .u32 (x : Int) 1 = ((x % 2 : Nat) : Int) := by
  rw [show (1 : Int) = ((1 : Nat) : Int) from rfl, u32_and_nat _ _ (by omega) (by omega), nat_mask1]
end Go.Proofs.YtpkmciohehaboaaGreatDoor

/- What is encoded is decoded as it was, and the other way round, in plain Lean. No program in sight. -/
namespace Go.Proofs.YtpkmciohehaboaaGreatDoor
open Go.RowKit

/-- The n lowest bits of a number, the highest first. -/
def nb : Nat → Nat → List Nat
  | 0, _ => []
  | n + 1, v => nb n (v / 2) ++ [v % 2]
end Go.Proofs.YtpkmciohehaboaaGreatDoor

/- What PutText writes and TakeText reads, and that each reads the other's, in plain Lean. No program in sight. -/
namespace Go.Proofs.YtpkmciohehaboaaGreatDoor
open Go.RowKit

/-- A text with its length. -/
def textB (l : List UInt8) : List UInt8 := if nbytes l < l.length then putB 128 127 (nbytes l) ++ encB l else putB 0 127 l.length ++ l
theorem textB_bits {l : List UInt8} (h : nbytes l < l.length) : textB l = putB 128 127 (nbytes l) ++ encB l := if_pos h
theorem textB_raw {l : List UInt8} (h : l.length ≤ nbytes l) : textB l = putB 0 127 l.length ++ l := if_neg (by omega)

/-- The piece that a text's length speaks of. -/
def pieceT (l : List UInt8) : List UInt8 := (l.drop (takeI 127 l).2.1).take (takeI 127 l).1
/-- The text at the beginning, how many bytes it takes, the error. -/
def takeT (l : List UInt8) : List UInt8 × Nat × Nat :=
  if (takeI 127 l).2.2 ≠ 0 then ([], 0, (takeI 127 l).2.2)
  else if 4096 < (takeI 127 l).1 then ([], 0, 2)
  else if l.length < (takeI 127 l).2.1 + (takeI 127 l).1 then ([], 0, 12)
  else if ba l 0 < 128 then (pieceT l, (takeI 127 l).2.1 + (takeI 127 l).1, 0)
  else match decB (pieceT l) with
    | none => ([], 0, 10)
    | some t => if 4096 < t.length then ([], 0, 2) else (t, (takeI 127 l).2.1 + (takeI 127 l).1, 0)
def triT (r : List UInt8 × Nat × Nat) : Value := .tuple #[.string ⟨r.1.toArray⟩, .int .i64 (r.2.1 : Int), .int .i64 (r.2.2 : Int)]

theorem takeTail_bd : ∀ (k a n t : Nat) (l : List UInt8), (takeTail k a n t l).2.2 = 0 → (takeTail k a n t l).1 ≤ 2147483647 ∧ a < (takeTail k a n t l).2.1 ∧ (takeTail k a n t l).2.1 ≤ a + l.length ∧ (takeTail k a n t l).2.1 ≤ a + k
  | 0, a, n, t, l, h => by simp [takeTail] at h
  | k + 1, a, n, t, [], h => by simp [takeTail] at h
  | k + 1, a, n, t, c :: l, h => by
    by_cases h1 : c.toNat < 128
    · by_cases h2 : 2147483647 < n + t * (c.toNat % 128)
      · rw [takeTail, if_pos h1, if_pos h2] at h; simp at h
      · rw [takeTail, if_pos h1, if_neg h2]; simp; omega
    · rw [takeTail, if_neg h1] at h ⊢
      have := takeTail_bd k _ _ _ l h
      simp; omega
theorem takeI_bd {F : Nat} (hF : F ≤ 255) (l : List UInt8) (h : (takeI F l).2.2 = 0) : (takeI F l).1 ≤ 2147483647 ∧ 1 ≤ (takeI F l).2.1 ∧ (takeI F l).2.1 ≤ l.length ∧ (takeI F l).2.1 ≤ 6 := by
  cases l with
  | nil => simp [takeI] at h
  | cons c t =>
    by_cases h1 : c.toNat % (F + 1) < F
    · simp only [takeI]; rw [if_pos h1]; simp; omega
    · simp only [takeI] at h ⊢; rw [if_neg h1] at h ⊢
      have := takeTail_bd _ _ _ _ _ h
      simp; omega
theorem takeTail_err : ∀ (k a n t : Nat) (l : List UInt8), (takeTail k a n t l).2.2 ≤ 12
  | 0, a, n, t, l => by simp [takeTail]
  | k + 1, a, n, t, [] => by simp [takeTail]
  | k + 1, a, n, t, c :: l => by
    rw [takeTail]
    split
    · split <;> simp
    · exact takeTail_err k _ _ _ l
theorem takeI_err (F : Nat) (l : List UInt8) : (takeI F l).2.2 ≤ 12 := by
  cases l with
  | nil => simp [takeI]
  | cons c t =>
    simp only [takeI]
    split
    · simp
    · exact takeTail_err _ _ _ _ _

section
variable {f F n : Nat} (hF : 1 ≤ F ∧ F ≤ 255) (hf : f % (F + 1) = 0) (hfF : f + F < 256) (hn : n ≤ 2147483647)
include hF hf hfF hn
end
section
variable {l : List UInt8} {m a z : Nat} (h : takeI 127 l = (m, a, z))
include h
theorem takeT_err (hz : z ≠ 0) : takeT l = ([], 0, z) := by unfold takeT; rw [h]; exact if_pos hz
theorem takeT_long (hz : z = 0) (hm : 4096 < m) : takeT l = ([], 0, 2) := by unfold takeT; rw [h]; simp [hz, hm]
theorem takeT_short (hz : z = 0) (hm : m ≤ 4096) (hl : l.length < a + m) : takeT l = ([], 0, 12) := by
  unfold takeT; rw [h]; simp only [hz]; rw [if_neg (by omega), if_neg (by omega), if_pos hl]
theorem takeT_raw (hz : z = 0) (hm : m ≤ 4096) (hl : a + m ≤ l.length) (hb : ba l 0 < 128) : takeT l = ((l.drop a).take m, a + m, 0) := by
  unfold takeT pieceT; rw [h]; simp only [hz]; rw [if_neg (by omega), if_neg (by omega), if_neg (by omega), if_pos hb]
theorem takeT_bits (hz : z = 0) (hm : m ≤ 4096) (hl : a + m ≤ l.length) (hb : 128 ≤ ba l 0) : takeT l = match decB ((l.drop a).take m) with
    | none => ([], 0, 10)
    | some t => if 4096 < t.length then ([], 0, 2) else (t, a + m, 0) := by
  unfold takeT pieceT; rw [h]; simp only [hz]; rw [if_neg (by omega), if_neg (by omega), if_neg (by omega), if_neg (by omega)]
end
end Go.Proofs.YtpkmciohehaboaaGreatDoor

/- The last place of a row; a map that reads as a function of such places; a table's steps, in plain Lean. No program in sight. -/
namespace Go.Proofs.YtpkmciohehaboaaGreatDoor
open Go.RowKit Go.Maps

section
variable {α : Type} [DecidableEq α]
/-- Where r came last, the first of the list having the number g + 1. -/
def pos : List α → Int → α → Option Int
  | [], _, _ => none
  | a :: l, g, r => match pos l (g + 1) r with
    | some x => some x
    | none => if r = a then some (g + 1) else none
theorem pos_cons (a : α) (l : List α) (g : Int) (r : α) : pos (a :: l) g r = match pos l (g + 1) r with | some x => some x | none => if r = a then some (g + 1) else none := rfl
theorem pos_snoc (l : List α) (a : α) (g : Int) (r : α) : pos (l ++ [a]) g r = if r = a then some (g + l.length + 1) else pos l g r := by
  induction l generalizing g with
  | nil => simp [pos]
  | cons b l ih =>
    rw [List.cons_append, pos_cons, ih]
    by_cases h : r = a
    · simp only [h, if_true, List.length_cons]
      congr 1
      omega
    · rw [if_neg h, if_neg h]; rfl
theorem pos_range {l : List α} {g : Int} {r : α} {x : Int} (h : pos l g r = some x) : g < x ∧ x ≤ g + l.length := by
  induction l generalizing g with
  | nil => cases h
  | cons b l ih =>
    rw [pos_cons] at h
    cases hp : pos l (g + 1) r with
    | some y =>
      rw [hp] at h
      injection h with h
      subst h
      have := ih hp
      simp only [List.length_cons]; omega
    | none =>
      rw [hp] at h
      simp only at h
      split at h
      · injection h with h; subst h; simp only [List.length_cons]; omega
      · cases h
theorem pos_cons_ne {a r : α} (l : List α) (g : Int) (h : r ≠ a) : pos (a :: l) g r = pos l (g + 1) r := by
  rw [pos_cons, if_neg h]
  cases pos l (g + 1) r <;> rfl
theorem pos_cons_in {a : α} {l : List α} {g x : Int} (h : pos l (g + 1) a = some x) : pos (a :: l) g a = some x := by rw [pos_cons, h]
theorem pos_cons_out {a : α} {l : List α} {g : Int} (h : pos l (g + 1) a = none) : pos (a :: l) g a = some (g + 1) := by rw [pos_cons, h]; simp
end

def num (x : Int) : DataW Unit := .lit (.int .i64 x)
theorem num_inj {x c : Int} (h : num x = .lit (.int .i64 c)) : c = x := by unfold num at h; simp at h; exact h.symm
/-- A map that reads as the function f of the keys that may be. -/
structure View {α : Type} (κ : α → Lit) (ok : α → Prop) (D : DataW Unit) (f : α → Option Int) : Prop where
  has : ∀ a, ok a → Maps.has D (κ a) = (f a).isSome
  at_ : ∀ a x, ok a → f a = some x → D.atKey (κ a) (num 0) = num x
section
variable {α : Type} [DecidableEq α] {κ : α → Lit} {ok : α → Prop} {D : DataW Unit} {f f' : α → Option Int}
omit [DecidableEq α] in
theorem View.empty (κ : α → Lit) (ok : α → Prop) : View κ ok (.map []) (fun _ => none) := ⟨fun _ _ => rfl, fun _ _ _ h => by cases h⟩
omit [DecidableEq α] in
theorem View.congr (h : View κ ok D f) (hf : ∀ a, ok a → f' a = f a) : View κ ok D f' := ⟨fun a ha => by rw [hf a ha]; exact h.has a ha, fun a x ha hx => h.at_ a x ha (by rw [← hf a ha]; exact hx)⟩
theorem View.put (h : View κ ok D f) (ht : Tidy D) (hl : ∀ a, ok a → WideAt.IsKeyLit (κ a)) (hi : ∀ a b, ok a → ok b → a ≠ b → κ a ≠ κ b) {a : α} (ha : ok a) (x : Int) :
    View κ ok (D.put (κ a) (num x)) (fun r => if r = a then some x else f r) := by
  refine ⟨fun r hr => ?_, fun r y hr hy => ?_⟩
  · by_cases e : r = a
    · subst e; rw [has_put_same ht.isMap (hl _ hr)]; simp
    · rw [has_put_other (hi r a hr ha e), h.has r hr, if_neg e]
  · by_cases e : r = a
    · subst e
      simp only [if_true] at hy
      injection hy with hy
      subst hy
      exact atKey_put_same ht.isMap (hl _ hr) _ _
    · simp only [if_neg e] at hy
      rw [atKey_put_other (hi r a hr ha e)]
      exact h.at_ r y hr hy
theorem View.del (h : View κ ok D f) (hi : ∀ a b, ok a → ok b → a ≠ b → κ a ≠ κ b) {a : α} (ha : ok a) : View κ ok (D.del (κ a)) (fun r => if r = a then none else f r) := by
  refine ⟨fun r hr => ?_, fun r y hr hy => ?_⟩
  · by_cases e : r = a
    · subst e; rw [has_del_same]; simp
    · rw [has_del_other (hi r a hr ha e), h.has r hr, if_neg e]
  · by_cases e : r = a
    · subst e; simp at hy
    · simp only [if_neg e] at hy
      rw [atKey_del_other (hi r a hr ha e)]
      exact h.at_ r y hr hy
omit [DecidableEq α] in
theorem View.none_ (h : View κ ok D f) {a : α} (ha : ok a) (hf : f a = none) (z : DataW Unit) : D.atKey (κ a) z = z := atKey_of_not_has (by rw [h.has a ha, hf]; rfl) z
end

/-- A row: its name, its value. -/
abbrev Rw := ByteArray × ByteArray
def cost (r : Rw) : Nat := r.1.size + r.2.size + 32
/-- A table: what it may cost, how many went, its rows, the oldest first. -/
structure Tb where
  most : Int
  gone : Int
  rows : List Rw
def Tb.size (T : Tb) : Nat := (T.rows.map cost).sum
/-- The oldest go till the cost is not above m. -/
def shrunk (m : Int) : Int → List Rw → Int × List Rw
  | g, [] => (g, [])
  | g, r :: l => if m < ((((r :: l).map cost).sum : Nat) : Int) then shrunk m (g + 1) l else (g, r :: l)
def Tb.shrink (T : Tb) (m : Int) : Tb := { T with gone := (shrunk m T.gone T.rows).1, rows := (shrunk m T.gone T.rows).2 }
def Tb.resize (T : Tb) (m : Int) : Tb := { T with most := m }.shrink m
def Tb.add (T : Tb) (r : Rw) : Tb := if T.most < cost r then T.shrink 0 else { T.shrink (T.most - cost r) with rows := (T.shrink (T.most - cost r)).rows ++ [r] }
theorem shrunk_nil (m g : Int) : shrunk m g [] = (g, []) := rfl
theorem shrunk_go {m g : Int} {r : Rw} {l : List Rw} (h : m < ((((r :: l).map cost).sum : Nat) : Int)) : shrunk m g (r :: l) = shrunk m (g + 1) l := by rw [shrunk, if_pos h]
theorem shrunk_stop {m g : Int} {l : List Rw} (h : (((l.map cost).sum : Nat) : Int) ≤ m) : shrunk m g l = (g, l) := by
  cases l with
  | nil => rfl
  | cons r l => rw [shrunk, if_neg (by omega)]
end Go.Proofs.YtpkmciohehaboaaGreatDoor

/- A table in memory; the walks of table.New, Most, Size, Len, cost. -/
namespace Go.Proofs.YtpkmciohehaboaaGreatDoor
open Go.RowKit Go.Maps

theorem laidOutT : laidOutB Tryz.prog = true := by kernel_rfl
theorem rowRow : (276 : TypeId) < Tryz.prog.types.size := of_decide_eq_true (by kernel_rfl)
theorem wideRow : (match Tryz.prog.underlying 276 with | some (.array _ _) | some (.struct _) => true | _ => false) = true := by kernel_rfl
set_option maxRecDepth 100000 in
theorem lawRow : Keyed Tryz.prog 276 := Keyed.of_law (deep_law_laid laidOutT (m := 3) (by omega) rowRow (by kernel_rfl) wideRow)
theorem lawStr : Keyed Tryz.prog 9 := string_keyed Tryz.underlying9
theorem zeroInt (w : World) : (zeroValue 3).run Tryz.prog w = .ok (.int .i64 0) w := by kernel_rfl
theorem tRows : SlT Tryz.prog 203 276 (.agg #[.string ByteArray.empty, .string ByteArray.empty]) 2 32 :=
  ⟨Tryz.underlying203, by kernel_rfl, rfl, by decide⟩

def rowV (r : Rw) : Value := .agg #[.string r.1, .string r.2]
def rcs (l : List Rw) : List Value := l.flatMap fun r => [.string r.1, .string r.2]
theorem rcs_cons (r : Rw) (l : List Rw) : rcs (r :: l) = .string r.1 :: .string r.2 :: rcs l := rfl
theorem rcs_get {l : List Rw} : ∀ {i : Nat} {r : Rw}, l[i]? = some r → (rcs l)[i * 2]? = some (.string r.1) ∧ (rcs l)[i * 2 + 1]? = some (.string r.2) := by
  induction l with
  | nil => intro i p h; simp at h
  | cons q L ih =>
    intro i p h
    rw [rcs_cons]
    cases i with
    | zero => simp at h; subst h; exact ⟨rfl, rfl⟩
    | succ i =>
      have := ih (i := i) (r := p) (by simpa using h)
      rw [show (i + 1) * 2 = i * 2 + 1 + 1 by omega]
      simpa using this
theorem rcs_app (l k : List Rw) : rcs (l ++ k) = rcs l ++ rcs k := by simp [rcs, List.flatMap_append]
theorem rcs_drop (r : Rw) (l : List Rw) : (rcs (r :: l)).drop 2 = rcs l := rfl

def okS (s : ByteArray) : Prop := s.size ≤ maxLen
def okR (r : Rw) : Prop := okS r.1 ∧ okS r.2
def strKey (s : ByteArray) : Lit := .string s.data.toList
theorem strKey_ok {s : ByteArray} (h : okS s) : keyOf Tryz.prog 9 (.string s) = some (strKey s) := WideMaps.keyOf_string_mk Tryz.underlying9 h
theorem keyTypeRow : Tryz.prog.keyType 276 = true := by kernel_rfl
theorem cellsRow : Tryz.prog.cellsOf 276 = 2 := by kernel_rfl
theorem cellsStr : Tryz.prog.cellsOf 9 = 1 := by kernel_rfl
theorem keyLits_str (d : Nat) {s : ByteArray} (h : okS s) : Tryz.prog.keyLits (d + 1) 9 [.string s] = some [.string s.data.toList] := by
  unfold Program.keyLits
  rw [Tryz.underlying9]
  simp only
  exact if_pos h
theorem keyLits_row (d : Nat) {r : Rw} (h : okR r) : Tryz.prog.keyLits (d + 2) 276 [.string r.1, .string r.2] = some [.string r.1.data.toList, .string r.2.data.toList] := by
  have h1 := keyLits_str d h.1
  have h2 := keyLits_str d h.2
  unfold Program.keyLits
  rw [Tryz.underlying276]
  simp only
  rw [if_pos ⟨by rw [cellsRow]; rfl, by simp⟩]
  simp [cellsStr, h1, h2]
theorem rowKey_ex {r : Rw} (h : okR r) : ∃ l, keyOf Tryz.prog 276 (rowV r) = some l := by
  obtain ⟨d, hd⟩ : ∃ d, Tryz.prog.types.size + 1 = d + 2 := ⟨Tryz.prog.types.size - 1, by have h := Nat.lt_of_le_of_lt (Nat.zero_le _) rowRow; omega⟩
  have hf : (rowV r).formed Tryz.prog 276 = true := by
    unfold rowV
    simp [Value.formed, Tryz.underlying276, cellsRow]
  refine ⟨.string (keyBytes [.string r.1.data.toList, .string r.2.data.toList]), ?_⟩
  unfold keyOf
  rw [Tryz.underlying276]
  simp only
  rw [keyTypeRow, hf, hd]
  simp only [Bool.and_self, if_true]
  rw [show (rowV r).cells.toList = [.string r.1, .string r.2] from rfl, keyLits_row d h]
  rfl
noncomputable def rowKey (r : Rw) : Lit := (keyOf Tryz.prog 276 (rowV r)).getD (.bool true)
theorem rowKey_ok {r : Rw} (h : okR r) : keyOf Tryz.prog 276 (rowV r) = some (rowKey r) := by
  obtain ⟨l, hl⟩ := rowKey_ex h
  unfold rowKey
  rw [hl]; rfl
theorem rowKey_ne (a b : Rw) (ha : okR a) (hb : okR b) (h : a ≠ b) : rowKey a ≠ rowKey b := by
  intro e
  have h1 := rowKey_ok ha
  rw [e] at h1
  have := Keyed.inj lawRow h1 (rowKey_ok hb)
  obtain ⟨a1, a2⟩ := a
  obtain ⟨b1, b2⟩ := b
  simp [rowV] at this
  exact h (by rw [this.1, this.2])
set_option maxRecDepth 100000 in
theorem rowKey_lit (a : Rw) (ha : okR a) : WideAt.IsKeyLit (rowKey a) := Keyed.key lawRow (rowKey_ok ha)
theorem strKey_ne (a b : ByteArray) (ha : okS a) (hb : okS b) (h : a ≠ b) : strKey a ≠ strKey b := by
  intro e
  have h1 := strKey_ok ha
  rw [e] at h1
  have := Keyed.inj lawStr h1 (strKey_ok hb)
  simp at this
  exact h this
set_option maxRecDepth 100000 in
theorem strKey_lit (a : ByteArray) (ha : okS a) : WideAt.IsKeyLit (strKey a) := Keyed.key lawStr (strKey_ok ha)

/-- A table's blocks. -/
def foot (g mb mn : Nat) (A : Option Addr) (k : Nat) : Prop := k = g ∨ k = mb ∨ k = mn ∨ ∃ a, A = some a ∧ a.block = k
/-- A table in memory, as it lies there. -/
structure Raw (w : World) (g mb mn : Nat) (A : Option Addr) (c N : Nat) (most size gone : Int) (rows : List Rw) (fb : Rw → Option Int) (fn : ByteArray → Option Int) : Prop where
  book : w.heap[g]? = some (.cells #[.int .i64 most, .int .i64 size, .slice A rows.length c, .int .i64 gone, .map (some mb), .map (some mn)] 205 (0, 0))
  row : Lies w 276 2 (.slice A rows.length c) rows.length (rcs rows)
  both : ∃ D : DataW Unit, w.ownsMap Tryz.prog 276 (plainElem Tryz.prog 3) mb N D ∧ View rowKey okR D fb
  name : ∃ D : DataW Unit, w.ownsMap Tryz.prog 9 (plainElem Tryz.prog 3) mn N D ∧ View strKey okS D fn
  ne : g ≠ mb ∧ g ≠ mn ∧ mb ≠ mn
  apart : ∀ a, A = some a → a.block ≠ g ∧ a.block ≠ mb ∧ a.block ≠ mn
section
variable {w w' : World} {g mb mn c N : Nat} {A : Option Addr} {most size gone : Int} {rows : List Rw} {fb : Rw → Option Int} {fn : ByteArray → Option Int}
theorem Raw.lt (h : Raw w g mb mn A c N most size gone rows fb fn) : ∀ k, foot g mb mn A k → k < w.heap.size := by
  rintro k (rfl | rfl | rfl | ⟨a, ha, rfl⟩)
  · exact (Array.getElem?_eq_some_iff.1 h.book).1
  · obtain ⟨D, hD, _⟩ := h.both; exact hD.lt
  · obtain ⟨D, hD, _⟩ := h.name; exact hD.lt
  · obtain ⟨A', c', hv, _, _, hb⟩ := h.row.form
    injection hv with e1
    subst e1
    exact hb a ha
theorem Raw.keep (h : Raw w g mb mn A c N most size gone rows fb fn) (hk : ∀ k, foot g mb mn A k → w'.heap[k]? = w.heap[k]?) : Raw w' g mb mn A c N most size gone rows fb fn := by
  obtain ⟨D1, ⟨e1, l1, a1, b1⟩, v1⟩ := h.both
  obtain ⟨D2, ⟨e2, l2, a2, b2⟩, v2⟩ := h.name
  refine ⟨(hk g (.inl rfl)).trans h.book, h.row.keep fun q hq => hk q ?_, ⟨D1, ⟨e1, l1, (hk mb (.inr (.inl rfl))).trans a1, b1⟩, v1⟩, ⟨D2, ⟨e2, l2, (hk mn (.inr (.inr (.inl rfl)))).trans a2, b2⟩, v2⟩, h.ne, h.apart⟩
  cases A with
  | none => cases hq
  | some a => exact .inr (.inr (.inr ⟨a, rfl, by simpa [Value.ownBlock] using hq⟩))
theorem Raw.alloc (h : Raw w g mb mn A c N most size gone rows fb fn) (o : Obj) : Raw (w.alloc o) g mb mn A c N most size gone rows fb fn := h.keep fun k hk => Below.heap_alloc _ _ _ (h.lt k hk)
theorem Raw.cells (h : Raw w g mb mn A c N most size gone rows fb fn) : w.cell? ⟨g, 0, none⟩ = some (.int .i64 most) ∧ w.cell? ⟨g, 1, none⟩ = some (.int .i64 size) ∧ w.cell? ⟨g, 2, none⟩ = some (.slice A rows.length c) ∧
    w.cell? ⟨g, 3, none⟩ = some (.int .i64 gone) ∧ w.cell? ⟨g, 4, none⟩ = some (.map (some mb)) ∧ w.cell? ⟨g, 5, none⟩ = some (.map (some mn)) := by
  refine ⟨?_, ?_, ?_, ?_, ?_, ?_⟩ <;> (unfold World.cell?; rw [h.book]; rfl)
theorem Raw.free (h : Raw w g mb mn A c N most size gone rows fb fn) (o : Nat) : w.frozen? ⟨g, o, none⟩ = false := by
  unfold World.frozen?; rw [h.book]; simp
/-- A row's cells. -/
theorem Raw.at_ (h : Raw w g mb mn A c N most size gone rows fb fn) {i : Nat} {r : Rw} (hi : rows[i]? = some r) : ∃ q o, A = some ⟨q, o, none⟩ ∧ q < w.heap.size ∧ w.cell? ⟨q, o + i * 2, none⟩ = some (.string r.1) ∧ w.cell? ⟨q, o + i * 2 + 1, none⟩ = some (.string r.2) := by
  have hlt : i < rows.length := (List.getElem?_eq_some_iff.1 hi).1
  obtain ⟨q, o, hA, hq, hc⟩ := (h.row.rd rfl).2 (by omega)
  have e := rcs_get hi
  exact ⟨q, o, hA, hq, (hc _ (by omega)).trans e.1, (hc (i * 2 + 1) (by omega)).trans e.2⟩
end

theorem cost_any (r : Rw) (w : World) (h1 : r.1.size ≤ 140737488355328) (h2 : r.2.size ≤ 140737488355328) :
    Calls Tryz.prog 215 #[.agg #[.string r.1, .string r.2]] w fun e w' => e = .returned (.int .i64 (cost r : Nat)) ∧ w' = w.alloc (.cells #[.string r.1, .string r.2] 276) := by
  go_enter Tryz.func215, Tryz.ntmps215
  go_wp2
  go_ret
  exact ⟨ret_v (by unfold cost; congr 1), rfl⟩

/-- A table in memory, as a table. -/
structure TM (w : World) (g mb mn : Nat) (A : Option Addr) (c N : Nat) (T : Tb) : Prop where
  raw : Raw w g mb mn A c N T.most T.size T.gone T.rows (pos T.rows T.gone) (pos (T.rows.map (·.1)) T.gone)
  ok : ∀ r ∈ T.rows, okR r
  most0 : 0 ≤ T.most
  most1 : T.most ≤ 65536
  gone0 : 0 ≤ T.gone
  many : T.gone + T.rows.length ≤ N
  few : N ≤ 1099511627776
  fits : (T.size : Int) ≤ T.most
/-- A table in memory: its block, its footprint. -/
def TabIs (w : World) (g : Nat) (F : Nat → Prop) (N : Nat) (T : Tb) : Prop := ∃ mb mn A c, F = foot g mb mn A ∧ TM w g mb mn A c N T
def TNew (n : Int) (W : World) (e : Ending) (w' : World) : Prop := ∃ g F, e = .returned (.tuple #[.pointer (some ⟨g, 0, none⟩), .int .i64 0]) ∧ TabIs w' g F 0 ⟨n, 0, []⟩ ∧ (∀ k, F k → W.heap.size ≤ k) ∧ Below W.heap.size W w'

theorem tnew_any (n : Int) (w : World) (h0 : 0 ≤ n) (h1 : n ≤ 65536) : Calls Tryz.prog 85 #[.int .i64 n] w (TNew n w) := by
  have hmm := @run_makeMap Tryz.prog
  go_enter Tryz.func85, Tryz.ntmps85
  go_wp2
  go_ret2
  refine ⟨w.heap.size + 2, foot (w.heap.size + 2) w.heap.size (w.heap.size + 1) none, rfl, ⟨w.heap.size, w.heap.size + 1, none, 0, rfl, ⟨⟨?_, Lies.nil _ _ _, ⟨.map [], ?_, View.empty _ _⟩, ⟨.map [], ?_, View.empty _ _⟩, ⟨by omega, by omega, by omega⟩, fun a ha => by cases ha⟩, (fun r hr => by cases hr), h0, h1, Int.le_refl _, by simp, by omega, h0⟩⟩, ?_, (((Below.refl _ _).alloc (Nat.le_refl _) _).alloc (by simp) _).alloc (by simp; omega) _⟩
  · have := heapNew ((w.alloc (.map #[] 0)).alloc (.map #[] 0)) (.cells #[.int .i64 n, .int .i64 0, .slice none 0 0, .int .i64 0, .map (some w.heap.size), .map (some (w.heap.size + 1))] 205)
    rw [show ((w.alloc (.map #[] 0)).alloc (.map #[] 0)).heap.size = w.heap.size + 2 by simp] at this
    exact this
  · exact ((World.ownsMap_made w _ _ _).alloc _).alloc _
  · have := (World.ownsMap_made (w.alloc (.map #[] 0)) Tryz.prog 9 (plainElem (H := Unit) Tryz.prog 3)).alloc (.cells #[.int .i64 n, .int .i64 0, .slice none 0 0, .int .i64 0, .map (some w.heap.size), .map (some (w.heap.size + 1))] 205)
    rwa [show (w.alloc (.map #[] 0)).heap.size = w.heap.size + 1 by simp] at this
  · rintro k (rfl | rfl | rfl | ⟨a, ha, _⟩)
    · omega
    · omega
    · omega
    · cases ha
end Go.Proofs.YtpkmciohehaboaaGreatDoor

/- What stores into a table's block and its maps leave; look-ups in its maps. -/
namespace Go.Proofs.YtpkmciohehaboaaGreatDoor
open Go.RowKit Go.Maps

section
variable {w w' : World} {g mb mn c N : Nat} {A : Option Addr} {most size gone : Int} {rows : List Rw} {fb fb' : Rw → Option Int} {fn fn' : ByteArray → Option Int}
theorem Raw.congr (h : Raw w g mb mn A c N most size gone rows fb fn) (h1 : ∀ r, okR r → fb' r = fb r) (h2 : ∀ s, okS s → fn' s = fn s) : Raw w g mb mn A c N most size gone rows fb' fn' := by
  obtain ⟨D1, o1, v1⟩ := h.both
  obtain ⟨D2, o2, v2⟩ := h.name
  exact ⟨h.book, h.row, ⟨D1, o1, v1.congr h1⟩, ⟨D2, o2, v2.congr h2⟩, h.ne, h.apart⟩
theorem Raw.more (h : Raw w g mb mn A c N most size gone rows fb fn) {N' : Nat} (hN : N ≤ N') : Raw w g mb mn A c N' most size gone rows fb fn := by
  obtain ⟨D1, o1, v1⟩ := h.both
  obtain ⟨D2, o2, v2⟩ := h.name
  exact ⟨h.book, h.row, ⟨D1, o1.mono hN, v1⟩, ⟨D2, o2.mono hN, v2⟩, h.ne, h.apart⟩
theorem Raw.put (h : Raw w g mb mn A c N most size gone rows fb fn) {o : Nat} {v : Value} {most' size' gone' : Int} {A' : Option Addr} {c' : Nat} {rows' : List Rw}
    (hb : (#[Value.int .i64 most, .int .i64 size, .slice A rows.length c, .int .i64 gone, .map (some mb), .map (some mn)] : Array Value).setIfInBounds o v = #[.int .i64 most', .int .i64 size', .slice A' rows'.length c', .int .i64 gone', .map (some mb), .map (some mn)])
    (hr : Lies w 276 2 (.slice A' rows'.length c') rows'.length (rcs rows')) (ha : ∀ a, A' = some a → a.block ≠ g ∧ a.block ≠ mb ∧ a.block ≠ mn) :
    Raw (w.setCell ⟨g, o, none⟩ v) g mb mn A' c' N most' size' gone' rows' fb fn := by
  have hk : ∀ k, k ≠ g → (w.setCell ⟨g, o, none⟩ v).heap[k]? = w.heap[k]? := fun k hk => Below.heap_setCell _ _ _ _ (by simpa using hk)
  obtain ⟨D1, ⟨e1, l1, a1, b1⟩, v1⟩ := h.both
  obtain ⟨D2, ⟨e2, l2, a2, b2⟩, v2⟩ := h.name
  refine ⟨?_, hr.keep fun q hq => hk q ?_, ⟨D1, ⟨e1, l1, (hk mb (Ne.symm h.ne.1)).trans a1, b1⟩, v1⟩, ⟨D2, ⟨e2, l2, (hk mn (Ne.symm h.ne.2.1)).trans a2, b2⟩, v2⟩, h.ne, ha⟩
  · simp only [World.setCell, Array.getElem?_modify, if_true]
    rw [h.book]
    simp only [Option.map_some]
    rw [← hb]
    rfl
  · cases A' with
    | none => cases hq
    | some a => simp only [Value.ownBlock, Option.some.injEq] at hq; subst hq; exact (ha a rfl).1
theorem Raw.setMost (h : Raw w g mb mn A c N most size gone rows fb fn) (v : Int) : Raw (w.setCell ⟨g, 0, none⟩ (.int .i64 v)) g mb mn A c N v size gone rows fb fn := h.put rfl h.row h.apart
theorem Raw.setSize (h : Raw w g mb mn A c N most size gone rows fb fn) (v : Int) : Raw (w.setCell ⟨g, 1, none⟩ (.int .i64 v)) g mb mn A c N most v gone rows fb fn := h.put rfl h.row h.apart
theorem Raw.setGone (h : Raw w g mb mn A c N most size gone rows fb fn) (v : Int) : Raw (w.setCell ⟨g, 3, none⟩ (.int .i64 v)) g mb mn A c N most size v rows fb fn := h.put rfl h.row h.apart
theorem Raw.setRows (h : Raw w g mb mn A c N most size gone rows fb fn) {A' : Option Addr} {c' : Nat} {rows' : List Rw} (hr : Lies w 276 2 (.slice A' rows'.length c') rows'.length (rcs rows'))
    (ha : ∀ a, A' = some a → a.block ≠ g ∧ a.block ≠ mb ∧ a.block ≠ mn) : Raw (w.setCell ⟨g, 2, none⟩ (.slice A' rows'.length c')) g mb mn A' c' N most size gone rows' fb fn := h.put rfl hr ha
/-- The oldest row goes. -/
def cut1 (A : Option Addr) (c : Nat) : Option Addr := if c = 1 then A else A.map (·.add 2)
theorem cut1_block {A : Option Addr} {c : Nat} {a : Addr} (h : cut1 A c = some a) : ∃ a0, A = some a0 ∧ a0.block = a.block := by
  unfold cut1 at h
  split at h
  · exact ⟨a, h, rfl⟩
  · cases A with
    | none => cases h
    | some a0 => simp at h; subst h; exact ⟨a0, rfl, rfl⟩
theorem Raw.tail {r : Rw} {l : List Rw} (h : Raw w g mb mn A c N most size gone (r :: l) fb fn) : Raw (w.setCell ⟨g, 2, none⟩ (.slice (cut1 A c) l.length (c - 1))) g mb mn (cut1 A c) (c - 1) N most size gone l fb fn := by
  refine h.setRows ?_ (fun a ha => ?_)
  · have := h.row.tail (by simp) rfl
    simpa [rcs_drop, cut1] using this
  · obtain ⟨a0, h0, hb⟩ := cut1_block ha
    rw [← hb]; exact h.apart a0 h0
/-- A map's block is another. -/
theorem Raw.newBoth (h : Raw w g mb mn A c N most size gone rows fb fn) {D : DataW Unit} {N' : Nat} (hg : w.grownBy w' (some mb)) (ho : w'.ownsMap Tryz.prog 276 (plainElem Tryz.prog 3) mb N' D) (hv : View rowKey okR D fb') (hN : N ≤ N') :
    Raw w' g mb mn A c N' most size gone rows fb' fn := by
  obtain ⟨D2, o2, v2⟩ := h.name
  have hl := h.lt
  refine ⟨(hg.block g (hl g (.inl rfl)) (by simpa using h.ne.1)).trans h.book, h.row.keep fun q hq => ?_, ⟨D, ho, hv⟩, ⟨D2, (o2.kept hg (by simpa using Ne.symm h.ne.2.2)).mono hN, v2⟩, h.ne, h.apart⟩
  cases A with
  | none => cases hq
  | some a =>
    simp only [Value.ownBlock, Option.some.injEq] at hq
    subst hq
    exact hg.block _ (hl _ (.inr (.inr (.inr ⟨a, rfl, rfl⟩)))) (by simpa using (h.apart a rfl).2.1)
theorem Raw.newName (h : Raw w g mb mn A c N most size gone rows fb fn) {D : DataW Unit} {N' : Nat} (hg : w.grownBy w' (some mn)) (ho : w'.ownsMap Tryz.prog 9 (plainElem Tryz.prog 3) mn N' D) (hv : View strKey okS D fn') (hN : N ≤ N') :
    Raw w' g mb mn A c N' most size gone rows fb fn' := by
  obtain ⟨D1, o1, v1⟩ := h.both
  have hl := h.lt
  refine ⟨(hg.block g (hl g (.inl rfl)) (by simpa using h.ne.2.1)).trans h.book, h.row.keep fun q hq => ?_, ⟨D1, (o1.kept hg (by simpa using h.ne.2.2)).mono hN, v1⟩, ⟨D, ho, hv⟩, h.ne, h.apart⟩
  cases A with
  | none => cases hq
  | some a =>
    simp only [Value.ownBlock, Option.some.injEq] at hq
    subst hq
    exact hg.block _ (hl _ (.inr (.inr (.inr ⟨a, rfl, rfl⟩)))) (by simpa using (h.apart a rfl).2.2)
/-- Looked up. -/
theorem Raw.lookB (h : Raw w g mb mn A c N most size gone rows fb fn) {r : Rw} {x : Int} (hr : okR r) (hf : fb r = some x) (k : Nat) :
    (Instr.lookup 202 (.map (some mb)) (rowV r) false).run Tryz.prog (w.drewN k) = .ok (.int .i64 x) (w.drewN k) := by
  obtain ⟨D, ho, hv⟩ := (h.keep (w' := w.drewN k) (fun _ _ => rfl)).both
  obtain ⟨y, hrun, hat, _⟩ := ho.lookup_int lawRow Tryz.underlying202 Tryz.underlying3 (zeroInt _) (rowKey_ok hr)
  have := (hv.at_ r x hr hf).symm.trans hat
  rw [num_inj this] at hrun
  exact hrun
theorem Raw.lookN (h : Raw w g mb mn A c N most size gone rows fb fn) {s : ByteArray} {x : Int} (hr : okS s) (hf : fn s = some x) (k : Nat) :
    (Instr.lookup 157 (.map (some mn)) (.string s) false).run Tryz.prog (w.drewN k) = .ok (.int .i64 x) (w.drewN k) := by
  obtain ⟨D, ho, hv⟩ := (h.keep (w' := w.drewN k) (fun _ _ => rfl)).name
  obtain ⟨y, hrun, hat, _⟩ := ho.lookup_int lawStr Tryz.underlying157 Tryz.underlying3 (zeroInt _) (strKey_ok hr)
  have := (hv.at_ s x hr hf).symm.trans hat
  rw [num_inj this] at hrun
  exact hrun
end
end Go.Proofs.YtpkmciohehaboaaGreatDoor

/- The walk of table.shrink. -/
namespace Go.Proofs.YtpkmciohehaboaaGreatDoor
open Go.RowKit Go.Maps

def sumc (l : List Rw) : Int := ((l.map cost).sum : Nat)
theorem sumc_cons (r : Rw) (l : List Rw) : sumc (r :: l) = (cost r : Int) + sumc l := by unfold sumc; simp
theorem sumc_nonneg (l : List Rw) : 0 ≤ sumc l := by unfold sumc; omega
/-- A slice's block is one of the old one's. -/
def Sub (A' A : Option Addr) : Prop := ∀ a, A' = some a → ∃ a0, A = some a0 ∧ a0.block = a.block
theorem Sub.refl (A : Option Addr) : Sub A A := fun a h => ⟨a, h, rfl⟩
theorem Sub.trans {A B C : Option Addr} (h : Sub A B) (h2 : Sub B C) : Sub A C := fun a ha => by
  obtain ⟨b, hb, e⟩ := h a ha
  obtain ⟨c, hc, e2⟩ := h2 b hb
  exact ⟨c, hc, e2.trans e⟩
theorem Sub.foot {A' A : Option Addr} (h : Sub A' A) {g mb mn k : Nat} (hk : foot g mb mn A' k) : foot g mb mn A k := by
  rcases hk with h1 | h1 | h1 | ⟨a, ha, h1⟩
  · exact .inl h1
  · exact .inr (.inl h1)
  · exact .inr (.inr (.inl h1))
  · obtain ⟨a0, h0, e⟩ := h a ha
    exact .inr (.inr (.inr ⟨a0, h0, e.trans h1⟩))
/-- A table whose maps tell the last places. -/
def Tbl (w : World) (g mb mn : Nat) (A : Option Addr) (c N : Nat) (most gone : Int) (rows : List Rw) : Prop :=
  Raw w g mb mn A c N most (sumc rows) gone rows (pos rows gone) (pos (rows.map (·.1)) gone) ∧ (∀ r ∈ rows, okR r) ∧ 0 ≤ gone ∧ gone + rows.length ≤ N ∧ N ≤ 1099511627776 ∧ sumc rows ≤ 4294967296
/-- While it shrinks. -/
def ShrRel (W : World) (g mb mn : Nat) (A0 : Option Addr) (N : Nat) (m most gone0 : Int) (rows0 : List Rw) (k : Nat) (wr : World) : Prop :=
  ∃ A c gone rows, Tbl wr g mb mn A c N most gone rows ∧ Kept (foot g mb mn A0) W wr ∧ Sub A A0 ∧ shrunk m gone0 rows0 = shrunk m gone rows ∧ k = rows.length
/-- Behind the oldest row's going, its places still told. -/
def ShrMid (W : World) (g mb mn : Nat) (A0 : Option Addr) (N x : Nat) (most gone : Int) (r : Rw) (l : List Rw) (wr : World) : Prop :=
  ∃ A c, Raw wr g mb mn A c N most (sumc l) (gone + 1) l (pos (r :: l) gone) (pos ((r :: l).map (·.1)) gone) ∧ Kept (foot g mb mn A0) W wr ∧ Sub A A0 ∧
    wr.cell? ⟨x, 0, none⟩ = some (.string r.1) ∧ wr.cell? ⟨x, 1, none⟩ = some (.string r.2) ∧ x < wr.heap.size ∧ ¬ foot g mb mn A0 x

/-- .. the row's place no more. -/
def ShrMid2 (W : World) (g mb mn : Nat) (A0 : Option Addr) (N x : Nat) (most gone : Int) (r : Rw) (l : List Rw) (wr : World) : Prop :=
  ∃ A c, Raw wr g mb mn A c N most (sumc l) (gone + 1) l (pos l (gone + 1)) (pos ((r :: l).map (·.1)) gone) ∧ Kept (foot g mb mn A0) W wr ∧ Sub A A0 ∧
    wr.cell? ⟨x, 0, none⟩ = some (.string r.1) ∧ wr.cell? ⟨x, 1, none⟩ = some (.string r.2) ∧ x < wr.heap.size ∧ ¬ foot g mb mn A0 x
/-- .. nor its name's. -/
def ShrEnd (W : World) (g mb mn : Nat) (A0 : Option Addr) (N : Nat) (most gone : Int) (l : List Rw) (wr : World) : Prop :=
  ∃ A c, Raw wr g mb mn A c N most (sumc l) (gone + 1) l (pos l (gone + 1)) (pos (l.map (·.1)) (gone + 1)) ∧ Kept (foot g mb mn A0) W wr ∧ Sub A A0
section
variable {α : Type} [DecidableEq α]
theorem pos_head (a : α) (l : List α) (g : Int) : ∃ y, pos (a :: l) g a = some y ∧ (y = g + 1 ↔ pos l (g + 1) a = none) := by
  cases h : pos l (g + 1) a with
  | none => exact ⟨g + 1, pos_cons_out h, by simp⟩
  | some y => exact ⟨y, pos_cons_in h, by have := pos_range h; simp; omega⟩
theorem pos_gone {a : α} {l : List α} {g : Int} (h : pos l (g + 1) a = none) (r : α) : pos l (g + 1) r = if r = a then none else pos (a :: l) g r := by
  by_cases e : r = a
  · subst e; rw [if_pos rfl, h]
  · rw [if_neg e, pos_cons_ne _ _ e]
theorem pos_stays {a : α} {l : List α} {g : Int} (h : pos l (g + 1) a ≠ none) (r : α) : pos l (g + 1) r = pos (a :: l) g r := by
  by_cases e : r = a
  · subst e
    obtain ⟨y, hy⟩ := Option.ne_none_iff_exists'.1 h
    rw [hy, pos_cons_in hy]
  · rw [pos_cons_ne _ _ e]
end

def ShrPost (W : World) (g mb mn : Nat) (A0 : Option Addr) (N : Nat) (m most gone0 : Int) (rows0 : List Rw) (e : Ending) (w' : World) : Prop :=
  e = .returned (.tuple #[]) ∧ ∃ A' c', Tbl w' g mb mn A' c' N most (shrunk m gone0 rows0).1 (shrunk m gone0 rows0).2 ∧ Kept (foot g mb mn A0) W w' ∧ Sub A' A0
set_option maxRecDepth 100000 in
set_option maxHeartbeats 4000000 in
theorem shrink_any {g mb mn c N : Nat} {A : Option Addr} {most gone : Int} {rows : List Rw} (m : Int) (w : World) (h : Tbl w g mb mn A c N most gone rows) :
    Calls Tryz.prog 200 #[.pointer (some ⟨g, 0, none⟩), .int .i64 m] w (ShrPost w g mb mn A N m most gone rows) := by
  have H := Lib.hid h
  clear h
  go_enter Tryz.func200, Tryz.ntmps200
  go_wp2
  go_loopg [4] rows.length (fun k _ wr => ShrRel w g mb mn A N m most gone rows k wr)
  case atStart => exact ⟨A, c, gone, rows, H.out, Kept.refl _ _, Sub.refl _, rfl, rfl⟩
  case round =>
    obtain ⟨A1, c1, gone1, rows1, ⟨hraw, hok, hg0, hmany, hfew, hsm⟩, hkept, hsub, hsh, hk⟩ := hrel
    have HR := Lib.hid hraw
    have HOK := Lib.hid hok
    have HK := Lib.hid hkept
    have HS := Lib.hid hsub
    have HSH := Lib.hid hsh
    have HE := Lib.hid hk
    obtain ⟨c0, c1', c2, c3, c4, c5⟩ := hraw.cells
    have hf1 := hraw.free 1
    have hf2 := hraw.free 2
    have hf3 := hraw.free 3
    have hs0 := sumc_nonneg rows1
    clear hraw hok hkept hsub hsh hk
    cases rows1 with
    | nil =>
      have hfin : ∀ wx : World, wx = wr → ShrPost w g mb mn A N m most gone rows (.returned (.tuple #[])) wx := fun wx hw => by
        subst hw
        refine ⟨rfl, A1, c1, ?_, HK.out, HS.out⟩
        rw [HSH.out, shrunk_nil]
        exact ⟨HR.out, HOK.out, hg0, hmany, hfew, hsm⟩
      have HF := Lib.hid hfin
      clear hfin
      go_wp2
      all_goals (go_end0; exact HF.out _ rfl)
    | cons r l =>
      by_cases hgo : m < sumc (r :: l)
      case neg =>
        have HF : Hid (∀ wx : World, wx = wr → ShrPost w g mb mn A N m most gone rows (.returned (.tuple #[])) wx) := Lib.hid fun wx hw => by
          subst hw
          refine ⟨rfl, A1, c1, ?_, HK.out, HS.out⟩
          rw [HSH.out, shrunk_stop (show sumc (r :: l) ≤ m by omega)]
          exact ⟨HR.out, HOK.out, hg0, hmany, hfew, hsm⟩
        go_wp2
        all_goals (go_end0; exact HF.out _ rfl)
      have HSC := Lib.hid (sumc_cons r l)
      have hsl := sumc_nonneg l
      have hcost : r.1.size + r.2.size + 32 ≤ 4294967296 := by
        have := HSC.out
        have hc : cost r = r.1.size + r.2.size + 32 := rfl
        rw [hc] at this
        omega
      obtain ⟨S, hS⟩ : ∃ S, sumc (r :: l) = S := ⟨_, rfl⟩
      rw [hS] at c1' hgo hsm hs0
      have HSS := Lib.hid hS
      clear hS
      obtain ⟨q, o, rfl, hq, r0, r1⟩ := HR.out.at_ (i := 0) (r := r) rfl
      have hgs := HR.out.lt g (.inl rfl)
      simp only [Nat.zero_mul, Nat.add_zero] at r0 r1
      simp only [List.length_cons] at c2 hmany
      go_upto_region 4 with fail
      obtain ⟨A2, hA2⟩ : ∃ A2, (if c1 = 1 then some (⟨q, o, none⟩ : Addr) else some ⟨q, o + 2, none⟩) = A2 := ⟨_, rfl⟩
      rw [hA2]
      have HA2 : Hid (cut1 (some ⟨q, o, none⟩) c1 = A2) := Lib.hid (by rw [← hA2]; unfold cut1; simp [Addr.add_lit])
      clear hA2
      go_cut [46] (fun _ wx => ShrMid w g mb mn A N wr.heap.size most gone1 r l wx)
      case first =>
        have hfin : IntKind.i64.wrap (S - (cost r : Int)) = sumc l := by
          have := HSC.out
          rw [HSS.out] at this
          rw [IntWalk.i64_in _ ⟨by omega, by omega⟩]
          omega
        have HFIN := Lib.hid hfin
        clear hfin
        have hmid : Hid (ShrMid w g mb mn A N wr.heap.size most gone1 r l (((((wr.setCell ⟨g, 2, none⟩ (.slice A2 l.length (c1 - 1))).setCell ⟨g, 3, none⟩ (.int .i64 (gone1 + 1))).setCell ⟨g, 1, none⟩ (.int .i64 (IntKind.i64.wrap (S - (cost r : Int))))).alloc (.cells #[.string r.1, .string r.2] 276)).alloc (.cells #[.string r.1, .string r.2] 276)).drew) := by
          refine Lib.hid ?_
          have hnf : ¬ foot g mb mn A wr.heap.size := fun hf => by
            have h1 := H.out.1.lt _ hf
            have h2 := HK.out.size
            omega
          rw [HFIN.out]
          refine ⟨A2, c1 - 1, ?_, ?_, ?_, ?_, ?_, ?_, hnf⟩
          · have := (((HR.out.tail.setGone (gone1 + 1)).setSize (sumc l)).alloc (.cells #[.string r.1, .string r.2] 276)).alloc (.cells #[.string r.1, .string r.2] 276)
            rw [HA2.out] at this
            exact this.keep (fun _ _ => rfl)
          · exact (((((HK.out.setCell (.inl rfl) _ _).setCell (.inl rfl) _ _).setCell (.inl rfl) _ _).alloc _).alloc _).drew
          · rw [← HA2.out]
            exact Sub.trans (fun a ha => cut1_block ha) HS.out
          · exact (World.cell?_alloc_lt _ _ _ (by simp [World.setCell])).trans (World.cell?_alloc_at _ _ _ _ (by simp [World.setCell]))
          · exact (World.cell?_alloc_lt _ _ _ (by simp [World.setCell])).trans (World.cell?_alloc_at _ _ _ _ (by simp [World.setCell]))
          · simp [World.setCell]; omega
        clear HR
        go_region_law (first
          | (go_simp; go_at_call 215; refine (cost_any r _ (by omega) (by omega)).mono ?_; rintro e w2 ⟨rfl, rfl⟩))
        all_goals
          go_wp2_with fail
          go_meet
          exact hmid.out
      case rest =>
        obtain ⟨A3, c3', hraw, hkept, hsub, x0, x1, hxl, hxf⟩ := hcut
        obtain ⟨d0, d1, d2, d3, d4, d5⟩ := hraw.cells
        have hokr := HOK.out r (by simp)
        obtain ⟨y, hy, hyn⟩ := pos_head r l gone1
        have hlk : ∀ k, (Instr.lookup 202 (.map (some mb)) (.agg #[.string r.1, .string r.2]) false).run Tryz.prog (wc.drewN k) = .ok (.int .i64 y) (wc.drewN k) := fun k => hraw.lookB hokr hy k
        have hlk0 : (Instr.lookup 202 (.map (some mb)) (.agg #[.string r.1, .string r.2]) false).run Tryz.prog wc = .ok (.int .i64 y) wc := hraw.lookB hokr hy 0
        have HM := Lib.hid (And.intro hraw (And.intro hkept (And.intro hsub (And.intro x0 (And.intro x1 (And.intro hxl hxf))))))
        have HY := Lib.hid (And.intro hy hyn)
        have HOKR := Lib.hid hokr
        clear hraw hkept hsub hy hyn HR HK HS c0 c1' c2 c3 c4 c5 hf1 hf2 hf3 r0 r1 hxf hokr
        go_wp2
        go_quiet (fail)
        go_upto_if 59 with fail
        rename_i nq
        obtain ⟨wd, hwd⟩ : ∃ wd, wc.drewN nq = wd := ⟨_, rfl⟩
        rw [hwd]
        have HN : Hid (ShrMid w g mb mn A N wr.heap.size most gone1 r l wd) := Lib.hid (by
          rw [← hwd]
          exact ⟨A3, c3', HM.out.1.keep (fun _ _ => rfl), HM.out.2.1.drewN _, HM.out.2.2⟩)
        clear x0 x1 d0 d1 d2 d3 d4 d5 HM hlk hlk0 hwd hxl
        go_cut [60] (fun _ wx => ShrMid2 w g mb mn A N wr.heap.size most gone1 r l wx)
        case first =>
          obtain ⟨A4, c4', hraw, hkept, hsub, x0, x1, hxl, hxf⟩ := HN.out
          obtain ⟨d0, d1, d2, d3, d4, d5⟩ := hraw.cells
          have HRW := Lib.hid (And.intro hraw (And.intro hkept (And.intro hsub (And.intro x0 (And.intro x1 (And.intro hxl hxf))))))
          obtain ⟨D, ho, hv⟩ := hraw.both
          have HD := Lib.hid ho
          have HV := Lib.hid hv
          clear ho hv hraw hkept hsub hxf
          by_cases hb : y = gone1 + 1
          · have e59 : (y == gone1 + 1) = true := by simpa using hb
            have HB := Lib.hid hb
            clear hb
            go_wp2
            go_still_tail 5, (by kernel_rfl)
            change wpList _ _ _ _ _ wd.drew
            go_wp2_with (at_delete; refine wpList_delete_own _ rfl _ _ 202 276 rfl 3 lawRow Tryz.underlying202 _ mb _ D rfl HD.out _ (rowKey r) rfl (rowKey_ok HOKR.out) ?_; intro w1 hown1 hturn1)
            go_meet
            obtain ⟨hraw, hkept, hsub, x0, x1, hxl, hxf⟩ := HRW.out
            have hg := hturn1.grown
            have hr2 := (hraw.keep (w' := wd.drew) (fun _ _ => rfl)).newBoth hg hown1 (HV.out.del rowKey_ne HOKR.out) (Nat.le_refl _)
            have hxne : wr.heap.size ≠ mb := fun e => hxf (.inr (.inl e))
            have hcx : ∀ j, w1.cell? ⟨wr.heap.size, j, none⟩ = wd.cell? ⟨wr.heap.size, j, none⟩ := fun j => World.cell?_of_block (hg.block wr.heap.size hxl (by simpa using hxne))
            exact ⟨A4, c4', hr2.congr (fun r' _ => pos_gone (HY.out.2.1 HB.out) r') (fun _ _ => rfl), hkept.drew.grown hg (fun k hk => by cases hk; exact .inl (.inr (.inl rfl))), hsub, (hcx 0).trans x0, (hcx 1).trans x1, Nat.lt_of_lt_of_le hxl hg.size, hxf⟩
          · have e59 : (y == gone1 + 1) = false := by simpa using hb
            have HB := Lib.hid hb
            clear hb
            go_wp2
            go_meet
            obtain ⟨hraw, hrest⟩ := HRW.out
            exact ⟨A4, c4', hraw.congr (fun r' _ => pos_stays (fun e => HB.out (HY.out.2.2 e)) r') (fun _ _ => rfl), hrest⟩
        case rest =>
          obtain ⟨A5, c5', hraw, hkept, hsub, x0, x1, hxl, hxf⟩ := hcut
          obtain ⟨d0, d1, d2, d3, d4, d5⟩ := hraw.cells
          obtain ⟨y2, hy2, hyn2⟩ := pos_head r.1 (l.map (·.1)) gone1
          have hlk : ∀ k, (Instr.lookup 157 (.map (some mn)) (.string r.1) false).run Tryz.prog (wc.drewN k) = .ok (.int .i64 y2) (wc.drewN k) := fun k => hraw.lookN HOKR.out.1 hy2 k
          have hlk0 : (Instr.lookup 157 (.map (some mn)) (.string r.1) false).run Tryz.prog wc = .ok (.int .i64 y2) wc := hraw.lookN HOKR.out.1 hy2 0
          have HM := Lib.hid (And.intro hraw (And.intro hkept (And.intro hsub (And.intro x0 (And.intro x1 (And.intro hxl hxf))))))
          have HY2 := Lib.hid (And.intro hy2 hyn2)
          clear hraw hkept hsub hy2 hyn2 HN hxf
          go_wp2
          go_quiet (fail)
          go_upto_if 76 with fail
          obtain ⟨wd2, hwd2⟩ : ∃ wd2, wc.drewN nq = wd2 := ⟨_, rfl⟩
          rw [hwd2]
          have HN : Hid (ShrMid2 w g mb mn A N wr.heap.size most gone1 r l wd2) := Lib.hid (by
            rw [← hwd2]
            exact ⟨A5, c5', HM.out.1.keep (fun _ _ => rfl), HM.out.2.1.drewN _, HM.out.2.2⟩)
          clear x0 x1 d0 d1 d2 d3 d4 d5 HM hlk hlk0 hwd2 hxl
          obtain ⟨A4, c4', hraw, hkept, hsub, x0, x1, hxl, hxf⟩ := HN.out
          obtain ⟨d0, d1, d2, d3, d4, d5⟩ := hraw.cells
          have HRW := Lib.hid (And.intro hraw (And.intro hkept (And.intro hsub (And.intro x0 (And.intro x1 (And.intro hxl hxf))))))
          obtain ⟨D, ho, hv⟩ := hraw.name
          have HD := Lib.hid ho
          have HV := Lib.hid hv
          clear ho hv hraw hkept hsub hxf
          by_cases hb : y2 = gone1 + 1
          · have e59 : (y2 == gone1 + 1) = true := by simpa using hb
            have HB := Lib.hid hb
            clear hb
            go_wp2
            go_still_tail 6, (by kernel_rfl)
            change wpList _ _ _ _ _ wd2.drew
            go_wp2_with (at_delete; refine wpList_delete_own _ rfl _ _ 157 9 rfl 3 lawStr Tryz.underlying157 _ mn _ D rfl HD.out _ (strKey r.1) rfl (strKey_ok HOKR.out.1) ?_; intro w1 hown1 hturn1)
            have hend : ShrEnd w g mb mn A N most gone1 l w1 := by
              obtain ⟨hraw, hkept, hsub, x0, x1, hxl, hxf⟩ := HRW.out
              have hg := hturn1.grown
              have hr2 := (hraw.keep (w' := wd2.drew) (fun _ _ => rfl)).newName hg hown1 (HV.out.del strKey_ne HOKR.out.1) (Nat.le_refl _)
              exact ⟨A4, c4', hr2.congr (fun _ _ => rfl) (fun r' _ => pos_gone (HY2.out.2.1 HB.out) r'), hkept.drew.grown hg (fun k hk => by cases hk; exact .inl (.inr (.inr (.inl rfl)))), hsub⟩
            have HM := Lib.hid hend
            clear hend
            go_roundg l.length
            case measure => have := HE.out; simp at this; omega
            case rel =>
              obtain ⟨A6, c6', hraw6, hkept6, hsub6⟩ := HM.out
              refine ⟨A6, c6', gone1 + 1, l, ⟨hraw6, fun r' hr' => HOK.out r' (List.mem_cons_of_mem _ hr'), by omega, by omega, hfew, ?_⟩, hkept6, hsub6, ?_, rfl⟩
              · have := HSC.out; rw [HSS.out] at this; omega
              · rw [HSH.out]
                exact shrunk_go (by show m < sumc (r :: l); rw [HSS.out]; exact hgo)
          · have e59 : (y2 == gone1 + 1) = false := by simpa using hb
            have HB := Lib.hid hb
            clear hb
            go_wp2
            have hend : ShrEnd w g mb mn A N most gone1 l wd2 := by
              obtain ⟨hraw, hrest⟩ := HRW.out
              exact ⟨A4, c4', hraw.congr (fun _ _ => rfl) (fun r' _ => pos_stays (fun e => HB.out (HY2.out.2.2 e)) r'), hrest.1, hrest.2.1⟩
            have HM := Lib.hid hend
            clear hend
            go_roundg l.length
            case measure => have := HE.out; simp at this; omega
            case rel =>
              obtain ⟨A6, c6', hraw6, hkept6, hsub6⟩ := HM.out
              refine ⟨A6, c6', gone1 + 1, l, ⟨hraw6, fun r' hr' => HOK.out r' (List.mem_cons_of_mem _ hr'), by omega, by omega, hfew, ?_⟩, hkept6, hsub6, ?_, rfl⟩
              · have := HSC.out; rw [HSS.out] at this; omega
              · rw [HSH.out]
                exact shrunk_go (by show m < sumc (r :: l); rw [HSS.out]; exact hgo)
end Go.Proofs.YtpkmciohehaboaaGreatDoor

/- The walks of table.Most, Size, Len, Resize. -/
namespace Go.Proofs.YtpkmciohehaboaaGreatDoor
open Go.RowKit Go.Maps

theorem shrunk_fits {m : Int} (hm : 0 ≤ m) : ∀ (l : List Rw) (g : Int), sumc (shrunk m g l).2 ≤ m := by
  intro l
  induction l with
  | nil => intro g; rw [shrunk_nil]; exact hm
  | cons r l ih =>
    intro g
    by_cases h : m < sumc (r :: l)
    · rw [shrunk_go h]; exact ih _
    · rw [shrunk_stop (show sumc (r :: l) ≤ m by omega)]; show sumc (r :: l) ≤ m; omega
section
variable {w w' : World} {g mb mn c N : Nat} {A : Option Addr} {T : Tb} {F : Nat → Prop}
theorem TM.tbl (h : TM w g mb mn A c N T) : Tbl w g mb mn A c N T.most T.gone T.rows :=
  ⟨h.raw, h.ok, h.gone0, h.many, h.few, by have h1 := h.fits; have h2 := h.most1; show (T.size : Int) ≤ _; omega⟩
theorem TM.of {most gone : Int} {rows : List Rw} (h : Tbl w g mb mn A c N most gone rows) (h0 : 0 ≤ most) (h1 : most ≤ 65536) (hf : sumc rows ≤ most) : TM w g mb mn A c N ⟨most, gone, rows⟩ :=
  ⟨h.1, h.2.1, h0, h1, h.2.2.1, h.2.2.2.1, h.2.2.2.2.1, hf⟩
theorem TM.keep (h : TM w g mb mn A c N T) (hk : ∀ k, foot g mb mn A k → w'.heap[k]? = w.heap[k]?) : TM w' g mb mn A c N T := ⟨h.raw.keep hk, h.ok, h.most0, h.most1, h.gone0, h.many, h.few, h.fits⟩
theorem TabIs.keep (h : TabIs w g F N T) (hk : ∀ k, F k → w'.heap[k]? = w.heap[k]?) : TabIs w' g F N T := by
  obtain ⟨mb, mn, A, c, rfl, ht⟩ := h
  exact ⟨mb, mn, A, c, rfl, ht.keep hk⟩
theorem TabIs.lt (h : TabIs w g F N T) : ∀ k, F k → k < w.heap.size := by
  obtain ⟨mb, mn, A, c, rfl, ht⟩ := h
  exact ht.raw.lt
theorem TabIs.alloc (h : TabIs w g F N T) (o : Obj) : TabIs (w.alloc o) g F N T := h.keep fun k hk => Below.heap_alloc _ _ _ (h.lt k hk)
/-- Another thing's call leaves it. -/
theorem TabIs.kept {G : Nat → Prop} (h : TabIs w g F N T) (hk : Kept G w w') (hd : ∀ k, F k → ¬ G k) : TabIs w' g F N T := h.keep fun k hf => hk.block k (h.lt k hf) (hd k hf)
theorem TabIs.inv (h : TabIs w g F N T) : (∀ r ∈ T.rows, okR r) ∧ 0 ≤ T.most ∧ T.most ≤ 65536 ∧ 0 ≤ T.gone ∧ T.gone + T.rows.length ≤ N ∧ N ≤ 1099511627776 ∧ sumc T.rows ≤ T.most := by
  obtain ⟨mb, mn, A, c, rfl, ht⟩ := h
  exact ⟨ht.ok, ht.most0, ht.most1, ht.gone0, ht.many, ht.few, ht.fits⟩
end
/-- What a call that changes a table hands back. -/
def TStep (W : World) (g : Nat) (F : Nat → Prop) (N : Nat) (T' : Tb) (v : Value) (e : Ending) (w' : World) : Prop :=
  e = .returned v ∧ ∃ F', TabIs w' g F' N T' ∧ Kept F W w' ∧ Grew W F F'

theorem len_any {g N : Nat} {F : Nat → Prop} {T : Tb} (w : World) (h : TabIs w g F N T) : Calls Tryz.prog 225 #[.pointer (some ⟨g, 0, none⟩)] w fun e w' => e = .returned (.int .i64 (T.rows.length : Int)) ∧ w = w' := by
  obtain ⟨mb, mn, A, c, rfl, ht⟩ := h
  obtain ⟨-, -, c0, -⟩ := ht.raw.cells
  clear ht
  go_enter Tryz.func225, Tryz.ntmps225
  go_wp2; go_ret; exact ⟨rfl, rfl⟩
set_option maxHeartbeats 1000000 in
theorem resize_any {g N : Nat} {F : Nat → Prop} {T : Tb} (m : Int) (w : World) (h : TabIs w g F N T) (h0 : 0 ≤ m) (h1 : m ≤ 65536) :
    Calls Tryz.prog 187 #[.pointer (some ⟨g, 0, none⟩), .int .i64 m] w (TStep w g F N (T.resize m) (.int .i64 0)) := by
  obtain ⟨mb, mn, A, c, rfl, ht⟩ := h
  have htb := ht.tbl
  obtain ⟨c0, -⟩ := ht.raw.cells
  have hf := ht.raw.free 0
  have hC := Lib.hid (shrink_any m (w.setCell ⟨g, 0, none⟩ (.int .i64 m)) (most := m) (show Tbl (w.setCell ⟨g, 0, none⟩ (.int .i64 m)) g mb mn A c N m T.gone T.rows from ⟨htb.1.setMost m, htb.2⟩))
  clear ht htb
  go_enter Tryz.func187, Tryz.ntmps187
  go_wp2_with fail
  refine hC.out.mono ?_
  rintro e w' ⟨rfl, A', c', htb, hk, hs⟩
  have H := Lib.hid (And.intro htb (And.intro hk hs))
  clear htb hk hs hC
  go_wp2
  go_ret
  exact ⟨rfl, foot g mb mn A', ⟨mb, mn, A', c', rfl, TM.of H.out.1 h0 h1 (shrunk_fits h0 _ _)⟩, ((Kept.refl _ _).setCell (.inl rfl) _ _).same H.out.2.1, fun k hf => .inl (H.out.2.2.foot hf)⟩
end Go.Proofs.YtpkmciohehaboaaGreatDoor

/- The rows that never change, as plain data. No program in sight. -/
namespace Go.Proofs.YtpkmciohehaboaaGreatDoor

/-- The rows that never change. -/
def statF : List Rw := [
  (⟨#[58, 97, 117, 116, 104, 111, 114, 105, 116, 121]⟩, ⟨#[]⟩),
  (⟨#[58, 109, 101, 116, 104, 111, 100]⟩, ⟨#[71, 69, 84]⟩),
  (⟨#[58, 109, 101, 116, 104, 111, 100]⟩, ⟨#[80, 79, 83, 84]⟩),
  (⟨#[58, 112, 97, 116, 104]⟩, ⟨#[47]⟩),
  (⟨#[58, 112, 97, 116, 104]⟩, ⟨#[47, 105, 110, 100, 101, 120, 46, 104, 116, 109, 108]⟩),
  (⟨#[58, 115, 99, 104, 101, 109, 101]⟩, ⟨#[104, 116, 116, 112]⟩),
  (⟨#[58, 115, 99, 104, 101, 109, 101]⟩, ⟨#[104, 116, 116, 112, 115]⟩),
  (⟨#[58, 115, 116, 97, 116, 117, 115]⟩, ⟨#[50, 48, 48]⟩),
  (⟨#[58, 115, 116, 97, 116, 117, 115]⟩, ⟨#[50, 48, 52]⟩),
  (⟨#[58, 115, 116, 97, 116, 117, 115]⟩, ⟨#[50, 48, 54]⟩),
  (⟨#[58, 115, 116, 97, 116, 117, 115]⟩, ⟨#[51, 48, 52]⟩),
  (⟨#[58, 115, 116, 97, 116, 117, 115]⟩, ⟨#[52, 48, 48]⟩),
  (⟨#[58, 115, 116, 97, 116, 117, 115]⟩, ⟨#[52, 48, 52]⟩),
  (⟨#[58, 115, 116, 97, 116, 117, 115]⟩, ⟨#[53, 48, 48]⟩),
  (⟨#[97, 99, 99, 101, 112, 116, 45, 99, 104, 97, 114, 115, 101, 116]⟩, ⟨#[]⟩),
  (⟨#[97, 99, 99, 101, 112, 116, 45, 101, 110, 99, 111, 100, 105, 110, 103]⟩, ⟨#[103, 122, 105, 112, 44, 32, 100, 101, 102, 108, 97, 116, 101]⟩),
  (⟨#[97, 99, 99, 101, 112, 116, 45, 108, 97, 110, 103, 117, 97, 103, 101]⟩, ⟨#[]⟩),
  (⟨#[97, 99, 99, 101, 112, 116, 45, 114, 97, 110, 103, 101, 115]⟩, ⟨#[]⟩),
  (⟨#[97, 99, 99, 101, 112, 116]⟩, ⟨#[]⟩),
  (⟨#[97, 99, 99, 101, 115, 115, 45, 99, 111, 110, 116, 114, 111, 108, 45, 97, 108, 108, 111, 119, 45, 111, 114, 105, 103, 105, 110]⟩, ⟨#[]⟩),
  (⟨#[97, 103, 101]⟩, ⟨#[]⟩),
  (⟨#[97, 108, 108, 111, 119]⟩, ⟨#[]⟩),
  (⟨#[97, 117, 116, 104, 111, 114, 105, 122, 97, 116, 105, 111, 110]⟩, ⟨#[]⟩),
  (⟨#[99, 97, 99, 104, 101, 45, 99, 111, 110, 116, 114, 111, 108]⟩, ⟨#[]⟩),
  (⟨#[99, 111, 110, 116, 101, 110, 116, 45, 100, 105, 115, 112, 111, 115, 105, 116, 105, 111, 110]⟩, ⟨#[]⟩),
  (⟨#[99, 111, 110, 116, 101, 110, 116, 45, 101, 110, 99, 111, 100, 105, 110, 103]⟩, ⟨#[]⟩),
  (⟨#[99, 111, 110, 116, 101, 110, 116, 45, 108, 97, 110, 103, 117, 97, 103, 101]⟩, ⟨#[]⟩),
  (⟨#[99, 111, 110, 116, 101, 110, 116, 45, 108, 101, 110, 103, 116, 104]⟩, ⟨#[]⟩),
  (⟨#[99, 111, 110, 116, 101, 110, 116, 45, 108, 111, 99, 97, 116, 105, 111, 110]⟩, ⟨#[]⟩),
  (⟨#[99, 111, 110, 116, 101, 110, 116, 45, 114, 97, 110, 103, 101]⟩, ⟨#[]⟩),
  (⟨#[99, 111, 110, 116, 101, 110, 116, 45, 116, 121, 112, 101]⟩, ⟨#[]⟩),
  (⟨#[99, 111, 111, 107, 105, 101]⟩, ⟨#[]⟩),
  (⟨#[100, 97, 116, 101]⟩, ⟨#[]⟩),
  (⟨#[101, 116, 97, 103]⟩, ⟨#[]⟩),
  (⟨#[101, 120, 112, 101, 99, 116]⟩, ⟨#[]⟩),
  (⟨#[101, 120, 112, 105, 114, 101, 115]⟩, ⟨#[]⟩),
  (⟨#[102, 114, 111, 109]⟩, ⟨#[]⟩),
  (⟨#[104, 111, 115, 116]⟩, ⟨#[]⟩),
  (⟨#[105, 102, 45, 109, 97, 116, 99, 104]⟩, ⟨#[]⟩),
  (⟨#[105, 102, 45, 109, 111, 100, 105, 102, 105, 101, 100, 45, 115, 105, 110, 99, 101]⟩, ⟨#[]⟩),
  (⟨#[105, 102, 45, 110, 111, 110, 101, 45, 109, 97, 116, 99, 104]⟩, ⟨#[]⟩),
  (⟨#[105, 102, 45, 114, 97, 110, 103, 101]⟩, ⟨#[]⟩),
  (⟨#[105, 102, 45, 117, 110, 109, 111, 100, 105, 102, 105, 101, 100, 45, 115, 105, 110, 99, 101]⟩, ⟨#[]⟩),
  (⟨#[108, 97, 115, 116, 45, 109, 111, 100, 105, 102, 105, 101, 100]⟩, ⟨#[]⟩),
  (⟨#[108, 105, 110, 107]⟩, ⟨#[]⟩),
  (⟨#[108, 111, 99, 97, 116, 105, 111, 110]⟩, ⟨#[]⟩),
  (⟨#[109, 97, 120, 45, 102, 111, 114, 119, 97, 114, 100, 115]⟩, ⟨#[]⟩),
  (⟨#[112, 114, 111, 120, 121, 45, 97, 117, 116, 104, 101, 110, 116, 105, 99, 97, 116, 101]⟩, ⟨#[]⟩),
  (⟨#[112, 114, 111, 120, 121, 45, 97, 117, 116, 104, 111, 114, 105, 122, 97, 116, 105, 111, 110]⟩, ⟨#[]⟩),
  (⟨#[114, 97, 110, 103, 101]⟩, ⟨#[]⟩),
  (⟨#[114, 101, 102, 101, 114, 101, 114]⟩, ⟨#[]⟩),
  (⟨#[114, 101, 102, 114, 101, 115, 104]⟩, ⟨#[]⟩),
  (⟨#[114, 101, 116, 114, 121, 45, 97, 102, 116, 101, 114]⟩, ⟨#[]⟩),
  (⟨#[115, 101, 114, 118, 101, 114]⟩, ⟨#[]⟩),
  (⟨#[115, 101, 116, 45, 99, 111, 111, 107, 105, 101]⟩, ⟨#[]⟩),
  (⟨#[115, 116, 114, 105, 99, 116, 45, 116, 114, 97, 110, 115, 112, 111, 114, 116, 45, 115, 101, 99, 117, 114, 105, 116, 121]⟩, ⟨#[]⟩),
  (⟨#[116, 114, 97, 110, 115, 102, 101, 114, 45, 101, 110, 99, 111, 100, 105, 110, 103]⟩, ⟨#[]⟩),
  (⟨#[117, 115, 101, 114, 45, 97, 103, 101, 110, 116]⟩, ⟨#[]⟩),
  (⟨#[118, 97, 114, 121]⟩, ⟨#[]⟩),
  (⟨#[118, 105, 97]⟩, ⟨#[]⟩),
  (⟨#[119, 119, 119, 45, 97, 117, 116, 104, 101, 110, 116, 105, 99, 97, 116, 101]⟩, ⟨#[]⟩)]
theorem statF_length : statF.length = 61 := rfl
def emptyB : ByteArray := ⟨#[]⟩
end Go.Proofs.YtpkmciohehaboaaGreatDoor
