/- How a text is read back from its bits, in plain Lean. No program in sight. -/
import Derived.Test.YtfcgacjonekfaaaHuffTab
import Derived.Test.YtfcgacjonekfaaaTakePlain
namespace Go.Proofs.Ytfcgacjonekfaaa
open Go.RowKit

/-- Bit i of a row of bytes, the highest of each byte first. -/
def bitAt (l : List UInt8) (i : Nat) : Nat := ba l (i / 8) / 2 ^ (7 - i % 8) % 2
def bitsB (l : List UInt8) : List Nat := (List.range (8 * l.length)).map (bitAt l)
theorem bitsB_length (l : List UInt8) : (bitsB l).length = 8 * l.length := by simp [bitsB]
theorem bitsB_drop {l : List UInt8} {i : Nat} (h : i < 8 * l.length) : (bitsB l).drop i = bitAt l i :: (bitsB l).drop (i + 1) := by
  rw [List.drop_eq_getElem_cons (by rw [bitsB_length]; exact h)]
  simp [bitsB]
theorem bitAt_lt (l : List UInt8) (i : Nat) : bitAt l i < 2 := Nat.mod_lt _ (by decide)

/-- Do n bits make a code? -/
def hitB (c n : Nat) : Bool := decide (firstT.getD n 0 ≤ c) && decide (c - firstT.getD n 0 < manyT.getD n 0)
def symAt (c n : Nat) : Nat := symT.getD (fromT.getD n 0 + (c - firstT.getD n 0)) 0
/-- Reading on: the bits since the last symbol, how many, whether all are ones; the text so far; the bits to come. -/
def decGo (c n : Nat) (ones : Bool) (out : List UInt8) : List Nat → Option (List UInt8)
  | [] => if 7 < n ∨ ones = false then none else some out
  | b :: t =>
    if hitB (2 * c + b) (n + 1) then
      if symAt (2 * c + b) (n + 1) = 256 then none else decGo 0 0 true (out ++ [UInt8.ofNat (symAt (2 * c + b) (n + 1))]) t
    else decGo (2 * c + b) (n + 1) (ones && (b == 1)) out t
def decB (l : List UInt8) : Option (List UInt8) := decGo 0 0 true [] (bitsB l)

/-- No code yet. -/
structure Mid (c n : Nat) : Prop where
  le : n ≤ 29
  lo : firstT.getD n 0 + manyT.getD n 0 ≤ c
  hi : c < 2 ^ n
theorem first_next : ∀ n < 30, firstT.getD (n + 1) 0 = 2 * (firstT.getD n 0 + manyT.getD n 0) := by decide +kernel
theorem first_last : firstT.getD 30 0 + manyT.getD 30 0 = 2 ^ 30 := by decide +kernel
theorem from_room : ∀ n < 31, fromT.getD n 0 + manyT.getD n 0 ≤ 257 := by decide +kernel
theorem Mid.zero : Mid 0 0 := ⟨by omega, by decide +kernel, by decide⟩
theorem Mid.ge {c n b : Nat} (h : Mid c n) : firstT.getD (n + 1) 0 ≤ 2 * c + b := by
  have := first_next n (by have := h.le; omega)
  have := h.lo
  omega
theorem Mid.lt {c n b : Nat} (h : Mid c n) (hb : b < 2) : 2 * c + b < 2 ^ (n + 1) := by
  have := h.hi
  rw [Nat.pow_succ]; omega
theorem Mid.hit {c n b : Nat} (h : Mid c n) : hitB (2 * c + b) (n + 1) = decide (2 * c + b - firstT.getD (n + 1) 0 < manyT.getD (n + 1) 0) := by
  unfold hitB
  rw [decide_eq_true (h.ge (b := b)), Bool.true_and]
theorem Mid.next {c n b : Nat} (h : Mid c n) (hb : b < 2) (hm : manyT.getD (n + 1) 0 ≤ 2 * c + b - firstT.getD (n + 1) 0) : Mid (2 * c + b) (n + 1) := by
  have hge := h.ge (b := b)
  have hlt := h.lt hb
  refine ⟨?_, by omega, hlt⟩
  rcases Nat.lt_or_ge n 29 with h29 | h29
  · omega
  · have : n = 29 := by have := h.le; omega
    subst this
    have : firstT.getD (29 + 1) 0 + manyT.getD (29 + 1) 0 = 2 ^ (29 + 1) := first_last
    omega
theorem Mid.pow30 {c n : Nat} (h : Mid c n) : c < 536870912 := Nat.lt_of_lt_of_le h.hi (Nat.pow_le_pow_right (by omega) h.le : 2 ^ n ≤ 2 ^ 29)
theorem Mid.room {c n b : Nat} (h : Mid c n) (hm : 2 * c + b - firstT.getD (n + 1) 0 < manyT.getD (n + 1) 0) : fromT.getD (n + 1) 0 + (2 * c + b - firstT.getD (n + 1) 0) < 257 := by
  have := from_room (n + 1) (by have := h.le; omega)
  omega
theorem sym_le : ∀ i, symT.getD i 0 ≤ 256 := by
  intro i
  rcases Nat.lt_or_ge i 257 with h | h
  · have : ∀ i < 257, symT.getD i 0 ≤ 256 := by decide +kernel
    exact this i h
  · rw [List.getD, List.getElem?_eq_none (by rw [tab_lengths.2.2.2.2.2]; exact h)]; decide
/-- 'code<<1 | bit'. -/
theorem or_bit {c b : Nat} (hc : c < 536870912) (hb : b < 2) : Go.bits .or .u32 ((c : Int) * 2) (b : Int) = ((2 * c + b : Nat) : Int) := by
  rw [show ((c : Int) * 2) = ((2 * c : Nat) : Int) by omega, u32_or_nat _ _ (by omega) (by omega), nat_join 1 (2 * c) b (by omega) (by omega)]
/-- The walk's spelling of a bit of a byte. -/
theorem and_one (x : Nat) (hx : x < 256) : Go.bits .and .u32 (x : Int) 1 = ((x % 2 : Nat) : Int) := by
  rw [show (1 : Int) = ((1 : Nat) : Int) from rfl, u32_and_nat _ _ (by omega) (by omega), nat_mask1]
end Go.Proofs.Ytfcgacjonekfaaa
