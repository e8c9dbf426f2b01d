/- What TakeInt reads, in plain Lean. No program in sight. -/
import Derived.Test.YtfcgacjonekfaaaPutPlain
import Derived.Test.YtfcgacjonekfaaaBase
namespace Go.Proofs.Ytfcgacjonekfaaa
open Go.RowKit

/-- Behind a full prefix: at most 'fuel' bytes more; the number, how many bytes, the error. -/
def takeTail : Nat → Nat → Nat → Nat → List UInt8 → Nat × Nat × Nat
  | 0, _, _, _, _ => (0, 0, 11)
  | _ + 1, _, _, _, [] => (0, 0, 12)
  | k + 1, at_, n, times, c :: t =>
    if c.toNat < 128 then (if n + times * (c.toNat % 128) > 2147483647 then (0, 0, 11) else (n + times * (c.toNat % 128), at_ + 1, 0))
    else takeTail k (at_ + 1) (n + times * (c.toNat % 128)) (times * 128) t
def takeI (F : Nat) : List UInt8 → Nat × Nat × Nat
  | [] => (0, 0, 12)
  | c :: t => if c.toNat % (F + 1) < F then (c.toNat % (F + 1), 1, 0) else takeTail 5 1 (c.toNat % (F + 1)) 1 t

/-- The three numbers that a call hands back. -/
def tri (r : Nat × Nat × Nat) : Value := .tuple #[.int .i64 (r.1 : Int), .int .i64 (r.2.1 : Int), .int .i64 (r.2.2 : Int)]

theorem bits64_and (a b : Nat) (ha : a < 256) (hb : b < 256) : Go.bits .and .i64 (a : Int) (b : Int) = ((a &&& b : Nat) : Int) := by
  have hl : a &&& b ≤ a := Nat.and_le_left
  have key : (BitVec.ofInt 64 (a : Int) &&& BitVec.ofInt 64 (b : Int)).toNat = a &&& b := by
    rw [BitVec.toNat_and, BitVec.toNat_ofInt, BitVec.toNat_ofInt]
    congr 1 <;> omega
  show IntKind.i64.wrap ((BitVec.ofInt 64 (a : Int) &&& BitVec.ofInt 64 (b : Int)).toNat : Nat) = _
  rw [key]
  exact IntWalk.i64_in _ ⟨by omega, by omega⟩
theorem u8_and127 (c : UInt8) : Go.bits .and .u8 (c.toNat : Int) 127 = ((c.toNat % 128 : Nat) : Int) := by
  have := c.toNat_lt
  rw [show (127 : Int) = ((127 : Nat) : Int) from rfl, u8_and_nat _ _ (by omega) (by omega), nat_mask7]
theorem Full.and64 {bits F f : Nat} (h : Full bits F) (hf : f < 256) : Go.bits .and .i64 (f : Int) (F : Int) = ((f % (F + 1) : Nat) : Int) := by
  have := h.le
  rw [bits64_and f F (by omega) (by omega)]
  have e : F = 2 ^ bits - 1 := by have := h.eq; omega
  rw [e, Nat.and_two_pow_sub_one_eq_mod, Nat.sub_add_cancel Nat.one_le_two_pow]
theorem Full.shl64 {bits F : Nat} (h : Full bits F) : (2 : Int) ^ bits = (F : Int) + 1 := by
  rcases h.cases with ⟨rfl, rfl⟩ | ⟨rfl, rfl⟩ | ⟨rfl, rfl⟩ | ⟨rfl, rfl⟩ | ⟨rfl, rfl⟩ | ⟨rfl, rfl⟩ | ⟨rfl, rfl⟩ | ⟨rfl, rfl⟩ <;> decide
theorem take_in {F : Nat} {l : List UInt8} {k s m T : Nat} (k1 T1 k2 : Nat) (h : takeI F l = takeTail (5 - k) (k + 1) s T (l.drop (k + 1))) (hk : k < 5) (hk1 : k1 = k + 1) (hT1 : T1 = T * 128) (hk2 : k2 = k + 2) (hl : k1 < l.length) (hm : m = ba l k1 % 128) :
    (ba l k1 < 128 → 2147483647 < s + T * m → takeI F l = (0, 0, 11)) ∧
    (ba l k1 < 128 → s + T * m ≤ 2147483647 → takeI F l = (s + T * m, k2, 0)) ∧
    (128 ≤ ba l k1 → takeI F l = takeTail (5 - k1) (k1 + 1) (s + T * m) T1 (l.drop (k1 + 1))) := by
  subst hm hk1 hT1 hk2
  obtain ⟨c, hd, hc⟩ := drop_ba hl
  rw [hd, show 5 - k = (4 - k) + 1 by omega, takeTail, hc] at h
  rw [h]
  refine ⟨fun h1 h2 => by rw [if_pos h1, if_pos h2], fun h1 h2 => by rw [if_pos h1, if_neg (by omega)], fun h1 => by rw [if_neg (by omega)]; congr 1; omega⟩
theorem take_end {F : Nat} {l : List UInt8} {k s T : Nat} (h : takeI F l = takeTail (5 - k) (k + 1) s T (l.drop (k + 1))) (hk : k < 5) (hl : l.length ≤ k + 1) : takeI F l = (0, 0, 12) := by
  rw [h, List.drop_eq_nil_of_le hl, show 5 - k = (4 - k) + 1 by omega, takeTail]
theorem take_full {F : Nat} {l : List UInt8} {s T : Nat} (h : takeI F l = takeTail (5 - 5) (5 + 1) s T (l.drop (5 + 1))) : takeI F l = (0, 0, 11) := by
  rw [h]; rfl
theorem take_small {F : Nat} {l : List UInt8} {r : Nat} (hl : 0 < l.length) (hr : r = ba l 0 % (F + 1)) (h : r < F) : takeI F l = (r, 1, 0) := by
  subst hr
  cases l with
  | nil => simp at hl
  | cons c t => simp only [takeI]; rw [if_pos (by simpa [ba] using h)]; rfl
theorem take_big {F : Nat} {l : List UInt8} {r : Nat} (hl : 0 < l.length) (hr : r = ba l 0 % (F + 1)) (h : ¬ r < F) : takeI F l = takeTail (5 - 0) (0 + 1) r 1 (l.drop (0 + 1)) := by
  subst hr
  cases l with
  | nil => simp at hl
  | cons c t => simp only [takeI]; rw [if_neg (by simpa [ba] using h)]; rfl
end Go.Proofs.Ytfcgacjonekfaaa
