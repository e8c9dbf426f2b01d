/- How many bits and bytes a text needs, in plain Lean. No program in sight. -/
import Derived.Test.YtfcgacjonekfaaaHuffOpenPlain
namespace Go.Proofs.Ytfcgacjonekfaaa
open Go.RowKit

def lenAt (c : UInt8) : Nat := lensN.getD c.toNat 0
/-- The bits of a text. -/
def nbits (l : List UInt8) : Nat := (l.map lenAt).sum
def nbytes (l : List UInt8) : Nat := (nbits l + 7) / 8
theorem nbits_append (l k : List UInt8) : nbits (l ++ k) = nbits l + nbits k := by simp [nbits]
theorem nbits_take {l : List UInt8} {k : Nat} (h : k < l.length) : nbits (l.take (k + 1)) = nbits (l.take k) + lensN.getD (ba l k) 0 := by
  rw [List.take_succ_eq_append_getElem h, nbits_append, ba_get h]
  simp [nbits, lenAt]
theorem nbits_le (l : List UInt8) : 5 * l.length ≤ nbits l ∧ nbits l ≤ 30 * l.length := by
  induction l with
  | nil => simp [nbits]
  | cons c t ih =>
    have h1 : lenAt c ≤ 30 := lens_le _
    have h2 : 5 ≤ lenAt c := lens_ge _ (by have := c.toNat_lt; omega)
    simp only [nbits, List.map_cons, List.sum_cons, List.length_cons] at ih ⊢
    omega
theorem nbits_28 (l : List UInt8) : nbits l ≤ 30 * l.length := (nbits_le l).2
/-- A byte of a string, as the walk finds it. -/
theorem get_ba (s : ByteArray) : ∀ (n : Nat) (h : n < s.size), ((s[n]'h).toNat : Int) = (ba s.data.toList n : Int) := by
  intro n h
  have hl : n < s.data.toList.length := by rw [Array.length_toList]; exact h
  rw [ba_get hl]
  rfl
theorem str_len (s : ByteArray) : s.data.toList.length = s.size := by rw [Array.length_toList]; rfl
end Go.Proofs.Ytfcgacjonekfaaa
