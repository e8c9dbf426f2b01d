/- What PutInt writes, in plain Lean: the bytes of a number behind a prefix. No program in sight. -/
import Derived.WalkKit
namespace Go.Proofs.Ytfcgacjonekfaaa
open Go.RowKit

/-- The bytes behind a full prefix. -/
def tailF : Nat → Nat → List UInt8
  | 0, n => [UInt8.ofNat n]
  | k + 1, n => if n < 128 then [UInt8.ofNat n] else UInt8.ofNat (n % 128 + 128) :: tailF k (n / 128)
/-- All bytes of a number: f: the flags, F: the full prefix. -/
def putB (f F n : Nat) : List UInt8 := if n < F then [UInt8.ofNat (f + n)] else UInt8.ofNat (f + F) :: tailF 5 (n - F)

theorem tailF_length (k n : Nat) : (tailF k n).length ≤ k + 1 ∧ 1 ≤ (tailF k n).length := by
  induction k generalizing n with
  | zero => simp [tailF]
  | succ k ih =>
    unfold tailF
    split
    · simp
    · have := ih (n / 128); simp; omega
theorem putB_length (f F n : Nat) : (putB f F n).length ≤ 7 ∧ 1 ≤ (putB f F n).length := by
  unfold putB
  split
  · simp
  · have := tailF_length 5 (n - F); simp; omega
theorem tailF_small (k n : Nat) (h : n < 128) : tailF k n = [UInt8.ofNat n] := by
  cases k with
  | zero => rfl
  | succ k => simp [tailF, h]
theorem tailF_big (k n : Nat) (h : 128 ≤ n) : tailF (k + 1) n = UInt8.ofNat (n % 128 + 128) :: tailF k (n / 128) := by
  rw [tailF, if_neg (by omega)]

/-- Full prefixes. -/
structure Full (bits F : Nat) : Prop where
  lo : 1 ≤ bits
  hi : bits ≤ 8
  eq : F + 1 = 2 ^ bits
theorem Full.cases {bits F : Nat} (h : Full bits F) : (bits = 1 ∧ F = 1) ∨ (bits = 2 ∧ F = 3) ∨ (bits = 3 ∧ F = 7) ∨ (bits = 4 ∧ F = 15) ∨ (bits = 5 ∧ F = 31) ∨ (bits = 6 ∧ F = 63) ∨ (bits = 7 ∧ F = 127) ∨ (bits = 8 ∧ F = 255) := by
  obtain ⟨h1, h2, h3⟩ := h
  have : bits = 1 ∨ bits = 2 ∨ bits = 3 ∨ bits = 4 ∨ bits = 5 ∨ bits = 6 ∨ bits = 7 ∨ bits = 8 := by omega
  rcases this with rfl | rfl | rfl | rfl | rfl | rfl | rfl | rfl <;> omega
theorem Full.mk' (bits : Nat) (h1 : 1 ≤ bits) (h8 : bits ≤ 8) : ∃ F, Full bits F := ⟨2 ^ bits - 1, h1, h8, by have : 0 < 2 ^ bits := Nat.pow_pos (by decide); omega⟩
theorem Full.le {bits F : Nat} (h : Full bits F) : 1 ≤ F ∧ F ≤ 255 := by rcases h.cases with ⟨-, rfl⟩ | ⟨-, rfl⟩ | ⟨-, rfl⟩ | ⟨-, rfl⟩ | ⟨-, rfl⟩ | ⟨-, rfl⟩ | ⟨-, rfl⟩ | ⟨-, rfl⟩ <;> omega
/-- The walk's spelling of 'uint32(1)<<bits'. -/
theorem Full.shl32 {bits F : Nat} (h : Full bits F) : (2 : Int) ^ bits % 4294967296 = (F : Int) + 1 := by
  rcases h.cases with ⟨rfl, rfl⟩ | ⟨rfl, rfl⟩ | ⟨rfl, rfl⟩ | ⟨rfl, rfl⟩ | ⟨rfl, rfl⟩ | ⟨rfl, rfl⟩ | ⟨rfl, rfl⟩ | ⟨rfl, rfl⟩ <;> decide
theorem Full.and32 {bits F f : Nat} (h : Full bits F) (hf : f < 256) : Go.bits .and .u32 (f : Int) (F : Int) = ((f % (F + 1) : Nat) : Int) := by
  have := h.le
  rw [u32_and_nat f F (by omega) (by omega)]
  have e : F = 2 ^ bits - 1 := by have := h.eq; omega
  rw [e, Nat.and_two_pow_sub_one_eq_mod, Nat.sub_add_cancel Nat.one_le_two_pow]
theorem Full.or8 {bits F f n : Nat} (h : Full bits F) (hf : f < 256) (h0 : f % (F + 1) = 0) (hn : n ≤ F) : Go.bits .or .u8 (f : Int) (n : Int) = ((f + n : Nat) : Int) ∧ f + n < 256 := by
  have := h.le
  have e := nat_join bits f n (by rw [← h.eq]; exact h0) (by rw [← h.eq]; omega)
  have hlt : f + n < 256 := by
    rw [← e]
    exact Nat.or_lt_two_pow (n := 8) hf (by omega)
  exact ⟨by rw [u8_or_nat f n hf (by omega), e], hlt⟩
/-- 'byte(n) | 0x80'. -/
theorem or80 (n : Nat) : Go.bits .or .u8 ((n : Int) % 256) 128 = ((n % 128 + 128 : Nat) : Int) := by
  have h1 : (n : Int) % 256 = ((n % 256 : Nat) : Int) := by omega
  rw [h1, show (128 : Int) = ((128 : Nat) : Int) from rfl, u8_or_nat _ _ (by omega) (by omega)]
  have : ∀ m, m < 256 → m ||| 128 = m % 128 + 128 := by decide +kernel
  rw [this _ (by omega)]
  omega
theorem toNat_ofNat {n : Nat} (h : n < 256) : (UInt8.ofNat n).toNat = n := by simp [UInt8.toNat_ofNat']; omega
end Go.Proofs.Ytfcgacjonekfaaa
