/- The bits of a text as a number, and its bytes, in plain Lean. No program in sight. -/
import Derived.Test.YtfcgacjonekfaaaHuffSizePlain
import Derived.Test.YtfcgacjonekfaaaTakePlain
namespace Go.Proofs.Ytfcgacjonekfaaa
open Go.RowKit

def codeAt (c : UInt8) : Nat := codeT.getD c.toNat 0
/-- The bits of a text, as one number. -/
def vbits (l : List UInt8) : Nat := l.foldl (fun v c => v * 2 ^ lenAt c + codeAt c) 0
/-- The m lowest bytes of a number, the highest first. -/
def dig : Nat → Nat → List UInt8
  | 0, _ => []
  | m + 1, x => dig m (x / 256) ++ [UInt8.ofNat (x % 256)]
def encB (l : List UInt8) : List UInt8 :=
  if nbits l % 8 = 0 then dig (nbits l / 8) (vbits l) else dig (nbits l / 8 + 1) (vbits l * 2 ^ (8 - nbits l % 8) + (2 ^ (8 - nbits l % 8) - 1))
theorem dig_length (m x : Nat) : (dig m x).length = m := by
  induction m generalizing x with
  | zero => rfl
  | succ m ih => simp [dig, ih]
theorem encB_length (l : List UInt8) : (encB l).length = nbytes l := by
  unfold encB nbytes
  split
  · rw [dig_length]; omega
  · rw [dig_length]; omega
theorem vbits_take {l : List UInt8} {k : Nat} (h : k < l.length) : vbits (l.take (k + 1)) = vbits (l.take k) * 2 ^ lensN.getD (ba l k) 0 + codeT.getD (ba l k) 0 := by
  rw [List.take_succ_eq_append_getElem h, ba_get h]
  unfold vbits
  rw [List.foldl_append, List.foldl_cons, List.foldl_nil, lenAt, codeAt]
theorem code_fits : ∀ i < 257, codeT.getD i 0 < 2 ^ lensN.getD i 0 := by decide +kernel

/-- The greatest number of 64 bits and one. -/
def M64 : Nat := 18446744073709551616
theorem M64_eq : M64 = 2 ^ 64 := by decide
theorem wrap_u64 (x : Nat) : IntKind.u64.wrap (x : Int) = ((x % M64 : Nat) : Int) := by
  show IntKind.u64.wrap (x : Int) = ((x % 18446744073709551616 : Nat) : Int)
  rw [IntKind.wrap_u64]; omega
theorem mod_M64_lt (x : Nat) : x % M64 < M64 := Nat.mod_lt _ (by decide)
/-- 'have<<n | code'. -/
theorem or_code {v n c : Nat} (hn : n ≤ 30) (hc : c < 2 ^ n) : Go.bits .or .u64 ((v % M64 * 2 ^ n % M64 : Nat) : Int) (c : Int) = (((v * 2 ^ n + c) % M64 : Nat) : Int) := by
  have hp : 2 ^ n ≤ 2 ^ 30 := Nat.pow_le_pow_right (by omega) hn
  have e1 : v % M64 * 2 ^ n % M64 = v * 2 ^ n % M64 := by rw [Nat.mod_mul_mod]
  obtain ⟨d, hd⟩ : ∃ d, 64 = n + d := ⟨64 - n, by omega⟩
  have e2 : v * 2 ^ n % M64 = (v % 2 ^ d) * 2 ^ n := by
    rw [M64_eq, hd, Nat.pow_add, Nat.mul_comm (2 ^ n) (2 ^ d), Nat.mul_mod_mul_right]
  have hz : v * 2 ^ n % M64 % 2 ^ n = 0 := by rw [e2]; exact Nat.mul_mod_left _ _
  have hlt : v * 2 ^ n % M64 + c < M64 := by
    rw [e2]
    have h1 : v % 2 ^ d < 2 ^ d := Nat.mod_lt _ (Nat.pow_pos (by decide))
    have h2 : (v % 2 ^ d + 1) * 2 ^ n ≤ 2 ^ d * 2 ^ n := Nat.mul_le_mul_right _ h1
    rw [Nat.add_mul, Nat.one_mul] at h2
    have h3 : 2 ^ d * 2 ^ n = M64 := by rw [← Nat.pow_add, Nat.add_comm, ← hd, M64_eq]
    omega
  have hM : M64 = 18446744073709551616 := rfl
  rw [e1, u64_or_nat _ _ (by rw [← hM]; exact mod_M64_lt _) (by omega), nat_join n _ _ hz hc]
  congr 1
  rw [Nat.add_mod, Nat.mod_eq_of_lt (show c < M64 by rw [hM]; omega), Nat.mod_eq_of_lt hlt]
/-- A byte out of the middle of what is kept of a number. -/
theorem mid_byte (v b : Nat) (hb : b + 8 ≤ 64) : v % M64 / 2 ^ b % 256 = v / 2 ^ b % 256 := by
  obtain ⟨d, hd⟩ : ∃ d, 64 = b + (8 + d) := ⟨64 - b - 8, by omega⟩
  rw [M64_eq, hd, Nat.pow_add, Nat.mod_mul_right_div_self, Nat.pow_add, show (2 : Nat) ^ 8 = 256 from rfl, Nat.mod_mul_right_mod]
theorem dig_step (m v b : Nat) : dig (m + 1) (v / 2 ^ b) = dig m (v / 2 ^ (b + 8)) ++ [UInt8.ofNat (v / 2 ^ b % 256)] := by
  rw [dig, Nat.div_div_eq_div_mul, Nat.pow_add]
theorem dig_char (m v n c r : Nat) (hc : c < 2 ^ n) : dig m ((v * 2 ^ n + c) / 2 ^ (r + n)) = dig m (v / 2 ^ r) := by
  rw [Nat.add_comm r n, Nat.pow_add, ← Nat.div_div_eq_div_mul, Nat.mul_comm v, Nat.mul_add_div (Nat.pow_pos (by decide)), Nat.div_eq_of_lt hc, Nat.add_zero]
/-- The last byte, filled up with ones. -/
theorem dig_last (m v r : Nat) (hr : 0 < r) (hr8 : r < 8) : dig (m + 1) (v * 2 ^ (8 - r) + (2 ^ (8 - r) - 1)) = dig m (v / 2 ^ r) ++ [UInt8.ofNat (v * 2 ^ (8 - r) % 256 + (2 ^ (8 - r) - 1))] := by
  obtain ⟨p, hp⟩ : ∃ p, p = 8 - r := ⟨_, rfl⟩
  have h256 : 256 = 2 ^ p * 2 ^ r := by rw [← Nat.pow_add, hp, show 8 - r + r = 8 by omega]
  have hpos : 0 < 2 ^ p := Nat.pow_pos (by decide)
  rw [← hp, dig]
  congr 1
  · congr 1
    rw [h256, ← Nat.div_div_eq_div_mul, Nat.mul_comm v, Nat.mul_add_div hpos, Nat.div_eq_of_lt (show 2 ^ p - 1 < 2 ^ p by omega), Nat.add_zero]
  · congr 2
    have h1 : v * 2 ^ p % 256 = v % 2 ^ r * 2 ^ p := by rw [h256, Nat.mul_comm (2 ^ p), Nat.mul_mod_mul_right]
    have h2 : v * 2 ^ p % 256 + (2 ^ p - 1) < 256 := by
      rw [h1]
      have : (v % 2 ^ r + 1) * 2 ^ p ≤ 2 ^ r * 2 ^ p := Nat.mul_le_mul_right _ (Nat.mod_lt _ (Nat.pow_pos (by decide)))
      rw [Nat.add_mul, Nat.one_mul, Nat.mul_comm (2 ^ r), ← h256] at this
      omega
    rw [Nat.add_mod, Nat.mod_eq_of_lt (show 2 ^ p - 1 < 256 by omega), Nat.mod_eq_of_lt h2]
theorem last_or : ∀ r < 8, 0 < r → ∀ x < 2 ^ r, x * 2 ^ (8 - r) ||| (255 / 2 ^ r) = x * 2 ^ (8 - r) + (2 ^ (8 - r) - 1) := by decide +kernel
/-- The row that fills up: T bits of the number V are in it, it has N bytes. -/
def fill (N T V : Nat) : List UInt8 := dig (T / 8) (V / 2 ^ (T % 8)) ++ List.replicate (N - T / 8) 0
theorem fill_length {N T : Nat} (V : Nat) (h : T / 8 ≤ N) : (fill N T V).length = N := by simp [fill, dig_length]; omega
theorem fill_zero (N : Nat) : fill N 0 0 = List.replicate N 0 := by simp [fill, dig]
/-- A bit that ends no byte. -/
theorem fill_bit {N T V b : Nat} (hb : b < 2) (h : T % 8 < 7) : fill N (T + 1) (2 * V + b) = fill N T V ∧ (2 * V + b) % 2 ^ ((T + 1) % 8) = V % 2 ^ (T % 8) * 2 + b := by
  have h1 : (T + 1) % 8 = T % 8 + 1 := by omega
  have h2 : (T + 1) / 8 = T / 8 := by omega
  have h3 : (2 * V + b) / 2 ^ (T % 8 + 1) = V / 2 ^ (T % 8) := by
    rw [Nat.pow_succ, Nat.mul_comm (2 ^ (T % 8)) 2, ← Nat.div_div_eq_div_mul, show (2 * V + b) / 2 = V by omega]
  refine ⟨by rw [fill, fill, h1, h2, h3], ?_⟩
  rw [h1, Nat.pow_succ, Nat.mul_comm (2 ^ (T % 8)) 2, Nat.mod_mul]
  rw [show (2 * V + b) % 2 = b by omega, show (2 * V + b) / 2 = V by omega]
  omega
/-- A bit that ends a byte. -/
theorem fill_byte {N T V b : Nat} (hb : b < 2) (h : T % 8 = 7) (hN : T / 8 < N) :
    fill N (T + 1) (2 * V + b) = (fill N T V).set (T / 8) (UInt8.ofNat (V % 2 ^ (T % 8) * 2 + b)) ∧ (2 * V + b) % 2 ^ ((T + 1) % 8) = 0 ∧ V % 2 ^ (T % 8) * 2 + b < 256 := by
  have h1 : (T + 1) % 8 = 0 := by omega
  have h2 : (T + 1) / 8 = T / 8 + 1 := by omega
  have h3 : (2 * V + b) / 256 = V / 2 ^ 7 := by rw [show (2 : Nat) ^ 7 = 128 from rfl]; omega
  have h4 : (2 * V + b) % 256 = V % 2 ^ 7 * 2 + b := by rw [show (2 : Nat) ^ 7 = 128 from rfl]; omega
  refine ⟨?_, by rw [h1]; exact Nat.mod_one _, by rw [h, show (2 : Nat) ^ 7 = 128 from rfl]; omega⟩
  rw [fill, fill, h1, h2, h, Nat.pow_zero, Nat.div_one, dig, h3, h4, List.set_append_right _ _ (by rw [dig_length]; exact Nat.le_refl _), dig_length, Nat.sub_self]
  obtain ⟨d, hd⟩ : ∃ d, N - T / 8 = d + 1 := ⟨N - T / 8 - 1, by omega⟩
  rw [hd, show N - (T / 8 + 1) = d by omega, List.replicate_succ, List.set_cons_zero, List.append_assoc]
  rfl
/-- One bit more of a code. -/
theorem bit_next (V n c j : Nat) (hj : j < n) : 2 * (V * 2 ^ (n - (j + 1)) + c / 2 ^ (j + 1)) + c / 2 ^ j % 2 = V * 2 ^ (n - j) + c / 2 ^ j := by
  have h1 : n - j = n - (j + 1) + 1 := by omega
  have h2 : c / 2 ^ (j + 1) = c / 2 ^ j / 2 := by rw [Nat.pow_succ, Nat.div_div_eq_div_mul]
  rw [h1, h2, Nat.pow_succ, ← Nat.mul_assoc]
  omega
theorem nbits_take_le (l : List UInt8) (k : Nat) : nbits (l.take k) ≤ nbits l := by
  have := nbits_append (l.take k) (l.drop k)
  rw [List.take_append_drop] at this
  omega
theorem and_one32 (x : Nat) (hx : x < 4294967296) : Go.bits .and .u32 (x : Int) 1 = ((x % 2 : Nat) : Int) := by
  rw [show (1 : Int) = ((1 : Nat) : Int) from rfl, u32_and_nat _ _ (by omega) (by omega), nat_mask1]
/-- Filled up with ones. -/
theorem fill_end (l : List UInt8) (p : Nat) (hp : (nbits l + p) % 8 = 0) (hp8 : p < 8) : fill (nbytes l) (nbits l + p) (vbits l * 2 ^ p + (2 ^ p - 1)) = encB l := by
  unfold encB
  rw [fill, hp, Nat.pow_zero, Nat.div_one]
  have hN : nbytes l - (nbits l + p) / 8 = 0 := by unfold nbytes; omega
  rw [hN, List.replicate_zero, List.append_nil]
  by_cases h0 : nbits l % 8 = 0
  · obtain rfl : p = 0 := by omega
    rw [if_pos h0]; simp
  · rw [if_neg h0, show (nbits l + p) / 8 = nbits l / 8 + 1 by omega, show 8 - nbits l % 8 = p by omega]
theorem last_byte {v r p : Nat} (hr : 0 < r) (hr8 : r < 8) (hp : p = 8 - r) : v % M64 * 2 ^ p % M64 % 256 ||| 255 / 2 ^ r = v * 2 ^ p % 256 + (2 ^ p - 1) ∧ v % M64 * 2 ^ p % M64 % 256 ||| 255 / 2 ^ r < 256 := by
  have e1 : v % M64 * 2 ^ p % M64 % 256 = v * 2 ^ p % 256 := by
    rw [Nat.mod_mul_mod]
    exact Nat.mod_mod_of_dvd _ ⟨72057594037927936, by decide⟩
  have h256 : 256 = 2 ^ p * 2 ^ r := by rw [← Nat.pow_add, hp, show 8 - r + r = 8 by omega]
  have e2 : v * 2 ^ p % 256 = v % 2 ^ r * 2 ^ p := by rw [h256, Nat.mul_comm (2 ^ p), Nat.mul_mod_mul_right]
  have h := last_or r hr8 hr (v % 2 ^ r) (Nat.mod_lt _ (Nat.pow_pos (by decide)))
  rw [← hp] at h
  rw [e1, e2, h]
  refine ⟨rfl, ?_⟩
  have hpos : 0 < 2 ^ p := Nat.pow_pos (by decide)
  have : (v % 2 ^ r + 1) * 2 ^ p ≤ 2 ^ r * 2 ^ p := Nat.mul_le_mul_right _ (Nat.mod_lt _ (Nat.pow_pos (by decide)))
  rw [Nat.add_mul, Nat.one_mul, Nat.mul_comm (2 ^ r), ← h256] at this
  omega
end Go.Proofs.Ytfcgacjonekfaaa
