/- What PutText writes and TakeText reads, and that each reads the other's, in plain Lean. No program in sight. -/
import Derived.Test.YtfcgacjonekfaaaTakePlain
import Derived.Test.YtfcgacjonekfaaaHuffBackPlain
namespace Go.Proofs.Ytfcgacjonekfaaa
open Go.RowKit

/-- A text with its length. -/
def textB (l : List UInt8) : List UInt8 := if nbytes l < l.length then putB 128 127 (nbytes l) ++ encB l else putB 0 127 l.length ++ l
theorem textB_bits {l : List UInt8} (h : nbytes l < l.length) : textB l = putB 128 127 (nbytes l) ++ encB l := if_pos h
theorem textB_raw {l : List UInt8} (h : l.length ≤ nbytes l) : textB l = putB 0 127 l.length ++ l := if_neg (by omega)

/-- The piece that a text's length speaks of. -/
def pieceT (l : List UInt8) : List UInt8 := (l.drop (takeI 127 l).2.1).take (takeI 127 l).1
/-- The text at the beginning, how many bytes it takes, the error. -/
def takeT (l : List UInt8) : List UInt8 × Nat × Nat :=
  if (takeI 127 l).2.2 ≠ 0 then ([], 0, (takeI 127 l).2.2)
  else if 4096 < (takeI 127 l).1 then ([], 0, 2)
  else if l.length < (takeI 127 l).2.1 + (takeI 127 l).1 then ([], 0, 12)
  else if ba l 0 < 128 then (pieceT l, (takeI 127 l).2.1 + (takeI 127 l).1, 0)
  else match decB (pieceT l) with
    | none => ([], 0, 10)
    | some t => if 4096 < t.length then ([], 0, 2) else (t, (takeI 127 l).2.1 + (takeI 127 l).1, 0)
def triT (r : List UInt8 × Nat × Nat) : Value := .tuple #[.string ⟨r.1.toArray⟩, .int .i64 (r.2.1 : Int), .int .i64 (r.2.2 : Int)]

theorem takeTail_bd : ∀ (k a n t : Nat) (l : List UInt8), (takeTail k a n t l).2.2 = 0 → (takeTail k a n t l).1 ≤ 2147483647 ∧ a < (takeTail k a n t l).2.1 ∧ (takeTail k a n t l).2.1 ≤ a + l.length ∧ (takeTail k a n t l).2.1 ≤ a + k
  | 0, a, n, t, l, h => by simp [takeTail] at h
  | k + 1, a, n, t, [], h => by simp [takeTail] at h
  | k + 1, a, n, t, c :: l, h => by
    by_cases h1 : c.toNat < 128
    · by_cases h2 : 2147483647 < n + t * (c.toNat % 128)
      · rw [takeTail, if_pos h1, if_pos h2] at h; simp at h
      · rw [takeTail, if_pos h1, if_neg h2]; simp; omega
    · rw [takeTail, if_neg h1] at h ⊢
      have := takeTail_bd k _ _ _ l h
      simp; omega
theorem takeI_bd {F : Nat} (hF : F ≤ 255) (l : List UInt8) (h : (takeI F l).2.2 = 0) : (takeI F l).1 ≤ 2147483647 ∧ 1 ≤ (takeI F l).2.1 ∧ (takeI F l).2.1 ≤ l.length ∧ (takeI F l).2.1 ≤ 6 := by
  cases l with
  | nil => simp [takeI] at h
  | cons c t =>
    by_cases h1 : c.toNat % (F + 1) < F
    · simp only [takeI]; rw [if_pos h1]; simp; omega
    · simp only [takeI] at h ⊢; rw [if_neg h1] at h ⊢
      have := takeTail_bd _ _ _ _ _ h
      simp; omega
theorem takeTail_err : ∀ (k a n t : Nat) (l : List UInt8), (takeTail k a n t l).2.2 ≤ 12
  | 0, a, n, t, l => by simp [takeTail]
  | k + 1, a, n, t, [] => by simp [takeTail]
  | k + 1, a, n, t, c :: l => by
    rw [takeTail]
    split
    · split <;> simp
    · exact takeTail_err k _ _ _ l
theorem takeI_err (F : Nat) (l : List UInt8) : (takeI F l).2.2 ≤ 12 := by
  cases l with
  | nil => simp [takeI]
  | cons c t =>
    simp only [takeI]
    split
    · simp
    · exact takeTail_err _ _ _ _ _

theorem take_put : ∀ (k k' a s T x : Nat) (rest : List UInt8), 1 ≤ k → k ≤ k' + 1 → x < 128 ^ k → s + T * x ≤ 2147483647 → takeTail k a s T (tailF k' x ++ rest) = (s + T * x, a + (tailF k' x).length, 0) := by
  intro k
  induction k with
  | zero => intro k' a s T x rest h; omega
  | succ k ih =>
    intro k' a s T x rest _ hk hx hs
    by_cases h1 : x < 128
    · rw [tailF_small _ _ h1]
      simp only [List.cons_append, List.nil_append, takeTail, toNat_ofNat (show x < 256 by omega)]
      rw [if_pos h1, Nat.mod_eq_of_lt h1, if_neg (by omega)]
      rfl
    · obtain ⟨q, rfl⟩ : ∃ q, k' = q + 1 := ⟨k' - 1, by
        cases k with
        | zero => simp at hx; omega
        | succ k => omega⟩
      have hk1 : 1 ≤ k := by
        cases k with
        | zero => simp at hx; omega
        | succ k => omega
      rw [tailF_big _ _ (by omega)]
      simp only [List.cons_append, takeTail, toNat_ofNat (show x % 128 + 128 < 256 by omega)]
      rw [if_neg (by omega), show (x % 128 + 128) % 128 = x % 128 by omega]
      have e : s + T * (x % 128) + T * 128 * (x / 128) = s + T * x := by
        rw [Nat.mul_assoc, Nat.add_assoc, ← Nat.mul_add, Nat.mod_add_div]
      rw [ih q (a + 1) _ _ (x / 128) rest hk1 (by omega) (Nat.div_lt_of_lt_mul (by rw [Nat.pow_succ, Nat.mul_comm] at hx; exact hx)) (by rw [e]; exact hs), e]
      simp [Nat.add_assoc, Nat.add_comm]
theorem take_cut : ∀ (k k' a s T x : Nat), 1 ≤ k → k ≤ k' + 1 → x < 128 ^ k → takeTail k a s T ((tailF k' x).take ((tailF k' x).length - 1)) = (0, 0, 12) := by
  intro k
  induction k with
  | zero => intro k' a s T x h; omega
  | succ k ih =>
    intro k' a s T x _ hk hx
    by_cases h1 : x < 128
    · rw [tailF_small _ _ h1]
      simp [takeTail]
    · obtain ⟨q, rfl⟩ : ∃ q, k' = q + 1 := ⟨k' - 1, by
        cases k with
        | zero => simp at hx; omega
        | succ k => omega⟩
      have hk1 : 1 ≤ k := by
        cases k with
        | zero => simp at hx; omega
        | succ k => omega
      rw [tailF_big _ _ (by omega)]
      have hl := (tailF_length q (x / 128)).2
      obtain ⟨m, hm⟩ : ∃ m, (tailF q (x / 128)).length = m + 1 := ⟨_, (Nat.sub_add_cancel hl).symm⟩
      have hi := ih q (a + 1) (s + T * (x % 128)) (T * 128) (x / 128) hk1 (by omega) (Nat.div_lt_of_lt_mul (by rw [Nat.pow_succ, Nat.mul_comm] at hx; exact hx))
      rw [hm] at hi
      simp only [List.length_cons, hm, Nat.add_sub_cancel, List.take_succ_cons, takeTail, toNat_ofNat (show x % 128 + 128 < 256 by omega)]
      rw [if_neg (by omega), show (x % 128 + 128) % 128 = x % 128 by omega]
      simpa using hi

section
variable {f F n : Nat} (hF : 1 ≤ F ∧ F ≤ 255) (hf : f % (F + 1) = 0) (hfF : f + F < 256) (hn : n ≤ 2147483647)
include hF hf hfF hn
theorem takeI_putB (rest : List UInt8) : takeI F (putB f F n ++ rest) = (n, (putB f F n).length, 0) := by
  unfold putB
  by_cases h : n < F
  · rw [if_pos h]
    simp only [List.cons_append, List.nil_append, takeI, toNat_ofNat (show f + n < 256 by omega)]
    have e : (f + n) % (F + 1) = n := by rw [Nat.add_mod, hf, Nat.zero_add, Nat.mod_mod, Nat.mod_eq_of_lt (by omega)]
    rw [e, if_pos h]; rfl
  · rw [if_neg h]
    simp only [List.cons_append, takeI, toNat_ofNat (show f + F < 256 by omega)]
    have e : (f + F) % (F + 1) = F := by rw [Nat.add_mod, hf, Nat.zero_add, Nat.mod_mod, Nat.mod_eq_of_lt (by omega)]
    rw [e, if_neg (by omega), take_put 5 5 1 F 1 (n - F) rest (by omega) (by omega) (by simp; omega) (by omega)]
    simp only [List.length_cons]
    congr 1
    · omega
    · congr 1; omega
theorem takeI_cut : takeI F ((putB f F n).take ((putB f F n).length - 1)) = (0, 0, 12) := by
  unfold putB
  by_cases h : n < F
  · rw [if_pos h]
    simp [takeI]
  · rw [if_neg h]
    have e : (f + F) % (F + 1) = F := by rw [Nat.add_mod, hf, Nat.zero_add, Nat.mod_mod, Nat.mod_eq_of_lt (by omega)]
    have hl := (tailF_length 5 (n - F)).2
    obtain ⟨m, hm⟩ : ∃ m, (tailF 5 (n - F)).length = m + 1 := ⟨_, (Nat.sub_add_cancel hl).symm⟩
    have hi := take_cut 5 5 1 F 1 (n - F) (by omega) (by omega) (by simp; omega)
    rw [hm] at hi
    simp only [List.length_cons, hm, Nat.add_sub_cancel, List.take_succ_cons, takeI, toNat_ofNat (show f + F < 256 by omega)]
    rw [e, if_neg (by omega)]
    simpa using hi
end
section
variable {l : List UInt8} {m a z : Nat} (h : takeI 127 l = (m, a, z))
include h
theorem takeT_err (hz : z ≠ 0) : takeT l = ([], 0, z) := by unfold takeT; rw [h]; exact if_pos hz
theorem takeT_long (hz : z = 0) (hm : 4096 < m) : takeT l = ([], 0, 2) := by unfold takeT; rw [h]; simp [hz, hm]
theorem takeT_short (hz : z = 0) (hm : m ≤ 4096) (hl : l.length < a + m) : takeT l = ([], 0, 12) := by
  unfold takeT; rw [h]; simp only [hz]; rw [if_neg (by omega), if_neg (by omega), if_pos hl]
theorem takeT_raw (hz : z = 0) (hm : m ≤ 4096) (hl : a + m ≤ l.length) (hb : ba l 0 < 128) : takeT l = ((l.drop a).take m, a + m, 0) := by
  unfold takeT pieceT; rw [h]; simp only [hz]; rw [if_neg (by omega), if_neg (by omega), if_neg (by omega), if_pos hb]
theorem takeT_bits (hz : z = 0) (hm : m ≤ 4096) (hl : a + m ≤ l.length) (hb : 128 ≤ ba l 0) : takeT l = match decB ((l.drop a).take m) with
    | none => ([], 0, 10)
    | some t => if 4096 < t.length then ([], 0, 2) else (t, a + m, 0) := by
  unfold takeT pieceT; rw [h]; simp only [hz]; rw [if_neg (by omega), if_neg (by omega), if_neg (by omega), if_neg (by omega)]
end
end Go.Proofs.Ytfcgacjonekfaaa
