/- A number with bytes more than it needs, in plain Lean. No program in sight. -/
import Derived.Test.YtfcgacjonekfaaaTakePlain
namespace Go.Proofs.Ytfcgacjonekfaaa
open Go.RowKit

/-- The bytes behind a full head, each of them told to go on. -/
def contF : Nat → Nat → List UInt8
  | 0, n => [UInt8.ofNat (n + 128)]
  | k + 1, n => if n < 128 then [UInt8.ofNat (n + 128)] else UInt8.ofNat (n % 128 + 128) :: contF k (n / 128)
/-- What bytes that go on say. -/
def val : List UInt8 → Nat
  | [] => 0
  | c :: t => c.toNat % 128 + 128 * val t
theorem contF_length (k n : Nat) : (contF k n).length = (tailF k n).length := by
  induction k generalizing n with
  | zero => rfl
  | succ k ih => unfold contF tailF; split <;> simp [ih]
theorem val_contF (k n : Nat) (h : n < 128 ^ (k + 1)) : val (contF k n) = n := by
  induction k generalizing n with
  | zero => simp at h; simp only [contF, val, toNat_ofNat (show n + 128 < 256 by omega)]; omega
  | succ k ih =>
    unfold contF
    split
    · simp only [val, toNat_ofNat (show n + 128 < 256 by omega)]; omega
    · rw [val, ih (n / 128) (Nat.div_lt_of_lt_mul (by rw [Nat.pow_succ, Nat.mul_comm] at h; exact h)), toNat_ofNat (by omega)]
      omega
theorem contF_on (k n : Nat) (h : n < 128 ^ (k + 1)) : ∀ c ∈ contF k n, 128 ≤ c.toNat := by
  induction k generalizing n with
  | zero => simp at h; intro c hc; simp [contF] at hc; subst hc; rw [UInt8.toNat_add]; simp; omega
  | succ k ih =>
    unfold contF
    intro c hc
    split at hc
    · simp only [List.mem_singleton] at hc; subst hc; rw [toNat_ofNat (by omega)]; omega
    · rcases List.mem_cons.1 hc with rfl | hc
      · rw [toNat_ofNat (by omega)]; omega
      · exact ih _ (Nat.div_lt_of_lt_mul (by rw [Nat.pow_succ, Nat.mul_comm] at h; exact h)) c hc
theorem tailF_last (k n : Nat) (h : n < 128 ^ (k + 1)) : ∃ t c, tailF k n = t ++ [c] ∧ c.toNat < 128 ∧ contF k n = t ++ [UInt8.ofNat (c.toNat + 128)] := by
  induction k generalizing n with
  | zero => simp at h; exact ⟨[], UInt8.ofNat n, rfl, by rw [toNat_ofNat (by omega)]; exact h, by rw [toNat_ofNat (by omega)]; rfl⟩
  | succ k ih =>
    unfold tailF contF
    by_cases hs : n < 128
    · exact ⟨[], UInt8.ofNat n, by rw [if_pos hs]; rfl, by rw [toNat_ofNat (by omega)]; exact hs, by rw [if_pos hs, toNat_ofNat (by omega)]; rfl⟩
    · obtain ⟨t, c, h1, h2, h3⟩ := ih (n / 128) (Nat.div_lt_of_lt_mul (by rw [Nat.pow_succ, Nat.mul_comm] at h; exact h))
      exact ⟨UInt8.ofNat (n % 128 + 128) :: t, c, by rw [if_neg hs, h1]; rfl, h2, by rw [if_neg hs, h3]; rfl⟩
theorem val_append (l : List UInt8) (j : Nat) : val (l ++ List.replicate j 128) = val l := by
  induction l with
  | nil =>
    induction j with
    | zero => rfl
    | succ j ih => rw [List.nil_append] at ih ⊢; rw [List.replicate_succ]; show (128 : UInt8).toNat % 128 + 128 * val (List.replicate j 128) = 0; rw [ih]; rfl
  | cons c t ih => rw [List.cons_append, val, val, ih]
theorem take_on (l : List UInt8) : ∀ (fuel a s T : Nat), (∀ c ∈ l, 128 ≤ c.toNat) → s + T * val l ≤ 2147483647 →
    takeTail fuel a s T (l ++ [0]) = if fuel < l.length + 1 then (0, 0, 11) else (s + T * val l, a + l.length + 1, 0) := by
  induction l with
  | nil =>
    intro fuel a s T _ hs
    cases fuel with
    | zero => simp [takeTail]
    | succ f => simp [takeTail, val]; simp [val] at hs; omega
  | cons c t ih =>
    intro fuel a s T hc hs
    cases fuel with
    | zero => simp [takeTail]
    | succ f =>
      have h128 := hc c (by simp)
      have e : s + T * (c.toNat % 128) + T * 128 * val t = s + T * val (c :: t) := by rw [val, Nat.mul_add, Nat.mul_assoc, Nat.add_assoc]
      rw [List.cons_append, takeTail, if_neg (by omega), ih f (a + 1) _ (T * 128) (fun x hx => hc x (by simp [hx])) (by rw [e]; exact hs), e, List.length_cons]
      by_cases hf : f < t.length + 1
      · rw [if_pos hf, if_pos (by omega)]
      · rw [if_neg hf, if_neg (by omega), show a + 1 + t.length + 1 = a + (t.length + 1) + 1 by omega]
/-- What a number says whose bytes go on for longer than they need. -/
theorem take_long {bits F n j : Nat} (hF : Full bits F) (hn : n ≤ 2147483647) (hbig : F ≤ n) :
    takeI F (UInt8.ofNat (0 + F) :: (contF 5 (n - F) ++ List.replicate j 128 ++ [0])) =
      if 6 < (contF 5 (n - F)).length + j + 2 then (0, 0, 11) else (n, (contF 5 (n - F)).length + j + 2, 0) := by
  have hle := hF.le
  have hv := val_contF 5 (n - F) (by omega)
  have hm : F % (F + 1) = F := Nat.mod_eq_of_lt (by omega)
  rw [takeI, Nat.zero_add, toNat_ofNat (by omega), hm, if_neg (by omega)]
  rw [take_on _ 5 1 F 1 (fun c hc => ?_) (by rw [val_append, hv]; omega), val_append, hv]
  · rw [List.length_append, List.length_replicate]
    by_cases h : 6 < (contF 5 (n - F)).length + j + 2
    · rw [if_pos h, if_pos (by omega)]
    · rw [if_neg h, if_neg (by omega)]
      congr 1
      · omega
      · congr 1; omega
  · rcases List.mem_append.1 hc with h | h
    · exact contF_on 5 _ (by omega) c h
    · rw [(List.mem_replicate.1 h).2]; decide
/-- The last byte of what PutInt writes, and the same told to go on. -/
theorem put_long {F n : Nat} (hn : n ≤ 2147483647) (hbig : F ≤ n) :
    ∃ L, (putB 0 F n).length = L + 1 ∧ 1 ≤ L ∧ L = (contF 5 (n - F)).length ∧ ba (putB 0 F n) L < 128 ∧
      (putB 0 F n).set L (UInt8.ofNat (ba (putB 0 F n) L + 128)) = UInt8.ofNat (0 + F) :: contF 5 (n - F) := by
  obtain ⟨t, c, h1, h2, h3⟩ := tailF_last 5 (n - F) (by omega)
  have hp : putB 0 F n = UInt8.ofNat (0 + F) :: (t ++ [c]) := by unfold putB; rw [if_neg (by omega), h1]
  have hb : ba (UInt8.ofNat (0 + F) :: (t ++ [c])) (t.length + 1) = c.toNat := by simp [ba]
  refine ⟨t.length + 1, by rw [hp]; simp, by omega, by rw [h3]; simp, by rw [hp, hb]; exact h2, ?_⟩
  rw [hp, hb, h3]
  simp
end Go.Proofs.Ytfcgacjonekfaaa
