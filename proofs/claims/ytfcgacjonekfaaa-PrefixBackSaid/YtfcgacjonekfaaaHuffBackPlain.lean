/- What is encoded is decoded as it was, and the other way round, in plain Lean. No program in sight. -/
import Derived.Test.YtfcgacjonekfaaaHuffEncPlain
import Derived.Test.YtfcgacjonekfaaaHuffDecPlain
namespace Go.Proofs.Ytfcgacjonekfaaa
open Go.RowKit

/-- The n lowest bits of a number, the highest first. -/
def nb : Nat → Nat → List Nat
  | 0, _ => []
  | n + 1, v => nb n (v / 2) ++ [v % 2]
theorem nb_length (n v : Nat) : (nb n v).length = n := by
  induction n generalizing v with
  | zero => rfl
  | succ n ih => simp [nb, ih]
theorem nb_lt (n v : Nat) : ∀ b ∈ nb n v, b < 2 := by
  induction n generalizing v with
  | zero => simp [nb]
  | succ n ih =>
    intro b hb
    rw [nb, List.mem_append, List.mem_singleton] at hb
    rcases hb with h | h
    · exact ih _ b h
    · omega
theorem nb_join (m v n c : Nat) (hc : c < 2 ^ n) : nb (m + n) (v * 2 ^ n + c) = nb m v ++ nb n c := by
  induction n generalizing c with
  | zero => simp at hc; subst hc; simp [nb]
  | succ n ih =>
    have h1 : (v * 2 ^ (n + 1) + c) / 2 = v * 2 ^ n + c / 2 := by rw [Nat.pow_succ, ← Nat.mul_assoc]; omega
    have h2 : (v * 2 ^ (n + 1) + c) % 2 = c % 2 := by rw [Nat.pow_succ, ← Nat.mul_assoc]; omega
    rw [← Nat.add_assoc, nb, h1, h2, ih (c / 2) (by rw [Nat.pow_succ] at hc; omega), nb, List.append_assoc]
theorem nb_snoc (n c b : Nat) (hb : b < 2) : nb (n + 1) (2 * c + b) = nb n c ++ [b] := by
  rw [nb, show (2 * c + b) / 2 = c by omega, show (2 * c + b) % 2 = b by omega]
theorem nb_ones (n : Nat) : nb n (2 ^ n - 1) = List.replicate n 1 := by
  induction n with
  | zero => rfl
  | succ n ih =>
    have hp : 0 < 2 ^ n := Nat.pow_pos (by decide)
    rw [nb, Nat.pow_succ, show (2 ^ n * 2 - 1) / 2 = 2 ^ n - 1 by omega, show (2 ^ n * 2 - 1) % 2 = 1 by omega, ih, List.replicate_succ']
theorem nb_inj (n : Nat) : ∀ v w, v < 2 ^ n → w < 2 ^ n → nb n v = nb n w → v = w := by
  induction n with
  | zero => intro v w hv hw _; simp at hv hw; omega
  | succ n ih =>
    intro v w hv hw h
    rw [nb, nb] at h
    have h1 := List.append_inj' h rfl
    have h2 := ih (v / 2) (w / 2) (by rw [Nat.pow_succ] at hv; omega) (by rw [Nat.pow_succ] at hw; omega) h1.1
    have h3 : v % 2 = w % 2 := by simpa using h1.2
    omega
theorem byte_bits : ∀ c < 256, nb 8 c = (List.range 8).map fun i => c / 2 ^ (7 - i) % 2 := by decide +kernel
theorem bitsB_append (l k : List UInt8) : bitsB (l ++ k) = bitsB l ++ bitsB k := by
  unfold bitsB
  rw [List.length_append, Nat.mul_add, List.range_add, List.map_append, List.map_map]
  congr 1
  · apply List.map_congr_left
    intro i hi
    rw [List.mem_range] at hi
    unfold bitAt ba
    rw [List.getD, List.getD, List.getElem?_append_left (by omega)]
  · apply List.map_congr_left
    intro i hi
    show bitAt (l ++ k) (8 * l.length + i) = bitAt k i
    unfold bitAt ba
    rw [show (8 * l.length + i) / 8 = l.length + i / 8 by omega, show (8 * l.length + i) % 8 = i % 8 by omega, List.getD, List.getD, List.getElem?_append_right (by omega), Nat.add_sub_cancel_left]
theorem bitsB_one (c : UInt8) : bitsB [c] = nb 8 c.toNat := by
  rw [byte_bits _ c.toNat_lt]
  unfold bitsB
  apply List.map_congr_left
  intro i hi
  rw [List.mem_range] at hi
  simp at hi
  unfold bitAt ba
  rw [show i / 8 = 0 by omega, show i % 8 = i by omega]
  rfl
theorem bitsB_cons (c : UInt8) (l : List UInt8) : bitsB (c :: l) = nb 8 c.toNat ++ bitsB l := by
  rw [show c :: l = [c] ++ l from rfl, bitsB_append, bitsB_one]
theorem bitsB_inj : ∀ l k : List UInt8, bitsB l = bitsB k → l = k
  | [], k, h => by
    have := congrArg List.length h
    rw [bitsB_length, bitsB_length] at this
    simp at this
    exact (List.eq_nil_of_length_eq_zero (show k.length = 0 by omega)).symm
  | c :: l, [], h => by
    have := congrArg List.length h
    rw [bitsB_length, bitsB_length] at this
    simp at this
  | c :: l, d :: k, h => by
    rw [bitsB_cons, bitsB_cons] at h
    have h1 := List.append_inj h (by rw [nb_length, nb_length])
    have h2 := nb_inj 8 _ _ c.toNat_lt d.toNat_lt h1.1
    rw [UInt8.toNat_inj.1 h2, bitsB_inj l k h1.2]
theorem bitsB_dig (m x : Nat) : bitsB (dig m x) = nb (8 * m) x := by
  induction m generalizing x with
  | zero => rfl
  | succ m ih =>
    have h : x = (x / 256) * 2 ^ 8 + x % 256 := by rw [show (2 : Nat) ^ 8 = 256 from rfl]; omega
    rw [dig, bitsB_append, ih, bitsB_one, toNat_ofNat (by omega), show 8 * (m + 1) = 8 * m + 8 by omega]
    conv => rhs; rw [h]
    rw [nb_join _ _ 8 _ (by rw [show (2 : Nat) ^ 8 = 256 from rfl]; omega)]

/-- The bits of a text. -/
def encBits (l : List UInt8) : List Nat := l.flatMap fun c => nb (lenAt c) (codeAt c)
theorem encBits_append (l k : List UInt8) : encBits (l ++ k) = encBits l ++ encBits k := by simp [encBits]
theorem encBits_one (c : UInt8) : encBits [c] = nb (lenAt c) (codeAt c) := by simp [encBits]
theorem encBits_go (l : List UInt8) : ∀ T v, nb (T + nbits l) (l.foldl (fun v c => v * 2 ^ lenAt c + codeAt c) v) = nb T v ++ encBits l := by
  induction l with
  | nil => intro T v; simp [nbits, encBits]
  | cons c l ih =>
    intro T v
    have hn : T + nbits (c :: l) = (T + lenAt c) + nbits l := by simp [nbits]; omega
    rw [hn, List.foldl_cons, ih, nb_join _ _ _ _ (show codeAt c < 2 ^ lenAt c from code_fits c.toNat (by have := c.toNat_lt; omega)), List.append_assoc]
    rfl
theorem encBits_eq (l : List UInt8) : nb (nbits l) (vbits l) = encBits l := by
  have := encBits_go l 0 0
  rw [Nat.zero_add] at this
  exact this
theorem encBits_length (l : List UInt8) : (encBits l).length = nbits l := by rw [← encBits_eq, nb_length]
/-- The bits of the bytes: the text's, then ones, fewer than eight. -/
theorem encB_bits (l : List UInt8) : ∃ p, p < 8 ∧ (p = 0 ↔ nbits l % 8 = 0) ∧ bitsB (encB l) = encBits l ++ List.replicate p 1 := by
  unfold encB
  by_cases h : nbits l % 8 = 0
  · refine ⟨0, by omega, by simp [h], ?_⟩
    rw [if_pos h, bitsB_dig, show 8 * (nbits l / 8) = nbits l by omega, encBits_eq, List.replicate_zero, List.append_nil]
  · refine ⟨8 - nbits l % 8, by omega, by omega, ?_⟩
    rw [if_neg h, bitsB_dig, show 8 * (nbits l / 8 + 1) = nbits l + (8 - nbits l % 8) by omega,
      nb_join _ _ _ _ (by have : 0 < 2 ^ (8 - nbits l % 8) := Nat.pow_pos (by decide); omega), encBits_eq, nb_ones]
theorem encB_unique {l k : List UInt8} {p : Nat} (hp : p < 8) (h : bitsB k = encBits l ++ List.replicate p 1) : encB l = k := by
  obtain ⟨q, hq, -, hb⟩ := encB_bits l
  have h1 := congrArg List.length h
  have h2 := congrArg List.length hb
  rw [bitsB_length, List.length_append, List.length_replicate] at h1 h2
  have : p = q := by omega
  subst this
  exact bitsB_inj _ _ (hb.trans h.symm)

/-- The bits of one symbol, walked. -/
def walkB (c n : Nat) : List Nat → Option Nat
  | [] => none
  | b :: t => if hitB (2 * c + b) (n + 1) then (match t with | [] => some (symAt (2 * c + b) (n + 1)) | _ => none) else walkB (2 * c + b) (n + 1) t
theorem walkB_go {s : Nat} (hs : s ≠ 256) (out : List UInt8) (rest : List Nat) : ∀ (L : List Nat) (c n : Nat) (ones : Bool), walkB c n L = some s → decGo c n ones out (L ++ rest) = decGo 0 0 true (out ++ [UInt8.ofNat s]) rest
  | [], c, n, ones, h => by simp [walkB] at h
  | b :: t, c, n, ones, h => by
    rw [List.cons_append, decGo]
    by_cases hh : hitB (2 * c + b) (n + 1) = true
    · rw [if_pos hh]
      cases t with
      | nil =>
        simp only [walkB, hh, if_true, Option.some.injEq] at h
        rw [h, if_neg hs, List.nil_append]
      | cons => simp [walkB, hh] at h
    · rw [if_neg hh]
      refine walkB_go hs out rest t _ _ _ ?_
      rw [← h]
      cases t <;> simp [walkB, hh]
theorem walk_sym : ∀ c < 256, walkB 0 0 (nb (lensN.getD c 0) (codeT.getD c 0)) = some c := by decide +kernel
theorem dec_char (c : UInt8) (out : List UInt8) (rest : List Nat) : decGo 0 0 true out (nb (lenAt c) (codeAt c) ++ rest) = decGo 0 0 true (out ++ [c]) rest := by
  have h := walk_sym c.toNat c.toNat_lt
  have hc := c.toNat_lt
  have := walkB_go (s := c.toNat) (by omega) out rest _ 0 0 true h
  rw [UInt8.ofNat_toNat] at this
  exact this
theorem dec_text (l : List UInt8) : ∀ (out : List UInt8) (rest : List Nat), decGo 0 0 true out (encBits l ++ rest) = decGo 0 0 true (out ++ l) rest := by
  induction l with
  | nil => intro out rest; simp [encBits]
  | cons c l ih =>
    intro out rest
    rw [show encBits (c :: l) = nb (lenAt c) (codeAt c) ++ encBits l from rfl, List.append_assoc, dec_char, ih, List.append_assoc]
    rfl
/-- Ones alone: up to fifteen of them are no code. -/
def noHit (c n : Nat) : List Nat → Bool
  | [] => true
  | b :: t => !hitB (2 * c + b) (n + 1) && noHit (2 * c + b) (n + 1) t
theorem noHit_go (out : List UInt8) : ∀ (L : List Nat) (c n : Nat) (ones : Bool), noHit c n L = true → decGo c n ones out L = if 7 < n + L.length ∨ (ones && L.all (· == 1)) = false then none else some out
  | [], c, n, ones, _ => by simp [decGo]
  | b :: t, c, n, ones, h => by
    rw [noHit, Bool.and_eq_true, Bool.not_eq_true'] at h
    rw [decGo, h.1, if_neg (by simp), noHit_go out t _ _ _ h.2, List.length_cons, List.all_cons, Bool.and_assoc, show n + 1 + t.length = n + (t.length + 1) by omega]
theorem ones_noHit : ∀ p < 16, noHit 0 0 (List.replicate p 1) = true := by decide +kernel
theorem dec_ones (p : Nat) (hp : p < 16) (out : List UInt8) : decGo 0 0 true out (List.replicate p 1) = if 7 < p then none else some out := by
  rw [noHit_go out _ 0 0 true (ones_noHit p hp)]
  have h : (List.replicate p 1).all (fun x => x == 1) = true := by rw [List.all_replicate]; simp
  simp only [List.length_replicate, Nat.zero_add, h, Bool.and_self, Bool.true_eq_false, or_false]
theorem dec_enc (l : List UInt8) : decB (encB l) = some l := by
  obtain ⟨p, hp, -, h⟩ := encB_bits l
  unfold decB
  rw [h, dec_text, dec_ones p (by omega), if_neg (by omega), List.nil_append]
theorem dec_more (l : List UInt8) : decB (encB l ++ [255]) = none := by
  obtain ⟨p, hp, -, h⟩ := encB_bits l
  unfold decB
  rw [bitsB_append, bitsB_one, h, show nb 8 (255 : UInt8).toNat = List.replicate 8 1 by decide, List.append_assoc, dec_text, List.replicate_append_replicate, dec_ones _ (by omega), if_pos (by omega)]

/-- A code that is met is its symbol's. -/
theorem sym_codes : ∀ n < 31, ∀ i < manyT.getD n 0, codeT.getD (symT.getD (fromT.getD n 0 + i) 0) 0 = firstT.getD n 0 + i ∧ lensN.getD (symT.getD (fromT.getD n 0 + i) 0) 0 = n := by decide +kernel
theorem hit_code {c n : Nat} (hn : n < 31) (h : hitB c n = true) : codeT.getD (symAt c n) 0 = c ∧ lensN.getD (symAt c n) 0 = n := by
  unfold hitB at h
  rw [Bool.and_eq_true, decide_eq_true_eq, decide_eq_true_eq] at h
  have := sym_codes n hn (c - firstT.getD n 0) h.2
  unfold symAt
  refine ⟨by rw [this.1]; omega, this.2⟩
theorem dec_back : ∀ (L : List Nat) (c n : Nat) (ones : Bool) (out u : List UInt8), Mid c n → (∀ b ∈ L, b < 2) → (ones = true → c = 2 ^ n - 1) → decGo c n ones out L = some u →
    ∃ t p, u = out ++ t ∧ p < 8 ∧ nb n c ++ L = encBits t ++ List.replicate p 1
  | [], c, n, ones, out, u, hm, _, ho, h => by
    rw [decGo] at h
    split at h
    · cases h
    · rename_i hc
      have h7 : ¬ 7 < n := fun e => hc (Or.inl e)
      have h1 : ones = true := by cases ones with | true => rfl | false => exact absurd (Or.inr rfl) hc
      cases h
      refine ⟨[], n, by simp, by omega, ?_⟩
      rw [ho h1, nb_ones]; simp [encBits]
  | b :: L, c, n, ones, out, u, hm, hb, ho, h => by
    have hb2 := hb b (by simp)
    have hL : ∀ x ∈ L, x < 2 := fun x hx => hb x (by simp [hx])
    have hsplit : nb n c ++ b :: L = nb (n + 1) (2 * c + b) ++ L := by rw [nb_snoc n c b hb2, List.append_assoc]; rfl
    rw [decGo] at h
    split at h
    · rename_i hh
      split at h
      · cases h
      · rename_i hs
        obtain ⟨t, p, rfl, hp, he⟩ := dec_back L 0 0 true _ u Mid.zero hL (fun _ => rfl) h
        have hc := hit_code (by have := hm.le; omega) hh
        have hs256 : symAt (2 * c + b) (n + 1) < 256 := by
          have : symAt (2 * c + b) (n + 1) ≤ 256 := sym_le _
          omega
        refine ⟨UInt8.ofNat (symAt (2 * c + b) (n + 1)) :: t, p, by simp, hp, ?_⟩
        rw [hsplit, show encBits (UInt8.ofNat (symAt (2 * c + b) (n + 1)) :: t) = nb (lenAt (UInt8.ofNat (symAt (2 * c + b) (n + 1)))) (codeAt (UInt8.ofNat (symAt (2 * c + b) (n + 1)))) ++ encBits t from rfl,
          List.append_assoc, ← he, lenAt, codeAt, toNat_ofNat hs256, hc.1, hc.2]
        rfl
    · rename_i hh
      have hm2 : Mid (2 * c + b) (n + 1) := hm.next hb2 (by
        rw [Bool.not_eq_true, hm.hit] at hh
        simpa using hh)
      obtain ⟨t, p, rfl, hp, he⟩ := dec_back L _ _ _ out u hm2 hL (fun e => by
        rw [Bool.and_eq_true, beq_iff_eq] at e
        have := ho e.1
        have hpow : 0 < 2 ^ n := Nat.pow_pos (by decide)
        rw [Nat.pow_succ]; omega) h
      exact ⟨t, p, rfl, hp, by rw [hsplit, he]⟩
theorem enc_dec {l u : List UInt8} (h : decB l = some u) : encB u = l := by
  have hb : ∀ b ∈ bitsB l, b < 2 := by
    intro b hb
    unfold bitsB at hb
    obtain ⟨i, -, rfl⟩ := List.mem_map.1 hb
    exact bitAt_lt l i
  obtain ⟨t, p, rfl, hp, he⟩ := dec_back (bitsB l) 0 0 true [] u Mid.zero hb (fun _ => rfl) h
  exact encB_unique hp he
theorem dec_length {l u : List UInt8} (h : decB l = some u) : 5 * u.length ≤ 8 * l.length := by
  have h1 := enc_dec h
  have h2 := (nbits_le u).1
  have h3 := encB_length u
  rw [h1] at h3
  unfold nbytes at h3
  obtain ⟨q, hq, -, hb⟩ := encB_bits u
  have h4 := congrArg List.length hb
  rw [h1, bitsB_length, List.length_append, encBits_length] at h4
  omega
/-- Two texts' bytes are those of both together if the first one's need no ones. -/
theorem enc_join {a b : List UInt8} (h : nbits a % 8 = 0) : encB (a ++ b) = encB a ++ encB b := by
  obtain ⟨p, hp, h0, ha⟩ := encB_bits a
  obtain ⟨q, hq, -, hb⟩ := encB_bits b
  obtain rfl := h0.2 h
  refine encB_unique hq ?_
  rw [bitsB_append, ha, hb, encBits_append, List.replicate_zero, List.append_nil, List.append_assoc]
end Go.Proofs.Ytfcgacjonekfaaa
