/- A text that is written is read as it was; without its last byte it is short. In plain Lean. No program in sight. -/
import Derived.Test.YtfcgacjonekfaaaTextPlain
namespace Go.Proofs.Ytfcgacjonekfaaa
open Go.RowKit

theorem ba_putB {f n : Nat} (hf : f + 127 < 256) (rest : List UInt8) : ba (putB f 127 n ++ rest) 0 = f + min n 127 := by
  unfold putB
  by_cases h : n < 127
  · rw [if_pos h, Nat.min_eq_left (by omega)]
    simp only [ba, List.cons_append, List.getD_cons_zero, toNat_ofNat (show f + n < 256 by omega)]
  · rw [if_neg h, Nat.min_eq_right (by omega)]
    simp only [ba, List.cons_append, List.getD_cons_zero, toNat_ofNat (show f + 127 < 256 by omega)]

section
variable {f : Nat} {body rest : List UInt8} (hf : f = 0 ∨ f = 128) (hb : body.length ≤ 4096)
include hf hb
theorem takeI_text : takeI 127 (putB f 127 body.length ++ body ++ rest) = (body.length, (putB f 127 body.length).length, 0) := by
  rw [List.append_assoc]
  exact takeI_putB ⟨by omega, by omega⟩ (by omega) (by omega) (by omega) _
theorem cut_text : takeT ((putB f 127 body.length ++ body).take ((putB f 127 body.length ++ body).length - 1)) = ([], 0, 12) := by
  rcases Nat.eq_zero_or_pos body.length with h0 | h0
  · have hn : body = [] := List.eq_nil_of_length_eq_zero h0
    subst hn
    rw [List.append_nil]
    exact takeT_err (m := 0) (a := 0) (takeI_cut ⟨by omega, by omega⟩ (by omega) (by omega) (by omega)) (by omega)
  · have e : (putB f 127 body.length ++ body).take ((putB f 127 body.length ++ body).length - 1) = putB f 127 body.length ++ body.take (body.length - 1) := by
      rw [List.length_append, List.take_append, List.take_of_length_le (by omega)]
      congr 2
      omega
    rw [e]
    refine takeT_short (takeI_putB (F := 127) ⟨by omega, by omega⟩ (by omega) (by omega) (by omega) _) rfl hb ?_
    simp; omega
end

theorem piece_text (p body rest : List UInt8) : ((p ++ body ++ rest).drop p.length).take body.length = body := by
  rw [List.append_assoc, List.drop_left, List.take_left]

theorem back_text {l : List UInt8} (h : l.length ≤ 4096) (rest : List UInt8) : takeT (textB l ++ rest) = (l, (textB l).length, 0) := by
  by_cases hb : nbytes l < l.length
  · rw [textB_bits hb]
    have hE := encB_length l
    rw [← hE] at hb ⊢
    have ht := takeI_text (f := 128) (body := encB l) (rest := rest) (.inr rfl) (by omega)
    rw [takeT_bits ht rfl (by omega) (by simp) (by rw [List.append_assoc, ba_putB (by omega)]; omega), piece_text, dec_enc]
    simp only
    rw [if_neg (by omega), List.length_append]
  · rw [textB_raw (by omega)]
    have ht := takeI_text (f := 0) (body := l) (rest := rest) (.inl rfl) h
    rw [takeT_raw ht rfl h (by simp) (by rw [List.append_assoc, ba_putB (by omega)]; omega), piece_text, List.length_append]
theorem back_cut {l : List UInt8} (h : l.length ≤ 4096) : takeT ((textB l).take ((textB l).length - 1)) = ([], 0, 12) := by
  by_cases hb : nbytes l < l.length
  · rw [textB_bits hb]
    have hE := encB_length l
    rw [← hE] at hb ⊢
    exact cut_text (.inr rfl) (by omega)
  · rw [textB_raw (by omega)]
    exact cut_text (.inl rfl) h
theorem textB_length (l : List UInt8) (h : l.length ≤ 4096) : 1 ≤ (textB l).length ∧ (textB l).length ≤ l.length + 7 := by
  by_cases hb : nbytes l < l.length
  · rw [textB_bits hb, List.length_append, encB_length]
    have := putB_length 128 127 (nbytes l)
    omega
  · rw [textB_raw (by omega), List.length_append]
    have := putB_length 0 127 l.length
    omega
end Go.Proofs.Ytfcgacjonekfaaa
