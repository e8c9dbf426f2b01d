/- The walks of drawbridgeref01.Bytes, drawbridgelaw03.counts, PrefixPuts. -/
import Derived.Test.YtfcgacjonekfaaaTake
import Derived.Test.YtfcgacjonekfaaaRefPut
namespace Go.Proofs.Ytfcgacjonekfaaa
open Go.RowKit

set_option maxHeartbeats 400000 in
theorem bytes_eq {A A' : Option Addr} {B B' n n' c c' : Nat} {l : List UInt8} {w : World} (hr : Rd w B 1 A n (bvs l)) (hr' : Rd w B' 1 A' n' (bvs l)) :
    Calls Try.prog 20 #[.slice A n c, .slice A' n' c'] w fun e w' => e = .returned (.bool true) ∧ w = w' := by
  have e1 := run_str Try.underlying31 Try.underlying5 Try.underlying9 hr c
  have e2 := run_str Try.underlying31 Try.underlying5 Try.underlying9 hr' c'
  clear hr hr'
  go_enter Try.func20, Try.ntmps20
  go_wp2
  go_ret
  exact ⟨ret_v (by simp), rfl⟩

set_option maxHeartbeats 1000000 in
theorem counts_any (w : World) : Calls Try.prog 18 #[] w (RetT w) := by
  go_enter Try.func18, Try.ntmps18
  go_wp2_with fail
  refine (put_big 0 5 1337 31 w ⟨by omega, by omega, rfl⟩ (by omega) rfl (by omega) (by omega)).mono ?_
  rintro e w1 ⟨v, rfl, hown, hb⟩
  have hp : putB 0 31 1337 = [31, 154, 10] := by decide +kernel
  rw [hp] at hown
  obtain ⟨A, c, rfl, hc1, hc2, hrd, -⟩ := own_slice hown
  obtain ⟨-, bb, o, rfl, hbb, hc⟩ := hrd.bas (by decide)
  have hcell : w1.cell? ⟨bb, o + 1, none⟩ = some (.int .u8 154) := hc 1 (by decide)
  clear hc hrd hown hp
  go_wp2_with fail
  have hr : Rd (w1.alloc (.cells #[.int .u8 31, .int .u8 154, .int .u8 10] 5)) (w1.heap.size + 1) 1 (some ⟨w1.heap.size, 0, none⟩) 3 (bvs [31, 154, 10]) := Rd.lit w1 _ _ 3 rfl
  refine (take_any (bits := 5) (F := 31) ⟨by omega, by omega, rfl⟩ hr (Nat.le_refl _) (le_maxLen (by omega))).mono ?_
  rintro e w2 ⟨rfl, rfl⟩
  have ht : tri (takeI 31 [31, 154, 10]) = .tuple #[.int .i64 1337, .int .i64 3, .int .i64 0] := by
    have : takeI 31 [31, 154, 10] = (1337, 3, 0) := by decide +kernel
    rw [this]; rfl
  simp only [ht]
  have hcell' : (w1.alloc (.cells #[.int .u8 31, .int .u8 154, .int .u8 10] 5)).cell? ⟨bb, o + 1, none⟩ = some (.int .u8 154) := (World.cell?_alloc_lt w1 _ _ hbb).trans hcell
  clear hr ht
  go_wp2
  go_ret
  exact ⟨rfl, hb.alloc hb.size _⟩

/-- The lowest bits of flags, one by one. -/
def LowRel (f bits : Nat) (low i : Value) : Prop := ∃ k p : Nat, i = .int .i64 k ∧ low = .int .u8 p ∧ k ≤ bits ∧ (k ≤ 7 → p = 2 ^ k) ∧ 1 ≤ p ∧ p ≤ 128 ∧ f % 2 ^ k = 0

set_option maxRecDepth 100000 in
set_option maxHeartbeats 1000000 in
theorem puts_range (f bits n : Int) (w : World) (h : bits < 1 ∨ 8 < bits) : Calls Try.prog 4 #[.int .u8 f, .int .i64 bits, .int .u32 n] w (RetT w) := by
  have hr := fun w => put_range f bits n w h
  have HR := Lib.hid hr
  clear hr
  by_cases h1 : bits < 1
  · go_enter Try.func4, Try.ntmps4
    go_wp2_with fail
    refine (counts_any w).mono ?_
    rintro e w1 ⟨rfl, hb⟩
    go_wp2_with fail
    refine (HR.out w1).mono ?_
    rintro e w2 ⟨rfl, rfl⟩
    go_wp2
    go_ret
    exact ⟨rfl, hb⟩
  · have h8 : 8 < bits := by omega
    go_enter Try.func4, Try.ntmps4
    go_wp2_with fail
    refine (counts_any w).mono ?_
    rintro e w1 ⟨rfl, hb⟩
    go_wp2_with fail
    refine (HR.out w1).mono ?_
    rintro e w2 ⟨rfl, rfl⟩
    go_wp2
    go_ret
    exact ⟨rfl, hb⟩

theorem low_next {f k q : Nat} (h0 : f % 2 ^ k = 0) (hq : q = f / 2 ^ k) (h1 : q % 2 = 0) : f % 2 ^ (k + 1) = 0 := by
  subst hq
  rw [Nat.mod_pow_succ, h0, h1]; simp

set_option maxRecDepth 100000 in
set_option maxHeartbeats 1000000 in
theorem puts_flags (f bits n F : Nat) (w : World) (hF : Full bits F) (hf : f < 256) (hfl : f % (F + 1) ≠ 0) : Calls Try.prog 4 #[.int .u8 f, .int .i64 bits, .int .u32 n] w (RetT w) := by
  have h1 := hF.lo
  have h8 := hF.hi
  have e5 : decide ((bits : Int) < 1) = false := by simp; omega
  have e6 : decide (8 < (bits : Int)) = false := by simp; omega
  have HFL := Lib.hid hfl
  have HF := Lib.hid hF
  clear hfl hF
  go_enter Try.func4, Try.ntmps4
  go_wp2_with fail
  refine (counts_any w).mono ?_
  rintro e w1 ⟨rfl, hb⟩
  go_wp2_with fail
  refine (put_flags f bits n F w1 HF.out hf HFL.out).mono ?_
  rintro e w2 ⟨rfl, rfl⟩
  go_wp2
  clear e5 e6
  go_loop [9, 10] (LowRel f bits) (fun _ i => bits - (intOf i).toNat)
  case atStart => exact ⟨0, 1, rfl, rfl, by omega, fun _ => rfl, by omega, by omega, by omega⟩
  case round =>
    obtain ⟨k, p, rfl, rfl, hk, hp, hp1, hp128, hz⟩ := hrel
    have HP := Lib.hid hp
    have HZ := Lib.hid hz
    clear hp hz
    by_cases hlt : k < bits
    · obtain ⟨q, hq⟩ : ∃ q, q = f / p := ⟨_, rfl⟩
      have e1 : (f : Int) / (p : Int) = (q : Int) := by rw [hq]; simp
      have hq0 : q = f / 2 ^ k := by rw [hq, HP.out (by omega)]
      have HQ := Lib.hid hq0
      have hq256 : q ≤ f := by rw [hq]; exact Nat.div_le_self _ _
      clear hq hq0
      by_cases ho : q % 2 = 1
      · have e2 : ((q : Int) % 2 == 1) = true := by rw [beq_iff_eq]; omega
        clear ho
        go_wp2
        go_ret
        exact ⟨rfl, hb⟩
      · have e2 : ((q : Int) % 2 == 1) = false := by rw [beq_eq_false_iff_ne]; omega
        have hq2 : q % 2 = 0 := by omega
        have HQ2 := Lib.hid hq2
        clear ho hq2
        by_cases h7 : k < 7
        · have hp64 : p ≤ 64 := by rw [HP.out (by omega)]; exact Nat.pow_le_pow_right (by omega) (show k ≤ 6 by omega)
          go_wp2
          go_round
          case rel => exact ⟨k + 1, p * 2, by go_num, by go_num, by omega, fun _ => by rw [HP.out (by omega), Nat.pow_succ], by omega, by omega, low_next HZ.out HQ.out HQ2.out⟩
          case measure => simp [intOf]; omega
        · go_wp2
          go_round
          case rel => exact ⟨k + 1, p, by go_num, rfl, by omega, fun _ => by omega, by omega, by omega, low_next HZ.out HQ.out HQ2.out⟩
          case measure => simp [intOf]; omega
    · exfalso
      obtain rfl : k = bits := by omega
      exact HFL.out (by rw [HF.out.eq]; exact HZ.out)

theorem put_ok (f bits n F : Nat) (w : World) (hF : Full bits F) (hf : f < 256) (hfl : f % (F + 1) = 0) (hn32 : n < 4294967296) :
    Calls Try.prog 19 #[.int .u8 f, .int .i64 bits, .int .u32 n] w (RetBE w (putB f F n) 0) := by
  by_cases hn : n < F
  · exact put_small f bits n F w hF hf hfl hn
  · exact put_big f bits n F w hF hf hfl (by omega) hn32

theorem low_zero {f k q B : Nat} (h : f % 2 ^ B = 0) (hk : k < B) (hq : q = f / 2 ^ k) : q % 2 = 0 := by
  subst hq
  obtain ⟨d, rfl⟩ : ∃ d, B = k + 1 + d := ⟨B - (k + 1), by omega⟩
  have h2 : f % 2 ^ (k + 1) = 0 := by
    have := Nat.mod_mod_of_dvd f (show 2 ^ (k + 1) ∣ 2 ^ (k + 1 + d) from ⟨2 ^ d, by rw [Nat.pow_add]⟩)
    rw [h] at this
    simpa using this.symm
  rw [Nat.mod_pow_succ] at h2
  have hp : 0 < 2 ^ k := Nat.pow_pos (by decide)
  rcases Nat.mod_two_eq_zero_or_one (f / 2 ^ k) with h0 | h0
  · exact h0
  · rw [h0] at h2; omega

set_option maxRecDepth 100000 in
set_option maxHeartbeats 1000000 in
theorem puts_ok (f bits n F : Nat) (w : World) (hF : Full bits F) (hf : f < 256) (hn : n < 4294967296) (hfl : f % (F + 1) = 0) : Calls Try.prog 4 #[.int .u8 f, .int .i64 bits, .int .u32 n] w (RetT w) := by
  have h1 := hF.lo
  have h8 := hF.hi
  have e5 : decide ((bits : Int) < 1) = false := by simp; omega
  have e6 : decide (8 < (bits : Int)) = false := by simp; omega
  have HFL := Lib.hid hfl
  have HF := Lib.hid hF
  clear hfl hF
  go_enter Try.func4, Try.ntmps4
  go_wp2_with fail
  refine (counts_any w).mono ?_
  rintro e w1 ⟨rfl, hb⟩
  go_wp2_with fail
  refine (put_ok f bits n F w1 HF.out hf HFL.out hn).mono ?_
  rintro e w2 ⟨v, rfl, hown, hb2⟩
  obtain ⟨A, c, rfl, -, -, hrd, -⟩ := own_slice hown
  have HRD := Lib.hid hrd
  clear hown hrd
  go_wp2
  clear e5 e6
  go_loop [9, 10] (LowRel f bits) (fun _ i => bits - (intOf i).toNat)
  case atStart => exact ⟨0, 1, rfl, rfl, by omega, fun _ => rfl, by omega, by omega, by omega⟩
  case round =>
    obtain ⟨k, p, rfl, rfl, hk, hp, hp1, hp128, hz⟩ := hrel
    have HP := Lib.hid hp
    have HZ := Lib.hid hz
    clear hp hz
    by_cases hlt : k < bits
    · obtain ⟨q, hq⟩ : ∃ q, q = f / p := ⟨_, rfl⟩
      have e1 : (f : Int) / (p : Int) = (q : Int) := by rw [hq]; simp
      have hq0 : q = f / 2 ^ k := by rw [hq, HP.out (by omega)]
      have HQ := Lib.hid hq0
      have hq256 : q ≤ f := by rw [hq]; exact Nat.div_le_self _ _
      have hq2 : q % 2 = 0 := low_zero (by have := HFL.out; rw [HF.out.eq] at this; exact this) hlt hq0
      clear hq hq0
      have e2 : ((q : Int) % 2 == 1) = false := by rw [beq_eq_false_iff_ne]; omega
      have HQ2 := Lib.hid hq2
      clear hq2
      by_cases h7 : k < 7
      · have hp64 : p ≤ 64 := by rw [HP.out (by omega)]; exact Nat.pow_le_pow_right (by omega) (show k ≤ 6 by omega)
        go_wp2
        go_round
        case rel => exact ⟨k + 1, p * 2, by go_num, by go_num, by omega, fun _ => by rw [HP.out (by omega), Nat.pow_succ], by omega, by omega, low_next HZ.out HQ.out HQ2.out⟩
        case measure => simp [intOf]; omega
      · go_wp2
        go_round
        case rel => exact ⟨k + 1, p, by go_num, rfl, by omega, fun _ => by omega, by omega, by omega, low_next HZ.out HQ.out HQ2.out⟩
        case measure => simp [intOf]; omega
    · go_wp2_with fail
      refine (rput_any f bits n F w2 HF.out hf HFL.out hn).mono ?_
      rintro e w3 ⟨v', rfl, hown', hb3⟩
      obtain ⟨A', c', rfl, -, -, hrd', -⟩ := own_slice hown'
      go_wp2_with fail
      refine (bytes_eq (HRD.out.below hb3 (Nat.le_refl _)) hrd').mono ?_
      rintro e w4 ⟨rfl, rfl⟩
      go_wp2
      go_ret
      exact ⟨rfl, (hb.trans (hb2.mono hb.size)).trans (hb3.mono (by have := hb.size; have := hb2.size; omega))⟩
end Go.Proofs.Ytfcgacjonekfaaa
