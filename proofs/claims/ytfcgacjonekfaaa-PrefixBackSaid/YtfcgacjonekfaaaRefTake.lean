/- The walk of drawbridgeref03.TakeInt: it reads what prefix.TakeInt reads. -/
import Derived.Test.YtfcgacjonekfaaaTake
import Derived.Test.YtfcgacjonekfaaaRefPut
namespace Go.Proofs.Ytfcgacjonekfaaa
open Go.RowKit

/-- Behind k bytes more. -/
def RTakeRel (F : Nat) (l : List UInt8) (x t i : Value) : Prop :=
  ∃ k s T : Nat, i = .int .i64 ((k : Int) + 1) ∧ x = .int .i64 s ∧ t = .int .i64 T ∧ T = 128 ^ k ∧ k ≤ 5 ∧ k + 1 ≤ max l.length 1 ∧ s ≤ 254 + T ∧ takeI F l = takeTail (5 - k) (k + 1) s T (l.drop (k + 1))

set_option maxRecDepth 100000 in
set_option maxHeartbeats 2000000 in
theorem rtake_some (b o n cap bits F : Nat) (l : List UInt8) (w : World) (hF : Full bits F) (hn0 : 0 < n) (_hm : n ≤ maxLen) (hn : n = l.length) (hc : ∀ j, j < n → w.cell? ⟨b, o + j, none⟩ = some (.int .u8 (ba l j : Int))) :
    Calls Try.prog 23 #[.slice (some ⟨b, o, none⟩) n cap, .int .i64 bits] w fun e w' => e = .returned (tri (takeI F l)) ∧ w = w' := by
  have h1 := hF.lo
  have h8 := hF.hi
  have hF' := hF.le
  have e5 : decide ((bits : Int) < 1) = false := by simp; omega
  have e6 : decide (8 < (bits : Int)) = false := by simp; omega
  have e7 : decide ((n : Int) = 0) = false := by simp; omega
  have hc0 : w.cell? ⟨b, o, none⟩ = some (.int .u8 (ba l 0 : Int)) := hc 0 (by omega)
  have hb0 := ba_lt l 0
  have HE := Lib.hid hF.eq
  have HN := Lib.hid hn
  have HC := Lib.hid hc
  clear hF hn hc
  go_enter Try.func23, Try.ntmps23
  go_wp2
  go_loop [7, 8] (DblRel .i64 bits) (fun _ i => bits - (intOf i).toNat)
  case atStart => exact ⟨0, 1, rfl, rfl, by omega, rfl, by omega⟩
  case round =>
    obtain ⟨k, p, rfl, rfl, hk, hp, hp256⟩ := hrel
    have HP := Lib.hid hp
    clear hp
    by_cases hlt : k < bits
    · have hp128 := (DblRel.next HP.out hlt h8).2
      go_wp2
      go_round
      case rel => exact ⟨k + 1, p * 2, by go_num, by go_num, by omega, (DblRel.next HP.out hlt h8).1, by omega⟩
      case measure => simp [intOf]; omega
    · obtain rfl : p = F + 1 := by rw [HP.out, HE.out]; congr 1; omega
      obtain ⟨r, hr⟩ : ∃ r, r = ba l 0 % (F + 1) := ⟨_, rfl⟩
      have e2 : ((ba l 0 : Nat) : Int) % ((F : Int) + 1) = (r : Int) := by rw [hr]; simp
      have hrF : r ≤ F := by rw [hr]; have := Nat.mod_lt (ba l 0) (show 0 < F + 1 by omega); omega
      have HR := Lib.hid hr
      clear hr
      have e8 : decide (k < bits) = false := by simpa using hlt
      by_cases hsm : r < F
      · go_wp2
        go_ret3
        exact ⟨by rw [take_small (by have := HN.out; omega) HR.out hsm]; rfl, rfl⟩
      · have e9 : decide (r < F) = false := by simpa using hsm
        go_wp2
        clear e2 e5 e6 e8 e9
        go_loop [9, 10, 11] (RTakeRel F l) (fun _ _ i => 7 - (intOf i).toNat)
        case atStart => exact ⟨0, r, 1, rfl, rfl, rfl, rfl, by omega, by omega, by omega, take_big (by have := HN.out; omega) HR.out hsm⟩
        case round =>
          obtain ⟨k, s, T, rfl, rfl, rfl, hT, hk, hkl, hs, ht⟩ := hrel
          have HT := Lib.hid ht
          have HTT := Lib.hid hT
          have HKL := Lib.hid hkl
          clear ht hT hkl
          by_cases hk5 : k < 5
          · by_cases hkn : k + 1 < n
            · have hk5 : k = 0 ∨ k = 1 ∨ k = 2 ∨ k = 3 ∨ k = 4 := by omega
              rcases hk5 with rfl | rfl | rfl | rfl | rfl <;> (obtain rfl := HTT.out)
              · have hcell : w.cell? ⟨b, o + 1, none⟩ = some (.int .u8 (ba l 1 : Int)) := HC.out 1 (by omega)
                have hb1 := ba_lt l 1
                obtain ⟨m, hm⟩ : ∃ m, m = ba l 1 % 128 := ⟨_, rfl⟩
                have e7 : (ba l 1 : Int) % 128 = (m : Int) := by omega
                have hst := take_in (T := 1) 1 128 2 HT.out (by omega) rfl rfl rfl (by have := HN.out; omega) hm
                have hm128 : m < 128 := by omega
                have HM := Lib.hid hm
                have HST := Lib.hid hst
                clear hm hst
                by_cases hlo : ba l 1 < 128
                · go_wp2
                  go_ret3
                  exact ⟨tri_eq (HST.out.2.1 hlo (by omega)) (by omega) (by omega) rfl, rfl⟩
                · go_wp2
                  clear e7
                  go_round
                  case rel => exact ⟨1, s + 1 * m, 128, rfl, num_eq (by omega), rfl, rfl, by omega, by have := HN.out; omega, by omega, HST.out.2.2 (by omega)⟩
                  case measure => simp [intOf]
              · have hcell : w.cell? ⟨b, o + 2, none⟩ = some (.int .u8 (ba l 2 : Int)) := HC.out 2 (by omega)
                have hb1 := ba_lt l 2
                obtain ⟨m, hm⟩ : ∃ m, m = ba l 2 % 128 := ⟨_, rfl⟩
                have e7 : (ba l 2 : Int) % 128 = (m : Int) := by omega
                have hst := take_in (T := 128) 2 16384 3 HT.out (by omega) rfl rfl rfl (by have := HN.out; omega) hm
                have hm128 : m < 128 := by omega
                have HM := Lib.hid hm
                have HST := Lib.hid hst
                clear hm hst
                by_cases hlo : ba l 2 < 128
                · go_wp2
                  go_ret3
                  exact ⟨tri_eq (HST.out.2.1 hlo (by omega)) (by omega) (by omega) rfl, rfl⟩
                · go_wp2
                  clear e7
                  go_round
                  case rel => exact ⟨2, s + 128 * m, 16384, rfl, num_eq (by omega), rfl, rfl, by omega, by have := HN.out; omega, by omega, HST.out.2.2 (by omega)⟩
                  case measure => simp [intOf]
              · have hcell : w.cell? ⟨b, o + 3, none⟩ = some (.int .u8 (ba l 3 : Int)) := HC.out 3 (by omega)
                have hb1 := ba_lt l 3
                obtain ⟨m, hm⟩ : ∃ m, m = ba l 3 % 128 := ⟨_, rfl⟩
                have e7 : (ba l 3 : Int) % 128 = (m : Int) := by omega
                have hst := take_in (T := 16384) 3 2097152 4 HT.out (by omega) rfl rfl rfl (by have := HN.out; omega) hm
                have hm128 : m < 128 := by omega
                have HM := Lib.hid hm
                have HST := Lib.hid hst
                clear hm hst
                by_cases hlo : ba l 3 < 128
                · go_wp2
                  go_ret3
                  exact ⟨tri_eq (HST.out.2.1 hlo (by omega)) (by omega) (by omega) rfl, rfl⟩
                · go_wp2
                  clear e7
                  go_round
                  case rel => exact ⟨3, s + 16384 * m, 2097152, rfl, num_eq (by omega), rfl, rfl, by omega, by have := HN.out; omega, by omega, HST.out.2.2 (by omega)⟩
                  case measure => simp [intOf]
              · have hcell : w.cell? ⟨b, o + 4, none⟩ = some (.int .u8 (ba l 4 : Int)) := HC.out 4 (by omega)
                have hb1 := ba_lt l 4
                obtain ⟨m, hm⟩ : ∃ m, m = ba l 4 % 128 := ⟨_, rfl⟩
                have e7 : (ba l 4 : Int) % 128 = (m : Int) := by omega
                have hst := take_in (T := 2097152) 4 268435456 5 HT.out (by omega) rfl rfl rfl (by have := HN.out; omega) hm
                have hm128 : m < 128 := by omega
                have HM := Lib.hid hm
                have HST := Lib.hid hst
                clear hm hst
                by_cases hlo : ba l 4 < 128
                · go_wp2
                  go_ret3
                  exact ⟨tri_eq (HST.out.2.1 hlo (by omega)) (by omega) (by omega) rfl, rfl⟩
                · go_wp2
                  clear e7
                  go_round
                  case rel => exact ⟨4, s + 2097152 * m, 268435456, rfl, num_eq (by omega), rfl, rfl, by omega, by have := HN.out; omega, by omega, HST.out.2.2 (by omega)⟩
                  case measure => simp [intOf]
              · have hcell : w.cell? ⟨b, o + 5, none⟩ = some (.int .u8 (ba l 5 : Int)) := HC.out 5 (by omega)
                have hb1 := ba_lt l 5
                obtain ⟨m, hm⟩ : ∃ m, m = ba l 5 % 128 := ⟨_, rfl⟩
                have e7 : (ba l 5 : Int) % 128 = (m : Int) := by omega
                have hst := take_in (T := 268435456) 5 34359738368 6 HT.out (by omega) rfl rfl rfl (by have := HN.out; omega) hm
                have hm128 : m < 128 := by omega
                have HM := Lib.hid hm
                have HST := Lib.hid hst
                clear hm hst
                by_cases hlo : ba l 5 < 128
                · by_cases hbig : 2147483647 < s + 268435456 * m
                  · go_wp2
                    go_ret3
                    exact ⟨tri_eq (HST.out.1 hlo (by omega)) rfl rfl rfl, rfl⟩
                  · go_wp2
                    go_ret3
                    exact ⟨tri_eq (HST.out.2.1 hlo (by omega)) (by omega) (by omega) rfl, rfl⟩
                · go_wp2
                  clear e7
                  go_round
                  case rel => exact ⟨5, s + 268435456 * m, 34359738368, rfl, num_eq (by omega), rfl, rfl, by omega, by have := HN.out; omega, by omega, HST.out.2.2 (by omega)⟩
                  case measure => simp [intOf]
            · go_wp2
              go_ret3
              exact ⟨tri_eq (take_end HT.out (by omega) (by have := HN.out; omega)) rfl rfl rfl, rfl⟩
          · obtain rfl : k = 5 := by omega
            go_wp2
            go_ret3
            exact ⟨tri_eq (take_full HT.out) rfl rfl rfl, rfl⟩
end Go.Proofs.Ytfcgacjonekfaaa
