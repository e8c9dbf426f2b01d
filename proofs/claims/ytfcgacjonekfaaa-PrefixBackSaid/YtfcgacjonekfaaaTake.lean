/- The walk of prefix.TakeInt. -/
import Derived.Test.YtfcgacjonekfaaaPut
import Derived.Test.YtfcgacjonekfaaaTakePlain
namespace Go.Proofs.Ytfcgacjonekfaaa
open Go.RowKit

def TakeRel (F : Nat) (l : List UInt8) (m : Nat) (x i : Value) : Prop :=
  ∃ k s : Nat, i = .int .i64 k ∧ x = .int .i64 s ∧ k ≤ m ∧ s ≤ 254 + 128 ^ k ∧ takeI F l = takeTail (5 - k) (k + 1) s (128 ^ k) (l.drop (k + 1))

theorem u8_and127' (l : List UInt8) (k : Nat) : Go.bits .and .u8 (ba l k : Int) 127 = ((ba l k % 128 : Nat) : Int) := u8_and127 _
theorem tri_eq {a b c : Int} {r : Nat × Nat × Nat} {x y z : Nat} (h : r = (x, y, z)) (h1 : a = x) (h2 : b = y) (h3 : c = z) : Ending.returned (.tuple #[.int .i64 a, .int .i64 b, .int .i64 c]) = .returned (tri r) := by
  subst h h1 h2 h3; rfl
theorem num_eq {k : IntKind} {a b : Int} (h : a = b) : Value.int k a = .int k b := by rw [h]

set_option maxRecDepth 100000 in
set_option maxHeartbeats 1000000 in
theorem take_lt6 (b o n cap bits F : Nat) (l : List UInt8) (w : World) (hF : Full bits F) (hl : 1 < n) (hl5 : n < 6) (hcap : n ≤ cap) (_hm : cap ≤ maxLen) (hn : n = l.length) (hc : ∀ j, j < n → w.cell? ⟨b, o + j, none⟩ = some (.int .u8 (ba l j : Int))) :
    Calls Try.prog 22 #[.slice (some ⟨b, o, none⟩) n cap, .int .i64 bits] w fun e w' => e = .returned (tri (takeI F l)) ∧ w = w' := by
  have h1 := hF.lo
  have h8 := hF.hi
  have hF' := hF.le
  have e1 := hF.shl64
  have e5 : decide ((bits : Int) < 1) = false := by simp; omega
  have e6 : decide (8 < (bits : Int)) = false := by simp; omega
  have hc0 : w.cell? ⟨b, o, none⟩ = some (.int .u8 (ba l 0 : Int)) := hc 0 (by omega)
  have hb0 := ba_lt l 0
  have e2 := hF.and64 hb0
  obtain ⟨r, hr⟩ : ∃ r, r = ba l 0 % (F + 1) := ⟨_, rfl⟩
  rw [← hr] at e2
  have hrF : r ≤ F := by rw [hr]; have := Nat.mod_lt (ba l 0) (show 0 < F + 1 by omega); omega
  have HR := Lib.hid hr
  have HN := Lib.hid hn
  have HC := Lib.hid hc
  clear hr hn hc
  unfold maxLen at _hm
  go_enter Try.func22, Try.ntmps22
  by_cases hsm : r < F
  · go_wp2
    go_ret3
    exact ⟨by rw [take_small (by have := HN.out; omega) HR.out hsm]; rfl, rfl⟩
  · go_wp2
    clear e1 e2 e5 e6
    go_loop [8, 39] (TakeRel F l (n - 1)) (fun _ i => 6 - (intOf i).toNat)
    case atStart => exact ⟨0, r, rfl, rfl, by omega, by omega, take_big (by have := HN.out; omega) HR.out hsm⟩
    case round =>
      obtain ⟨k, s, rfl, rfl, hk, hs, ht⟩ := hrel
      have HT := Lib.hid ht
      clear ht
      by_cases hlt : k < n - 1
      · have hk5 : k = 0 ∨ k = 1 ∨ k = 2 ∨ k = 3 := by omega
        rcases hk5 with rfl | rfl | rfl | rfl
        · have hcell : w.cell? ⟨b, o + 1, none⟩ = some (.int .u8 (ba l 1 : Int)) := HC.out 1 (by omega)
          have hb1 := ba_lt l 1
          have e7 := u8_and127' l 1
          obtain ⟨m, hm⟩ : ∃ m, m = ba l 1 % 128 := ⟨_, rfl⟩
          have hst := take_in (T := 1) 1 128 2 HT.out (by omega) rfl rfl rfl (by have := HN.out; omega) hm
          rw [← hm] at e7
          have hm128 : m < 128 := by omega
          have HM := Lib.hid hm
          have HST := Lib.hid hst
          clear hm hst
          by_cases hlo : ba l 1 < 128
          · have hbig : s + 1 * m ≤ 2147483647 := by omega
            · go_wp2
              go_ret3
              exact ⟨tri_eq (HST.out.2.1 hlo (by omega)) (by omega) (by omega) rfl, rfl⟩
          · go_wp2
            go_round
            case rel => exact ⟨1, s + 1 * m, rfl, num_eq (by omega), by omega, by omega, HST.out.2.2 (by omega)⟩
            case measure => simp [intOf]
        · have hcell : w.cell? ⟨b, o + 2, none⟩ = some (.int .u8 (ba l 2 : Int)) := HC.out 2 (by omega)
          have hb1 := ba_lt l 2
          have e7 := u8_and127' l 2
          obtain ⟨m, hm⟩ : ∃ m, m = ba l 2 % 128 := ⟨_, rfl⟩
          have hst := take_in (T := 128) 2 16384 3 HT.out (by omega) rfl rfl rfl (by have := HN.out; omega) hm
          rw [← hm] at e7
          have hm128 : m < 128 := by omega
          have HM := Lib.hid hm
          have HST := Lib.hid hst
          clear hm hst
          by_cases hlo : ba l 2 < 128
          · have hbig : s + 128 * m ≤ 2147483647 := by omega
            · go_wp2
              go_ret3
              exact ⟨tri_eq (HST.out.2.1 hlo (by omega)) (by omega) (by omega) rfl, rfl⟩
          · go_wp2
            go_round
            case rel => exact ⟨2, s + 128 * m, rfl, num_eq (by omega), by omega, by omega, HST.out.2.2 (by omega)⟩
            case measure => simp [intOf]
        · have hcell : w.cell? ⟨b, o + 3, none⟩ = some (.int .u8 (ba l 3 : Int)) := HC.out 3 (by omega)
          have hb1 := ba_lt l 3
          have e7 := u8_and127' l 3
          obtain ⟨m, hm⟩ : ∃ m, m = ba l 3 % 128 := ⟨_, rfl⟩
          have hst := take_in (T := 16384) 3 2097152 4 HT.out (by omega) rfl rfl rfl (by have := HN.out; omega) hm
          rw [← hm] at e7
          have hm128 : m < 128 := by omega
          have HM := Lib.hid hm
          have HST := Lib.hid hst
          clear hm hst
          by_cases hlo : ba l 3 < 128
          · have hbig : s + 16384 * m ≤ 2147483647 := by omega
            · go_wp2
              go_ret3
              exact ⟨tri_eq (HST.out.2.1 hlo (by omega)) (by omega) (by omega) rfl, rfl⟩
          · go_wp2
            go_round
            case rel => exact ⟨3, s + 16384 * m, rfl, num_eq (by omega), by omega, by omega, HST.out.2.2 (by omega)⟩
            case measure => simp [intOf]
        · have hcell : w.cell? ⟨b, o + 4, none⟩ = some (.int .u8 (ba l 4 : Int)) := HC.out 4 (by omega)
          have hb1 := ba_lt l 4
          have e7 := u8_and127' l 4
          obtain ⟨m, hm⟩ : ∃ m, m = ba l 4 % 128 := ⟨_, rfl⟩
          have hst := take_in (T := 2097152) 4 268435456 5 HT.out (by omega) rfl rfl rfl (by have := HN.out; omega) hm
          rw [← hm] at e7
          have hm128 : m < 128 := by omega
          have HM := Lib.hid hm
          have HST := Lib.hid hst
          clear hm hst
          by_cases hlo : ba l 4 < 128
          · have hbig : s + 2097152 * m ≤ 2147483647 := by omega
            · go_wp2
              go_ret3
              exact ⟨tri_eq (HST.out.2.1 hlo (by omega)) (by omega) (by omega) rfl, rfl⟩
          · go_wp2
            go_round
            case rel => exact ⟨4, s + 2097152 * m, rfl, num_eq (by omega), by omega, by omega, HST.out.2.2 (by omega)⟩
            case measure => simp [intOf]
      · go_wp2
        go_ret3
        exact ⟨by rw [take_end HT.out (by omega) (by have := HN.out; omega)]; rfl, rfl⟩

set_option maxRecDepth 100000 in
set_option maxHeartbeats 1000000 in
theorem take_gt6 (b o n cap bits F : Nat) (l : List UInt8) (w : World) (hF : Full bits F) (hl : 6 < n) (hcap : n ≤ cap) (_hm : cap ≤ maxLen) (hn : n = l.length) (hc : ∀ j, j < n → w.cell? ⟨b, o + j, none⟩ = some (.int .u8 (ba l j : Int))) :
    Calls Try.prog 22 #[.slice (some ⟨b, o, none⟩) n cap, .int .i64 bits] w fun e w' => e = .returned (tri (takeI F l)) ∧ w = w' := by
  have h1 := hF.lo
  have h8 := hF.hi
  have hF' := hF.le
  have e1 := hF.shl64
  have e5 : decide ((bits : Int) < 1) = false := by simp; omega
  have e6 : decide (8 < (bits : Int)) = false := by simp; omega
  have hc0 : w.cell? ⟨b, o, none⟩ = some (.int .u8 (ba l 0 : Int)) := hc 0 (by omega)
  have hb0 := ba_lt l 0
  have e2 := hF.and64 hb0
  obtain ⟨r, hr⟩ : ∃ r, r = ba l 0 % (F + 1) := ⟨_, rfl⟩
  rw [← hr] at e2
  have hrF : r ≤ F := by rw [hr]; have := Nat.mod_lt (ba l 0) (show 0 < F + 1 by omega); omega
  have HR := Lib.hid hr
  have HN := Lib.hid hn
  have HC := Lib.hid hc
  clear hr hn hc
  unfold maxLen at _hm
  go_enter Try.func22, Try.ntmps22
  by_cases hsm : r < F
  · go_wp2
    go_ret3
    exact ⟨by rw [take_small (by have := HN.out; omega) HR.out hsm]; rfl, rfl⟩
  · go_wp2
    clear e1 e2 e5 e6
    go_loop [8, 39] (TakeRel F l (5)) (fun _ i => 6 - (intOf i).toNat)
    case atStart => exact ⟨0, r, rfl, rfl, by omega, by omega, take_big (by have := HN.out; omega) HR.out hsm⟩
    case round =>
      obtain ⟨k, s, rfl, rfl, hk, hs, ht⟩ := hrel
      have HT := Lib.hid ht
      clear ht
      by_cases hlt : k < 5
      · have hk5 : k = 0 ∨ k = 1 ∨ k = 2 ∨ k = 3 ∨ k = 4 := by omega
        rcases hk5 with rfl | rfl | rfl | rfl | rfl
        · have hcell : w.cell? ⟨b, o + 1, none⟩ = some (.int .u8 (ba l 1 : Int)) := HC.out 1 (by omega)
          have hb1 := ba_lt l 1
          have e7 := u8_and127' l 1
          obtain ⟨m, hm⟩ : ∃ m, m = ba l 1 % 128 := ⟨_, rfl⟩
          have hst := take_in (T := 1) 1 128 2 HT.out (by omega) rfl rfl rfl (by have := HN.out; omega) hm
          rw [← hm] at e7
          have hm128 : m < 128 := by omega
          have HM := Lib.hid hm
          have HST := Lib.hid hst
          clear hm hst
          by_cases hlo : ba l 1 < 128
          · have hbig : s + 1 * m ≤ 2147483647 := by omega
            · go_wp2
              go_ret3
              exact ⟨tri_eq (HST.out.2.1 hlo (by omega)) (by omega) (by omega) rfl, rfl⟩
          · go_wp2
            go_round
            case rel => exact ⟨1, s + 1 * m, rfl, num_eq (by omega), by omega, by omega, HST.out.2.2 (by omega)⟩
            case measure => simp [intOf]
        · have hcell : w.cell? ⟨b, o + 2, none⟩ = some (.int .u8 (ba l 2 : Int)) := HC.out 2 (by omega)
          have hb1 := ba_lt l 2
          have e7 := u8_and127' l 2
          obtain ⟨m, hm⟩ : ∃ m, m = ba l 2 % 128 := ⟨_, rfl⟩
          have hst := take_in (T := 128) 2 16384 3 HT.out (by omega) rfl rfl rfl (by have := HN.out; omega) hm
          rw [← hm] at e7
          have hm128 : m < 128 := by omega
          have HM := Lib.hid hm
          have HST := Lib.hid hst
          clear hm hst
          by_cases hlo : ba l 2 < 128
          · have hbig : s + 128 * m ≤ 2147483647 := by omega
            · go_wp2
              go_ret3
              exact ⟨tri_eq (HST.out.2.1 hlo (by omega)) (by omega) (by omega) rfl, rfl⟩
          · go_wp2
            go_round
            case rel => exact ⟨2, s + 128 * m, rfl, num_eq (by omega), by omega, by omega, HST.out.2.2 (by omega)⟩
            case measure => simp [intOf]
        · have hcell : w.cell? ⟨b, o + 3, none⟩ = some (.int .u8 (ba l 3 : Int)) := HC.out 3 (by omega)
          have hb1 := ba_lt l 3
          have e7 := u8_and127' l 3
          obtain ⟨m, hm⟩ : ∃ m, m = ba l 3 % 128 := ⟨_, rfl⟩
          have hst := take_in (T := 16384) 3 2097152 4 HT.out (by omega) rfl rfl rfl (by have := HN.out; omega) hm
          rw [← hm] at e7
          have hm128 : m < 128 := by omega
          have HM := Lib.hid hm
          have HST := Lib.hid hst
          clear hm hst
          by_cases hlo : ba l 3 < 128
          · have hbig : s + 16384 * m ≤ 2147483647 := by omega
            · go_wp2
              go_ret3
              exact ⟨tri_eq (HST.out.2.1 hlo (by omega)) (by omega) (by omega) rfl, rfl⟩
          · go_wp2
            go_round
            case rel => exact ⟨3, s + 16384 * m, rfl, num_eq (by omega), by omega, by omega, HST.out.2.2 (by omega)⟩
            case measure => simp [intOf]
        · have hcell : w.cell? ⟨b, o + 4, none⟩ = some (.int .u8 (ba l 4 : Int)) := HC.out 4 (by omega)
          have hb1 := ba_lt l 4
          have e7 := u8_and127' l 4
          obtain ⟨m, hm⟩ : ∃ m, m = ba l 4 % 128 := ⟨_, rfl⟩
          have hst := take_in (T := 2097152) 4 268435456 5 HT.out (by omega) rfl rfl rfl (by have := HN.out; omega) hm
          rw [← hm] at e7
          have hm128 : m < 128 := by omega
          have HM := Lib.hid hm
          have HST := Lib.hid hst
          clear hm hst
          by_cases hlo : ba l 4 < 128
          · have hbig : s + 2097152 * m ≤ 2147483647 := by omega
            · go_wp2
              go_ret3
              exact ⟨tri_eq (HST.out.2.1 hlo (by omega)) (by omega) (by omega) rfl, rfl⟩
          · go_wp2
            go_round
            case rel => exact ⟨4, s + 2097152 * m, rfl, num_eq (by omega), by omega, by omega, HST.out.2.2 (by omega)⟩
            case measure => simp [intOf]
        · have hcell : w.cell? ⟨b, o + 5, none⟩ = some (.int .u8 (ba l 5 : Int)) := HC.out 5 (by omega)
          have hb1 := ba_lt l 5
          have e7 := u8_and127' l 5
          obtain ⟨m, hm⟩ : ∃ m, m = ba l 5 % 128 := ⟨_, rfl⟩
          have hst := take_in (T := 268435456) 5 34359738368 6 HT.out (by omega) rfl rfl rfl (by have := HN.out; omega) hm
          rw [← hm] at e7
          have hm128 : m < 128 := by omega
          have HM := Lib.hid hm
          have HST := Lib.hid hst
          clear hm hst
          by_cases hlo : ba l 5 < 128
          · by_cases hbig : 2147483647 < s + 268435456 * m
            · go_wp2
              go_ret3
              exact ⟨tri_eq (HST.out.1 hlo (by omega)) rfl rfl rfl, rfl⟩
            · go_wp2
              go_ret3
              exact ⟨tri_eq (HST.out.2.1 hlo (by omega)) (by omega) (by omega) rfl, rfl⟩
          · go_wp2
            go_round
            case rel => exact ⟨5, s + 268435456 * m, rfl, num_eq (by omega), by omega, by omega, HST.out.2.2 (by omega)⟩
            case measure => simp [intOf]
      · go_wp2
        go_ret3
        obtain rfl : k = 5 := by omega
        exact ⟨by rw [take_full HT.out]; rfl, rfl⟩
set_option maxRecDepth 100000 in
set_option maxHeartbeats 1000000 in
theorem take_eq6 (b o cap bits F : Nat) (l : List UInt8) (w : World) (hF : Full bits F) (hcap : 6 ≤ cap) (_hm : cap ≤ maxLen) (hn : 6 = l.length) (hc : ∀ j, j < 6 → w.cell? ⟨b, o + j, none⟩ = some (.int .u8 (ba l j : Int))) :
    Calls Try.prog 22 #[.slice (some ⟨b, o, none⟩) 6 cap, .int .i64 bits] w fun e w' => e = .returned (tri (takeI F l)) ∧ w = w' := by
  have h1 := hF.lo
  have h8 := hF.hi
  have hF' := hF.le
  have e1 := hF.shl64
  have e5 : decide ((bits : Int) < 1) = false := by simp; omega
  have e6 : decide (8 < (bits : Int)) = false := by simp; omega
  have hc0 : w.cell? ⟨b, o, none⟩ = some (.int .u8 (ba l 0 : Int)) := hc 0 (by omega)
  have hb0 := ba_lt l 0
  have e2 := hF.and64 hb0
  obtain ⟨r, hr⟩ : ∃ r, r = ba l 0 % (F + 1) := ⟨_, rfl⟩
  rw [← hr] at e2
  have hrF : r ≤ F := by rw [hr]; have := Nat.mod_lt (ba l 0) (show 0 < F + 1 by omega); omega
  have HR := Lib.hid hr
  have HN := Lib.hid hn
  have HC := Lib.hid hc
  clear hr hn hc
  unfold maxLen at _hm
  go_enter Try.func22, Try.ntmps22
  by_cases hsm : r < F
  · go_wp2
    go_ret3
    exact ⟨by rw [take_small (by have := HN.out; omega) HR.out hsm]; rfl, rfl⟩
  · go_wp2
    clear e1 e2 e5 e6
    go_loop [8, 39] (TakeRel F l (5)) (fun _ i => 6 - (intOf i).toNat)
    case atStart => exact ⟨0, r, rfl, rfl, by omega, by omega, take_big (by have := HN.out; omega) HR.out hsm⟩
    case round =>
      obtain ⟨k, s, rfl, rfl, hk, hs, ht⟩ := hrel
      have HT := Lib.hid ht
      clear ht
      by_cases hlt : k < 5
      · have hk5 : k = 0 ∨ k = 1 ∨ k = 2 ∨ k = 3 ∨ k = 4 := by omega
        rcases hk5 with rfl | rfl | rfl | rfl | rfl
        · have hcell : w.cell? ⟨b, o + 1, none⟩ = some (.int .u8 (ba l 1 : Int)) := HC.out 1 (by omega)
          have hb1 := ba_lt l 1
          have e7 := u8_and127' l 1
          obtain ⟨m, hm⟩ : ∃ m, m = ba l 1 % 128 := ⟨_, rfl⟩
          have hst := take_in (T := 1) 1 128 2 HT.out (by omega) rfl rfl rfl (by have := HN.out; omega) hm
          rw [← hm] at e7
          have hm128 : m < 128 := by omega
          have HM := Lib.hid hm
          have HST := Lib.hid hst
          clear hm hst
          by_cases hlo : ba l 1 < 128
          · have hbig : s + 1 * m ≤ 2147483647 := by omega
            · go_wp2
              go_ret3
              exact ⟨tri_eq (HST.out.2.1 hlo (by omega)) (by omega) (by omega) rfl, rfl⟩
          · go_wp2
            go_round
            case rel => exact ⟨1, s + 1 * m, rfl, num_eq (by omega), by omega, by omega, HST.out.2.2 (by omega)⟩
            case measure => simp [intOf]
        · have hcell : w.cell? ⟨b, o + 2, none⟩ = some (.int .u8 (ba l 2 : Int)) := HC.out 2 (by omega)
          have hb1 := ba_lt l 2
          have e7 := u8_and127' l 2
          obtain ⟨m, hm⟩ : ∃ m, m = ba l 2 % 128 := ⟨_, rfl⟩
          have hst := take_in (T := 128) 2 16384 3 HT.out (by omega) rfl rfl rfl (by have := HN.out; omega) hm
          rw [← hm] at e7
          have hm128 : m < 128 := by omega
          have HM := Lib.hid hm
          have HST := Lib.hid hst
          clear hm hst
          by_cases hlo : ba l 2 < 128
          · have hbig : s + 128 * m ≤ 2147483647 := by omega
            · go_wp2
              go_ret3
              exact ⟨tri_eq (HST.out.2.1 hlo (by omega)) (by omega) (by omega) rfl, rfl⟩
          · go_wp2
            go_round
            case rel => exact ⟨2, s + 128 * m, rfl, num_eq (by omega), by omega, by omega, HST.out.2.2 (by omega)⟩
            case measure => simp [intOf]
        · have hcell : w.cell? ⟨b, o + 3, none⟩ = some (.int .u8 (ba l 3 : Int)) := HC.out 3 (by omega)
          have hb1 := ba_lt l 3
          have e7 := u8_and127' l 3
          obtain ⟨m, hm⟩ : ∃ m, m = ba l 3 % 128 := ⟨_, rfl⟩
          have hst := take_in (T := 16384) 3 2097152 4 HT.out (by omega) rfl rfl rfl (by have := HN.out; omega) hm
          rw [← hm] at e7
          have hm128 : m < 128 := by omega
          have HM := Lib.hid hm
          have HST := Lib.hid hst
          clear hm hst
          by_cases hlo : ba l 3 < 128
          · have hbig : s + 16384 * m ≤ 2147483647 := by omega
            · go_wp2
              go_ret3
              exact ⟨tri_eq (HST.out.2.1 hlo (by omega)) (by omega) (by omega) rfl, rfl⟩
          · go_wp2
            go_round
            case rel => exact ⟨3, s + 16384 * m, rfl, num_eq (by omega), by omega, by omega, HST.out.2.2 (by omega)⟩
            case measure => simp [intOf]
        · have hcell : w.cell? ⟨b, o + 4, none⟩ = some (.int .u8 (ba l 4 : Int)) := HC.out 4 (by omega)
          have hb1 := ba_lt l 4
          have e7 := u8_and127' l 4
          obtain ⟨m, hm⟩ : ∃ m, m = ba l 4 % 128 := ⟨_, rfl⟩
          have hst := take_in (T := 2097152) 4 268435456 5 HT.out (by omega) rfl rfl rfl (by have := HN.out; omega) hm
          rw [← hm] at e7
          have hm128 : m < 128 := by omega
          have HM := Lib.hid hm
          have HST := Lib.hid hst
          clear hm hst
          by_cases hlo : ba l 4 < 128
          · have hbig : s + 2097152 * m ≤ 2147483647 := by omega
            · go_wp2
              go_ret3
              exact ⟨tri_eq (HST.out.2.1 hlo (by omega)) (by omega) (by omega) rfl, rfl⟩
          · go_wp2
            go_round
            case rel => exact ⟨4, s + 2097152 * m, rfl, num_eq (by omega), by omega, by omega, HST.out.2.2 (by omega)⟩
            case measure => simp [intOf]
        · have hcell : w.cell? ⟨b, o + 5, none⟩ = some (.int .u8 (ba l 5 : Int)) := HC.out 5 (by omega)
          have hb1 := ba_lt l 5
          have e7 := u8_and127' l 5
          obtain ⟨m, hm⟩ : ∃ m, m = ba l 5 % 128 := ⟨_, rfl⟩
          have hst := take_in (T := 268435456) 5 34359738368 6 HT.out (by omega) rfl rfl rfl (by have := HN.out; omega) hm
          rw [← hm] at e7
          have hm128 : m < 128 := by omega
          have HM := Lib.hid hm
          have HST := Lib.hid hst
          clear hm hst
          by_cases hlo : ba l 5 < 128
          · by_cases hbig : 2147483647 < s + 268435456 * m
            · go_wp2
              go_ret3
              exact ⟨tri_eq (HST.out.1 hlo (by omega)) rfl rfl rfl, rfl⟩
            · go_wp2
              go_ret3
              exact ⟨tri_eq (HST.out.2.1 hlo (by omega)) (by omega) (by omega) rfl, rfl⟩
          · go_wp2
            go_round
            case rel => exact ⟨5, s + 268435456 * m, rfl, num_eq (by omega), by omega, by omega, HST.out.2.2 (by omega)⟩
            case measure => simp [intOf]
      · go_wp2
        go_ret3
        obtain rfl : k = 5 := by omega
        exact ⟨by rw [take_full HT.out]; rfl, rfl⟩

set_option maxRecDepth 100000 in
set_option maxHeartbeats 1000000 in
theorem take_1 (b o cap bits F : Nat) (l : List UInt8) (w : World) (hF : Full bits F) (hcap : 1 ≤ cap) (_hm : cap ≤ maxLen) (hn : 1 = l.length) (hc : ∀ j, j < 1 → w.cell? ⟨b, o + j, none⟩ = some (.int .u8 (ba l j : Int))) :
    Calls Try.prog 22 #[.slice (some ⟨b, o, none⟩) 1 cap, .int .i64 bits] w fun e w' => e = .returned (tri (takeI F l)) ∧ w = w' := by
  have h1 := hF.lo
  have h8 := hF.hi
  have hF' := hF.le
  have e1 := hF.shl64
  have e5 : decide ((bits : Int) < 1) = false := by simp; omega
  have e6 : decide (8 < (bits : Int)) = false := by simp; omega
  have hc0 : w.cell? ⟨b, o, none⟩ = some (.int .u8 (ba l 0 : Int)) := hc 0 (by omega)
  have hb0 := ba_lt l 0
  have e2 := hF.and64 hb0
  obtain ⟨r, hr⟩ : ∃ r, r = ba l 0 % (F + 1) := ⟨_, rfl⟩
  rw [← hr] at e2
  have hrF : r ≤ F := by rw [hr]; have := Nat.mod_lt (ba l 0) (show 0 < F + 1 by omega); omega
  have HR := Lib.hid hr
  have HN := Lib.hid hn
  clear hr hn hc
  unfold maxLen at _hm
  go_enter Try.func22, Try.ntmps22
  by_cases hsm : r < F
  · go_wp2
    go_ret3
    exact ⟨by rw [take_small (by have := HN.out; omega) HR.out hsm]; rfl, rfl⟩
  · by_cases hc1 : cap = 1
    · subst hc1
      go_wp2
      refine wp_loop_rounds 1 ?_
      rw [rounds_succ]
      go_wp2
      go_ret3
      exact ⟨by rw [take_end (take_big (by have := HN.out; omega) HR.out hsm) (by omega) (by have := HN.out; omega)]; rfl, rfl⟩
    · go_wp2
      refine wp_loop_rounds 1 ?_
      rw [rounds_succ]
      go_wp2
      go_ret3
      exact ⟨by rw [take_end (take_big (by have := HN.out; omega) HR.out hsm) (by omega) (by have := HN.out; omega)]; rfl, rfl⟩

/-- TakeInt, whatever the bytes: a prefix of 1 to 8 bits. -/
theorem take_any {A : Option Addr} {B n cap bits F : Nat} {l : List UInt8} {w : World} (hF : Full bits F) (hr : Rd w B 1 A n (bvs l)) (hcap : n ≤ cap) (hm : cap ≤ maxLen) :
    Calls Try.prog 22 #[.slice A n cap, .int .i64 bits] w fun e w' => e = .returned (tri (takeI F l)) ∧ w = w' := by
  rcases Nat.eq_zero_or_pos n with rfl | hn
  · have hl := hr.blen
    have hl0 : l = [] := List.eq_nil_of_length_eq_zero hl
    subst hl0
    have h1 := hF.lo
    have h8 := hF.hi
    clear hr hl
    go_enter Try.func22, Try.ntmps22
    go_wp2
    go_ret3
    exact ⟨rfl, rfl⟩
  · obtain ⟨hl, b, o, rfl, -, hc⟩ := hr.bas hn
    rcases Nat.lt_trichotomy n 6 with h6 | h6 | h6
    · rcases Nat.lt_or_ge 1 n with h1 | h1
      · exact take_lt6 b o n cap bits F l w hF h1 h6 hcap hm hl.symm hc
      · obtain rfl : n = 1 := by omega
        exact take_1 b o cap bits F l w hF hcap hm hl.symm hc
    · subst h6
      exact take_eq6 b o cap bits F l w hF hcap hm hl.symm hc
    · exact take_gt6 b o n cap bits F l w hF h6 hcap hm hl.symm hc
end Go.Proofs.Ytfcgacjonekfaaa
