/- 10 texts in one: Take, RefPut, Laws3a, HuffLen, HuffOpen, HuffCodesPlain, HuffRef, HuffCode, HuffEnc, HuffSize. -/
import Derived.Test.YthpieiipddfpjaaM3
import Derived.Test.YthpieiipddfpjaaM1
import Derived.Great.BuildSlice
import Derived.Great.Walk
import Derived.Great.Ranges
import Derived.Deep.QuietTactic
import Derived.BigQuiet
import Derived.Deep.RegionLaw
/- The walk of prefix.TakeInt. -/
namespace Go.Proofs.Ythpieiipddfpjaa
open Go.RowKit

def TakeRel (F : Nat) (l : List UInt8) (m : Nat) (x i : Value) : Prop :=
  ∃ k s : Nat, i = .int .i64 k ∧ x = .int .i64 s ∧ k ≤ m ∧ s ≤ 254 + 128 ^ k ∧ takeI F l = takeTail (5 - k) (k + 1) s (128 ^ k) (l.drop (k + 1))

theorem u8_and127' (l : List UInt8) (k : Nat) : Go.bits .and .u8 (ba l k : Int) 127 = ((ba l k % 128 : Nat) : Int) := u8_and127 _
theorem tri_eq {a b c : Int} {r : Nat × Nat × Nat} {x y z : Nat} (h : r = (x, y, z)) (h1 : a = x) (h2 : b = y) (h3 : c = z) : Ending.returned (.tuple #[.int .i64 a, .int .i64 b, .int .i64 c]) = .returned (tri r) := by
  subst h h1 h2 h3; rfl
theorem num_eq {k : IntKind} {a b : Int} (h : a = b) : Value.int k a = .int k b := by rw [h]

set_option maxRecDepth 100000 in
set_option maxHeartbeats 1000000 in
theorem take_lt6 (b o n cap bits F : Nat) (l : List UInt8) (w : World) (hF : Full bits F) (hl : 1 < n) (hl5 : n < 6) (hcap : n ≤ cap) (_hm : cap ≤ maxLen) (hn : n = l.length) (hc : ∀ j, j < n → w.cell? ⟨b, o + j, none⟩ = some (.int .u8 (ba l j : Int))) :
    Calls Try.prog 69 #[.slice (some ⟨b, o, none⟩) n cap, .int .i64 bits] w fun e w' => e = .returned (tri (takeI F l)) ∧ w = w' := by
  have h1 := hF.lo
  have h8 := hF.hi
  have hF' := hF.le
  have e1 := hF.shl64
  have e5 : decide ((bits : Int) < 1) = false := by simp; omega
  have e6 : decide (8 < (bits : Int)) = false := by simp; omega
  have hc0 : w.cell? ⟨b, o, none⟩ = some (.int .u8 (ba l 0 : Int)) := hc 0 (by omega)
  have hb0 := ba_lt l 0
  have e2 := hF.and64 hb0
  obtain ⟨r, hr⟩ : ∃ r, r = ba l 0 % (F + 1) := ⟨_, rfl⟩
  rw [← hr] at e2
  have hrF : r ≤ F := by rw [hr]; have := Nat.mod_lt (ba l 0) (show 0 < F + 1 by omega); omega
  have HR := Lib.hid hr
  have HN := Lib.hid hn
  have HC := Lib.hid hc
  clear hr hn hc
  unfold maxLen at _hm
  go_enter Try.func69, Try.ntmps69
  by_cases hsm : r < F
  · go_wp2
    go_ret3
    exact ⟨by rw [take_small (by have := HN.out; omega) HR.out hsm]; rfl, rfl⟩
  · go_wp2
    clear e1 e2 e5 e6
    go_loop [8, 39] (TakeRel F l (n - 1)) (fun _ i => 6 - (intOf i).toNat)
    case atStart => exact ⟨0, r, rfl, rfl, by omega, by omega, take_big (by have := HN.out; omega) HR.out hsm⟩
    case round =>
      obtain ⟨k, s, rfl, rfl, hk, hs, ht⟩ := hrel
      have HT := Lib.hid ht
      clear ht
      by_cases hlt : k < n - 1
      · have hk5 : k = 0 ∨ k = 1 ∨ k = 2 ∨ k = 3 := by omega
        rcases hk5 with rfl | rfl | rfl | rfl
        · have hcell : w.cell? ⟨b, o + 1, none⟩ = some (.int .u8 (ba l 1 : Int)) := HC.out 1 (by omega)
          have hb1 := ba_lt l 1
          have e7 := u8_and127' l 1
          obtain ⟨m, hm⟩ : ∃ m, m = ba l 1 % 128 := ⟨_, rfl⟩
          have hst := take_in (T := 1) 1 128 2 HT.out (by omega) rfl rfl rfl (by have := HN.out; omega) hm
          rw [← hm] at e7
          have hm128 : m < 128 := by omega
          have HM := Lib.hid hm
          have HST := Lib.hid hst
          clear hm hst
          by_cases hlo : ba l 1 < 128
          · have hbig : s + 1 * m ≤ 2147483647 := by omega
            · go_wp2
              go_ret3
              exact ⟨tri_eq (HST.out.2.1 hlo (by omega)) (by omega) (by omega) rfl, rfl⟩
          · go_wp2
            go_round
            case rel => exact ⟨1, s + 1 * m, rfl, num_eq (by omega), by omega, by omega, HST.out.2.2 (by omega)⟩
            case measure => simp [intOf]
        · have hcell : w.cell? ⟨b, o + 2, none⟩ = some (.int .u8 (ba l 2 : Int)) := HC.out 2 (by omega)
          have hb1 := ba_lt l 2
          have e7 := u8_and127' l 2
          obtain ⟨m, hm⟩ : ∃ m, m = ba l 2 % 128 := ⟨_, rfl⟩
          have hst := take_in (T := 128) 2 16384 3 HT.out (by omega) rfl rfl rfl (by have := HN.out; omega) hm
          rw [← hm] at e7
          have hm128 : m < 128 := by omega
          have HM := Lib.hid hm
          have HST := Lib.hid hst
          clear hm hst
          by_cases hlo : ba l 2 < 128
          · have hbig : s + 128 * m ≤ 2147483647 := by omega
            · go_wp2
              go_ret3
              exact ⟨tri_eq (HST.out.2.1 hlo (by omega)) (by omega) (by omega) rfl, rfl⟩
          · go_wp2
            go_round
            case rel => exact ⟨2, s + 128 * m, rfl, num_eq (by omega), by omega, by omega, HST.out.2.2 (by omega)⟩
            case measure => simp [intOf]
        · have hcell : w.cell? ⟨b, o + 3, none⟩ = some (.int .u8 (ba l 3 : Int)) := HC.out 3 (by omega)
          have hb1 := ba_lt l 3
          have e7 := u8_and127' l 3
          obtain ⟨m, hm⟩ : ∃ m, m = ba l 3 % 128 := ⟨_, rfl⟩
          have hst := take_in (T := 16384) 3 2097152 4 HT.out (by omega) rfl rfl rfl (by have := HN.out; omega) hm
          rw [← hm] at e7
          have hm128 : m < 128 := by omega
          have HM := Lib.hid hm
          have HST := Lib.hid hst
          clear hm hst
          by_cases hlo : ba l 3 < 128
          · have hbig : s + 16384 * m ≤ 2147483647 := by omega
            · go_wp2
              go_ret3
              exact ⟨tri_eq (HST.out.2.1 hlo (by omega)) (by omega) (by omega) rfl, rfl⟩
          · go_wp2
            go_round
            case rel => exact ⟨3, s + 16384 * m, rfl, num_eq (by omega), by omega, by omega, HST.out.2.2 (by omega)⟩
            case measure => simp [intOf]
        · have hcell : w.cell? ⟨b, o + 4, none⟩ = some (.int .u8 (ba l 4 : Int)) := HC.out 4 (by omega)
          have hb1 := ba_lt l 4
          have e7 := u8_and127' l 4
          obtain ⟨m, hm⟩ : ∃ m, m = ba l 4 % 128 := ⟨_, rfl⟩
          have hst := take_in (T := 2097152) 4 268435456 5 HT.out (by omega) rfl rfl rfl (by have := HN.out; omega) hm
          rw [← hm] at e7
          have hm128 : m < 128 := by omega
          have HM := Lib.hid hm
          have HST := Lib.hid hst
          clear hm hst
          by_cases hlo : ba l 4 < 128
          · have hbig : s + 2097152 * m ≤ 2147483647 := by omega
            · go_wp2
              go_ret3
              exact ⟨tri_eq (HST.out.2.1 hlo (by omega)) (by omega) (by omega) rfl, rfl⟩
          · go_wp2
            go_round
            case rel => exact ⟨4, s + 2097152 * m, rfl, num_eq (by omega), by omega, by omega, HST.out.2.2 (by omega)⟩
            case measure => simp [intOf]
      · go_wp2
        go_ret3
        exact ⟨by rw [take_end HT.out (by omega) (by have := HN.out; omega)]; rfl, rfl⟩

set_option maxRecDepth 100000 in
set_option maxHeartbeats 1000000 in
theorem take_gt6 (b o n cap bits F : Nat) (l : List UInt8) (w : World) (hF : Full bits F) (hl : 6 < n) (hcap : n ≤ cap) (_hm : cap ≤ maxLen) (hn : n = l.length) (hc : ∀ j, j < n → w.cell? ⟨b, o + j, none⟩ = some (.int .u8 (ba l j : Int))) :
    Calls Try.prog 69 #[.slice (some ⟨b, o, none⟩) n cap, .int .i64 bits] w fun e w' => e = .returned (tri (takeI F l)) ∧ w = w' := by
  have h1 := hF.lo
  have h8 := hF.hi
  have hF' := hF.le
  have e1 := hF.shl64
  have e5 : decide ((bits : Int) < 1) = false := by simp; omega
  have e6 : decide (8 < (bits : Int)) = false := by simp; omega
  have hc0 : w.cell? ⟨b, o, none⟩ = some (.int .u8 (ba l 0 : Int)) := hc 0 (by omega)
  have hb0 := ba_lt l 0
  have e2 := hF.and64 hb0
  obtain ⟨r, hr⟩ : ∃ r, r = ba l 0 % (F + 1) := ⟨_, rfl⟩
  rw [← hr] at e2
  have hrF : r ≤ F := by rw [hr]; have := Nat.mod_lt (ba l 0) (show 0 < F + 1 by omega); omega
  have HR := Lib.hid hr
  have HN := Lib.hid hn
  have HC := Lib.hid hc
  clear hr hn hc
  unfold maxLen at _hm
  go_enter Try.func69, Try.ntmps69
  by_cases hsm : r < F
  · go_wp2
    go_ret3
    exact ⟨by rw [take_small (by have := HN.out; omega) HR.out hsm]; rfl, rfl⟩
  · go_wp2
    clear e1 e2 e5 e6
    go_loop [8, 39] (TakeRel F l (5)) (fun _ i => 6 - (intOf i).toNat)
    case atStart => exact ⟨0, r, rfl, rfl, by omega, by omega, take_big (by have := HN.out; omega) HR.out hsm⟩
    case round =>
      obtain ⟨k, s, rfl, rfl, hk, hs, ht⟩ := hrel
      have HT := Lib.hid ht
      clear ht
      by_cases hlt : k < 5
      · have hk5 : k = 0 ∨ k = 1 ∨ k = 2 ∨ k = 3 ∨ k = 4 := by omega
        rcases hk5 with rfl | rfl | rfl | rfl | rfl
        · have hcell : w.cell? ⟨b, o + 1, none⟩ = some (.int .u8 (ba l 1 : Int)) := HC.out 1 (by omega)
          have hb1 := ba_lt l 1
          have e7 := u8_and127' l 1
          obtain ⟨m, hm⟩ : ∃ m, m = ba l 1 % 128 := ⟨_, rfl⟩
          have hst := take_in (T := 1) 1 128 2 HT.out (by omega) rfl rfl rfl (by have := HN.out; omega) hm
          rw [← hm] at e7
          have hm128 : m < 128 := by omega
          have HM := Lib.hid hm
          have HST := Lib.hid hst
          clear hm hst
          by_cases hlo : ba l 1 < 128
          · have hbig : s + 1 * m ≤ 2147483647 := by omega
            · go_wp2
              go_ret3
              exact ⟨tri_eq (HST.out.2.1 hlo (by omega)) (by omega) (by omega) rfl, rfl⟩
          · go_wp2
            go_round
            case rel => exact ⟨1, s + 1 * m, rfl, num_eq (by omega), by omega, by omega, HST.out.2.2 (by omega)⟩
            case measure => simp [intOf]
        · have hcell : w.cell? ⟨b, o + 2, none⟩ = some (.int .u8 (ba l 2 : Int)) := HC.out 2 (by omega)
          have hb1 := ba_lt l 2
          have e7 := u8_and127' l 2
          obtain ⟨m, hm⟩ : ∃ m, m = ba l 2 % 128 := ⟨_, rfl⟩
          have hst := take_in (T := 128) 2 16384 3 HT.out (by omega) rfl rfl rfl (by have := HN.out; omega) hm
          rw [← hm] at e7
          have hm128 : m < 128 := by omega
          have HM := Lib.hid hm
          have HST := Lib.hid hst
          clear hm hst
          by_cases hlo : ba l 2 < 128
          · have hbig : s + 128 * m ≤ 2147483647 := by omega
            · go_wp2
              go_ret3
              exact ⟨tri_eq (HST.out.2.1 hlo (by omega)) (by omega) (by omega) rfl, rfl⟩
          · go_wp2
            go_round
            case rel => exact ⟨2, s + 128 * m, rfl, num_eq (by omega), by omega, by omega, HST.out.2.2 (by omega)⟩
            case measure => simp [intOf]
        · have hcell : w.cell? ⟨b, o + 3, none⟩ = some (.int .u8 (ba l 3 : Int)) := HC.out 3 (by omega)
          have hb1 := ba_lt l 3
          have e7 := u8_and127' l 3
          obtain ⟨m, hm⟩ : ∃ m, m = ba l 3 % 128 := ⟨_, rfl⟩
          have hst := take_in (T := 16384) 3 2097152 4 HT.out (by omega) rfl rfl rfl (by have := HN.out; omega) hm
          rw [← hm] at e7
          have hm128 : m < 128 := by omega
          have HM := Lib.hid hm
          have HST := Lib.hid hst
          clear hm hst
          by_cases hlo : ba l 3 < 128
          · have hbig : s + 16384 * m ≤ 2147483647 := by omega
            · go_wp2
              go_ret3
              exact ⟨tri_eq (HST.out.2.1 hlo (by omega)) (by omega) (by omega) rfl, rfl⟩
          · go_wp2
            go_round
            case rel => exact ⟨3, s + 16384 * m, rfl, num_eq (by omega), by omega, by omega, HST.out.2.2 (by omega)⟩
            case measure => simp [intOf]
        · have hcell : w.cell? ⟨b, o + 4, none⟩ = some (.int .u8 (ba l 4 : Int)) := HC.out 4 (by omega)
          have hb1 := ba_lt l 4
          have e7 := u8_and127' l 4
          obtain ⟨m, hm⟩ : ∃ m, m = ba l 4 % 128 := ⟨_, rfl⟩
          have hst := take_in (T := 2097152) 4 268435456 5 HT.out (by omega) rfl rfl rfl (by have := HN.out; omega) hm
          rw [← hm] at e7
          have hm128 : m < 128 := by omega
          have HM := Lib.hid hm
          have HST := Lib.hid hst
          clear hm hst
          by_cases hlo : ba l 4 < 128
          · have hbig : s + 2097152 * m ≤ 2147483647 := by omega
            · go_wp2
              go_ret3
              exact ⟨tri_eq (HST.out.2.1 hlo (by omega)) (by omega) (by omega) rfl, rfl⟩
          · go_wp2
            go_round
            case rel => exact ⟨4, s + 2097152 * m, rfl, num_eq (by omega), by omega, by omega, HST.out.2.2 (by omega)⟩
            case measure => simp [intOf]
        · have hcell : w.cell? ⟨b, o + 5, none⟩ = some (.int .u8 (ba l 5 : Int)) := HC.out 5 (by omega)
          have hb1 := ba_lt l 5
          have e7 := u8_and127' l 5
          obtain ⟨m, hm⟩ : ∃ m, m = ba l 5 % 128 := ⟨_, rfl⟩
          have hst := take_in (T := 268435456) 5 34359738368 6 HT.out (by omega) rfl rfl rfl (by have := HN.out; omega) hm
          rw [← hm] at e7
          have hm128 : m < 128 := by omega
          have HM := Lib.hid hm
          have HST := Lib.hid hst
          clear hm hst
          by_cases hlo : ba l 5 < 128
          · by_cases hbig : 2147483647 < s + 268435456 * m
            · go_wp2
              go_ret3
              exact ⟨tri_eq (HST.out.1 hlo (by omega)) rfl rfl rfl, rfl⟩
            · go_wp2
              go_ret3
              exact ⟨tri_eq (HST.out.2.1 hlo (by omega)) (by omega) (by omega) rfl, rfl⟩
          · go_wp2
            go_round
            case rel => exact ⟨5, s + 268435456 * m, rfl, num_eq (by omega), by omega, by omega, HST.out.2.2 (by omega)⟩
            case measure => simp [intOf]
      · go_wp2
        go_ret3
        obtain rfl : k = 5 := by omega
        exact ⟨by rw [take_full HT.out]; rfl, rfl⟩
set_option maxRecDepth 100000 in
set_option maxHeartbeats 1000000 in
theorem take_eq6 (b o cap bits F : Nat) (l : List UInt8) (w : World) (hF : Full bits F) (hcap : 6 ≤ cap) (_hm : cap ≤ maxLen) (hn : 6 = l.length) (hc : ∀ j, j < 6 → w.cell? ⟨b, o + j, none⟩ = some (.int .u8 (ba l j : Int))) :
    Calls Try.prog 69 #[.slice (some ⟨b, o, none⟩) 6 cap, .int .i64 bits] w fun e w' => e = .returned (tri (takeI F l)) ∧ w = w' := by
  have h1 := hF.lo
  have h8 := hF.hi
  have hF' := hF.le
  have e1 := hF.shl64
  have e5 : decide ((bits : Int) < 1) = false := by simp; omega
  have e6 : decide (8 < (bits : Int)) = false := by simp; omega
  have hc0 : w.cell? ⟨b, o, none⟩ = some (.int .u8 (ba l 0 : Int)) := hc 0 (by omega)
  have hb0 := ba_lt l 0
  have e2 := hF.and64 hb0
  obtain ⟨r, hr⟩ : ∃ r, r = ba l 0 % (F + 1) := ⟨_, rfl⟩
  rw [← hr] at e2
  have hrF : r ≤ F := by rw [hr]; have := Nat.mod_lt (ba l 0) (show 0 < F + 1 by omega); omega
  have HR := Lib.hid hr
  have HN := Lib.hid hn
  have HC := Lib.hid hc
  clear hr hn hc
  unfold maxLen at _hm
  go_enter Try.func69, Try.ntmps69
  by_cases hsm : r < F
  · go_wp2
    go_ret3
    exact ⟨by rw [take_small (by have := HN.out; omega) HR.out hsm]; rfl, rfl⟩
  · go_wp2
    clear e1 e2 e5 e6
    go_loop [8, 39] (TakeRel F l (5)) (fun _ i => 6 - (intOf i).toNat)
    case atStart => exact ⟨0, r, rfl, rfl, by omega, by omega, take_big (by have := HN.out; omega) HR.out hsm⟩
    case round =>
      obtain ⟨k, s, rfl, rfl, hk, hs, ht⟩ := hrel
      have HT := Lib.hid ht
      clear ht
      by_cases hlt : k < 5
      · have hk5 : k = 0 ∨ k = 1 ∨ k = 2 ∨ k = 3 ∨ k = 4 := by omega
        rcases hk5 with rfl | rfl | rfl | rfl | rfl
        · have hcell : w.cell? ⟨b, o + 1, none⟩ = some (.int .u8 (ba l 1 : Int)) := HC.out 1 (by omega)
          have hb1 := ba_lt l 1
          have e7 := u8_and127' l 1
          obtain ⟨m, hm⟩ : ∃ m, m = ba l 1 % 128 := ⟨_, rfl⟩
          have hst := take_in (T := 1) 1 128 2 HT.out (by omega) rfl rfl rfl (by have := HN.out; omega) hm
          rw [← hm] at e7
          have hm128 : m < 128 := by omega
          have HM := Lib.hid hm
          have HST := Lib.hid hst
          clear hm hst
          by_cases hlo : ba l 1 < 128
          · have hbig : s + 1 * m ≤ 2147483647 := by omega
            · go_wp2
              go_ret3
              exact ⟨tri_eq (HST.out.2.1 hlo (by omega)) (by omega) (by omega) rfl, rfl⟩
          · go_wp2
            go_round
            case rel => exact ⟨1, s + 1 * m, rfl, num_eq (by omega), by omega, by omega, HST.out.2.2 (by omega)⟩
            case measure => simp [intOf]
        · have hcell : w.cell? ⟨b, o + 2, none⟩ = some (.int .u8 (ba l 2 : Int)) := HC.out 2 (by omega)
          have hb1 := ba_lt l 2
          have e7 := u8_and127' l 2
          obtain ⟨m, hm⟩ : ∃ m, m = ba l 2 % 128 := ⟨_, rfl⟩
          have hst := take_in (T := 128) 2 16384 3 HT.out (by omega) rfl rfl rfl (by have := HN.out; omega) hm
          rw [← hm] at e7
          have hm128 : m < 128 := by omega
          have HM := Lib.hid hm
          have HST := Lib.hid hst
          clear hm hst
          by_cases hlo : ba l 2 < 128
          · have hbig : s + 128 * m ≤ 2147483647 := by omega
            · go_wp2
              go_ret3
              exact ⟨tri_eq (HST.out.2.1 hlo (by omega)) (by omega) (by omega) rfl, rfl⟩
          · go_wp2
            go_round
            case rel => exact ⟨2, s + 128 * m, rfl, num_eq (by omega), by omega, by omega, HST.out.2.2 (by omega)⟩
            case measure => simp [intOf]
        · have hcell : w.cell? ⟨b, o + 3, none⟩ = some (.int .u8 (ba l 3 : Int)) := HC.out 3 (by omega)
          have hb1 := ba_lt l 3
          have e7 := u8_and127' l 3
          obtain ⟨m, hm⟩ : ∃ m, m = ba l 3 % 128 := ⟨_, rfl⟩
          have hst := take_in (T := 16384) 3 2097152 4 HT.out (by omega) rfl rfl rfl (by have := HN.out; omega) hm
          rw [← hm] at e7
          have hm128 : m < 128 := by omega
          have HM := Lib.hid hm
          have HST := Lib.hid hst
          clear hm hst
          by_cases hlo : ba l 3 < 128
          · have hbig : s + 16384 * m ≤ 2147483647 := by omega
            · go_wp2
              go_ret3
              exact ⟨tri_eq (HST.out.2.1 hlo (by omega)) (by omega) (by omega) rfl, rfl⟩
          · go_wp2
            go_round
            case rel => exact ⟨3, s + 16384 * m, rfl, num_eq (by omega), by omega, by omega, HST.out.2.2 (by omega)⟩
            case measure => simp [intOf]
        · have hcell : w.cell? ⟨b, o + 4, none⟩ = some (.int .u8 (ba l 4 : Int)) := HC.out 4 (by omega)
          have hb1 := ba_lt l 4
          have e7 := u8_and127' l 4
          obtain ⟨m, hm⟩ : ∃ m, m = ba l 4 % 128 := ⟨_, rfl⟩
          have hst := take_in (T := 2097152) 4 268435456 5 HT.out (by omega) rfl rfl rfl (by have := HN.out; omega) hm
          rw [← hm] at e7
          have hm128 : m < 128 := by omega
          have HM := Lib.hid hm
          have HST := Lib.hid hst
          clear hm hst
          by_cases hlo : ba l 4 < 128
          · have hbig : s + 2097152 * m ≤ 2147483647 := by omega
            · go_wp2
              go_ret3
              exact ⟨tri_eq (HST.out.2.1 hlo (by omega)) (by omega) (by omega) rfl, rfl⟩
          · go_wp2
            go_round
            case rel => exact ⟨4, s + 2097152 * m, rfl, num_eq (by omega), by omega, by omega, HST.out.2.2 (by omega)⟩
            case measure => simp [intOf]
        · have hcell : w.cell? ⟨b, o + 5, none⟩ = some (.int .u8 (ba l 5 : Int)) := HC.out 5 (by omega)
          have hb1 := ba_lt l 5
          have e7 := u8_and127' l 5
          obtain ⟨m, hm⟩ : ∃ m, m = ba l 5 % 128 := ⟨_, rfl⟩
          have hst := take_in (T := 268435456) 5 34359738368 6 HT.out (by omega) rfl rfl rfl (by have := HN.out; omega) hm
          rw [← hm] at e7
          have hm128 : m < 128 := by omega
          have HM := Lib.hid hm
          have HST := Lib.hid hst
          clear hm hst
          by_cases hlo : ba l 5 < 128
          · by_cases hbig : 2147483647 < s + 268435456 * m
            · go_wp2
              go_ret3
              exact ⟨tri_eq (HST.out.1 hlo (by omega)) rfl rfl rfl, rfl⟩
            · go_wp2
              go_ret3
              exact ⟨tri_eq (HST.out.2.1 hlo (by omega)) (by omega) (by omega) rfl, rfl⟩
          · go_wp2
            go_round
            case rel => exact ⟨5, s + 268435456 * m, rfl, num_eq (by omega), by omega, by omega, HST.out.2.2 (by omega)⟩
            case measure => simp [intOf]
      · go_wp2
        go_ret3
        obtain rfl : k = 5 := by omega
        exact ⟨by rw [take_full HT.out]; rfl, rfl⟩

set_option maxRecDepth 100000 in
set_option maxHeartbeats 1000000 in
theorem take_1 (b o cap bits F : Nat) (l : List UInt8) (w : World) (hF : Full bits F) (hcap : 1 ≤ cap) (_hm : cap ≤ maxLen) (hn : 1 = l.length) (hc : ∀ j, j < 1 → w.cell? ⟨b, o + j, none⟩ = some (.int .u8 (ba l j : Int))) :
    Calls Try.prog 69 #[.slice (some ⟨b, o, none⟩) 1 cap, .int .i64 bits] w fun e w' => e = .returned (tri (takeI F l)) ∧ w = w' := by
  have h1 := hF.lo
  have h8 := hF.hi
  have hF' := hF.le
  have e1 := hF.shl64
  have e5 : decide ((bits : Int) < 1) = false := by simp; omega
  have e6 : decide (8 < (bits : Int)) = false := by simp; omega
  have hc0 : w.cell? ⟨b, o, none⟩ = some (.int .u8 (ba l 0 : Int)) := hc 0 (by omega)
  have hb0 := ba_lt l 0
  have e2 := hF.and64 hb0
  obtain ⟨r, hr⟩ : ∃ r, r = ba l 0 % (F + 1) := ⟨_, rfl⟩
  rw [← hr] at e2
  have hrF : r ≤ F := by rw [hr]; have := Nat.mod_lt (ba l 0) (show 0 < F + 1 by omega); omega
  have HR := Lib.hid hr
  have HN := Lib.hid hn
  clear hr hn hc
  unfold maxLen at _hm
  go_enter Try.func69, Try.ntmps69
  by_cases hsm : r < F
  · go_wp2
    go_ret3
    exact ⟨by rw [take_small (by have := HN.out; omega) HR.out hsm]; rfl, rfl⟩
  · by_cases hc1 : cap = 1
    · subst hc1
      go_wp2
      refine wp_loop_rounds 1 ?_
      rw [rounds_succ]
      go_wp2
      go_ret3
      exact ⟨by rw [take_end (take_big (by have := HN.out; omega) HR.out hsm) (by omega) (by have := HN.out; omega)]; rfl, rfl⟩
    · go_wp2
      refine wp_loop_rounds 1 ?_
      rw [rounds_succ]
      go_wp2
      go_ret3
      exact ⟨by rw [take_end (take_big (by have := HN.out; omega) HR.out hsm) (by omega) (by have := HN.out; omega)]; rfl, rfl⟩

/-- TakeInt, whatever the bytes: a prefix of 1 to 8 bits. -/
theorem take_any {A : Option Addr} {B n cap bits F : Nat} {l : List UInt8} {w : World} (hF : Full bits F) (hr : Rd w B 1 A n (bvs l)) (hcap : n ≤ cap) (hm : cap ≤ maxLen) :
    Calls Try.prog 69 #[.slice A n cap, .int .i64 bits] w fun e w' => e = .returned (tri (takeI F l)) ∧ w = w' := by
  rcases Nat.eq_zero_or_pos n with rfl | hn
  · have hl := hr.blen
    have hl0 : l = [] := List.eq_nil_of_length_eq_zero hl
    subst hl0
    have h1 := hF.lo
    have h8 := hF.hi
    clear hr hl
    go_enter Try.func69, Try.ntmps69
    go_wp2
    go_ret3
    exact ⟨rfl, rfl⟩
  · obtain ⟨hl, b, o, rfl, -, hc⟩ := hr.bas hn
    rcases Nat.lt_trichotomy n 6 with h6 | h6 | h6
    · rcases Nat.lt_or_ge 1 n with h1 | h1
      · exact take_lt6 b o n cap bits F l w hF h1 h6 hcap hm hl.symm hc
      · obtain rfl : n = 1 := by omega
        exact take_1 b o cap bits F l w hF hcap hm hl.symm hc
    · subst h6
      exact take_eq6 b o cap bits F l w hF hcap hm hl.symm hc
    · exact take_gt6 b o n cap bits F l w hF h6 hcap hm hl.symm hc
end Go.Proofs.Ythpieiipddfpjaa

/- The walk of drawbridgeref03.PutInt: it writes what prefix.PutInt writes. -/
namespace Go.Proofs.Ythpieiipddfpjaa
open Go.RowKit

/-- The doubling loop: behind k rounds the number is 2^k. -/
def DblRel (kd : IntKind) (bits : Nat) (a i : Value) : Prop := ∃ k p : Nat, i = .int .i64 k ∧ a = .int kd p ∧ k ≤ bits ∧ p = 2 ^ k ∧ p ≤ 256
theorem DblRel.next {bits k p : Nat} (h : p = 2 ^ k) (hk : k < bits) (hb : bits ≤ 8) : p * 2 = 2 ^ (k + 1) ∧ p ≤ 128 := by
  subst h
  refine ⟨by rw [Nat.pow_succ], ?_⟩
  exact Nat.pow_le_pow_right (by omega) (show k ≤ 7 by omega)

end Go.Proofs.Ythpieiipddfpjaa

/- The walks of drawbridgeref01.Bytes, drawbridgelaw03.counts, PrefixPuts. -/
namespace Go.Proofs.Ythpieiipddfpjaa
open Go.RowKit

set_option maxHeartbeats 400000 in
theorem bytes_eq {A A' : Option Addr} {B B' n n' c c' : Nat} {l : List UInt8} {w : World} (hr : Rd w B 1 A n (bvs l)) (hr' : Rd w B' 1 A' n' (bvs l)) :
    Calls Try.prog 34 #[.slice A n c, .slice A' n' c'] w fun e w' => e = .returned (.bool true) ∧ w = w' := by
  have e1 := run_str Try.underlying52 Try.underlying5 Try.underlying9 hr c
  have e2 := run_str Try.underlying52 Try.underlying5 Try.underlying9 hr' c'
  clear hr hr'
  go_enter Try.func34, Try.ntmps34
  go_wp2
  go_ret
  exact ⟨ret_v (by simp), rfl⟩

/-- The lowest bits of flags, one by one. -/
def LowRel (f bits : Nat) (low i : Value) : Prop := ∃ k p : Nat, i = .int .i64 k ∧ low = .int .u8 p ∧ k ≤ bits ∧ (k ≤ 7 → p = 2 ^ k) ∧ 1 ≤ p ∧ p ≤ 128 ∧ f % 2 ^ k = 0

theorem low_next {f k q : Nat} (h0 : f % 2 ^ k = 0) (hq : q = f / 2 ^ k) (h1 : q % 2 = 0) : f % 2 ^ (k + 1) = 0 := by
  subst hq
  rw [Nat.mod_pow_succ, h0, h1]; simp

theorem put_ok (f bits n F : Nat) (w : World) (hF : Full bits F) (hf : f < 256) (hfl : f % (F + 1) = 0) (hn32 : n < 4294967296) :
    Calls Try.prog 72 #[.int .u8 f, .int .i64 bits, .int .u32 n] w (RetBE w (putB f F n) 0) := by
  by_cases hn : n < F
  · exact put_small f bits n F w hF hf hfl hn
  · exact put_big f bits n F w hF hf hfl (by omega) hn32

theorem low_zero {f k q B : Nat} (h : f % 2 ^ B = 0) (hk : k < B) (hq : q = f / 2 ^ k) : q % 2 = 0 := by
  subst hq
  obtain ⟨d, rfl⟩ : ∃ d, B = k + 1 + d := ⟨B - (k + 1), by omega⟩
  have h2 : f % 2 ^ (k + 1) = 0 := by
    have := Nat.mod_mod_of_dvd f (show 2 ^ (k + 1) ∣ 2 ^ (k + 1 + d) from ⟨2 ^ d, by rw [Nat.pow_add]⟩)
    rw [h] at this
    simpa using this.symm
  rw [Nat.mod_pow_succ] at h2
  have hp : 0 < 2 ^ k := Nat.pow_pos (by decide)
  rcases Nat.mod_two_eq_zero_or_one (f / 2 ^ k) with h0 | h0
  · exact h0
  · rw [h0] at h2; omega

end Go.Proofs.Ythpieiipddfpjaa

/- The walk of huff.lengths; a whole array out of a block. -/
namespace Go.Proofs.Ythpieiipddfpjaa
open Go.RowKit

/-- The lengths, as cells. -/
def lensV : List Value := lensN.map fun n : Nat => Value.int .u8 (n : Int)
theorem lensV_ints : lensV = (lensN.map fun n : Nat => (n : Int)).map (Value.int .u8) := by rw [List.map_map]; rfl
theorem lensV_length : lensV.length = 257 := by decide +kernel
theorem lensV_get {i : Nat} (hi : i < 257) : lensV[i]? = some (.int .u8 ((lensN.getD i 0 : Nat) : Int)) := by
  have hl : i < lensN.length := by rw [tab_lengths.1]; exact hi
  simp [lensV, List.getD, List.getElem?_eq_getElem hl]

set_option maxRecDepth 100000 in
set_option maxHeartbeats 1000000 in
theorem lengths_any (w : World) : Calls Try.prog 83 #[] w fun e w' => e = .returned (.agg lensV.toArray) ∧ Below w.heap.size w w' := by
  go_enter Try.func83, Try.ntmps83
  go_step; go_step; go_step
  refine Great.wpList_runTo rfl (some 0) rfl (.pointer (some ⟨w.heap.size, 0, none⟩)) (w.alloc (.cells (Array.replicate 257 (.int .u8 0)) 134)) (by kernel_rfl) ?_
  go_step; go_step; go_step; go_step; go_step
  refine wpList_buildFlatArrTo rfl 134 5 257 _ rfl .u8 (lensN.map fun n : Nat => (n : Int)) (some 1) rfl Try.underlying134 (by kernel_rfl) (by kernel_rfl) (by kernel_rfl) ?_
  rw [← lensV_ints]
  refine wpList_store_rowTo rfl 134 _ _ rfl rfl w.heap.size lensV.toArray rfl rfl 134 (Array.replicate 257 (.int .u8 0)) (heap_alloc_new w _) (by kernel_rfl) (by kernel_rfl) (by kernel_rfl) ?_
  go_wp2_with fail
  refine bodyPost_ret (results_cell_row rfl _ _ w.heap.size 134 lensV.toArray (0, 0) _ rfl (setRow_heap _ _ _ _ _ _ (heap_alloc_new w _)) Try.underlying134 rfl (by kernel_rfl)) rfl ?_
  exact ⟨rfl, ((Below.refl _ _).alloc (Nat.le_refl _) _).trans ⟨rfl, rfl, rfl, by simp, fun k hk => setRow_other _ _ _ _ (by omega)⟩⟩

section
variable {P : Program}
/-- An element of an array that is a value. -/
theorem run_index_arr {t e : TypeId} {n : Nat} {k ki : IntKind} (ht : P.underlying t = some (.array n e)) (he : P.underlying e = some (.int k)) (hsz : (P.info? e).map (·.size) = some 1)
    {cs : List Value} {i : Nat} {v : Value} (w : World) (hi : i < n) (hv : cs[i]? = some v) : (Instr.index t (.agg cs.toArray) (.int ki (i : Int))).run P w = .ok v w := by
  cases hq : P.info? e with
  | none => simp [hq] at hsz
  | some ie =>
    have hs : ie.size = 1 := by simpa [hq] using hsz
    have hag : (isAgg e).run P w = .ok false w := by
      unfold isAgg
      rw [Sem.run_bind, run_underlying he w]
      rfl
    simp [Instr.index, asIntOf, run_underlying ht, sizeOf, typeInfo, hq, hs, part, hag, hi, hv]
/-- A whole array loaded out of the middle of a block. -/
theorem wpList_load_part {ops : Array Oper} {rest : List Oper} {o : Oper} {a : Act} {w : World} {Q : Exit → Act → World → Prop} (ty : TypeId) (x : Operand) (hgd : o.guard = none) (ho : o.op = .load ty x)
    (g off : Nat) (cs : List Value) (d : TypeDesc) (hx : a.eval x = .pointer (some ⟨g, off, none⟩)) (hc : ∀ j v, cs[j]? = some v → w.cell? ⟨g, off + j, none⟩ = some v)
    (hu : P.underlying ty = some d) (hd : (match d with | .struct _ | .array _ _ => true | _ => false) = true) (hi : (P.info? ty).map (·.size) = some cs.length)
    (h : wpList P ops Q rest (a.put o.dst (.agg cs.toArray)) w) : wpList P ops Q (o :: rest) a w := by
  refine wpList_plain hgd fun _ hK => ?_
  have hl : (loadCells ⟨g, off, none⟩ cs.length).run P w = .ok cs.toArray w :=
    run_loadCells_list (P := P) w ⟨g, off, none⟩ cs (fun j v hv => by rw [Addr.add_lit]; exact hc j v hv)
  have hrun : (loadVar ty ⟨g, off, none⟩).run P w = .ok (.agg cs.toArray) w := by
    cases hq : P.info? ty with
    | none => simp [hq] at hi
    | some i =>
      have hs : i.size = cs.length := by simpa [hq] using hi
      have hagg : (isAgg ty).run P w = .ok true w := by
        unfold isAgg
        rw [Sem.run_bind, run_underlying hu w]
        cases d <;> simp_all
      simp [loadVar, Sem.run_bind, hagg, sizeOf, typeInfo, hq, hs, hl]
  unfold Oper.wp execOp
  simp only [ho, hx, Instr.loadAt, Instr.sureAddr, Sem.run_bind, Sem.run_pure, Result.andThen_ok, hrun]
  exact hK _ _ h
end

end Go.Proofs.Ythpieiipddfpjaa

/- The walk of huff.open. -/
namespace Go.Proofs.Ythpieiipddfpjaa
open Go.RowKit

/-- The book's block. -/
def Book (w : World) (B : Nat) (m : List Nat) (st : OSt) : Prop := w.heap[B]? = some (.cells (blk m st).toArray 140 (0, 0))
theorem Book.cell {w : World} {B : Nat} {m : List Nat} {st : OSt} (h : Book w B m st) (i : Nat) : w.cell? ⟨B, i, none⟩ = (blk m st)[i]? := by
  rw [cell_of_row w B i _ _ (0, 0) h]; simp
theorem Book.frozen {w : World} {B : Nat} {m : List Nat} {st : OSt} (h : Book w B m st) (i : Nat) : w.frozen? ⟨B, i, none⟩ = false := frozen_of_row w B i _ _ h
theorem Book.lt {w : World} {B : Nat} {m : List Nat} {st : OSt} (h : Book w B m st) : B < w.heap.size := (Array.getElem?_eq_some_iff.1 h).1
theorem Book.set_ {w : World} {B : Nat} {m m' : List Nat} {st st' : OSt} (h : Book w B m st) (i : Nat) (v : Value) (hs : (blk m st).set i v = blk m' st') : Book (w.setCell ⟨B, i, none⟩ v) B m' st' := by
  have := heap_setCell_same w B i _ _ v h
  unfold Book
  rw [this, ← hs]
  simp
theorem Book.set2 {w : World} {B : Nat} {m m' : List Nat} {st st' : OSt} (h : Book w B m st) (i j : Nat) (u v : Value) (hs : ((blk m st).set i u).set j v = blk m' st') :
    Book ((w.setCell ⟨B, i, none⟩ u).setCell ⟨B, j, none⟩ v) B m' st' := by
  have h1 := heap_setCell_same w B i _ _ u h
  have h2 := heap_setCell_same _ B j _ _ v h1
  unfold Book
  rw [h2, ← hs]
  simp
/-- The loop over the lengths; over the symbols. -/
def LenRel (W : World) (B : Nat) (p c i : Value) (w : World) : Prop :=
  ∃ n : Nat, i = .int .i64 n ∧ n ≤ 31 ∧ p = .int .i64 ((OSt.at_ n).pos : Int) ∧ c = .int .u32 ((OSt.at_ n).code : Int) ∧ Book w B manyT (OSt.at_ n) ∧ Below W.heap.size W w
def SymRel (W : World) (B n : Nat) (p c i : Value) (w : World) : Prop :=
  ∃ s : Nat, i = .int .i64 s ∧ s ≤ 257 ∧ p = .int .i64 ((OSt.inner n s (OSt.begin n (OSt.at_ n))).pos : Int) ∧ c = .int .u32 ((OSt.inner n s (OSt.begin n (OSt.at_ n))).code : Int) ∧
    Book w B manyT (OSt.inner n s (OSt.begin n (OSt.at_ n))) ∧ Below W.heap.size W w
/-- The counting loop. -/
def CntRel (W : World) (B : Nat) (i : Value) (w : World) : Prop := ∃ k : Nat, i = .int .i64 k ∧ k ≤ 257 ∧ Book w B (cntAt k) OSt.zero ∧ Below W.heap.size W w

set_option maxRecDepth 100000 in
set_option maxHeartbeats 2000000 in
theorem open_any (w : World) : Calls Try.prog 82 #[] w fun e w' => ∃ B, e = .returned (.pointer (some ⟨B, 0, none⟩)) ∧ Book w' B manyT (OSt.at_ 31) ∧ w.heap.size ≤ B ∧ Below w.heap.size w w' := by
  have hidx : ∀ (i : Nat) (w : World), i < 257 → (Instr.index 134 (.agg lensV.toArray) (.int .i64 (i : Int))).run Try.prog w = .ok (.int .u8 ((lensN.getD i 0 : Nat) : Int)) w :=
    fun i w hi => run_index_arr Try.underlying134 Try.underlying5 (by kernel_rfl) w hi (lensV_get hi)
  have HIDX := Lib.hid hidx
  clear hidx
  go_enter Try.func82, Try.ntmps82
  go_wp2_with fail
  refine (lengths_any w).mono ?_
  rintro e w1 ⟨rfl, hb1⟩
  simp only []
  go_step
  refine wpList_buildTo rfl 140 _ rfl (some 9) rfl (blk (List.replicate 31 0) OSt.zero).toArray (by kernel_rfl) ?_
  refine Great.wpList_boxTo rfl 140 _ rfl (some 10) rfl w1.heap.size rfl (blk (List.replicate 31 0) OSt.zero).toArray rfl ?_
  have hbk : Book (w1.alloc (.cells (blk (List.replicate 31 0) OSt.zero).toArray 140)) w1.heap.size (cntAt 0) OSt.zero := heap_alloc_new w1 _
  have hbel := hb1.alloc hb1.size (.cells (blk (List.replicate 31 0) OSt.zero).toArray 140)
  generalize w1.alloc (.cells (blk (List.replicate 31 0) OSt.zero).toArray 140) = w2 at hbk hbel ⊢
  have hB := hb1.size
  generalize w1.heap.size = B at hbk hB ⊢
  have HBK := Lib.hid hbk
  clear hbk hb1
  generalize (blk (List.replicate 31 0) OSt.zero).toArray = arr0
  go_wp2_with (first | (with_reducible refine wpList_load_part 134 (.tmp 13) rfl rfl B 0 lensV _ rfl ?_ Try.underlying134 rfl (by kernel_rfl) ?_))
  · intro j v hj
    have hj' : j < 257 := by rw [← lensV_length]; exact (List.getElem?_eq_some_iff.1 hj).1
    rw [Nat.zero_add, HBK.out.cell, blk_size hj', ← lensV_get hj']
    exact hj
  go_loopw [15] (CntRel w B) (fun i _ => 257 - (intOf i).toNat)
  case atStart => exact ⟨0, rfl, by omega, HBK.out, hbel⟩
  case round =>
    obtain ⟨k, rfl, hk, hbk, hbel'⟩ := hrel
    have hBw := hbk.lt
    by_cases hlt : k < 257
    · have hi := HIDX.out k wr hlt
      have hn := lens_le k
      have hcell := hbk.cell (545 + lensN.getD k 0)
      rw [blk_many (cnt_length k) OSt.Wf.zero (show lensN.getD k 0 < 31 by omega)] at hcell
      have hfro := hbk.frozen (545 + lensN.getD k 0)
      have hnext := cnt_next hlt
      have hset := set_many (cnt_length k) OSt.Wf.zero (show lensN.getD k 0 < 31 by omega) ((cntAt k).getD (lensN.getD k 0) 0 + 1)
      rw [← cntStep, ← hnext] at hset
      have hc := cnt_le k (lensN.getD k 0) (by omega)
      generalize lensN.getD k 0 = n at *
      generalize (cntAt k).getD n 0 = c at *
      have HBK := Lib.hid hbk
      have HS := Lib.hid hset
      clear hbk hset hnext
      have hn31 : (n : Int) < 31 := by omega
      go_wp2
      go_region
      go_wp2
      go_roundw
      case rel => exact ⟨k + 1, by go_num, by omega, HBK.out.set_ _ _ HS.out, (hbel'.setCell (p := ⟨B, _, none⟩) hB _).drew⟩
      case measure => simp [intOf]; omega
    · obtain rfl : k = 257 := by omega
      rw [cnt_end] at hbk
      have HBK := Lib.hid hbk
      clear hbk
      have hmany : manyT.length = 31 := tab_lengths.2.2.2.1
      go_wp2
      go_loopw [4, 5, 29] (LenRel w B) (fun _ _ i _ => 31 - (intOf i).toNat)
      case atStart => exact ⟨0, rfl, by omega, rfl, rfl, HBK.out, hbel'⟩
      case round =>
        obtain ⟨n, rfl, hn, rfl, rfl, hbk, hbel'⟩ := hrel
        have hBw := hbk.lt
        by_cases hlt : n < 31
        · have hcell1 := hbk.cell (514 + n)
          rw [blk_first (OSt.Wf.at_ n) hlt] at hcell1
          have hcell2 := hbk.cell (576 + n)
          rw [blk_from hmany (OSt.Wf.at_ n) hlt] at hcell2
          have hfro1 := hbk.frozen (514 + n)
          have hfro2 := hbk.frozen (576 + n)
          have hset := set_begin hmany (OSt.Wf.at_ n) hlt
          have hc32 := (OSt.Wf.at_ n).code
          have hpos := hpos_at n
          have hi0 : (OSt.inner n 0 (OSt.begin n (OSt.at_ n))) = OSt.begin n (OSt.at_ n) := rfl
          have hp0 : (OSt.begin n (OSt.at_ n)).pos = (OSt.at_ n).pos := rfl
          have hc0 : (OSt.begin n (OSt.at_ n)).code = (OSt.at_ n).code * 2 % 4294967296 := rfl
          generalize (OSt.at_ n).pos = p at *
          generalize (OSt.at_ n).code = c at *
          have HBK := Lib.hid hbk
          have HS := Lib.hid hset
          have HI := Lib.hid (And.intro hi0 (And.intro hp0 hc0))
          clear hbk hset hi0 hp0 hc0
          have hn31 : (n : Int) < 31 := by omega
          go_wp2
          go_region
          go_wp2
          go_loopw [4, 5, 46] (SymRel w B n) (fun _ _ i _ => 257 - (intOf i).toNat)
          case atStart =>
            refine ⟨0, rfl, by omega, ?_, ?_, ?_, ?_⟩
            · rw [HI.out.1, HI.out.2.1]
            · rw [HI.out.1, HI.out.2.2]; congr 1
            · rw [HI.out.1]
              exact HBK.out.set2 _ _ _ _ HS.out
            · exact ((hbel'.setCell (p := ⟨B, _, none⟩) hB _).setCell (p := ⟨B, _, none⟩) hB _).drew
          case round =>
            clear hcell1 hcell2 hfro1 hfro2
            obtain ⟨s, rfl, hs, rfl, rfl, hbk, hbel''⟩ := hrel
            have hBw := hbk.lt
            have hwf : (OSt.inner n s (OSt.begin n (OSt.at_ n))).Wf := ((OSt.Wf.at_ n).begin n).inner hs
            have hc32 := hwf.code
            have hposs := pos_le hs (n := n) (OSt.begin n (OSt.at_ n))
            rw [HI.out.2.1] at hposs
            by_cases hlt : s < 257
            · have hnext := inner_next n (OSt.begin n (OSt.at_ n)) hlt
              have hcell := hbk.cell s
              rw [blk_size hlt] at hcell
              by_cases heq : lensN.getD s 0 = n
              · have hroom := pos_room (by omega) hlt heq
                have hset := set_sym hmany hwf hlt hroom heq
                rw [← hnext] at hset
                have hcell3 := hbk.cell (607 + (OSt.inner n s (OSt.begin n (OSt.at_ n))).pos)
                rw [blk_sym hmany hwf hroom] at hcell3
                have hfro3 := hbk.frozen (607 + (OSt.inner n s (OSt.begin n (OSt.at_ n))).pos)
                have hcell4 := hbk.cell (257 + s)
                rw [blk_code hwf hlt] at hcell4
                have hfro4 := hbk.frozen (257 + s)
                have hp1 : (OSt.inner n (s + 1) (OSt.begin n (OSt.at_ n))).pos = (OSt.inner n s (OSt.begin n (OSt.at_ n))).pos + 1 := by rw [hnext, OSt.sym1, if_pos heq]
                have hc1 : (OSt.inner n (s + 1) (OSt.begin n (OSt.at_ n))).code = ((OSt.inner n s (OSt.begin n (OSt.at_ n))).code + 1) % 4294967296 := by rw [hnext, OSt.sym1, if_pos heq]
                generalize (OSt.inner n s (OSt.begin n (OSt.at_ n))).pos = p1 at *
                generalize (OSt.inner n s (OSt.begin n (OSt.at_ n))).code = c1 at *
                have HBK := Lib.hid hbk
                have HS := Lib.hid hset
                have HI := Lib.hid (And.intro hp1 hc1)
                rw [heq] at hcell
                clear hbk hset hp1 hc1 hnext heq
                have hs257 : (s : Int) < 257 := by omega
                have hp257 : (p1 : Int) < 257 := by omega
                go_wp2
                go_region
                go_wp2
                refine ⟨⟨s + 1, by go_num, by omega, ?_, ?_, HBK.out.set2 _ _ _ _ HS.out, ((hbel''.setCell (p := ⟨B, _, none⟩) hB _).setCell (p := ⟨B, _, none⟩) hB _).drew⟩, by simp [intOf]; omega⟩
                · rw [HI.out.1]; go_num
                · rw [HI.out.2]; go_num
              · have hnext' : OSt.inner n (s + 1) (OSt.begin n (OSt.at_ n)) = OSt.inner n s (OSt.begin n (OSt.at_ n)) := by rw [hnext, OSt.sym1, if_neg heq]
                have heqb : (((lensN.getD s 0 : Nat) : Int) == (n : Int)) = false := by rw [beq_eq_false_iff_ne]; omega
                have hls := lens_le s
                generalize lensN.getD s 0 = ls at *
                generalize hp1 : (OSt.inner n s (OSt.begin n (OSt.at_ n))).pos = p1 at *
                generalize hc1 : (OSt.inner n s (OSt.begin n (OSt.at_ n))).code = c1 at *
                have HBK := Lib.hid hbk
                have HI := Lib.hid (And.intro hp1 hc1)
                have HN := Lib.hid hnext'
                clear hbk hp1 hc1 hnext heq hnext'
                go_wp2
                refine ⟨⟨s + 1, by go_num, by omega, ?_, ?_, by rw [HN.out]; exact HBK.out, hbel''⟩, by simp [intOf]; omega⟩
                · rw [HN.out, HI.out.1]
                · rw [HN.out, HI.out.2]
            · obtain rfl : s = 257 := by omega
              rw [← at_next] at *
              have hp2 := hpos_at (n + 1)
              generalize hp1 : (OSt.at_ (n + 1)).pos = p1 at *
              generalize hc1 : (OSt.at_ (n + 1)).code = c1 at *
              have HBK := Lib.hid hbk
              have HI := Lib.hid (And.intro hp1 hc1)
              clear hbk hp1 hc1
              go_wp2
              refine ⟨⟨n + 1, by go_num, by omega, ?_, ?_, HBK.out, hbel''⟩, by simp [intOf]; omega⟩
              · rw [HI.out.1]
              · rw [HI.out.2]
        · obtain rfl : n = 31 := by omega
          have HBK := Lib.hid hbk
          clear hbk
          go_wp2
          go_ret
          exact ⟨B, rfl, HBK.out, hB, hbel'⟩
end Go.Proofs.Ythpieiipddfpjaa

/- What drawbridgeref02.Codes makes, step by step, in plain Lean; that it comes to the table. No program in sight. -/
namespace Go.Proofs.Ythpieiipddfpjaa
open Go.RowKit

structure CSt where
  code : Nat
  last : Nat
  out : List Nat
  deriving DecidableEq
def CSt.zero : CSt := ⟨0, 5, List.replicate 257 0⟩
/-- The code at a length: doubled until it has as many bits. -/
def CSt.up (n : Nat) (st : CSt) : Nat := st.code * 2 ^ (n - st.last) % 4294967296
/-- One symbol. -/
def CSt.sym1 (n : Nat) (st : CSt) (x : Nat × Nat) : CSt := if x.1 = n then ⟨(st.up n + 1) % 4294967296, n, st.out.set x.2 (st.up n)⟩ else st
def CSt.inner (n s : Nat) (st : CSt) : CSt := (lensN.zipIdx.take s).foldl (CSt.sym1 n) st
/-- Behind the lengths 5 to 4 + d. -/
def CSt.at_ (d : Nat) : CSt := (List.range d).foldl (fun st k => CSt.inner (k + 5) 257 st) CSt.zero
theorem codes_end : (CSt.at_ 26).out = codeT := by decide +kernel
theorem cinner_next (n : Nat) (st : CSt) {s : Nat} (h : s < 257) : CSt.inner n (s + 1) st = CSt.sym1 n (CSt.inner n s st) (lensN.getD s 0, s) := by
  have hl : s < lensN.zipIdx.length := by rw [List.length_zipIdx, tab_lengths.1]; exact h
  unfold CSt.inner
  rw [List.take_succ_eq_append_getElem hl, List.foldl_append]
  have hl' : s < lensN.length := by rw [tab_lengths.1]; exact h
  simp [List.getD, List.getElem?_eq_getElem hl']
theorem cat_next (d : Nat) : CSt.at_ (d + 1) = CSt.inner (d + 5) 257 (CSt.at_ d) := by
  unfold CSt.at_
  rw [List.range_succ, List.foldl_append, List.foldl_cons, List.foldl_nil]
structure CSt.Wf (n : Nat) (st : CSt) : Prop where
  out : st.out.length = 257
  code : st.code < 4294967296
  last : st.last ≤ n
  lo : 5 ≤ st.last
theorem CSt.Wf.sym1 {n : Nat} {st : CSt} (h : st.Wf n) (h5 : 5 ≤ n) (x : Nat × Nat) : (CSt.sym1 n st x).Wf n := by
  unfold CSt.sym1
  split
  · exact ⟨by simp [h.out], Nat.mod_lt _ (by decide), Nat.le_refl _, h5⟩
  · exact h
theorem CSt.Wf.inner {n : Nat} {st : CSt} (h : st.Wf n) (h5 : 5 ≤ n) : ∀ {s : Nat}, s ≤ 257 → (CSt.inner n s st).Wf n := by
  intro s
  induction s with
  | zero => intro _; exact h
  | succ s ih => intro hs; rw [cinner_next n st (by omega)]; exact (ih (by omega)).sym1 h5 _
theorem CSt.Wf.up {n : Nat} {st : CSt} (h : st.Wf n) : st.Wf (n + 1) := ⟨h.out, h.code, by have := h.last; omega, h.lo⟩
theorem CSt.Wf.at_ (d : Nat) : (CSt.at_ d).Wf (d + 5) := by
  induction d with
  | zero => exact ⟨by decide +kernel, by decide, by decide, by decide⟩
  | succ d ih => rw [cat_next]; exact (ih.inner (by omega) (Nat.le_refl _)).up
/-- Doubling once more. -/
theorem up_step (c j : Nat) : c * 2 ^ j % 4294967296 * 2 % 4294967296 = c * 2 ^ (j + 1) % 4294967296 := by
  rw [Nat.pow_succ, ← Nat.mul_assoc, Nat.mod_mul_mod]
def u32s (l : List Nat) : List Value := l.map fun n : Nat => Value.int .u32 (n : Int)
def i64s (l : List Nat) : List Value := l.map fun n : Nat => Value.int .i64 (n : Int)
theorem u32s_length (l : List Nat) : (u32s l).length = l.length := by simp [u32s]
theorem i64s_length (l : List Nat) : (i64s l).length = l.length := by simp [i64s]
theorem u32s_get {l : List Nat} {i : Nat} (h : i < l.length) : (u32s l)[i]? = some (.int .u32 ((l.getD i 0 : Nat) : Int)) := by simp [u32s, List.getD, List.getElem?_eq_getElem h]
theorem i64s_get {l : List Nat} {i : Nat} (h : i < l.length) : (i64s l)[i]? = some (.int .i64 ((l.getD i 0 : Nat) : Int)) := by simp [i64s, List.getD, List.getElem?_eq_getElem h]
theorem u32s_set (l : List Nat) (i x : Nat) : (u32s l).set i (.int .u32 (x : Int)) = u32s (l.set i x) := by simp [u32s, List.map_set]
end Go.Proofs.Ythpieiipddfpjaa

/- The walks of drawbridgeref02.Lengths and Codes. -/
namespace Go.Proofs.Ythpieiipddfpjaa
open Go.RowKit

theorem tInts : SlT Try.prog 127 3 (.int .i64 0) 1 8 := ⟨Try.underlying127, by kernel_rfl, rfl, by omega⟩
theorem tU32s : SlT Try.prog 129 118 (.int .u32 0) 1 4 := ⟨Try.underlying129, by kernel_rfl, rfl, by omega⟩

set_option maxRecDepth 100000 in
set_option maxHeartbeats 1000000 in
theorem rlengths_any (w : World) : Calls Try.prog 78 #[] w fun e w' => ∃ g, e = .returned (.slice (some ⟨g, 0, none⟩) 257 257) ∧ w'.ownsRow w.heap.size 3 1 (.slice (some ⟨g, 0, none⟩) 257 257) 257 (i64s lensN) ∧ Below w.heap.size w w' := by
  go_enter Try.func78, Try.ntmps78
  go_step; go_step; go_step; go_step; go_step; go_step; go_step; go_step; go_step
  go_step; go_step
  refine wpList_buildFlat rfl 127 3 257 _ rfl .i64 (lensN.map fun n : Nat => (n : Int)) Try.underlying127 (by kernel_rfl) (by kernel_rfl) (by decide +kernel) (by omega) (by omega) (by kernel_rfl) ?_
  rw [show (lensN.map fun n : Nat => (n : Int)).map (Value.int .i64) = i64s lensN by rw [List.map_map]; rfl]
  go_wp2_with fail
  go_ret
  exact ⟨_, rfl, World.ownsRow_lit w _ 257 (Nat.le_refl _) (by unfold maxLen; omega) (by decide +kernel), (Below.refl _ _).alloc (Nat.le_refl _) _⟩

/-- The lengths lie in block gl. -/
def LC (w : World) (gl : Nat) : Prop := ∀ i, i < 257 → w.cell? ⟨gl, i, none⟩ = some (.int .i64 ((lensN.getD i 0 : Nat) : Int))
theorem LC.set_ {w : World} {gl g : Nat} (h : LC w gl) (hne : gl ≠ g) (j : Nat) (v : Value) : LC (w.setCell ⟨g, j, none⟩ v) gl :=
  fun i hi => (World.cell?_setCell_other w ⟨g, j, none⟩ ⟨gl, i, none⟩ v (fun e => by injection e with e; exact hne e.symm)).trans (h i hi)
/-- The loop over the lengths, over the symbols, of the doubling. -/
def CLenRel (W : World) (gl g : Nat) (c l n : Value) (w : World) : Prop :=
  ∃ d : Nat, n = .int .i64 ((d : Int) + 5) ∧ d ≤ 26 ∧ c = .int .u32 ((CSt.at_ d).code : Int) ∧ l = .int .i64 ((CSt.at_ d).last : Int) ∧
    w.ownsRow W.heap.size 118 1 (.slice (some ⟨g, 0, none⟩) 257 257) 257 (u32s (CSt.at_ d).out) ∧ LC w gl ∧ Below W.heap.size W w
def CSymRel (W : World) (gl g d : Nat) (c l i : Value) (w : World) : Prop :=
  ∃ s : Nat, i = .int .i64 s ∧ s ≤ 257 ∧ c = .int .u32 ((CSt.inner (d + 5) s (CSt.at_ d)).code : Int) ∧ l = .int .i64 ((CSt.inner (d + 5) s (CSt.at_ d)).last : Int) ∧
    w.ownsRow W.heap.size 118 1 (.slice (some ⟨g, 0, none⟩) 257 257) 257 (u32s (CSt.inner (d + 5) s (CSt.at_ d)).out) ∧ LC w gl ∧ Below W.heap.size W w
def DblUp (code last n : Nat) (c l : Value) : Prop := ∃ j x : Nat, l = .int .i64 ((last : Int) + j) ∧ last + j ≤ n ∧ c = .int .u32 x ∧ x = code * 2 ^ j % 4294967296 ∧ x < 4294967296

set_option maxRecDepth 100000 in
set_option maxHeartbeats 2000000 in
theorem rcodes_any (w : World) : Calls Try.prog 79 #[] w fun e w' => ∃ g, e = .returned (.slice (some ⟨g, 0, none⟩) 257 257) ∧ w'.ownsRow w.heap.size 118 1 (.slice (some ⟨g, 0, none⟩) 257 257) 257 (u32s codeT) ∧ Below w.heap.size w w' := by
  obtain ⟨i0, hi0, hz0, hz1, hz2⟩ := info_parts tU32s.info
  go_enter Try.func79, Try.ntmps79
  go_wp2_with fail
  refine (rlengths_any w).mono ?_
  rintro e w1 ⟨gl, rfl, hownl, hb1⟩
  have hglt := (hownl.lt gl rfl).2
  have hlc : LC w1 gl := fun i hi => by
    rw [World.ownsRow.cellAt hownl i (by omega), i64s_get (by rw [tab_lengths.1]; exact hi)]
  have HLC := Lib.hid hlc
  have hs1 := hb1.size
  clear hlc hownl
  go_wp2_with (at_make; refine wpList_make_full _ rfl _ _ 129 rfl w.heap.size 118 i0 (.int .u32 0) 1 Try.underlying129 hi0 hz0 hz1 _ _ _ _ 257 rfl rfl rfl rfl (by rw [hz2]; omega) (by unfold maxLen; omega) hs1 ?_; intro w2 hown2 hg2)
  have hb2 : Below w.heap.size w w2 := hb1.grown hg2 hs1 (fun k hk => by cases hk)
  have hcl : LC w2 gl := fun i hi => hg2.cell (HLC.out i hi) (by simp)
  have hne : gl ≠ w1.heap.size := by omega
  have hge : w.heap.size ≤ w1.heap.size := hs1
  generalize w1.heap.size = g at *
  have hz : (madeCells (Value.int .u32 0).cells (257 * 1)).toList = u32s CSt.zero.out := by
    rw [show (Value.int .u32 0).cells = #[Value.int .u32 0] from rfl, toList_madeCells_one]; kernel_rfl
  rw [hz] at hown2
  have HOWN := Lib.hid hown2
  have HCL := Lib.hid hcl
  clear hz hown2 hg2 hcl HLC hi0 hz0 hz1 hz2
  go_loopw [3, 4, 5] (CLenRel w gl g) (fun _ _ i _ => 31 - (intOf i).toNat)
  case atStart => exact ⟨0, rfl, by omega, rfl, rfl, HOWN.out, HCL.out, hb2⟩
  case round =>
    obtain ⟨d, rfl, hd, rfl, rfl, hown, hlc, hbel⟩ := hrel
    have hwf := CSt.Wf.at_ d
    by_cases hlt : d < 26
    · have HOWN := Lib.hid hown
      have HLC := Lib.hid hlc
      clear hown hlc
      generalize hc0 : (CSt.at_ d).code = c0 at *
      generalize hl0 : (CSt.at_ d).last = l0 at *
      have HCL := Lib.hid (And.intro hc0 hl0)
      clear hc0 hl0
      go_wp2
      go_loopw [3, 4, 6] (CSymRel w gl g d) (fun _ _ i _ => 257 - (intOf i).toNat)
      case atStart => exact ⟨0, rfl, by omega, by rw [← HCL.out.1]; rfl, by rw [← HCL.out.2]; rfl, HOWN.out, HLC.out, hbel⟩
      case round =>
        obtain ⟨s, rfl, hs, rfl, rfl, hown, hlc, hbel⟩ := hrel
        have hwfs := hwf.inner (by omega) hs
        by_cases hlt : s < 257
        · have hnext := cinner_next (d + 5) (CSt.at_ d) hlt
          have hcell := hlc s hlt
          by_cases heq : lensN.getD s 0 = d + 5
          · rw [CSt.sym1, if_pos heq] at hnext
            have hcellg := World.ownsRow.cellAt hown s (by omega)
            rw [u32s_get (by rw [hwfs.out]; exact hlt)] at hcellg
            have hfrog := World.ownsRow.frozenAt hown s
            have hst := World.ownsRow.stored hown s (.int .u32 ((CSt.up (d + 5) (CSt.inner (d + 5) s (CSt.at_ d)) : Nat) : Int))
            rw [u32s_set] at hst
            have hup : CSt.up (d + 5) (CSt.inner (d + 5) s (CSt.at_ d)) = (CSt.inner (d + 5) s (CSt.at_ d)).code * 2 ^ (d + 5 - (CSt.inner (d + 5) s (CSt.at_ d)).last) % 4294967296 := rfl
            have hcs := hwfs.code
            have hls := hwfs.last
            rw [heq] at hcell
            generalize CSt.up (d + 5) (CSt.inner (d + 5) s (CSt.at_ d)) = up at *
            generalize (CSt.inner (d + 5) s (CSt.at_ d)).code = c1 at *
            generalize (CSt.inner (d + 5) s (CSt.at_ d)).last = l1 at *
            have HN := Lib.hid hnext
            have HST := Lib.hid hst
            have HUP := Lib.hid hup
            have HLC := Lib.hid hlc
            clear hnext hst hup hown hlc heq
            go_wp2
            go_loop [3, 4] (DblUp c1 l1 (d + 5)) (fun _ l => d + 5 - (intOf l).toNat)
            case atStart => exact ⟨0, c1, by simp, by omega, rfl, by simp; omega, by omega⟩
            case round =>
              obtain ⟨j, x, rfl, hj, rfl, hx, hx32⟩ := hrel
              have HX := Lib.hid hx
              clear hx
              by_cases hjn : l1 + j < d + 5
              · go_wp2
                go_round
                case rel => exact ⟨j + 1, x * 2 % 4294967296, by congr 1, by omega, by congr 1, by rw [HX.out, up_step], by omega⟩
                case measure => simp [intOf] <;> omega
              · have hxu : x = up := by rw [HX.out, HUP.out, show d + 5 - l1 = j by omega]
                subst hxu
                go_wp2
                refine ⟨⟨_, _, _, ⟨s + 1, rfl, by omega, ?_, ?_, ?_, HLC.out.set_ hne _ _, hbel.setCell (p := ⟨g, _, none⟩) hge _⟩, rfl, rfl, by go_num⟩, by simp [intOf]; omega⟩
                · rw [HN.out]; go_num
                · rw [HN.out]; show _ = Value.int .i64 ((d + 5 : Nat) : Int); congr 1; omega
                · rw [HN.out]; exact HST.out.1
          · rw [CSt.sym1, if_neg heq] at hnext
            have heqb : (((lensN.getD s 0 : Nat) : Int) != (d : Int) + 5) = true := by rw [bne_iff_ne]; omega
            generalize lensN.getD s 0 = ls at *
            generalize hc1 : (CSt.inner (d + 5) s (CSt.at_ d)).code = c1 at *
            generalize hl1 : (CSt.inner (d + 5) s (CSt.at_ d)).last = l1 at *
            have HN := Lib.hid hnext
            have HI := Lib.hid (And.intro hc1 hl1)
            have HOWN := Lib.hid hown
            have HLC := Lib.hid hlc
            clear hnext hown hlc hc1 hl1 heq
            go_wp2
            refine ⟨⟨s + 1, by go_num, by omega, ?_, ?_, by rw [HN.out]; exact HOWN.out, HLC.out, hbel⟩, by simp [intOf]; omega⟩
            · rw [HN.out, HI.out.1]
            · rw [HN.out, HI.out.2]
        · obtain rfl : s = 257 := by omega
          rw [← cat_next] at *
          have HOWN := Lib.hid hown
          have HLC := Lib.hid hlc
          clear hown hlc
          generalize hc1 : (CSt.at_ (d + 1)).code = c1 at *
          generalize hl1 : (CSt.at_ (d + 1)).last = l1 at *
          have HI := Lib.hid (And.intro hc1 hl1)
          clear hc1 hl1
          go_wp2
          refine ⟨⟨d + 1, by go_num, by omega, ?_, ?_, HOWN.out, HLC.out, hbel⟩, by simp [intOf]; omega⟩
          · rw [HI.out.1]
          · rw [HI.out.2]
    · obtain rfl : d = 26 := by omega
      rw [codes_end] at hown
      have HOWN := Lib.hid hown
      clear hown hlc
      go_wp2
      go_ret
      exact ⟨g, rfl, HOWN.out, hbel⟩
end Go.Proofs.Ythpieiipddfpjaa

/- The walks of huff.Code and drawbridgelaw02.HuffCodes. -/
namespace Go.Proofs.Ythpieiipddfpjaa
open Go.RowKit

/-- The book as it is when it is made. -/
def Bk (w : World) (B : Nat) : Prop := Book w B manyT (OSt.at_ 31)
section
variable {w : World} {B : Nat} (h : Bk w B)
include h
theorem Bk.size {i : Nat} (hi : i < 257) : w.cell? ⟨B, i, none⟩ = some (.int .u8 ((lensN.getD i 0 : Nat) : Int)) := by rw [Book.cell h, blk_size hi]
theorem Bk.code {i : Nat} (hi : i < 257) : w.cell? ⟨B, 257 + i, none⟩ = some (.int .u32 ((codeT.getD i 0 : Nat) : Int)) := by rw [Book.cell h, blk_code (OSt.Wf.at_ 31) hi, open_end]
theorem Bk.first {i : Nat} (hi : i < 31) : w.cell? ⟨B, 514 + i, none⟩ = some (.int .u32 ((firstT.getD i 0 : Nat) : Int)) := by rw [Book.cell h, blk_first (OSt.Wf.at_ 31) hi, open_end]
theorem Bk.many {i : Nat} (hi : i < 31) : w.cell? ⟨B, 545 + i, none⟩ = some (.int .i64 ((manyT.getD i 0 : Nat) : Int)) := by rw [Book.cell h, blk_many tab_lengths.2.2.2.1 (OSt.Wf.at_ 31) hi]
theorem Bk.from_ {i : Nat} (hi : i < 31) : w.cell? ⟨B, 576 + i, none⟩ = some (.int .i64 ((fromT.getD i 0 : Nat) : Int)) := by rw [Book.cell h, blk_from tab_lengths.2.2.2.1 (OSt.Wf.at_ 31) hi, open_end]
theorem Bk.sym {i : Nat} (hi : i < 257) : w.cell? ⟨B, 607 + i, none⟩ = some (.int .i64 ((symT.getD i 0 : Nat) : Int)) := by rw [Book.cell h, blk_sym tab_lengths.2.2.2.1 (OSt.Wf.at_ 31) hi, open_end]
end
theorem Bk.below {w w' : World} {B B0 : Nat} (h : Bk w B) (hb : Below B0 w w') (hB : B < B0) : Bk w' B := (hb.block B hB).trans h
theorem Bk.grown {w w' : World} {B : Nat} {row : Option Nat} (h : Bk w B) (hg : w.grownBy w' row) (hne : some B ≠ row) : Bk w' B := (hg.block B (Book.lt h) hne).trans h
theorem Bk.drewN {w : World} {B : Nat} (h : Bk w B) (n : Nat) : Bk (w.drewN n) B := h
theorem Bk.alloc {w : World} {B : Nat} (h : Bk w B) (o : Obj) : Bk (w.alloc o) B := (Below.heap_alloc w o B (Book.lt h)).trans h
theorem _root_.Go.RowKit.Below.drewN {B : Nat} {a w : World} (h : Below B a w) (n : Nat) : Below B a (w.drewN n) := ⟨h.os, h.tape, h.output, h.size, h.block⟩
theorem code_lt : ∀ i, codeT.getD i 0 < 1073741824 := by
  intro i
  rcases Nat.lt_or_ge i 257 with h | h
  · have : ∀ i < 257, codeT.getD i 0 < 1073741824 := by decide +kernel
    exact this i h
  · rw [List.getD, List.getElem?_eq_none (by rw [tab_lengths.2.1]; exact h)]; decide

/-- No code is the beginning of another one's. -/
def codesApart : Bool := (codeT.zip (lensN.zip (List.range 257))).all fun x => (codeT.zip (lensN.zip (List.range 257))).all fun y => x.2.2 == y.2.2 || decide (y.2.1 < x.2.1) || (y.1 / 2 ^ (y.2.1 - x.2.1) != x.1)
theorem codes_apart : codesApart = true := by decide +kernel
theorem apart {i j : Nat} (hi : i < 257) (hj : j < 257) (hne : i ≠ j) (hle : lensN.getD i 0 ≤ lensN.getD j 0) : codeT.getD j 0 / 2 ^ (lensN.getD j 0 - lensN.getD i 0) ≠ codeT.getD i 0 := by
  have hget : ∀ k, k < 257 → (codeT.getD k 0, (lensN.getD k 0, k)) ∈ codeT.zip (lensN.zip (List.range 257)) := by
    intro k hk
    have h1 : k < codeT.length := by rw [tab_lengths.2.1]; exact hk
    have h2 : k < lensN.length := by rw [tab_lengths.1]; exact hk
    rw [List.mem_iff_getElem]
    refine ⟨k, by simp [tab_lengths.1, tab_lengths.2.1]; exact hk, ?_⟩
    simp [List.getD, List.getElem?_eq_getElem h1, List.getElem?_eq_getElem h2]
  have h := codes_apart
  unfold codesApart at h
  rw [List.all_eq_true] at h
  have h1 := h _ (hget i hi)
  rw [List.all_eq_true] at h1
  have h2 := h1 _ (hget j hj)
  simp only [Bool.or_eq_true, beq_iff_eq, decide_eq_true_eq, bne_iff_ne] at h2
  rcases h2 with (h2 | h2) | h2
  · exact absurd h2 hne
  · omega
  · exact h2

/-- Both of the reference's tables hold what the book says. -/
theorem refs_at (i : Nat) (hi : i ≤ 256) : i < codeT.length ∧ i < lensN.length := by rw [tab_lengths.1, tab_lengths.2.1]; omega

end Go.Proofs.Ythpieiipddfpjaa

/- The walk of huff.Encode. -/
namespace Go.Proofs.Ythpieiipddfpjaa
open Go.RowKit

section
variable {P : Program} {w : World}
/-- append as one step of a region that draws. -/
theorem hstep_app {ops : Array Oper} {o : Oper} {a : Act} {K : Act → World → Prop} {Q : Exit → Act → World → Prop} {E : Prop} (s x : Operand) {t e : TypeId} {z : Value} {size bytes : Nat} (hT : SlT P t e z size bytes)
    (hgd : o.guard = none) (ho : o.op = .call { callee := .builtin .append, args := #[s, x], argTypes := #[t, t] })
    {base : Nat} {v : Value} {n : Nat} {xs : List Value} (hown : w.ownsRow base e size v n xs) (hs : a.eval s = v)
    {B : Nat} {A : Option Addr} {m c : Nat} {news : List Value} (hr : Rd w B size A m news) (hx : a.eval x = .slice A m c) (h1 : ∀ u ∈ news, u.oneCell' = true)
    (h63 : n + m ≤ maxLen) (hbytes : (n + m) * bytes ≤ 140737488355328) (hbase : base ≤ w.heap.size)
    (h : ∀ v' w', w'.ownsRow base e size v' (n + m) (xs ++ news) → w.grownBy w' v.ownBlock → (v'.ownBlock = v.ownBlock ∨ v'.ownBlock = some w.heap.size) → K (a.put o.dst v') w') :
    if Region.wanted o (yielded ops a.tmps) = true then Oper.wp P o a w K Q else E := by
  have hw : Region.wanted o (yielded ops a.tmps) = true := by simp [Region.wanted, hgd]
  rw [if_pos hw]
  obtain ⟨v', w', hrun, h2, h3, h4⟩ := run_app (P := P) o.type hT hown hr (c := c) h1 h63 hbytes hbase
  unfold Oper.wp execOp
  simp only [ho, resolve, invoke, builtin, Sem.run_bind, Sem.run_pure, Result.andThen_ok, List.map_toArray, List.map_cons, List.map_nil, hs, hx, hrun]
  exact h v' w' h2 h3 h4
end

theorem own_mono2 {w : World} {base base' : Nat} {e : TypeId} {size : Nat} {v : Value} {n : Nat} {xs : List Value} (h : w.ownsRow base e size v n xs) (hb : base' ≤ base) : w.ownsRow base' e size v n xs := by
  refine ⟨h.1, ?_⟩
  rcases h.2 with h2 | ⟨g, cap, cur, hv, hg, r⟩
  · exact .inl h2
  · exact .inr ⟨g, cap, cur, hv, by omega, r⟩
theorem own_snoc {w : World} {base m : Nat} {v u : Value} {d d' : List UInt8} {b : UInt8} (h : w.ownsRow base 5 1 v (m + 1) (bvs d ++ [u])) (hu : u = bv b) (hd : d' = d ++ [b]) : w.ownsRow base 5 1 v (m + 1) (bvs d') := by
  subst hu hd
  rw [bvs_append]
  exact h
/-- Behind k bytes of the text. -/
def EncRel (W : World) (B : Nat) (l : List UInt8) (ov hv bv_ iv : Value) (w : World) : Prop :=
  ∃ k h r m : Nat, iv = .int .i64 k ∧ k ≤ l.length ∧ hv = .int .u64 h ∧ bv_ = .int .i64 r ∧ h = vbits (l.take k) % M64 ∧ r = nbits (l.take k) % 8 ∧ m = nbits (l.take k) / 8 ∧ m ≤ 4 * k ∧
    w.ownsRow (B + 1) 5 1 ov m (bvs (dig m (vbits (l.take k) / 2 ^ r))) ∧ Bk w B ∧ Below W.heap.size W w
/-- Emptying: b bits are kept; m bytes are out. -/
def OutRel (W : World) (B V m1 b1 : Nat) (ov bv_ : Value) (w : World) : Prop :=
  ∃ b m : Nat, bv_ = .int .i64 b ∧ 8 * m + b = 8 * m1 + b1 ∧ m1 ≤ m ∧ w.ownsRow (B + 1) 5 1 ov m (bvs (dig m (V / 2 ^ b))) ∧ Bk w B ∧ Below W.heap.size W w

set_option maxRecDepth 100000 in
set_option maxHeartbeats 2000000 in
theorem enc_any (s : ByteArray) (w : World) (hs : s.size ≤ 1048576) : Calls Try.prog 81 #[.string s] w (RetB w (encB s.data.toList)) := by
  have hget := get_ba s
  have hlen := str_len s
  have HL := Lib.hid hlen
  clear hlen
  go_enter Try.func81, Try.ntmps81
  go_wp2_with fail
  refine (open_any w).mono ?_
  rintro e w1 ⟨B, rfl, hbk, hB, hb1⟩
  have HBK := Lib.hid (show Bk w1 B from hbk)
  have hBlt := Book.lt hbk
  clear hbk
  go_wp2
  go_loopw [4, 5, 6, 11] (EncRel w B s.data.toList) (fun _ _ _ i _ => s.size - (intOf i).toNat)
  case atStart => exact ⟨0, 0, 0, 0, rfl, by omega, rfl, rfl, rfl, rfl, by rw [List.take_zero]; rfl, by omega, World.ownsRow_nil _ _ _ _, HBK.out, hb1⟩
  case round =>
    obtain ⟨k, h, r, m, rfl, hk, rfl, rfl, hh, hr, hm, hmk, hown, hbk, hbel⟩ := hrel
    rw [HL.out] at hk
    have hr8 : r < 8 := by omega
    by_cases hlt : k < s.size
    · have hb := ba_lt s.data.toList k
      have hb257 : (ba s.data.toList k : Int) < 257 := by omega
      have hcl := Bk.size hbk (i := ba s.data.toList k) (by omega)
      have hcc := Bk.code hbk (i := ba s.data.toList k) (by omega)
      have hn30 := lens_le (ba s.data.toList k)
      have hc32 := code_lt (ba s.data.toList k)
      have hfit := code_fits (ba s.data.toList k) (by omega)
      have hvn := vbits_take (l := s.data.toList) (k := k) (by rw [HL.out]; exact hlt)
      have hnn := nbits_take (l := s.data.toList) (k := k) (by rw [HL.out]; exact hlt)
      generalize lensN.getD (ba s.data.toList k) 0 = n at *
      generalize codeT.getD (ba s.data.toList k) 0 = c at *
      generalize nbits (s.data.toList.take k) = T at *
      generalize vbits (s.data.toList.take k) = V at *
      have eo := or_code (v := V) (c := c) hn30 hfit
      have ew := wrap_u64 (h * 2 ^ n)
      rw [hh] at ew
      have ew' : IntKind.u64.wrap ((h : Int) * 2 ^ n) = ((V % M64 * 2 ^ n % M64 : Nat) : Int) := by rw [hh, ← ew]; congr 1
      generalize V % M64 * 2 ^ n % M64 = h2 at *
      obtain ⟨h3, hh3⟩ : ∃ h3, h3 = (V * 2 ^ n + c) % M64 := ⟨_, rfl⟩
      rw [← hh3] at eo
      have HO := Lib.hid hown
      have HBK := Lib.hid hbk
      have HV := Lib.hid (And.intro hvn (And.intro hnn (And.intro hr (And.intro hm (And.intro hh (And.intro hh3 hfit))))))
      clear hown hbk hvn hnn hr hm hh hh3 hfit ew
      go_wp2
      go_quiet (fail)
      go_wp2
      go_quiet (fail)
      go_wp2
      clear eo ew'
      obtain ⟨V2, hV2⟩ : ∃ V2, V2 = V * 2 ^ n + c := ⟨_, rfl⟩
      go_loopw [4, 6] (OutRel w B V2 m (r + n)) (fun _ b _ => (intOf b).toNat)
      case atStart =>
        refine ⟨r + n, m, by go_num, rfl, Nat.le_refl _, ?_, Bk.drewN (Bk.drewN HBK.out _) _, (hbel.drewN _).drewN _⟩
        rw [hV2, dig_char m V n c r HV.out.2.2.2.2.2.2]
        exact HO.out
      case round =>
        obtain ⟨b, m2, rfl, hbm, hm2, hown, hbk, hbel⟩ := hrel
        have HO := Lib.hid hown
        have HBK := Lib.hid hbk
        have HV2 := Lib.hid hV2
        have HBM := Lib.hid hbm
        have hb64 : b ≤ 37 := by omega
        have hm2k : m2 ≤ 4 * k + 4 := by omega
        clear hown hbk hV2 hbm
        by_cases h8 : 8 ≤ b
        · obtain ⟨b', rfl⟩ : ∃ b', b = b' + 8 := ⟨b - 8, by omega⟩
          obtain ⟨z, hz⟩ : ∃ z, z = h3 / 2 ^ b' % 256 := ⟨_, rfl⟩
          have ez : (h3 : Int) / 2 ^ b' % 256 = (z : Int) := by rw [hz]; simp
          have hz256 : z < 256 := by omega
          have HZ := Lib.hid hz
          clear hz
          go_wp2_with (at_builtin; refine wpList_app (.tmp 49) (.tmp 54) tBytes rfl rfl (World.ownsRow.alloc HO.out _) rfl (Rd.one _ _ _) rfl (oneInt _ _) (le_maxLen (by omega)) (by omega) (by have := Book.lt HBK.out; simp; omega) ?_; intro v3 w3 hown3 hg3 _)
          refine ⟨⟨b', m2 + 1, by go_num, by have := HBM.out; omega, by omega, ?_, ?_, ?_⟩, by simp [intOf]; omega⟩
          · refine own_snoc (b := UInt8.ofNat z) hown3 (by rw [bv, toNat_ofNat hz256]) ?_
            rw [dig_step, HZ.out, HV.out.2.2.2.2.2.1, ← HV2.out, mid_byte _ _ (by omega)]
          · exact Bk.grown (Bk.alloc HBK.out _) hg3 (fun e => by have := (World.ownsRow.lt HO.out B e.symm).1; omega)
          · exact Below.app (hbel.alloc hbel.size _) (World.ownsRow.alloc HO.out _) hg3 (by omega) (by have := hbel.size; simp; omega)
        · go_wp2
          have hv := HV.out
          have hbm := HBM.out
          refine ⟨⟨k + 1, h3, b, m2, by go_num, by rw [HL.out]; omega, rfl, rfl, ?_, ?_, ?_, by omega, ?_, HBK.out, hbel⟩, by simp [intOf]; omega⟩
          · rw [hv.1, hv.2.2.2.2.2.1]
          · rw [hv.2.1]; have := hv.2.2.1; have := hv.2.2.2.1; omega
          · rw [hv.2.1]; have := hv.2.2.1; have := hv.2.2.2.1; omega
          · rw [hv.1, ← HV2.out]; exact HO.out
    · obtain rfl : k = s.size := by omega
      have hall : s.data.toList.take s.size = s.data.toList := List.take_of_length_le (by rw [HL.out]; exact Nat.le_refl _)
      rw [hall] at hown hh hr hm
      by_cases hr0 : r = 0
      · subst hr0
        have HE := Lib.hid (show encB s.data.toList = dig m (vbits s.data.toList / 2 ^ 0) by unfold encB; rw [if_pos hr.symm, hm, Nat.pow_zero, Nat.div_one])
        have HO := Lib.hid hown
        clear hown hh hr hm hall hbk
        go_wp2
        go_ret
        exact ⟨_, rfl, by rw [HE.out]; unfold OwnB; rw [dig_length]; exact own_mono2 HO.out (by omega), hbel⟩
      · have hr1 : 0 < r := by omega
        have hE : encB s.data.toList = dig m (vbits s.data.toList / 2 ^ r) ++ [UInt8.ofNat (vbits s.data.toList * 2 ^ (8 - r) % 256 + (2 ^ (8 - r) - 1))] := by
          unfold encB
          rw [← hr, if_neg hr0, ← hm, dig_last _ _ _ hr1 hr8]
        obtain ⟨p, hp⟩ : ∃ p, p = 8 - r := ⟨_, rfl⟩
        rw [← hp] at hE
        have ep : IntKind.i64.wrap (8 - (r : Int)) = (p : Int) := by rw [IntWalk.i64_in _ ⟨by omega, by omega⟩]; omega
        obtain ⟨h4, hh4⟩ : ∃ h4, h4 = h * 2 ^ p % M64 := ⟨_, rfl⟩
        have ew := wrap_u64 (h * 2 ^ p)
        rw [← hh4] at ew
        have ew' : IntKind.u64.wrap ((h : Int) * 2 ^ p) = (h4 : Int) := by rw [← ew]; congr 1
        obtain ⟨z, hz⟩ : ∃ z, z = h4 % 256 := ⟨_, rfl⟩
        have ez : IntKind.u8.wrap (h4 : Int) = (z : Int) := by rw [IntKind.wrap_u8]; omega
        obtain ⟨q, hq⟩ : ∃ q, q = 255 / 2 ^ r := ⟨_, rfl⟩
        have eq1 : (255 : Int) / 2 ^ r = (q : Int) := by rw [hq]; simp
        have hq256 : q < 256 := by rw [hq]; exact Nat.lt_of_le_of_lt (Nat.div_le_self _ _) (by omega)
        have eo := u8_or_nat z q (by omega) hq256
        obtain ⟨y, hy⟩ : ∃ y, y = z ||| q := ⟨_, rfl⟩
        rw [← hy] at eo
        have hV := Lib.hid (And.intro hE (And.intro hp (And.intro hh4 (And.intro hz (And.intro hq (And.intro hy (And.intro hh (And.intro hr hm))))))))
        have HO := Lib.hid hown
        have HBK := Lib.hid hbk
        clear hE hp hh4 hz hq hy hh hr hm ew hown hbk hall hr0
        go_wp2
        go_region_law (refine hstep_app (.tmp 59) (.tmp 68) tBytes rfl rfl (World.ownsRow.alloc HO.out _) rfl (Rd.one _ _ _) rfl (oneInt _ _) (le_maxLen (by omega)) (by omega) (by have := Book.lt HBK.out; simp; omega) ?_; intro v3 w3 hown3 hg3 _)
        go_wp2
        go_ret
        obtain ⟨hE, hp, hh4, hz, hq, hy, hh, hr, hm⟩ := hV.out
        have hl := last_byte (v := vbits s.data.toList) hr1 hr8 hp
        rw [← hh, ← hh4, ← hz, ← hq, ← hy] at hl
        refine ⟨v3, rfl, ?_, Below.app ((hbel.drew).alloc hbel.size _) (World.ownsRow.alloc HO.out _) hg3 (by omega) (by have := hbel.size; simp; omega)⟩
        have hfin := own_snoc (b := UInt8.ofNat y) (d' := encB s.data.toList) hown3 (by rw [bv, toNat_ofNat hl.2, Nat.min_eq_left (show p ≤ 64 by omega), ew', ez, eo]) (by rw [hE, hl.1])
        have hle : (encB s.data.toList).length = m + 1 := by rw [hE, List.length_append, dig_length]; rfl
        unfold OwnB
        rw [hle]
        exact own_mono2 hfin (by omega)
end Go.Proofs.Ythpieiipddfpjaa

/- The walks of huff.Size and drawbridgeref02.Size. -/
namespace Go.Proofs.Ythpieiipddfpjaa
open Go.RowKit

def SizeRel (l : List UInt8) (v i : Value) : Prop := ∃ k t : Nat, i = .int .i64 k ∧ v = .int .i64 t ∧ k ≤ l.length ∧ t = nbits (l.take k) ∧ t ≤ 30 * k

set_option maxRecDepth 100000 in
set_option maxHeartbeats 1000000 in
theorem hsize_any (s : ByteArray) (w : World) (hs : s.size ≤ 1048576) : Calls Try.prog 80 #[.string s] w fun e w' => e = .returned (.int .i64 (nbytes s.data.toList : Int)) ∧ Below w.heap.size w w' := by
  have hget := get_ba s
  have hlen := str_len s
  have HL := Lib.hid hlen
  clear hlen
  go_enter Try.func80, Try.ntmps80
  go_wp2_with fail
  refine (lengths_any w).mono ?_
  rintro e w1 ⟨rfl, hb1⟩
  simp only []
  go_step
  refine Great.wpList_runTo rfl (some 3) rfl (.pointer (some ⟨w1.heap.size, 0, none⟩)) (w1.alloc (.cells (Array.replicate 257 (.int .u8 0)) 134)) (by kernel_rfl) ?_
  refine wpList_store_rowTo rfl 134 _ _ rfl rfl w1.heap.size lensV.toArray rfl rfl 134 (Array.replicate 257 (.int .u8 0)) (heap_alloc_new w1 _) (by kernel_rfl) (by kernel_rfl) (by kernel_rfl) ?_
  have hcell : ∀ i, i < 257 → ((w1.alloc (.cells (Array.replicate 257 (.int .u8 0)) 134)).setRow w1.heap.size lensV.toArray).cell? ⟨w1.heap.size, i, none⟩ = some (.int .u8 ((lensN.getD i 0 : Nat) : Int)) := fun i hi => by
    rw [cell_setRow_same _ _ _ _ _ _ _ (heap_alloc_new w1 _)]
    simpa using lensV_get hi
  have hbel : Below w.heap.size w ((w1.alloc (.cells (Array.replicate 257 (.int .u8 0)) 134)).setRow w1.heap.size lensV.toArray) :=
    (hb1.alloc hb1.size _).trans ⟨rfl, rfl, rfl, by simp, fun k hk => setRow_other _ _ _ _ (by have := hb1.size; omega)⟩
  generalize (w1.alloc (.cells (Array.replicate 257 (.int .u8 0)) 134)).setRow w1.heap.size lensV.toArray = w2 at *
  generalize w1.heap.size = g at *
  have HC := Lib.hid hcell
  clear hcell
  go_wp2
  go_loop [4, 9] (SizeRel s.data.toList) (fun _ i => s.size - (intOf i).toNat)
  case atStart => exact ⟨0, 0, rfl, rfl, by omega, rfl, by omega⟩
  case round =>
    obtain ⟨k, t, rfl, rfl, hk, ht, ht30⟩ := hrel
    have HT := Lib.hid ht
    rw [HL.out] at hk
    clear ht
    by_cases hlt : k < s.size
    · have hb := ba_lt s.data.toList k
      have hcl := HC.out (ba s.data.toList k) (by omega)
      have hn := lens_le (ba s.data.toList k)
      have hnext := nbits_take (l := s.data.toList) (k := k) (by rw [HL.out]; exact hlt)
      generalize lensN.getD (ba s.data.toList k) 0 = n at *
      have HN := Lib.hid hnext
      have hb257 : (ba s.data.toList k : Int) < 257 := by omega
      clear hnext
      go_wp2
      go_round
      case rel => exact ⟨k + 1, t + n, by go_num, by go_num, by rw [HL.out]; omega, by rw [HN.out, HT.out], by omega⟩
      case measure => simp [intOf]; omega
    · obtain rfl : k = s.size := by omega
      go_wp2
      go_ret
      refine ⟨ret_v ?_, hbel⟩
      have : t = nbits s.data.toList := by rw [HT.out, List.take_of_length_le (by rw [HL.out]; exact Nat.le_refl _)]
      unfold nbytes
      rw [← this]
      congr 1

def UpRel (t : Nat) (v : Value) : Prop := ∃ x : Nat, v = .int .i64 x ∧ t ≤ x ∧ (x - 1) / 8 ≤ (t - 1) / 8 ∧ x ≤ t + 7 ∧ (t + 7) / 8 = (x + 7) / 8
end Go.Proofs.Ythpieiipddfpjaa
