/- 18 texts in one: Take, RefPut, Laws3a, HuffLen, HuffOpen, HuffCodesPlain, HuffRef, HuffCode, HuffEnc, HuffSize, HuffREnc, Text, RefTake, Laws3b, HuffTreePlain, HuffTreeTab, HuffTreeWay, HuffTree. -/
import Derived.Test.YtpkmciohehaboaaGreatDoorM1
import Derived.Great.BuildSlice
import Derived.Great.Walk
import Derived.Great.Ranges
import Derived.Deep.QuietTactic
import Derived.BigQuiet
import Derived.Test.YtpkmciohehaboaaGreatDoorM2
import Derived.Deep.RegionLaw
import Derived.Laws.IdiomStrings
import Derived.Lib.AppendStr
/- The walk of prefix.TakeInt. -/
namespace Go.Proofs.YtpkmciohehaboaaGreatDoor
open Go.RowKit

def TakeRel (F : Nat) (l : List UInt8) (m : Nat) (x i : Value) : Prop :=
  ∃ k s : Nat, i = .int .i64 k ∧ x = .int .i64 s ∧ k ≤ m ∧ s ≤ 254 + 128 ^ k ∧ takeI F l = takeTail (5 - k) (k + 1) s (128 ^ k) (l.drop (k + 1))

theorem u8_and127' (l : List UInt8) (k : Nat) : Go.bits .and .u8 (ba l k : Int) 127 = ((ba l k % 128 : Nat) : Int) := u8_and127 _
theorem tri_eq {a b c : Int} {r : Nat × Nat × Nat} {x y z : Nat} (h : r = (x, y, z)) (h1 : a = x) (h2 : b = y) (h3 : c = z) : Ending.returned (.tuple #[.int .i64 a, .int .i64 b, .int .i64 c]) = .returned (tri r) := by
  subst h h1 h2 h3; rfl
theorem num_eq {k : IntKind} {a b : Int} (h : a = b) : Value.int k a = .int k b := by rw [h]

set_option maxRecDepth 100000 in
set_option maxHeartbeats 1000000 in
theorem take_lt6 (b o n cap bits F : Nat) (l : List UInt8) (w : World) (hF : Full bits F) (hl : 1 < n) (hl5 : n < 6) (hcap : n ≤ cap) (_hm : cap ≤ maxLen) (hn : n = l.length) (hc : ∀ j, j < n → w.cell? ⟨b, o + j, none⟩ = some (.int .u8 (ba l j : Int))) :
    Calls Tryz.prog 217 #[.slice (some ⟨b, o, none⟩) n cap, .int .i64 bits] w fun e w' => e = .returned (tri (takeI F l)) ∧ w = w' := by
  have h1 := hF.lo
  have h8 := hF.hi
  have hF' := hF.le
  have e1 := hF.shl64
  have e5 : decide ((bits : Int) < 1) = false := by simp; omega
  have e6 : decide (8 < (bits : Int)) = false := by simp; omega
  have hc0 : w.cell? ⟨b, o, none⟩ = some (.int .u8 (ba l 0 : Int)) := hc 0 (by omega)
  have hb0 := ba_lt l 0
  have e2 := hF.and64 hb0
  obtain ⟨r, hr⟩ : ∃ r, r = ba l 0 % (F + 1) := ⟨_, rfl⟩
  rw [← hr] at e2
  have hrF : r ≤ F := by rw [hr]; have := Nat.mod_lt (ba l 0) (show 0 < F + 1 by omega); omega
  have HR := Lib.hid hr
  have HN := Lib.hid hn
  have HC := Lib.hid hc
  clear hr hn hc
  unfold maxLen at _hm
  go_enter Tryz.func217, Tryz.ntmps217
  by_cases hsm : r < F
  · go_wp2
    go_ret3
    exact ⟨by rw [take_small (by have := HN.out; omega) HR.out hsm]; rfl, rfl⟩
  · go_wp2
    clear e1 e2 e5 e6
    go_loop [8, 39] (TakeRel F l (n - 1)) (fun _ i => 6 - (intOf i).toNat)
    case atStart => exact ⟨0, r, rfl, rfl, by omega, by omega, take_big (by have := HN.out; omega) HR.out hsm⟩
    case round =>
      obtain ⟨k, s, rfl, rfl, hk, hs, ht⟩ := hrel
      have HT := Lib.hid ht
      clear ht
      by_cases hlt : k < n - 1
      · have hk5 : k = 0 ∨ k = 1 ∨ k = 2 ∨ k = 3 := by omega
        rcases hk5 with rfl | rfl | rfl | rfl
        · have hcell : w.cell? ⟨b, o + 1, none⟩ = some (.int .u8 (ba l 1 : Int)) := HC.out 1 (by omega)
          have hb1 := ba_lt l 1
          have e7 := u8_and127' l 1
          obtain ⟨m, hm⟩ : ∃ m, m = ba l 1 % 128 := ⟨_, rfl⟩
          have hst := take_in (T := 1) 1 128 2 HT.out (by omega) rfl rfl rfl (by have := HN.out; omega) hm
          rw [← hm] at e7
          have hm128 : m < 128 := by omega
          have HM := Lib.hid hm
          have HST := Lib.hid hst
          clear hm hst
          by_cases hlo : ba l 1 < 128
          · have hbig : s + 1 * m ≤ 2147483647 := by omega
            · go_wp2
              go_ret3
              exact ⟨tri_eq (HST.out.2.1 hlo (by omega)) (by omega) (by omega) rfl, rfl⟩
          · go_wp2
            go_round
            case rel => exact ⟨1, s + 1 * m, rfl, num_eq (by omega), by omega, by omega, HST.out.2.2 (by omega)⟩
            case measure => simp [intOf]
        · have hcell : w.cell? ⟨b, o + 2, none⟩ = some (.int .u8 (ba l 2 : Int)) := HC.out 2 (by omega)
          have hb1 := ba_lt l 2
          have e7 := u8_and127' l 2
          obtain ⟨m, hm⟩ : ∃ m, m = ba l 2 % 128 := ⟨_, rfl⟩
          have hst := take_in (T := 128) 2 16384 3 HT.out (by omega) rfl rfl rfl (by have := HN.out; omega) hm
          rw [← hm] at e7
          have hm128 : m < 128 := by omega
          have HM := Lib.hid hm
          have HST := Lib.hid hst
          clear hm hst
          by_cases hlo : ba l 2 < 128
          · have hbig : s + 128 * m ≤ 2147483647 := by omega
            · go_wp2
              go_ret3
              exact ⟨tri_eq (HST.out.2.1 hlo (by omega)) (by omega) (by omega) rfl, rfl⟩
          · go_wp2
            go_round
            case rel => exact ⟨2, s + 128 * m, rfl, num_eq (by omega), by omega, by omega, HST.out.2.2 (by omega)⟩
            case measure => simp [intOf]
        · have hcell : w.cell? ⟨b, o + 3, none⟩ = some (.int .u8 (ba l 3 : Int)) := HC.out 3 (by omega)
          have hb1 := ba_lt l 3
          have e7 := u8_and127' l 3
          obtain ⟨m, hm⟩ : ∃ m, m = ba l 3 % 128 := ⟨_, rfl⟩
          have hst := take_in (T := 16384) 3 2097152 4 HT.out (by omega) rfl rfl rfl (by have := HN.out; omega) hm
          rw [← hm] at e7
          have hm128 : m < 128 := by omega
          have HM := Lib.hid hm
          have HST := Lib.hid hst
          clear hm hst
          by_cases hlo : ba l 3 < 128
          · have hbig : s + 16384 * m ≤ 2147483647 := by omega
            · go_wp2
              go_ret3
              exact ⟨tri_eq (HST.out.2.1 hlo (by omega)) (by omega) (by omega) rfl, rfl⟩
          · go_wp2
            go_round
            case rel => exact ⟨3, s + 16384 * m, rfl, num_eq (by omega), by omega, by omega, HST.out.2.2 (by omega)⟩
            case measure => simp [intOf]
        · have hcell : w.cell? ⟨b, o + 4, none⟩ = some (.int .u8 (ba l 4 : Int)) := HC.out 4 (by omega)
          have hb1 := ba_lt l 4
          have e7 := u8_and127' l 4
          obtain ⟨m, hm⟩ : ∃ m, m = ba l 4 % 128 := ⟨_, rfl⟩
          have hst := take_in (T := 2097152) 4 268435456 5 HT.out (by omega) rfl rfl rfl (by have := HN.out; omega) hm
          rw [← hm] at e7
          have hm128 : m < 128 := by omega
          have HM := Lib.hid hm
          have HST := Lib.hid hst
          clear hm hst
          by_cases hlo : ba l 4 < 128
          · have hbig : s + 2097152 * m ≤ 2147483647 := by omega
            · go_wp2
              go_ret3
              exact ⟨tri_eq (HST.out.2.1 hlo (by omega)) (by omega) (by omega) rfl, rfl⟩
          · go_wp2
            go_round
            case rel => exact ⟨4, s + 2097152 * m, rfl, num_eq (by omega), by omega, by omega, HST.out.2.2 (by omega)⟩
            case measure => simp [intOf]
      · go_wp2
        go_ret3
        exact ⟨by rw [take_end HT.out (by omega) (by have := HN.out; omega)]; rfl, rfl⟩

set_option maxRecDepth 100000 in
set_option maxHeartbeats 1000000 in
theorem take_gt6 (b o n cap bits F : Nat) (l : List UInt8) (w : World) (hF : Full bits F) (hl : 6 < n) (hcap : n ≤ cap) (_hm : cap ≤ maxLen) (hn : n = l.length) (hc : ∀ j, j < n → w.cell? ⟨b, o + j, none⟩ = some (.int .u8 (ba l j : Int))) :
    Calls Tryz.prog 217 #[.slice (some ⟨b, o, none⟩) n cap, .int .i64 bits] w fun e w' => e = .returned (tri (takeI F l)) ∧ w = w' := by
  have h1 := hF.lo
  have h8 := hF.hi
  have hF' := hF.le
  have e1 := hF.shl64
  have e5 : decide ((bits : Int) < 1) = false := by simp; omega
  have e6 : decide (8 < (bits : Int)) = false := by simp; omega
  have hc0 : w.cell? ⟨b, o, none⟩ = some (.int .u8 (ba l 0 : Int)) := hc 0 (by omega)
  have hb0 := ba_lt l 0
  have e2 := hF.and64 hb0
  obtain ⟨r, hr⟩ : ∃ r, r = ba l 0 % (F + 1) := ⟨_, rfl⟩
  rw [← hr] at e2
  have hrF : r ≤ F := by rw [hr]; have := Nat.mod_lt (ba l 0) (show 0 < F + 1 by omega); omega
  have HR := Lib.hid hr
  have HN := Lib.hid hn
  have HC := Lib.hid hc
  clear hr hn hc
  unfold maxLen at _hm
  go_enter Tryz.func217, Tryz.ntmps217
  by_cases hsm : r < F
  · go_wp2
    go_ret3
    exact ⟨by rw [take_small (by have := HN.out; omega) HR.out hsm]; rfl, rfl⟩
  · go_wp2
    clear e1 e2 e5 e6
    go_loop [8, 39] (TakeRel F l (5)) (fun _ i => 6 - (intOf i).toNat)
    case atStart => exact ⟨0, r, rfl, rfl, by omega, by omega, take_big (by have := HN.out; omega) HR.out hsm⟩
    case round =>
      obtain ⟨k, s, rfl, rfl, hk, hs, ht⟩ := hrel
      have HT := Lib.hid ht
      clear ht
      by_cases hlt : k < 5
      · have hk5 : k = 0 ∨ k = 1 ∨ k = 2 ∨ k = 3 ∨ k = 4 := by omega
        rcases hk5 with rfl | rfl | rfl | rfl | rfl
        · have hcell : w.cell? ⟨b, o + 1, none⟩ = some (.int .u8 (ba l 1 : Int)) := HC.out 1 (by omega)
          have hb1 := ba_lt l 1
          have e7 := u8_and127' l 1
          obtain ⟨m, hm⟩ : ∃ m, m = ba l 1 % 128 := ⟨_, rfl⟩
          have hst := take_in (T := 1) 1 128 2 HT.out (by omega) rfl rfl rfl (by have := HN.out; omega) hm
          rw [← hm] at e7
          have hm128 : m < 128 := by omega
          have HM := Lib.hid hm
          have HST := Lib.hid hst
          clear hm hst
          by_cases hlo : ba l 1 < 128
          · have hbig : s + 1 * m ≤ 2147483647 := by omega
            · go_wp2
              go_ret3
              exact ⟨tri_eq (HST.out.2.1 hlo (by omega)) (by omega) (by omega) rfl, rfl⟩
          · go_wp2
            go_round
            case rel => exact ⟨1, s + 1 * m, rfl, num_eq (by omega), by omega, by omega, HST.out.2.2 (by omega)⟩
            case measure => simp [intOf]
        · have hcell : w.cell? ⟨b, o + 2, none⟩ = some (.int .u8 (ba l 2 : Int)) := HC.out 2 (by omega)
          have hb1 := ba_lt l 2
          have e7 := u8_and127' l 2
          obtain ⟨m, hm⟩ : ∃ m, m = ba l 2 % 128 := ⟨_, rfl⟩
          have hst := take_in (T := 128) 2 16384 3 HT.out (by omega) rfl rfl rfl (by have := HN.out; omega) hm
          rw [← hm] at e7
          have hm128 : m < 128 := by omega
          have HM := Lib.hid hm
          have HST := Lib.hid hst
          clear hm hst
          by_cases hlo : ba l 2 < 128
          · have hbig : s + 128 * m ≤ 2147483647 := by omega
            · go_wp2
              go_ret3
              exact ⟨tri_eq (HST.out.2.1 hlo (by omega)) (by omega) (by omega) rfl, rfl⟩
          · go_wp2
            go_round
            case rel => exact ⟨2, s + 128 * m, rfl, num_eq (by omega), by omega, by omega, HST.out.2.2 (by omega)⟩
            case measure => simp [intOf]
        · have hcell : w.cell? ⟨b, o + 3, none⟩ = some (.int .u8 (ba l 3 : Int)) := HC.out 3 (by omega)
          have hb1 := ba_lt l 3
          have e7 := u8_and127' l 3
          obtain ⟨m, hm⟩ : ∃ m, m = ba l 3 % 128 := ⟨_, rfl⟩
          have hst := take_in (T := 16384) 3 2097152 4 HT.out (by omega) rfl rfl rfl (by have := HN.out; omega) hm
          rw [← hm] at e7
          have hm128 : m < 128 := by omega
          have HM := Lib.hid hm
          have HST := Lib.hid hst
          clear hm hst
          by_cases hlo : ba l 3 < 128
          · have hbig : s + 16384 * m ≤ 2147483647 := by omega
            · go_wp2
              go_ret3
              exact ⟨tri_eq (HST.out.2.1 hlo (by omega)) (by omega) (by omega) rfl, rfl⟩
          · go_wp2
            go_round
            case rel => exact ⟨3, s + 16384 * m, rfl, num_eq (by omega), by omega, by omega, HST.out.2.2 (by omega)⟩
            case measure => simp [intOf]
        · have hcell : w.cell? ⟨b, o + 4, none⟩ = some (.int .u8 (ba l 4 : Int)) := HC.out 4 (by omega)
          have hb1 := ba_lt l 4
          have e7 := u8_and127' l 4
          obtain ⟨m, hm⟩ : ∃ m, m = ba l 4 % 128 := ⟨_, rfl⟩
          have hst := take_in (T := 2097152) 4 268435456 5 HT.out (by omega) rfl rfl rfl (by have := HN.out; omega) hm
          rw [← hm] at e7
          have hm128 : m < 128 := by omega
          have HM := Lib.hid hm
          have HST := Lib.hid hst
          clear hm hst
          by_cases hlo : ba l 4 < 128
          · have hbig : s + 2097152 * m ≤ 2147483647 := by omega
            · go_wp2
              go_ret3
              exact ⟨tri_eq (HST.out.2.1 hlo (by omega)) (by omega) (by omega) rfl, rfl⟩
          · go_wp2
            go_round
            case rel => exact ⟨4, s + 2097152 * m, rfl, num_eq (by omega), by omega, by omega, HST.out.2.2 (by omega)⟩
            case measure => simp [intOf]
        · have hcell : w.cell? ⟨b, o + 5, none⟩ = some (.int .u8 (ba l 5 : Int)) := HC.out 5 (by omega)
          have hb1 := ba_lt l 5
          have e7 := u8_and127' l 5
          obtain ⟨m, hm⟩ : ∃ m, m = ba l 5 % 128 := ⟨_, rfl⟩
          have hst := take_in (T := 268435456) 5 34359738368 6 HT.out (by omega) rfl rfl rfl (by have := HN.out; omega) hm
          rw [← hm] at e7
          have hm128 : m < 128 := by omega
          have HM := Lib.hid hm
          have HST := Lib.hid hst
          clear hm hst
          by_cases hlo : ba l 5 < 128
          · by_cases hbig : 2147483647 < s + 268435456 * m
            · go_wp2
              go_ret3
              exact ⟨tri_eq (HST.out.1 hlo (by omega)) rfl rfl rfl, rfl⟩
            · go_wp2
              go_ret3
              exact ⟨tri_eq (HST.out.2.1 hlo (by omega)) (by omega) (by omega) rfl, rfl⟩
          · go_wp2
            go_round
            case rel => exact ⟨5, s + 268435456 * m, rfl, num_eq (by omega), by omega, by omega, HST.out.2.2 (by omega)⟩
            case measure => simp [intOf]
      · go_wp2
        go_ret3
        obtain rfl : k = 5 := by omega
        exact ⟨by rw [take_full HT.out]; rfl, rfl⟩
set_option maxRecDepth 100000 in
set_option maxHeartbeats 1000000 in
theorem take_eq6 (b o cap bits F : Nat) (l : List UInt8) (w : World) (hF : Full bits F) (hcap : 6 ≤ cap) (_hm : cap ≤ maxLen) (hn : 6 = l.length) (hc : ∀ j, j < 6 → w.cell? ⟨b, o + j, none⟩ = some (.int .u8 (ba l j : Int))) :
    Calls Tryz.prog 217 #[.slice (some ⟨b, o, none⟩) 6 cap, .int .i64 bits] w fun e w' => e = .returned (tri (takeI F l)) ∧ w = w' := by
  have h1 := hF.lo
  have h8 := hF.hi
  have hF' := hF.le
  have e1 := hF.shl64
  have e5 : decide ((bits : Int) < 1) = false := by simp; omega
  have e6 : decide (8 < (bits : Int)) = false := by simp; omega
  have hc0 : w.cell? ⟨b, o, none⟩ = some (.int .u8 (ba l 0 : Int)) := hc 0 (by omega)
  have hb0 := ba_lt l 0
  have e2 := hF.and64 hb0
  obtain ⟨r, hr⟩ : ∃ r, r = ba l 0 % (F + 1) := ⟨_, rfl⟩
  rw [← hr] at e2
  have hrF : r ≤ F := by rw [hr]; have := Nat.mod_lt (ba l 0) (show 0 < F + 1 by omega); omega
  have HR := Lib.hid hr
  have HN := Lib.hid hn
  have HC := Lib.hid hc
  clear hr hn hc
  unfold maxLen at _hm
  go_enter Tryz.func217, Tryz.ntmps217
  by_cases hsm : r < F
  · go_wp2
    go_ret3
    exact ⟨by rw [take_small (by have := HN.out; omega) HR.out hsm]; rfl, rfl⟩
  · go_wp2
    clear e1 e2 e5 e6
    go_loop [8, 39] (TakeRel F l (5)) (fun _ i => 6 - (intOf i).toNat)
    case atStart => exact ⟨0, r, rfl, rfl, by omega, by omega, take_big (by have := HN.out; omega) HR.out hsm⟩
    case round =>
      obtain ⟨k, s, rfl, rfl, hk, hs, ht⟩ := hrel
      have HT := Lib.hid ht
      clear ht
      by_cases hlt : k < 5
      · have hk5 : k = 0 ∨ k = 1 ∨ k = 2 ∨ k = 3 ∨ k = 4 := by omega
        rcases hk5 with rfl | rfl | rfl | rfl | rfl
        · have hcell : w.cell? ⟨b, o + 1, none⟩ = some (.int .u8 (ba l 1 : Int)) := HC.out 1 (by omega)
          have hb1 := ba_lt l 1
          have e7 := u8_and127' l 1
          obtain ⟨m, hm⟩ : ∃ m, m = ba l 1 % 128 := ⟨_, rfl⟩
          have hst := take_in (T := 1) 1 128 2 HT.out (by omega) rfl rfl rfl (by have := HN.out; omega) hm
          rw [← hm] at e7
          have hm128 : m < 128 := by omega
          have HM := Lib.hid hm
          have HST := Lib.hid hst
          clear hm hst
          by_cases hlo : ba l 1 < 128
          · have hbig : s + 1 * m ≤ 2147483647 := by omega
            · go_wp2
              go_ret3
              exact ⟨tri_eq (HST.out.2.1 hlo (by omega)) (by omega) (by omega) rfl, rfl⟩
          · go_wp2
            go_round
            case rel => exact ⟨1, s + 1 * m, rfl, num_eq (by omega), by omega, by omega, HST.out.2.2 (by omega)⟩
            case measure => simp [intOf]
        · have hcell : w.cell? ⟨b, o + 2, none⟩ = some (.int .u8 (ba l 2 : Int)) := HC.out 2 (by omega)
          have hb1 := ba_lt l 2
          have e7 := u8_and127' l 2
          obtain ⟨m, hm⟩ : ∃ m, m = ba l 2 % 128 := ⟨_, rfl⟩
          have hst := take_in (T := 128) 2 16384 3 HT.out (by omega) rfl rfl rfl (by have := HN.out; omega) hm
          rw [← hm] at e7
          have hm128 : m < 128 := by omega
          have HM := Lib.hid hm
          have HST := Lib.hid hst
          clear hm hst
          by_cases hlo : ba l 2 < 128
          · have hbig : s + 128 * m ≤ 2147483647 := by omega
            · go_wp2
              go_ret3
              exact ⟨tri_eq (HST.out.2.1 hlo (by omega)) (by omega) (by omega) rfl, rfl⟩
          · go_wp2
            go_round
            case rel => exact ⟨2, s + 128 * m, rfl, num_eq (by omega), by omega, by omega, HST.out.2.2 (by omega)⟩
            case measure => simp [intOf]
        · have hcell : w.cell? ⟨b, o + 3, none⟩ = some (.int .u8 (ba l 3 : Int)) := HC.out 3 (by omega)
          have hb1 := ba_lt l 3
          have e7 := u8_and127' l 3
          obtain ⟨m, hm⟩ : ∃ m, m = ba l 3 % 128 := ⟨_, rfl⟩
          have hst := take_in (T := 16384) 3 2097152 4 HT.out (by omega) rfl rfl rfl (by have := HN.out; omega) hm
          rw [← hm] at e7
          have hm128 : m < 128 := by omega
          have HM := Lib.hid hm
          have HST := Lib.hid hst
          clear hm hst
          by_cases hlo : ba l 3 < 128
          · have hbig : s + 16384 * m ≤ 2147483647 := by omega
            · go_wp2
              go_ret3
              exact ⟨tri_eq (HST.out.2.1 hlo (by omega)) (by omega) (by omega) rfl, rfl⟩
          · go_wp2
            go_round
            case rel => exact ⟨3, s + 16384 * m, rfl, num_eq (by omega), by omega, by omega, HST.out.2.2 (by omega)⟩
            case measure => simp [intOf]
        · have hcell : w.cell? ⟨b, o + 4, none⟩ = some (.int .u8 (ba l 4 : Int)) := HC.out 4 (by omega)
          have hb1 := ba_lt l 4
          have e7 := u8_and127' l 4
          obtain ⟨m, hm⟩ : ∃ m, m = ba l 4 % 128 := ⟨_, rfl⟩
          have hst := take_in (T := 2097152) 4 268435456 5 HT.out (by omega) rfl rfl rfl (by have := HN.out; omega) hm
          rw [← hm] at e7
          have hm128 : m < 128 := by omega
          have HM := Lib.hid hm
          have HST := Lib.hid hst
          clear hm hst
          by_cases hlo : ba l 4 < 128
          · have hbig : s + 2097152 * m ≤ 2147483647 := by omega
            · go_wp2
              go_ret3
              exact ⟨tri_eq (HST.out.2.1 hlo (by omega)) (by omega) (by omega) rfl, rfl⟩
          · go_wp2
            go_round
            case rel => exact ⟨4, s + 2097152 * m, rfl, num_eq (by omega), by omega, by omega, HST.out.2.2 (by omega)⟩
            case measure => simp [intOf]
        · have hcell : w.cell? ⟨b, o + 5, none⟩ = some (.int .u8 (ba l 5 : Int)) := HC.out 5 (by omega)
          have hb1 := ba_lt l 5
          have e7 := u8_and127' l 5
          obtain ⟨m, hm⟩ : ∃ m, m = ba l 5 % 128 := ⟨_, rfl⟩
          have hst := take_in (T := 268435456) 5 34359738368 6 HT.out (by omega) rfl rfl rfl (by have := HN.out; omega) hm
          rw [← hm] at e7
          have hm128 : m < 128 := by omega
          have HM := Lib.hid hm
          have HST := Lib.hid hst
          clear hm hst
          by_cases hlo : ba l 5 < 128
          · by_cases hbig : 2147483647 < s + 268435456 * m
            · go_wp2
              go_ret3
              exact ⟨tri_eq (HST.out.1 hlo (by omega)) rfl rfl rfl, rfl⟩
            · go_wp2
              go_ret3
              exact ⟨tri_eq (HST.out.2.1 hlo (by omega)) (by omega) (by omega) rfl, rfl⟩
          · go_wp2
            go_round
            case rel => exact ⟨5, s + 268435456 * m, rfl, num_eq (by omega), by omega, by omega, HST.out.2.2 (by omega)⟩
            case measure => simp [intOf]
      · go_wp2
        go_ret3
        obtain rfl : k = 5 := by omega
        exact ⟨by rw [take_full HT.out]; rfl, rfl⟩

set_option maxRecDepth 100000 in
set_option maxHeartbeats 1000000 in
theorem take_1 (b o cap bits F : Nat) (l : List UInt8) (w : World) (hF : Full bits F) (hcap : 1 ≤ cap) (_hm : cap ≤ maxLen) (hn : 1 = l.length) (hc : ∀ j, j < 1 → w.cell? ⟨b, o + j, none⟩ = some (.int .u8 (ba l j : Int))) :
    Calls Tryz.prog 217 #[.slice (some ⟨b, o, none⟩) 1 cap, .int .i64 bits] w fun e w' => e = .returned (tri (takeI F l)) ∧ w = w' := by
  have h1 := hF.lo
  have h8 := hF.hi
  have hF' := hF.le
  have e1 := hF.shl64
  have e5 : decide ((bits : Int) < 1) = false := by simp; omega
  have e6 : decide (8 < (bits : Int)) = false := by simp; omega
  have hc0 : w.cell? ⟨b, o, none⟩ = some (.int .u8 (ba l 0 : Int)) := hc 0 (by omega)
  have hb0 := ba_lt l 0
  have e2 := hF.and64 hb0
  obtain ⟨r, hr⟩ : ∃ r, r = ba l 0 % (F + 1) := ⟨_, rfl⟩
  rw [← hr] at e2
  have hrF : r ≤ F := by rw [hr]; have := Nat.mod_lt (ba l 0) (show 0 < F + 1 by omega); omega
  have HR := Lib.hid hr
  have HN := Lib.hid hn
  clear hr hn hc
  unfold maxLen at _hm
  go_enter Tryz.func217, Tryz.ntmps217
  by_cases hsm : r < F
  · go_wp2
    go_ret3
    exact ⟨by rw [take_small (by have := HN.out; omega) HR.out hsm]; rfl, rfl⟩
  · by_cases hc1 : cap = 1
    · subst hc1
      go_wp2
      refine wp_loop_rounds 1 ?_
      rw [rounds_succ]
      go_wp2
      go_ret3
      exact ⟨by rw [take_end (take_big (by have := HN.out; omega) HR.out hsm) (by omega) (by have := HN.out; omega)]; rfl, rfl⟩
    · go_wp2
      refine wp_loop_rounds 1 ?_
      rw [rounds_succ]
      go_wp2
      go_ret3
      exact ⟨by rw [take_end (take_big (by have := HN.out; omega) HR.out hsm) (by omega) (by have := HN.out; omega)]; rfl, rfl⟩

/-- TakeInt, whatever the bytes: a prefix of 1 to 8 bits. -/
theorem take_any {A : Option Addr} {B n cap bits F : Nat} {l : List UInt8} {w : World} (hF : Full bits F) (hr : Rd w B 1 A n (bvs l)) (hcap : n ≤ cap) (hm : cap ≤ maxLen) :
    Calls Tryz.prog 217 #[.slice A n cap, .int .i64 bits] w fun e w' => e = .returned (tri (takeI F l)) ∧ w = w' := by
  rcases Nat.eq_zero_or_pos n with rfl | hn
  · have hl := hr.blen
    have hl0 : l = [] := List.eq_nil_of_length_eq_zero hl
    subst hl0
    have h1 := hF.lo
    have h8 := hF.hi
    clear hr hl
    go_enter Tryz.func217, Tryz.ntmps217
    go_wp2
    go_ret3
    exact ⟨rfl, rfl⟩
  · obtain ⟨hl, b, o, rfl, -, hc⟩ := hr.bas hn
    rcases Nat.lt_trichotomy n 6 with h6 | h6 | h6
    · rcases Nat.lt_or_ge 1 n with h1 | h1
      · exact take_lt6 b o n cap bits F l w hF h1 h6 hcap hm hl.symm hc
      · obtain rfl : n = 1 := by omega
        exact take_1 b o cap bits F l w hF hcap hm hl.symm hc
    · subst h6
      exact take_eq6 b o cap bits F l w hF hcap hm hl.symm hc
    · exact take_gt6 b o n cap bits F l w hF h6 hcap hm hl.symm hc
end Go.Proofs.YtpkmciohehaboaaGreatDoor

/- The walk of drawbridgeref03.PutInt: it writes what prefix.PutInt writes. -/
namespace Go.Proofs.YtpkmciohehaboaaGreatDoor
open Go.RowKit

/-- The doubling loop: behind k rounds the number is 2^k. -/
def DblRel (kd : IntKind) (bits : Nat) (a i : Value) : Prop := ∃ k p : Nat, i = .int .i64 k ∧ a = .int kd p ∧ k ≤ bits ∧ p = 2 ^ k ∧ p ≤ 256
theorem DblRel.next {bits k p : Nat} (h : p = 2 ^ k) (hk : k < bits) (hb : bits ≤ 8) : p * 2 = 2 ^ (k + 1) ∧ p ≤ 128 := by
  subst h
  refine ⟨by rw [Nat.pow_succ], ?_⟩
  exact Nat.pow_le_pow_right (by omega) (show k ≤ 7 by omega)

end Go.Proofs.YtpkmciohehaboaaGreatDoor

/- The walks of drawbridgeref01.Bytes, drawbridgelaw03.counts, PrefixPuts. -/
namespace Go.Proofs.YtpkmciohehaboaaGreatDoor
open Go.RowKit

end Go.Proofs.YtpkmciohehaboaaGreatDoor

/- The walk of huff.lengths; a whole array out of a block. -/
namespace Go.Proofs.YtpkmciohehaboaaGreatDoor
open Go.RowKit

/-- The lengths, as cells. -/
def lensV : List Value := lensN.map fun n : Nat => Value.int .u8 (n : Int)
theorem lensV_ints : lensV = (lensN.map fun n : Nat => (n : Int)).map (Value.int .u8) := by rw [List.map_map]; rfl
theorem lensV_length : lensV.length = 257 := by decide +kernel
theorem lensV_get {i : Nat} (hi : i < 257) : lensV[i]? = some (.int .u8 ((lensN.getD i 0 : Nat) : Int)) := by
  have hl : i < lensN.length := by rw [tab_lengths.1]; exact hi
  simp [lensV, List.getD, List.getElem?_eq_getElem hl]

set_option maxRecDepth 100000 in
set_option maxHeartbeats 1000000 in
theorem lengths_any (w : World) : Calls Tryz.prog 229 #[] w fun e w' => e = .returned (.agg lensV.toArray) ∧ Below w.heap.size w w' := by
  go_enter Tryz.func229, Tryz.ntmps229
  go_step; go_step; go_step
  refine Great.wpList_runTo rfl (some 0) rfl (.pointer (some ⟨w.heap.size, 0, none⟩)) (w.alloc (.cells (Array.replicate 257 (.int .u8 0)) 294)) (by kernel_rfl) ?_
  go_step; go_step; go_step; go_step; go_step
  refine wpList_buildFlatArrTo rfl 294 5 257 _ rfl .u8 (lensN.map fun n : Nat => (n : Int)) (some 1) rfl Tryz.underlying294 (by kernel_rfl) (by kernel_rfl) (by kernel_rfl) ?_
  rw [← lensV_ints]
  refine wpList_store_rowTo rfl 294 _ _ rfl rfl w.heap.size lensV.toArray rfl rfl 294 (Array.replicate 257 (.int .u8 0)) (heap_alloc_new w _) (by kernel_rfl) (by kernel_rfl) (by kernel_rfl) ?_
  go_wp2_with fail
  refine bodyPost_ret (results_cell_row rfl _ _ w.heap.size 294 lensV.toArray (0, 0) _ rfl (setRow_heap _ _ _ _ _ _ (heap_alloc_new w _)) Tryz.underlying294 rfl (by kernel_rfl)) rfl ?_
  exact ⟨rfl, ((Below.refl _ _).alloc (Nat.le_refl _) _).trans ⟨rfl, rfl, rfl, by simp, fun k hk => setRow_other _ _ _ _ (by omega)⟩⟩

section
variable {P : Program}
/-- An element of an array that is a value. -/
theorem run_index_arr {t e : TypeId} {n : Nat} {k ki : IntKind} (ht : P.underlying t = some (.array n e)) (he : P.underlying e = some (.int k)) (hsz : (P.info? e).map (·.size) = some 1)
    {cs : List Value} {i : Nat} {v : Value} (w : World) (hi : i < n) (hv : cs[i]? = some v) : (Instr.index t (.agg cs.toArray) (.int ki (i : Int))).run P w = .ok v w := by
  cases hq : P.info? e with
  | none => simp [hq] at hsz
  | some ie =>
    have hs : ie.size = 1 := by simpa [hq] using hsz
    have hag : (isAgg e).run P w = .ok false w := by
      unfold isAgg
      rw [Sem.run_bind, run_underlying he w]
      rfl
    simp [Instr.index, asIntOf, run_underlying ht, sizeOf, typeInfo, hq, hs, part, hag, hi, hv]
/-- A whole array loaded out of the middle of a block. -/
theorem wpList_load_part {ops : Array Oper} {rest : List Oper} {o : Oper} {a : Act} {w : World} {Q : Exit → Act → World → Prop} (ty : TypeId) (x : Operand) (hgd : o.guard = none) (ho : o.op = .load ty x)
    (g off : Nat) (cs : List Value) (d : TypeDesc) (hx : a.eval x = .pointer (some ⟨g, off, none⟩)) (hc : ∀ j v, cs[j]? = some v → w.cell? ⟨g, off + j, none⟩ = some v)
    (hu : P.underlying ty = some d) (hd : (match d with | .struct _ | .array _ _ => true | _ => false) = true) (hi : (P.info? ty).map (·.size) = some cs.length)
    (h : wpList P ops Q rest (a.put o.dst (.agg cs.toArray)) w) : wpList P ops Q (o :: rest) a w := by
  refine wpList_plain hgd fun _ hK => ?_
  have hl : (loadCells ⟨g, off, none⟩ cs.length).run P w = .ok cs.toArray w :=
    run_loadCells_list (P := P) w ⟨g, off, none⟩ cs (fun j v hv => by rw [Addr.add_lit]; exact hc j v hv)
  have hrun : (loadVar ty ⟨g, off, none⟩).run P w = .ok (.agg cs.toArray) w := by
    cases hq : P.info? ty with
    | none => simp [hq] at hi
    | some i =>
      have hs : i.size = cs.length := by simpa [hq] using hi
      have hagg : (isAgg ty).run P w = .ok true w := by
        unfold isAgg
        rw [Sem.run_bind, run_underlying hu w]
        cases d <;> simp_all
      simp [loadVar, Sem.run_bind, hagg, sizeOf, typeInfo, hq, hs, hl]
  unfold Oper.wp execOp
  simp only [ho, hx, Instr.loadAt, Instr.sureAddr, Sem.run_bind, Sem.run_pure, Result.andThen_ok, hrun]
  exact hK _ _ h
end

end Go.Proofs.YtpkmciohehaboaaGreatDoor

/- The walk of huff.open. -/
namespace Go.Proofs.YtpkmciohehaboaaGreatDoor
open Go.RowKit

/-- The book's block. -/
def Book (w : World) (B : Nat) (m : List Nat) (st : OSt) : Prop := w.heap[B]? = some (.cells (blk m st).toArray 300 (0, 0))
theorem Book.cell {w : World} {B : Nat} {m : List Nat} {st : OSt} (h : Book w B m st) (i : Nat) : w.cell? ⟨B, i, none⟩ = (blk m st)[i]? := by
  rw [cell_of_row w B i _ _ (0, 0) h]; simp
theorem Book.frozen {w : World} {B : Nat} {m : List Nat} {st : OSt} (h : Book w B m st) (i : Nat) : w.frozen? ⟨B, i, none⟩ = false := frozen_of_row w B i _ _ h
theorem Book.lt {w : World} {B : Nat} {m : List Nat} {st : OSt} (h : Book w B m st) : B < w.heap.size := (Array.getElem?_eq_some_iff.1 h).1
theorem Book.set_ {w : World} {B : Nat} {m m' : List Nat} {st st' : OSt} (h : Book w B m st) (i : Nat) (v : Value) (hs : (blk m st).set i v = blk m' st') : Book (w.setCell ⟨B, i, none⟩ v) B m' st' := by
  have := heap_setCell_same w B i _ _ v h
  unfold Book
  rw [this, ← hs]
  simp
theorem Book.set2 {w : World} {B : Nat} {m m' : List Nat} {st st' : OSt} (h : Book w B m st) (i j : Nat) (u v : Value) (hs : ((blk m st).set i u).set j v = blk m' st') :
    Book ((w.setCell ⟨B, i, none⟩ u).setCell ⟨B, j, none⟩ v) B m' st' := by
  have h1 := heap_setCell_same w B i _ _ u h
  have h2 := heap_setCell_same _ B j _ _ v h1
  unfold Book
  rw [h2, ← hs]
  simp
/-- The loop over the lengths; over the symbols. -/
def LenRel (W : World) (B : Nat) (p c i : Value) (w : World) : Prop :=
  ∃ n : Nat, i = .int .i64 n ∧ n ≤ 31 ∧ p = .int .i64 ((OSt.at_ n).pos : Int) ∧ c = .int .u32 ((OSt.at_ n).code : Int) ∧ Book w B manyT (OSt.at_ n) ∧ Below W.heap.size W w
def SymRel (W : World) (B n : Nat) (p c i : Value) (w : World) : Prop :=
  ∃ s : Nat, i = .int .i64 s ∧ s ≤ 257 ∧ p = .int .i64 ((OSt.inner n s (OSt.begin n (OSt.at_ n))).pos : Int) ∧ c = .int .u32 ((OSt.inner n s (OSt.begin n (OSt.at_ n))).code : Int) ∧
    Book w B manyT (OSt.inner n s (OSt.begin n (OSt.at_ n))) ∧ Below W.heap.size W w
/-- The counting loop. -/
def CntRel (W : World) (B : Nat) (i : Value) (w : World) : Prop := ∃ k : Nat, i = .int .i64 k ∧ k ≤ 257 ∧ Book w B (cntAt k) OSt.zero ∧ Below W.heap.size W w

set_option maxRecDepth 100000 in
set_option maxHeartbeats 2000000 in
theorem open_any (w : World) : Calls Tryz.prog 228 #[] w fun e w' => ∃ B, e = .returned (.pointer (some ⟨B, 0, none⟩)) ∧ Book w' B manyT (OSt.at_ 31) ∧ w.heap.size ≤ B ∧ Below w.heap.size w w' := by
  have hidx : ∀ (i : Nat) (w : World), i < 257 → (Instr.index 294 (.agg lensV.toArray) (.int .i64 (i : Int))).run Tryz.prog w = .ok (.int .u8 ((lensN.getD i 0 : Nat) : Int)) w :=
    fun i w hi => run_index_arr Tryz.underlying294 Tryz.underlying5 (by kernel_rfl) w hi (lensV_get hi)
  have HIDX := Lib.hid hidx
  clear hidx
  go_enter Tryz.func228, Tryz.ntmps228
  go_wp2_with fail
  refine (lengths_any w).mono ?_
  rintro e w1 ⟨rfl, hb1⟩
  simp only []
  go_step
  refine wpList_buildTo rfl 300 _ rfl (some 9) rfl (blk (List.replicate 31 0) OSt.zero).toArray (by kernel_rfl) ?_
  refine Great.wpList_boxTo rfl 300 _ rfl (some 10) rfl w1.heap.size rfl (blk (List.replicate 31 0) OSt.zero).toArray rfl ?_
  have hbk : Book (w1.alloc (.cells (blk (List.replicate 31 0) OSt.zero).toArray 300)) w1.heap.size (cntAt 0) OSt.zero := heap_alloc_new w1 _
  have hbel := hb1.alloc hb1.size (.cells (blk (List.replicate 31 0) OSt.zero).toArray 300)
  generalize w1.alloc (.cells (blk (List.replicate 31 0) OSt.zero).toArray 300) = w2 at hbk hbel ⊢
  have hB := hb1.size
  generalize w1.heap.size = B at hbk hB ⊢
  have HBK := Lib.hid hbk
  clear hbk hb1
  generalize (blk (List.replicate 31 0) OSt.zero).toArray = arr0
  go_wp2_with (first | (with_reducible refine wpList_load_part 294 (.tmp 13) rfl rfl B 0 lensV _ rfl ?_ Tryz.underlying294 rfl (by kernel_rfl) ?_))
  · intro j v hj
    have hj' : j < 257 := by rw [← lensV_length]; exact (List.getElem?_eq_some_iff.1 hj).1
    rw [Nat.zero_add, HBK.out.cell, blk_size hj', ← lensV_get hj']
    exact hj
  go_loopw [15] (CntRel w B) (fun i _ => 257 - (intOf i).toNat)
  case atStart => exact ⟨0, rfl, by omega, HBK.out, hbel⟩
  case round =>
    obtain ⟨k, rfl, hk, hbk, hbel'⟩ := hrel
    have hBw := hbk.lt
    by_cases hlt : k < 257
    · have hi := HIDX.out k wr hlt
      have hn := lens_le k
      have hcell := hbk.cell (545 + lensN.getD k 0)
      rw [blk_many (cnt_length k) OSt.Wf.zero (show lensN.getD k 0 < 31 by omega)] at hcell
      have hfro := hbk.frozen (545 + lensN.getD k 0)
      have hnext := cnt_next hlt
      have hset := set_many (cnt_length k) OSt.Wf.zero (show lensN.getD k 0 < 31 by omega) ((cntAt k).getD (lensN.getD k 0) 0 + 1)
      rw [← cntStep, ← hnext] at hset
      have hc := cnt_le k (lensN.getD k 0) (by omega)
      generalize lensN.getD k 0 = n at *
      generalize (cntAt k).getD n 0 = c at *
      have HBK := Lib.hid hbk
      have HS := Lib.hid hset
      clear hbk hset hnext
      have hn31 : (n : Int) < 31 := by omega
      go_wp2
      go_region
      go_wp2
      go_roundw
      case rel => exact ⟨k + 1, by go_num, by omega, HBK.out.set_ _ _ HS.out, (hbel'.setCell (p := ⟨B, _, none⟩) hB _).drew⟩
      case measure => simp [intOf]; omega
    · obtain rfl : k = 257 := by omega
      rw [cnt_end] at hbk
      have HBK := Lib.hid hbk
      clear hbk
      have hmany : manyT.length = 31 := tab_lengths.2.2.2.1
      go_wp2
      go_loopw [4, 5, 29] (LenRel w B) (fun _ _ i _ => 31 - (intOf i).toNat)
      case atStart => exact ⟨0, rfl, by omega, rfl, rfl, HBK.out, hbel'⟩
      case round =>
        obtain ⟨n, rfl, hn, rfl, rfl, hbk, hbel'⟩ := hrel
        have hBw := hbk.lt
        by_cases hlt : n < 31
        · have hcell1 := hbk.cell (514 + n)
          rw [blk_first (OSt.Wf.at_ n) hlt] at hcell1
          have hcell2 := hbk.cell (576 + n)
          rw [blk_from hmany (OSt.Wf.at_ n) hlt] at hcell2
          have hfro1 := hbk.frozen (514 + n)
          have hfro2 := hbk.frozen (576 + n)
          have hset := set_begin hmany (OSt.Wf.at_ n) hlt
          have hc32 := (OSt.Wf.at_ n).code
          have hpos := hpos_at n
          have hi0 : (OSt.inner n 0 (OSt.begin n (OSt.at_ n))) = OSt.begin n (OSt.at_ n) := rfl
          have hp0 : (OSt.begin n (OSt.at_ n)).pos = (OSt.at_ n).pos := rfl
          have hc0 : (OSt.begin n (OSt.at_ n)).code = (OSt.at_ n).code * 2 % 4294967296 := rfl
          generalize (OSt.at_ n).pos = p at *
          generalize (OSt.at_ n).code = c at *
          have HBK := Lib.hid hbk
          have HS := Lib.hid hset
          have HI := Lib.hid (And.intro hi0 (And.intro hp0 hc0))
          clear hbk hset hi0 hp0 hc0
          have hn31 : (n : Int) < 31 := by omega
          go_wp2
          go_region
          go_wp2
          go_loopw [4, 5, 46] (SymRel w B n) (fun _ _ i _ => 257 - (intOf i).toNat)
          case atStart =>
            refine ⟨0, rfl, by omega, ?_, ?_, ?_, ?_⟩
            · rw [HI.out.1, HI.out.2.1]
            · rw [HI.out.1, HI.out.2.2]; congr 1
            · rw [HI.out.1]
              exact HBK.out.set2 _ _ _ _ HS.out
            · exact ((hbel'.setCell (p := ⟨B, _, none⟩) hB _).setCell (p := ⟨B, _, none⟩) hB _).drew
          case round =>
            clear hcell1 hcell2 hfro1 hfro2
            obtain ⟨s, rfl, hs, rfl, rfl, hbk, hbel''⟩ := hrel
            have hBw := hbk.lt
            have hwf : (OSt.inner n s (OSt.begin n (OSt.at_ n))).Wf := ((OSt.Wf.at_ n).begin n).inner hs
            have hc32 := hwf.code
            have hposs := pos_le hs (n := n) (OSt.begin n (OSt.at_ n))
            rw [HI.out.2.1] at hposs
            by_cases hlt : s < 257
            · have hnext := inner_next n (OSt.begin n (OSt.at_ n)) hlt
              have hcell := hbk.cell s
              rw [blk_size hlt] at hcell
              by_cases heq : lensN.getD s 0 = n
              · have hroom := pos_room (by omega) hlt heq
                have hset := set_sym hmany hwf hlt hroom heq
                rw [← hnext] at hset
                have hcell3 := hbk.cell (607 + (OSt.inner n s (OSt.begin n (OSt.at_ n))).pos)
                rw [blk_sym hmany hwf hroom] at hcell3
                have hfro3 := hbk.frozen (607 + (OSt.inner n s (OSt.begin n (OSt.at_ n))).pos)
                have hcell4 := hbk.cell (257 + s)
                rw [blk_code hwf hlt] at hcell4
                have hfro4 := hbk.frozen (257 + s)
                have hp1 : (OSt.inner n (s + 1) (OSt.begin n (OSt.at_ n))).pos = (OSt.inner n s (OSt.begin n (OSt.at_ n))).pos + 1 := by rw [hnext, OSt.sym1, if_pos heq]
                have hc1 : (OSt.inner n (s + 1) (OSt.begin n (OSt.at_ n))).code = ((OSt.inner n s (OSt.begin n (OSt.at_ n))).code + 1) % 4294967296 := by rw [hnext, OSt.sym1, if_pos heq]
                generalize (OSt.inner n s (OSt.begin n (OSt.at_ n))).pos = p1 at *
                generalize (OSt.inner n s (OSt.begin n (OSt.at_ n))).code = c1 at *
                have HBK := Lib.hid hbk
                have HS := Lib.hid hset
                have HI := Lib.hid (And.intro hp1 hc1)
                rw [heq] at hcell
                clear hbk hset hp1 hc1 hnext heq
                have hs257 : (s : Int) < 257 := by omega
                have hp257 : (p1 : Int) < 257 := by omega
                go_wp2
                go_region
                go_wp2
                refine ⟨⟨s + 1, by go_num, by omega, ?_, ?_, HBK.out.set2 _ _ _ _ HS.out, ((hbel''.setCell (p := ⟨B, _, none⟩) hB _).setCell (p := ⟨B, _, none⟩) hB _).drew⟩, by simp [intOf]; omega⟩
                · rw [HI.out.1]; go_num
                · rw [HI.out.2]; go_num
              · have hnext' : OSt.inner n (s + 1) (OSt.begin n (OSt.at_ n)) = OSt.inner n s (OSt.begin n (OSt.at_ n)) := by rw [hnext, OSt.sym1, if_neg heq]
                have heqb : (((lensN.getD s 0 : Nat) : Int) == (n : Int)) = false := by rw [beq_eq_false_iff_ne]; omega
                have hls := lens_le s
                generalize lensN.getD s 0 = ls at *
                generalize hp1 : (OSt.inner n s (OSt.begin n (OSt.at_ n))).pos = p1 at *
                generalize hc1 : (OSt.inner n s (OSt.begin n (OSt.at_ n))).code = c1 at *
                have HBK := Lib.hid hbk
                have HI := Lib.hid (And.intro hp1 hc1)
                have HN := Lib.hid hnext'
                clear hbk hp1 hc1 hnext heq hnext'
                go_wp2
                refine ⟨⟨s + 1, by go_num, by omega, ?_, ?_, by rw [HN.out]; exact HBK.out, hbel''⟩, by simp [intOf]; omega⟩
                · rw [HN.out, HI.out.1]
                · rw [HN.out, HI.out.2]
            · obtain rfl : s = 257 := by omega
              rw [← at_next] at *
              have hp2 := hpos_at (n + 1)
              generalize hp1 : (OSt.at_ (n + 1)).pos = p1 at *
              generalize hc1 : (OSt.at_ (n + 1)).code = c1 at *
              have HBK := Lib.hid hbk
              have HI := Lib.hid (And.intro hp1 hc1)
              clear hbk hp1 hc1
              go_wp2
              refine ⟨⟨n + 1, by go_num, by omega, ?_, ?_, HBK.out, hbel''⟩, by simp [intOf]; omega⟩
              · rw [HI.out.1]
              · rw [HI.out.2]
        · obtain rfl : n = 31 := by omega
          have HBK := Lib.hid hbk
          clear hbk
          go_wp2
          go_ret
          exact ⟨B, rfl, HBK.out, hB, hbel'⟩
end Go.Proofs.YtpkmciohehaboaaGreatDoor

/- What drawbridgeref02.Codes makes, step by step, in plain Lean; that it comes to the table. No program in sight. -/
namespace Go.Proofs.YtpkmciohehaboaaGreatDoor
open Go.RowKit

structure CSt where
  code : Nat
  last : Nat
  out : List Nat
  deriving DecidableEq
def CSt.zero : CSt := ⟨0, 5, List.replicate 257 0⟩
/-- The code at a length: doubled until it has as many bits. -/
def CSt.up (n : Nat) (st : CSt) : Nat := st.code * 2 ^ (n - st.last) % 4294967296
/-- One symbol. -/
def CSt.sym1 (n : Nat) (st : CSt) (x : Nat × Nat) : CSt := if x.1 = n then ⟨(st.up n + 1) % 4294967296, n, st.out.set x.2 (st.up n)⟩ else st
def CSt.inner (n s : Nat) (st : CSt) : CSt := (lensN.zipIdx.take s).foldl (CSt.sym1 n) st
/-- Behind the lengths 5 to 4 + d. -/
def CSt.at_ (d : Nat) : CSt := (List.range d).foldl (fun st k => CSt.inner (k + 5) 257 st) CSt.zero
theorem codes_end : (CSt.at_ 26).out = codeT := by decide +kernel
theorem cinner_next (n : Nat) (st : CSt) {s : Nat} (h : s < 257) : CSt.inner n (s + 1) st = CSt.sym1 n (CSt.inner n s st) (lensN.getD s 0, s) := by
  have hl : s < lensN.zipIdx.length := by rw [List.length_zipIdx, tab_lengths.1]; exact h
  unfold CSt.inner
  rw [List.take_succ_eq_append_getElem hl, List.foldl_append]
  have hl' : s < lensN.length := by rw [tab_lengths.1]; exact h
  simp [List.getD, List.getElem?_eq_getElem hl']
theorem cat_next (d : Nat) : CSt.at_ (d + 1) = CSt.inner (d + 5) 257 (CSt.at_ d) := by
  unfold CSt.at_
  rw [List.range_succ, List.foldl_append, List.foldl_cons, List.foldl_nil]
structure CSt.Wf (n : Nat) (st : CSt) : Prop where
  out : st.out.length = 257
  code : st.code < 4294967296
  last : st.last ≤ n
  lo : 5 ≤ st.last
theorem CSt.Wf.sym1 {n : Nat} {st : CSt} (h : st.Wf n) (h5 : 5 ≤ n) (x : Nat × Nat) : (CSt.sym1 n st x).Wf n := by
  unfold CSt.sym1
  split
  · exact ⟨by simp [h.out], Nat.mod_lt _ (by decide), Nat.le_refl _, h5⟩
  · exact h
theorem CSt.Wf.inner {n : Nat} {st : CSt} (h : st.Wf n) (h5 : 5 ≤ n) : ∀ {s : Nat}, s ≤ 257 → (CSt.inner n s st).Wf n := by
  intro s
  induction s with
  | zero => intro _; exact h
  | succ s ih => intro hs; rw [cinner_next n st (by omega)]; exact (ih (by omega)).sym1 h5 _
theorem CSt.Wf.up {n : Nat} {st : CSt} (h : st.Wf n) : st.Wf (n + 1) := ⟨h.out, h.code, by have := h.last; omega, h.lo⟩
theorem CSt.Wf.at_ (d : Nat) : (CSt.at_ d).Wf (d + 5) := by
  induction d with
  | zero => exact ⟨by decide +kernel, by decide, by decide, by decide⟩
  | succ d ih => rw [cat_next]; exact (ih.inner (by omega) (Nat.le_refl _)).up
/-- Doubling once more. -/
theorem up_step (c j : Nat) : c * 2 ^ j % 4294967296 * 2 % 4294967296 = c * 2 ^ (j + 1) % 4294967296 := by
  rw [Nat.pow_succ, ← Nat.mul_assoc, Nat.mod_mul_mod]
def u32s (l : List Nat) : List Value := l.map fun n : Nat => Value.int .u32 (n : Int)
def i64s (l : List Nat) : List Value := l.map fun n : Nat => Value.int .i64 (n : Int)
theorem u32s_get {l : List Nat} {i : Nat} (h : i < l.length) : (u32s l)[i]? = some (.int .u32 ((l.getD i 0 : Nat) : Int)) := by simp [u32s, List.getD, List.getElem?_eq_getElem h]
theorem i64s_get {l : List Nat} {i : Nat} (h : i < l.length) : (i64s l)[i]? = some (.int .i64 ((l.getD i 0 : Nat) : Int)) := by simp [i64s, List.getD, List.getElem?_eq_getElem h]
theorem u32s_set (l : List Nat) (i x : Nat) : (u32s l).set i (.int .u32 (x : Int)) = u32s (l.set i x) := by simp [u32s, List.map_set]
end Go.Proofs.YtpkmciohehaboaaGreatDoor

/- The walks of drawbridgeref02.Lengths and Codes. -/
namespace Go.Proofs.YtpkmciohehaboaaGreatDoor
open Go.RowKit

theorem tU32s : SlT Tryz.prog 207 115 (.int .u32 0) 1 4 := ⟨Tryz.underlying207, by kernel_rfl, rfl, by omega⟩

set_option maxRecDepth 100000 in
set_option maxHeartbeats 1000000 in
theorem rlengths_any (w : World) : Calls Tryz.prog 127 #[] w fun e w' => ∃ g, e = .returned (.slice (some ⟨g, 0, none⟩) 257 257) ∧ w'.ownsRow w.heap.size 3 1 (.slice (some ⟨g, 0, none⟩) 257 257) 257 (i64s lensN) ∧ Below w.heap.size w w' := by
  go_enter Tryz.func127, Tryz.ntmps127
  go_step; go_step; go_step; go_step; go_step; go_step; go_step; go_step; go_step
  go_step; go_step
  refine wpList_buildFlat rfl 98 3 257 _ rfl .i64 (lensN.map fun n : Nat => (n : Int)) Tryz.underlying98 (by kernel_rfl) (by kernel_rfl) (by decide +kernel) (by omega) (by omega) (by kernel_rfl) ?_
  rw [show (lensN.map fun n : Nat => (n : Int)).map (Value.int .i64) = i64s lensN by rw [List.map_map]; rfl]
  go_wp2_with fail
  go_ret
  exact ⟨_, rfl, World.ownsRow_lit w _ 257 (Nat.le_refl _) (by unfold maxLen; omega) (by decide +kernel), (Below.refl _ _).alloc (Nat.le_refl _) _⟩

/-- The lengths lie in block gl. -/
def LC (w : World) (gl : Nat) : Prop := ∀ i, i < 257 → w.cell? ⟨gl, i, none⟩ = some (.int .i64 ((lensN.getD i 0 : Nat) : Int))
theorem LC.set_ {w : World} {gl g : Nat} (h : LC w gl) (hne : gl ≠ g) (j : Nat) (v : Value) : LC (w.setCell ⟨g, j, none⟩ v) gl :=
  fun i hi => (World.cell?_setCell_other w ⟨g, j, none⟩ ⟨gl, i, none⟩ v (fun e => by injection e with e; exact hne e.symm)).trans (h i hi)
/-- The loop over the lengths, over the symbols, of the doubling. -/
def CLenRel (W : World) (gl g : Nat) (c l n : Value) (w : World) : Prop :=
  ∃ d : Nat, n = .int .i64 ((d : Int) + 5) ∧ d ≤ 26 ∧ c = .int .u32 ((CSt.at_ d).code : Int) ∧ l = .int .i64 ((CSt.at_ d).last : Int) ∧
    w.ownsRow W.heap.size 115 1 (.slice (some ⟨g, 0, none⟩) 257 257) 257 (u32s (CSt.at_ d).out) ∧ LC w gl ∧ Below W.heap.size W w
def CSymRel (W : World) (gl g d : Nat) (c l i : Value) (w : World) : Prop :=
  ∃ s : Nat, i = .int .i64 s ∧ s ≤ 257 ∧ c = .int .u32 ((CSt.inner (d + 5) s (CSt.at_ d)).code : Int) ∧ l = .int .i64 ((CSt.inner (d + 5) s (CSt.at_ d)).last : Int) ∧
    w.ownsRow W.heap.size 115 1 (.slice (some ⟨g, 0, none⟩) 257 257) 257 (u32s (CSt.inner (d + 5) s (CSt.at_ d)).out) ∧ LC w gl ∧ Below W.heap.size W w
def DblUp (code last n : Nat) (c l : Value) : Prop := ∃ j x : Nat, l = .int .i64 ((last : Int) + j) ∧ last + j ≤ n ∧ c = .int .u32 x ∧ x = code * 2 ^ j % 4294967296 ∧ x < 4294967296

set_option maxRecDepth 100000 in
set_option maxHeartbeats 2000000 in
theorem rcodes_any (w : World) : Calls Tryz.prog 128 #[] w fun e w' => ∃ g, e = .returned (.slice (some ⟨g, 0, none⟩) 257 257) ∧ w'.ownsRow w.heap.size 115 1 (.slice (some ⟨g, 0, none⟩) 257 257) 257 (u32s codeT) ∧ Below w.heap.size w w' := by
  obtain ⟨i0, hi0, hz0, hz1, hz2⟩ := info_parts tU32s.info
  go_enter Tryz.func128, Tryz.ntmps128
  go_wp2_with fail
  refine (rlengths_any w).mono ?_
  rintro e w1 ⟨gl, rfl, hownl, hb1⟩
  have hglt := (hownl.lt gl rfl).2
  have hlc : LC w1 gl := fun i hi => by
    rw [World.ownsRow.cellAt hownl i (by omega), i64s_get (by rw [tab_lengths.1]; exact hi)]
  have HLC := Lib.hid hlc
  have hs1 := hb1.size
  clear hlc hownl
  go_wp2_with (at_make; refine wpList_make_full _ rfl _ _ 207 rfl w.heap.size 115 i0 (.int .u32 0) 1 Tryz.underlying207 hi0 hz0 hz1 _ _ _ _ 257 rfl rfl rfl rfl (by rw [hz2]; omega) (by unfold maxLen; omega) hs1 ?_; intro w2 hown2 hg2)
  have hb2 : Below w.heap.size w w2 := hb1.grown hg2 hs1 (fun k hk => by cases hk)
  have hcl : LC w2 gl := fun i hi => hg2.cell (HLC.out i hi) (by simp)
  have hne : gl ≠ w1.heap.size := by omega
  have hge : w.heap.size ≤ w1.heap.size := hs1
  generalize w1.heap.size = g at *
  have hz : (madeCells (Value.int .u32 0).cells (257 * 1)).toList = u32s CSt.zero.out := by
    rw [show (Value.int .u32 0).cells = #[Value.int .u32 0] from rfl, toList_madeCells_one]; kernel_rfl
  rw [hz] at hown2
  have HOWN := Lib.hid hown2
  have HCL := Lib.hid hcl
  clear hz hown2 hg2 hcl HLC hi0 hz0 hz1 hz2
  go_loopw [3, 4, 5] (CLenRel w gl g) (fun _ _ i _ => 31 - (intOf i).toNat)
  case atStart => exact ⟨0, rfl, by omega, rfl, rfl, HOWN.out, HCL.out, hb2⟩
  case round =>
    obtain ⟨d, rfl, hd, rfl, rfl, hown, hlc, hbel⟩ := hrel
    have hwf := CSt.Wf.at_ d
    by_cases hlt : d < 26
    · have HOWN := Lib.hid hown
      have HLC := Lib.hid hlc
      clear hown hlc
      generalize hc0 : (CSt.at_ d).code = c0 at *
      generalize hl0 : (CSt.at_ d).last = l0 at *
      have HCL := Lib.hid (And.intro hc0 hl0)
      clear hc0 hl0
      go_wp2
      go_loopw [3, 4, 6] (CSymRel w gl g d) (fun _ _ i _ => 257 - (intOf i).toNat)
      case atStart => exact ⟨0, rfl, by omega, by rw [← HCL.out.1]; rfl, by rw [← HCL.out.2]; rfl, HOWN.out, HLC.out, hbel⟩
      case round =>
        obtain ⟨s, rfl, hs, rfl, rfl, hown, hlc, hbel⟩ := hrel
        have hwfs := hwf.inner (by omega) hs
        by_cases hlt : s < 257
        · have hnext := cinner_next (d + 5) (CSt.at_ d) hlt
          have hcell := hlc s hlt
          by_cases heq : lensN.getD s 0 = d + 5
          · rw [CSt.sym1, if_pos heq] at hnext
            have hcellg := World.ownsRow.cellAt hown s (by omega)
            rw [u32s_get (by rw [hwfs.out]; exact hlt)] at hcellg
            have hfrog := World.ownsRow.frozenAt hown s
            have hst := World.ownsRow.stored hown s (.int .u32 ((CSt.up (d + 5) (CSt.inner (d + 5) s (CSt.at_ d)) : Nat) : Int))
            rw [u32s_set] at hst
            have hup : CSt.up (d + 5) (CSt.inner (d + 5) s (CSt.at_ d)) = (CSt.inner (d + 5) s (CSt.at_ d)).code * 2 ^ (d + 5 - (CSt.inner (d + 5) s (CSt.at_ d)).last) % 4294967296 := rfl
            have hcs := hwfs.code
            have hls := hwfs.last
            rw [heq] at hcell
            generalize CSt.up (d + 5) (CSt.inner (d + 5) s (CSt.at_ d)) = up at *
            generalize (CSt.inner (d + 5) s (CSt.at_ d)).code = c1 at *
            generalize (CSt.inner (d + 5) s (CSt.at_ d)).last = l1 at *
            have HN := Lib.hid hnext
            have HST := Lib.hid hst
            have HUP := Lib.hid hup
            have HLC := Lib.hid hlc
            clear hnext hst hup hown hlc heq
            go_wp2
            go_loop [3, 4] (DblUp c1 l1 (d + 5)) (fun _ l => d + 5 - (intOf l).toNat)
            case atStart => exact ⟨0, c1, by simp, by omega, rfl, by simp; omega, by omega⟩
            case round =>
              obtain ⟨j, x, rfl, hj, rfl, hx, hx32⟩ := hrel
              have HX := Lib.hid hx
              clear hx
              by_cases hjn : l1 + j < d + 5
              · go_wp2
                go_round
                case rel => exact ⟨j + 1, x * 2 % 4294967296, by congr 1, by omega, by congr 1, by rw [HX.out, up_step], by omega⟩
                case measure => simp [intOf] <;> omega
              · have hxu : x = up := by rw [HX.out, HUP.out, show d + 5 - l1 = j by omega]
                subst hxu
                go_wp2
                refine ⟨⟨_, _, _, ⟨s + 1, rfl, by omega, ?_, ?_, ?_, HLC.out.set_ hne _ _, hbel.setCell (p := ⟨g, _, none⟩) hge _⟩, rfl, rfl, by go_num⟩, by simp [intOf]; omega⟩
                · rw [HN.out]; go_num
                · rw [HN.out]; show _ = Value.int .i64 ((d + 5 : Nat) : Int); congr 1; omega
                · rw [HN.out]; exact HST.out.1
          · rw [CSt.sym1, if_neg heq] at hnext
            have heqb : (((lensN.getD s 0 : Nat) : Int) != (d : Int) + 5) = true := by rw [bne_iff_ne]; omega
            generalize lensN.getD s 0 = ls at *
            generalize hc1 : (CSt.inner (d + 5) s (CSt.at_ d)).code = c1 at *
            generalize hl1 : (CSt.inner (d + 5) s (CSt.at_ d)).last = l1 at *
            have HN := Lib.hid hnext
            have HI := Lib.hid (And.intro hc1 hl1)
            have HOWN := Lib.hid hown
            have HLC := Lib.hid hlc
            clear hnext hown hlc hc1 hl1 heq
            go_wp2
            refine ⟨⟨s + 1, by go_num, by omega, ?_, ?_, by rw [HN.out]; exact HOWN.out, HLC.out, hbel⟩, by simp [intOf]; omega⟩
            · rw [HN.out, HI.out.1]
            · rw [HN.out, HI.out.2]
        · obtain rfl : s = 257 := by omega
          rw [← cat_next] at *
          have HOWN := Lib.hid hown
          have HLC := Lib.hid hlc
          clear hown hlc
          generalize hc1 : (CSt.at_ (d + 1)).code = c1 at *
          generalize hl1 : (CSt.at_ (d + 1)).last = l1 at *
          have HI := Lib.hid (And.intro hc1 hl1)
          clear hc1 hl1
          go_wp2
          refine ⟨⟨d + 1, by go_num, by omega, ?_, ?_, HOWN.out, HLC.out, hbel⟩, by simp [intOf]; omega⟩
          · rw [HI.out.1]
          · rw [HI.out.2]
    · obtain rfl : d = 26 := by omega
      rw [codes_end] at hown
      have HOWN := Lib.hid hown
      clear hown hlc
      go_wp2
      go_ret
      exact ⟨g, rfl, HOWN.out, hbel⟩
end Go.Proofs.YtpkmciohehaboaaGreatDoor

/- The walks of huff.Code and drawbridgelaw02.HuffCodes. -/
namespace Go.Proofs.YtpkmciohehaboaaGreatDoor
open Go.RowKit

/-- The book as it is when it is made. -/
def Bk (w : World) (B : Nat) : Prop := Book w B manyT (OSt.at_ 31)
section
variable {w : World} {B : Nat} (h : Bk w B)
include h
theorem Bk.size {i : Nat} (hi : i < 257) : w.cell? ⟨B, i, none⟩ = some (.int .u8 ((lensN.getD i 0 : Nat) : Int)) := by rw [Book.cell h, blk_size hi]
theorem Bk.code {i : Nat} (hi : i < 257) : w.cell? ⟨B, 257 + i, none⟩ = some (.int .u32 ((codeT.getD i 0 : Nat) : Int)) := by rw [Book.cell h, blk_code (OSt.Wf.at_ 31) hi, open_end]
theorem Bk.first {i : Nat} (hi : i < 31) : w.cell? ⟨B, 514 + i, none⟩ = some (.int .u32 ((firstT.getD i 0 : Nat) : Int)) := by rw [Book.cell h, blk_first (OSt.Wf.at_ 31) hi, open_end]
theorem Bk.many {i : Nat} (hi : i < 31) : w.cell? ⟨B, 545 + i, none⟩ = some (.int .i64 ((manyT.getD i 0 : Nat) : Int)) := by rw [Book.cell h, blk_many tab_lengths.2.2.2.1 (OSt.Wf.at_ 31) hi]
theorem Bk.from_ {i : Nat} (hi : i < 31) : w.cell? ⟨B, 576 + i, none⟩ = some (.int .i64 ((fromT.getD i 0 : Nat) : Int)) := by rw [Book.cell h, blk_from tab_lengths.2.2.2.1 (OSt.Wf.at_ 31) hi, open_end]
theorem Bk.sym {i : Nat} (hi : i < 257) : w.cell? ⟨B, 607 + i, none⟩ = some (.int .i64 ((symT.getD i 0 : Nat) : Int)) := by rw [Book.cell h, blk_sym tab_lengths.2.2.2.1 (OSt.Wf.at_ 31) hi, open_end]
end
theorem Bk.below {w w' : World} {B B0 : Nat} (h : Bk w B) (hb : Below B0 w w') (hB : B < B0) : Bk w' B := (hb.block B hB).trans h
theorem Bk.grown {w w' : World} {B : Nat} {row : Option Nat} (h : Bk w B) (hg : w.grownBy w' row) (hne : some B ≠ row) : Bk w' B := (hg.block B (Book.lt h) hne).trans h
theorem Bk.drewN {w : World} {B : Nat} (h : Bk w B) (n : Nat) : Bk (w.drewN n) B := h
theorem Bk.alloc {w : World} {B : Nat} (h : Bk w B) (o : Obj) : Bk (w.alloc o) B := (Below.heap_alloc w o B (Book.lt h)).trans h
theorem _root_.Go.RowKit.Below.drewN {B : Nat} {a w : World} (h : Below B a w) (n : Nat) : Below B a (w.drewN n) := ⟨h.os, h.tape, h.output, h.size, h.block⟩
theorem code_lt : ∀ i, codeT.getD i 0 < 1073741824 := by
  intro i
  rcases Nat.lt_or_ge i 257 with h | h
  · have : ∀ i < 257, codeT.getD i 0 < 1073741824 := by decide +kernel
    exact this i h
  · rw [List.getD, List.getElem?_eq_none (by rw [tab_lengths.2.1]; exact h)]; decide

/-- No code is the beginning of another one's. -/
def codesApart : Bool := (codeT.zip (lensN.zip (List.range 257))).all fun x => (codeT.zip (lensN.zip (List.range 257))).all fun y => x.2.2 == y.2.2 || decide (y.2.1 < x.2.1) || (y.1 / 2 ^ (y.2.1 - x.2.1) != x.1)
theorem codes_apart : codesApart = true := by decide +kernel
theorem apart {i j : Nat} (hi : i < 257) (hj : j < 257) (hne : i ≠ j) (hle : lensN.getD i 0 ≤ lensN.getD j 0) : codeT.getD j 0 / 2 ^ (lensN.getD j 0 - lensN.getD i 0) ≠ codeT.getD i 0 := by
  have hget : ∀ k, k < 257 → (codeT.getD k 0, (lensN.getD k 0, k)) ∈ codeT.zip (lensN.zip (List.range 257)) := by
    intro k hk
    have h1 : k < codeT.length := by rw [tab_lengths.2.1]; exact hk
    have h2 : k < lensN.length := by rw [tab_lengths.1]; exact hk
    rw [List.mem_iff_getElem]
    refine ⟨k, by simp [tab_lengths.1, tab_lengths.2.1]; exact hk, ?_⟩
    simp [List.getD, List.getElem?_eq_getElem h1, List.getElem?_eq_getElem h2]
  have h := codes_apart
  unfold codesApart at h
  rw [List.all_eq_true] at h
  have h1 := h _ (hget i hi)
  rw [List.all_eq_true] at h1
  have h2 := h1 _ (hget j hj)
  simp only [Bool.or_eq_true, beq_iff_eq, decide_eq_true_eq, bne_iff_ne] at h2
  rcases h2 with (h2 | h2) | h2
  · exact absurd h2 hne
  · omega
  · exact h2

end Go.Proofs.YtpkmciohehaboaaGreatDoor

/- The walk of huff.Encode. -/
namespace Go.Proofs.YtpkmciohehaboaaGreatDoor
open Go.RowKit

section
variable {P : Program} {w : World}
end

theorem own_mono2 {w : World} {base base' : Nat} {e : TypeId} {size : Nat} {v : Value} {n : Nat} {xs : List Value} (h : w.ownsRow base e size v n xs) (hb : base' ≤ base) : w.ownsRow base' e size v n xs := by
  refine ⟨h.1, ?_⟩
  rcases h.2 with h2 | ⟨g, cap, cur, hv, hg, r⟩
  · exact .inl h2
  · exact .inr ⟨g, cap, cur, hv, by omega, r⟩
end Go.Proofs.YtpkmciohehaboaaGreatDoor

/- The walks of huff.Size and drawbridgeref02.Size. -/
namespace Go.Proofs.YtpkmciohehaboaaGreatDoor
open Go.RowKit

def SizeRel (l : List UInt8) (v i : Value) : Prop := ∃ k t : Nat, i = .int .i64 k ∧ v = .int .i64 t ∧ k ≤ l.length ∧ t = nbits (l.take k) ∧ t ≤ 30 * k

def UpRel (t : Nat) (v : Value) : Prop := ∃ x : Nat, v = .int .i64 x ∧ t ≤ x ∧ (x - 1) / 8 ≤ (t - 1) / 8 ∧ x ≤ t + 7 ∧ (t + 7) / 8 = (x + 7) / 8
end Go.Proofs.YtpkmciohehaboaaGreatDoor

/- The walk of drawbridgeref02.Encode: it makes what huff.Encode makes. -/
namespace Go.Proofs.YtpkmciohehaboaaGreatDoor
open Go.RowKit

theorem bvs_put (l : List UInt8) (j : Nat) (c : UInt8) : (bvs l).set j (bv c) = bvs (l.set j c) := by simp [bvs, List.map_set]
/-- The codes lie in block gc. -/
def CC (w : World) (gc : Nat) : Prop := ∀ i, i < 257 → w.cell? ⟨gc, i, none⟩ = some (.int .u32 ((codeT.getD i 0 : Nat) : Int))
theorem CC.set_ {w : World} {gc g : Nat} (h : CC w gc) (hne : gc ≠ g) (j : Nat) (v : Value) : CC (w.setCell ⟨g, j, none⟩ v) gc :=
  fun i hi => (World.cell?_setCell_other w ⟨g, j, none⟩ ⟨gc, i, none⟩ v (fun e => by injection e with e; exact hne e.symm)).trans (h i hi)
/-- The row that fills up. -/
structure Row (W w : World) (gl gc g N T V : Nat) : Prop where
  own : w.ownsRow W.heap.size 5 1 (.slice (some ⟨g, 0, none⟩) N N) N (bvs (fill N T V))
  lc : LC w gl
  cc : CC w gc
  bel : Below W.heap.size W w
theorem Row.bit {W w : World} {gl gc g N T V b : Nat} (h : Row W w gl gc g N T V) (hb : b < 2) (hr : T % 8 < 7) : Row W w gl gc g N (T + 1) (2 * V + b) :=
  ⟨by rw [(fill_bit hb hr).1]; exact h.own, h.lc, h.cc, h.bel⟩
theorem Row.byte {W w : World} {gl gc g N T V b : Nat} (h : Row W w gl gc g N T V) (hb : b < 2) (hr : T % 8 = 7) (hN : T / 8 < N) (h1 : gl ≠ g) (h2 : gc ≠ g) (hg : W.heap.size ≤ g) :
    Row W (w.setCell ⟨g, T / 8, none⟩ (.int .u8 ((V % 2 ^ (T % 8) * 2 + b : Nat) : Int))) gl gc g N (T + 1) (2 * V + b) := by
  obtain ⟨f1, -, f3⟩ := fill_byte (N := N) (V := V) hb hr hN
  have hst := (World.ownsRow.stored h.own (T / 8) (bv (UInt8.ofNat (V % 2 ^ (T % 8) * 2 + b)))).1
  rw [bvs_put, ← f1] at hst
  rw [bv, toNat_ofNat f3] at hst
  exact ⟨hst, h.lc.set_ h1 _ _, h.cc.set_ h2 _ _, h.bel.setCell (p := ⟨g, _, none⟩) hg _⟩
theorem Row.cell {W w : World} {gl gc g N T V : Nat} (h : Row W w gl gc g N T V) {j : Nat} (hj : j < N) (hT : T / 8 ≤ N) : ∃ x : Nat, w.cell? ⟨g, j, none⟩ = some (.int .u8 (x : Int)) := by
  refine ⟨ba (fill N T V) j, ?_⟩
  rw [World.ownsRow.cellAt h.own j (by omega), bvs, List.getElem?_map, List.getElem?_eq_getElem (by rw [fill_length V hT]; exact hj)]
  simp [bv, ba, List.getD, List.getElem?_eq_getElem (show j < (fill N T V).length by rw [fill_length V hT]; exact hj)]
theorem Row.frozen {W w : World} {gl gc g N T V : Nat} (h : Row W w gl gc g N T V) (j : Nat) : w.frozen? ⟨g, j, none⟩ = false := World.ownsRow.frozenAt h.own j

/-- Behind k bytes of the text. -/
def REncRel (W : World) (gl gc g N : Nat) (l : List UInt8) (av pv iv : Value) (w : World) : Prop :=
  ∃ k T V p : Nat, iv = .int .i64 k ∧ k ≤ l.length ∧ av = .int .i64 T ∧ pv = .int .u8 p ∧ T = nbits (l.take k) ∧ V = vbits (l.take k) ∧ p = V % 2 ^ (T % 8) ∧ Row W w gl gc g N T V
/-- j bits of a code are to come. -/
def BitRel (W : World) (gl gc g N T0 V0 n c : Nat) (av pv jv : Value) (w : World) : Prop :=
  ∃ j T V p : Nat, jv = .int .i64 ((j : Int) - 1) ∧ j ≤ n ∧ av = .int .i64 T ∧ pv = .int .u8 p ∧ T = T0 + (n - j) ∧ V = V0 * 2 ^ (n - j) + c / 2 ^ j ∧ p = V % 2 ^ (T % 8) ∧ Row W w gl gc g N T V
/-- q ones are added. -/
def PadRel (W : World) (gl gc g N T0 V0 : Nat) (av pv : Value) (w : World) : Prop :=
  ∃ q T V p : Nat, av = .int .i64 T ∧ pv = .int .u8 p ∧ T = T0 + q ∧ V = V0 * 2 ^ q + (2 ^ q - 1) ∧ T ≤ 8 * N ∧ (T % 8 = 0 ∨ p = V % 2 ^ (T % 8)) ∧ Row W w gl gc g N T V

end Go.Proofs.YtpkmciohehaboaaGreatDoor

/- The walks of prefix.PutText and drawbridgeref03.PutText. -/
namespace Go.Proofs.YtpkmciohehaboaaGreatDoor
open Go.RowKit

theorem _root_.Go.RowKit.Below.tr2 {w w1 w2 : World} (h : Below w.heap.size w w1) (h2 : Below w1.heap.size w1 w2) : Below w.heap.size w w2 := h.trans (h2.mono h.size)
theorem full7 : Full 7 127 := ⟨by omega, by omega, rfl⟩
section
variable {w w' : World}
theorem own_app {B0 B1 : Nat} {v : Value} {l k : List UInt8} (h : w.ownsRow B1 5 1 v (l.length + k.length) (bvs l ++ bvs k)) (hb : B0 ≤ B1) : OwnB w B0 v (l ++ k) := by
  unfold OwnB
  rw [List.length_append, bvs_append]
  exact own_mono2 h hb
end

theorem infoU8 : (Tryz.prog.info? 5).map (fun i => (i.zero, i.size, i.bytes)) = some (some (.int .u8 0), 1, 1) := by kernel_rfl

end Go.Proofs.YtpkmciohehaboaaGreatDoor

/- The walk of drawbridgeref03.TakeInt: it reads what prefix.TakeInt reads. -/
namespace Go.Proofs.YtpkmciohehaboaaGreatDoor
open Go.RowKit

end Go.Proofs.YtpkmciohehaboaaGreatDoor

/- The walks of drawbridgelaw03.PrefixTakes and PrefixLong. -/
namespace Go.Proofs.YtpkmciohehaboaaGreatDoor
open Go.RowKit

end Go.Proofs.YtpkmciohehaboaaGreatDoor

/- The tree of codes that drawbridgeref02.Tree makes, step by step, in plain Lean; that walking down it is reading the codes. No program in sight. -/
namespace Go.Proofs.YtpkmciohehaboaaGreatDoor
open Go.RowKit

abbrev Node := Nat × Nat × Int
def newN : Node := (0, 0, -1)
def nxt (x : Node) (b : Nat) : Nat := if b = 0 then x.1 else x.2.1
def setNx (x : Node) (b v : Nat) : Node := if b = 0 then (v, x.2) else (x.1, v, x.2.2)
/-- One bit down, a node made where there is none. -/
def stepBit (st : List Node × Nat) (b : Nat) : List Node × Nat :=
  if nxt (st.1.getD st.2 newN) b = 0 then ((st.1 ++ [newN]).set st.2 (setNx (st.1.getD st.2 newN) b st.1.length), st.1.length) else (st.1, nxt (st.1.getD st.2 newN) b)
/-- Sound: what is behind a bit lies in the row. -/
def WfT (T : List Node) : Prop := ∀ i, (T.getD i newN).1 < T.length ∧ (T.getD i newN).2.1 < T.length
structure WfS (st : List Node × Nat) : Prop where
  wf : WfT st.1
  pos : st.2 < st.1.length
theorem WfS.nxt {st : List Node × Nat} (h : WfS st) (b : Nat) : nxt (st.1.getD st.2 newN) b < st.1.length := by
  unfold Go.Proofs.YtpkmciohehaboaaGreatDoor.nxt
  split
  · exact (h.wf _).1
  · exact (h.wf _).2
theorem WfS.step {st : List Node × Nat} (h : WfS st) (b : Nat) : WfS (stepBit st b) ∧ (stepBit st b).1.length ≤ st.1.length + 1 ∧ st.1.length ≤ (stepBit st b).1.length := by
  unfold stepBit
  split
  · refine ⟨⟨?_, ?_⟩, by simp, by simp⟩
    · intro i
      simp only [List.length_set, List.length_append, List.length_singleton]
      have hw := h.wf i
      have hp := h.wf st.2
      have h0 := h.pos
      rw [List.getD, List.getElem?_set]
      by_cases hi : st.2 = i
      · rw [if_pos hi, if_pos (by simp; omega)]
        unfold setNx
        simp only [Option.getD_some]
        split <;> refine ⟨?_, ?_⟩ <;> (dsimp only; omega)
      · rw [if_neg hi]
        rcases Nat.lt_or_ge i st.1.length with hl | hl
        · rw [List.getElem?_append_left hl]
          rw [List.getD] at hw
          exact ⟨by omega, by omega⟩
        · rw [List.getElem?_append_right hl]
          rcases Nat.eq_or_lt_of_le hl with he | hlt
          · rw [← he, Nat.sub_self]; simp [newN]
          · rw [List.getElem?_eq_none (by simp; omega)]; simp [newN]
    · simp
  · exact ⟨⟨h.wf, h.nxt b⟩, by simp, by simp⟩
end Go.Proofs.YtpkmciohehaboaaGreatDoor

/- The tree of codes, step by step. Printed by wip/gen_tree.py. -/
namespace Go.Proofs.YtpkmciohehaboaaGreatDoor
open Go.RowKit

def tr0 : List (Nat × Nat × Nat) := [
  (0, 0, 0)]
def tr2 : List (Nat × Nat × Nat) := [
  (0, 1, 0), (0, 2, 0), (0, 3, 0), (0, 4, 0), (0, 5, 0), (0, 6, 0), (0, 7, 0), (0, 8, 0), (0, 9, 0), (0, 10, 0), (11, 14, 0), (12, 0, 0),
  (13, 0, 0), (0, 0, 1), (0, 15, 0), (0, 16, 0), (0, 17, 0), (0, 18, 0), (0, 19, 0), (0, 20, 0), (21, 27, 0), (0, 22, 0), (0, 23, 0), (24, 0, 0),
  (25, 0, 0), (26, 0, 0), (0, 0, 2), (0, 28, 0), (50, 29, 0), (0, 30, 0), (0, 31, 0), (0, 32, 0), (33, 55, 0), (34, 46, 0), (35, 39, 0), (0, 36, 0),
  (37, 38, 0), (0, 0, 3), (0, 0, 4), (40, 43, 0), (41, 42, 0), (0, 0, 5), (0, 0, 6), (44, 45, 0), (0, 0, 7), (0, 0, 8), (47, 67, 0), (48, 63, 0),
  (49, 62, 0), (0, 0, 9), (0, 51, 0), (52, 0, 0), (0, 53, 0), (54, 0, 0), (0, 0, 10), (74, 56, 0), (91, 57, 0), (0, 58, 0), (0, 59, 0), (60, 81, 0),
  (61, 65, 0), (0, 0, 11), (0, 0, 12), (64, 66, 0), (0, 0, 13), (0, 0, 14), (0, 0, 15), (68, 71, 0), (69, 70, 0), (0, 0, 16), (0, 0, 17), (72, 73, 0),
  (0, 0, 18), (0, 0, 19), (75, 84, 0), (76, 79, 0), (77, 78, 0), (0, 0, 20), (0, 0, 21), (80, 83, 0), (0, 0, 22), (82, 0, 0), (0, 0, 23), (0, 0, 24),
  (85, 88, 0), (86, 87, 0), (0, 0, 25), (0, 0, 26), (89, 90, 0), (0, 0, 27), (0, 0, 28), (92, 95, 0), (93, 94, 0), (0, 0, 29), (0, 0, 30), (96, 97, 0),
  (0, 0, 31), (0, 0, 32)]
end Go.Proofs.YtpkmciohehaboaaGreatDoor

/- Walking down the tree is reading the codes. No program in sight. -/
namespace Go.Proofs.YtpkmciohehaboaaGreatDoor
open Go.RowKit

end Go.Proofs.YtpkmciohehaboaaGreatDoor

/- The walk of drawbridgeref02.Tree. -/
namespace Go.Proofs.YtpkmciohehaboaaGreatDoor
open Go.RowKit

end Go.Proofs.YtpkmciohehaboaaGreatDoor
