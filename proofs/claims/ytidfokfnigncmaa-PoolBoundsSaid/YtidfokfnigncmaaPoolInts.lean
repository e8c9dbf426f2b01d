/- The walk of drawbridgelaw16.ints; both pools side by side, and their steps. -/
import Derived.Test.YtidfokfnigncmaaPoolAwake
import Derived.Test.YtidfokfnigncmaaRPool5
import Derived.Deep.QuietTactic
import Derived.BigQuiet
namespace Go.Proofs.Ytidfokfnigncmaa
open Go.RowKit

def IntsRel (w : World) (n : Nat) (jv : Value) (wr : World) : Prop := ∃ k d : Nat, jv = .int .i64 k ∧ k ≤ n ∧ wr = w.drewN d
theorem iv_at {w : World} {B n : Nat} {A : Option Addr} {l : List Int} (h : Rd w B 1 A n (iv l)) (hn : 0 < n) : ∃ b o, A = some ⟨b, o, none⟩ ∧ b < B ∧ ∀ j, j < n → w.cell? ⟨b, o + j, none⟩ = some (.int .i64 (l.getD j 0)) := by
  obtain ⟨b, o, hA, hb, hc⟩ := h.2 hn
  have hl := h.1
  simp only [iv, List.length_map, Nat.mul_one] at hl
  refine ⟨b, o, hA, hb, fun j hj => ?_⟩
  rw [hc j (by omega), List.getD_eq_getElem?_getD]
  unfold iv
  rw [List.getElem?_map, List.getElem?_eq_getElem (by omega)]; rfl
set_option maxHeartbeats 1000000 in
theorem ints_any {A A' : Option Addr} {B B' n c c' : Nat} {l : List Int} (w : World) (hr : Rd w B 1 A n (iv l)) (hr' : Rd w B' 1 A' n (iv l)) (hn : n ≤ 1099511627776) :
    Calls Try.prog 18 #[.slice A n c, .slice A' n c'] w fun e w' => e = .returned (.bool true) ∧ ∃ d, w' = w.drewN d := by
  have H1 := Lib.hid hr
  have H2 := Lib.hid hr'
  clear hr hr'
  go_enter Try.func18, Try.ntmps18
  go_wp2
  go_loopw [5] (fun jv wr => IntsRel w n jv wr) (fun jv _ => n - (intOf jv).toNat)
  case atStart => exact ⟨0, 0, rfl, Nat.zero_le _, rfl⟩
  case round =>
    obtain ⟨k, d, rfl, hk, rfl⟩ := hrel
    by_cases hlt : k < n
    · obtain ⟨b, o, rfl, hb, hc⟩ := iv_at H1.out (by omega)
      obtain ⟨b', o', rfl, hb', hc'⟩ := iv_at H2.out (by omega)
      have q0 := hc k hlt
      have q1 := hc' k hlt
      obtain ⟨x, hx⟩ : ∃ x, l.getD k 0 = x := ⟨_, rfl⟩
      rw [hx] at q0 q1
      have z0 : ∀ d, (w.drewN d).cell? ⟨b, o + k, none⟩ = some (.int .i64 x) := fun _ => q0
      have z1 : ∀ d, (w.drewN d).cell? ⟨b', o' + k, none⟩ = some (.int .i64 x) := fun _ => q1
      have n1 : (k : Int) < n := by omega
      have n0 : (0 : Int) ≤ k := by omega
      clear hc hc' hx
      go_wp2
      go_quiet (fail)
      go_wp2
      go_roundw
      case rel => exact ⟨k + 1, _, by go_num, by omega, rfl⟩
      case measure => simp [intOf]; omega
    · obtain rfl : k = n := by omega
      go_wp2
      go_ret
      exact ⟨rfl, _, rfl⟩
end Go.Proofs.Ytidfokfnigncmaa
