/- The walk of drawbridgeref09.Go. -/
import Derived.Test.YtoicclgcbemffaaStreamGo
namespace Go.Proofs.Ytoicclgcbemffaa
open Go.RowKit

theorem lives (state : Int) : state = 1 ∨ state = 2 ∨ state = 3 ∨ state = 6 ∨ (state ≠ 1 ∧ state ≠ 2 ∧ state ≠ 3 ∧ state ≠ 6) := by omega
theorem liveF_not {state : Int} (h : state ≠ 1 ∧ state ≠ 2 ∧ state ≠ 3 ∧ state ≠ 6) : liveF state = false := by
  unfold liveF; simp [h.1, h.2.1, h.2.2.1]

set_option maxHeartbeats 1000000 in
theorem rgo_own (state kind : Int) (fin : Bool) (w : World) (hk : kind = 0 ∨ kind = 1) : Calls Try.prog 20 #[.int .i64 state, .int .i64 kind, .bool fin] w fun e w' => e = .returned (goV (goF state kind fin)) ∧ w = w' := by
  rw [goF_own state fin hk]
  by_cases h1 : state = 1
  · subst h1
    rcases hk with rfl | rfl <;> cases fin
    all_goals (go_enter Try.func20, Try.ntmps20; go_wp2; go_ret2; exact ⟨rfl, rfl⟩)
  · by_cases h2 : state = 2
    · subst h2
      rcases hk with rfl | rfl <;> cases fin
      all_goals (clear h1; go_enter Try.func20, Try.ntmps20; go_wp2; go_ret2; exact ⟨rfl, rfl⟩)
    · rw [if_neg h1, if_neg h2]
      have e1 : (state == 1) = false := by simpa using h1
      have e2 : (state == 2) = false := by simpa using h2
      rcases hk with rfl | rfl <;> cases fin
      all_goals (clear h1 h2; go_enter Try.func20, Try.ntmps20; go_wp2; go_ret2; exact ⟨rfl, rfl⟩)

set_option maxHeartbeats 1000000 in
theorem rgo_3 (state : Int) (fin : Bool) (w : World) : Calls Try.prog 20 #[.int .i64 state, .int .i64 3, .bool fin] w fun e w' => e = .returned (goV (goF state 3 fin)) ∧ w = w' := by
  rw [goF_3]
  rcases lives state with rfl | rfl | rfl | rfl | h
  case inr.inr.inr.inr =>
    rw [if_neg (by rw [liveF_not h]; simp [h.2.2.2])]
    have e1 : (state == 1) = false := by simpa using h.1
    have e2 : (state == 2) = false := by simpa using h.2.1
    have e3 : (state == 3) = false := by simpa using h.2.2.1
    have e6 : (state == 6) = false := by simpa using h.2.2.2
    clear h
    go_enter Try.func20, Try.ntmps20
    go_wp2; go_ret2; exact ⟨rfl, rfl⟩
  all_goals (go_enter Try.func20, Try.ntmps20; go_wp2; go_ret2; exact ⟨rfl, rfl⟩)

set_option maxHeartbeats 1000000 in
theorem rgo_8 (state : Int) (fin : Bool) (w : World) : Calls Try.prog 20 #[.int .i64 state, .int .i64 8, .bool fin] w fun e w' => e = .returned (goV (goF state 8 fin)) ∧ w = w' := by
  rw [goF_8]
  rcases lives state with rfl | rfl | rfl | rfl | h
  case inr.inr.inr.inr =>
    rw [if_neg (by rw [liveF_not h]; simp)]
    have e1 : (state == 1) = false := by simpa using h.1
    have e2 : (state == 2) = false := by simpa using h.2.1
    have e3 : (state == 3) = false := by simpa using h.2.2.1
    clear h
    go_enter Try.func20, Try.ntmps20
    go_wp2; go_ret2; exact ⟨rfl, rfl⟩
  all_goals (go_enter Try.func20, Try.ntmps20; go_wp2; go_ret2; exact ⟨rfl, rfl⟩)

set_option maxHeartbeats 1000000 in
theorem rgo_rest (state kind : Int) (fin : Bool) (w : World) (hk : kind ≠ 0 ∧ kind ≠ 1 ∧ kind ≠ 3 ∧ kind ≠ 8) : Calls Try.prog 20 #[.int .i64 state, .int .i64 kind, .bool fin] w fun e w' => e = .returned (goV (goF state kind fin)) ∧ w = w' := by
  rw [goF_rest state fin hk]
  have k0 : (kind == 0) = false := by simpa using hk.1
  have k1 : (kind == 1) = false := by simpa using hk.2.1
  have k3 : (kind == 3) = false := by simpa using hk.2.2.1
  have k8 : (kind == 8) = false := by simpa using hk.2.2.2
  clear hk
  rcases lives state with rfl | rfl | rfl | rfl | h
  case inr.inr.inr.inr =>
    have e1 : (state == 1) = false := by simpa using h.1
    have e2 : (state == 2) = false := by simpa using h.2.1
    have e3 : (state == 3) = false := by simpa using h.2.2.1
    have e6 : (state == 6) = false := by simpa using h.2.2.2
    clear h
    go_enter Try.func20, Try.ntmps20
    go_wp2; go_ret2; exact ⟨rfl, rfl⟩
  all_goals (go_enter Try.func20, Try.ntmps20; go_wp2; go_ret2; exact ⟨rfl, rfl⟩)

theorem rgo_any (state kind : Int) (fin : Bool) (w : World) : Calls Try.prog 20 #[.int .i64 state, .int .i64 kind, .bool fin] w fun e w' => e = .returned (goV (goF state kind fin)) ∧ w = w' := by
  by_cases h0 : kind = 0 ∨ kind = 1
  · exact rgo_own state kind fin w h0
  · by_cases h3 : kind = 3
    · subst h3; exact rgo_3 state fin w
    · by_cases h8 : kind = 8
      · subst h8; exact rgo_8 state fin w
      · exact rgo_rest state kind fin w ⟨by omega, by omega, h3, h8⟩
end Go.Proofs.Ytoicclgcbemffaa
