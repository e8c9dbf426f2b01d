/- The walks of stream.Come, Go, Live. -/
import Derived.Test.YtoicclgcbemffaaChecked
import Derived.Test.YtoicclgcbemffaaStreamPlain
namespace Go.Proofs.Ytoicclgcbemffaa
open Go.RowKit

set_option maxHeartbeats 400000 in
theorem live_any (state : Int) (w : World) : Calls Try.prog 21 #[.int .i64 state] w fun e w' => e = .returned (.bool (liveF state)) ∧ w = w' := by
  by_cases h1 : state = 1
  · subst h1; go_enter Try.func21, Try.ntmps21; go_wp2; go_ret; exact ⟨rfl, rfl⟩
  · by_cases h2 : state = 2
    · subst h2; go_enter Try.func21, Try.ntmps21; go_wp2; go_ret; exact ⟨rfl, rfl⟩
    · have e1 : (state == 1) = false := by simpa using h1
      have e2 : (state == 2) = false := by simpa using h2
      have hf : liveF state = (state == 3) := by unfold liveF; rw [e1, e2]; rfl
      rw [hf]
      clear hf h1 h2
      go_enter Try.func21, Try.ntmps21
      go_wp2; go_ret; exact ⟨rfl, rfl⟩

def colV (kind : Int) : Value := match colF kind with | none => .tuple #[.int .i64 0, .bool false] | some c => .tuple #[.int .i64 (c : Int), .bool true]
set_option maxHeartbeats 400000 in
theorem col_any (kind : Int) (w : World) : Calls Try.prog 32 #[.int .i64 kind] w fun e w' => e = .returned (colV kind) ∧ w = w' := by
  rcases kinds kind with h | h | h | h | h | ⟨h0, h1, h2, h3, h4⟩
  case inr.inr.inr.inr.inr =>
    have hc : colV kind = .tuple #[.int .i64 0, .bool false] := by unfold colV colF; rw [if_neg h0, if_neg h1, if_neg h2, if_neg h3, if_neg h4]
    rw [hc]
    clear hc
    go_enter Try.func32, Try.ntmps32; go_wp2; go_ret2; exact ⟨rfl, rfl⟩
  all_goals (subst h; go_enter Try.func32, Try.ntmps32; go_wp2; go_ret2; exact ⟨rfl, rfl⟩)

set_option maxHeartbeats 400000 in
theorem onward_any (state : Int) (fin : Bool) (w : World) : Calls Try.prog 34 #[.int .i64 state, .bool fin] w fun e w' => e = .returned (.int .i64 (onF state fin)) ∧ w = w' := by
  by_cases h0 : state = 0
  · subst h0
    cases fin
    all_goals (go_enter Try.func34, Try.ntmps34; go_wp2; go_ret; exact ⟨rfl, rfl⟩)
  · by_cases h1 : state = 1
    · subst h1
      cases fin
      all_goals (go_enter Try.func34, Try.ntmps34; go_wp2; go_ret; exact ⟨rfl, rfl⟩)
    · have hf : onF state false = state := by unfold onF; rw [if_neg h0]; rfl
      have ht : onF state true = 4 := by unfold onF; rw [if_neg h0, if_neg h1]; rfl
      cases fin
      · rw [hf]; clear hf ht; go_enter Try.func34, Try.ntmps34; go_wp2; go_ret; exact ⟨rfl, rfl⟩
      · rw [ht]; clear hf ht; go_enter Try.func34, Try.ntmps34; go_wp2; go_ret; exact ⟨rfl, rfl⟩
set_option maxHeartbeats 400000 in
theorem code_any (state : Int) (how : Nat) (w : World) : Calls Try.prog 35 #[.int .i64 state, .int .i64 how] w fun e w' => e = .returned (.int .i64 (codeF state how)) ∧ w = w' := by
  by_cases h0 : state = 0
  · subst h0
    go_enter Try.func35, Try.ntmps35; go_wp2; go_ret; exact ⟨rfl, rfl⟩
  · by_cases h3 : how = 3
    · subst h3
      have hf : codeF state 3 = 1 := by unfold codeF; rw [if_pos (.inr rfl)]
      rw [hf]; clear hf
      go_enter Try.func35, Try.ntmps35; go_wp2; go_ret; exact ⟨rfl, rfl⟩
    · have hf : codeF state how = 5 := by unfold codeF; rw [if_neg (by omega)]
      rw [hf]; clear hf
      have e1 : (state == 0) = false := by simpa using h0
      have e2 : ((how : Int) == 3) = false := by rw [beq_eq_false_iff_ne]; omega
      clear h0 h3
      go_enter Try.func35, Try.ntmps35; go_wp2; go_ret; exact ⟨rfl, rfl⟩
end Go.Proofs.Ytoicclgcbemffaa
