/- The walk of drawbridgeref09.Come, in the states 0 to 1. Printed by wip/gen_rcome.py. -/
import Derived.Test.YtoicclgcbemffaaStream
namespace Go.Proofs.Ytoicclgcbemffaa
open Go.RowKit

set_option maxRecDepth 100000 in
set_option maxHeartbeats 4000000 in
theorem rcome_0 (fin : Bool) (kind : Int) (w : World) (hk : kind = 0 ∨ kind = 1 ∨ kind = 3 ∨ kind = 8 ∨ kind = 2) :
    Calls Try.prog 18 #[.int .i64 0, .int .i64 kind, .bool fin] w fun e w' => e = .returned (mvV (comeF 0 kind fin)) ∧ Below w.heap.size w w' := by
  rcases hk with rfl | rfl | rfl | rfl | rfl <;> cases fin
  all_goals
    go_enter Try.func18, Try.ntmps18
    go_wp2_with go_in
    refine bodyPost_ret (v := mvV (comeF 0 _ _)) (by simp [results, Try.results18, go_sem]; kernel_rfl) rfl ⟨rfl, ?_⟩
    repeat (refine Below.alloc ?_ (by simp <;> omega) _)
    exact Below.refl _ _

set_option maxRecDepth 100000 in
set_option maxHeartbeats 4000000 in
theorem rcome_1 (fin : Bool) (kind : Int) (w : World) (hk : kind = 0 ∨ kind = 1 ∨ kind = 3 ∨ kind = 8 ∨ kind = 2) :
    Calls Try.prog 18 #[.int .i64 1, .int .i64 kind, .bool fin] w fun e w' => e = .returned (mvV (comeF 1 kind fin)) ∧ Below w.heap.size w w' := by
  rcases hk with rfl | rfl | rfl | rfl | rfl <;> cases fin
  all_goals
    go_enter Try.func18, Try.ntmps18
    go_wp2_with go_in
    refine bodyPost_ret (v := mvV (comeF 1 _ _)) (by simp [results, Try.results18, go_sem]; kernel_rfl) rfl ⟨rfl, ?_⟩
    repeat (refine Below.alloc ?_ (by simp <;> omega) _)
    exact Below.refl _ _
end Go.Proofs.Ytoicclgcbemffaa
