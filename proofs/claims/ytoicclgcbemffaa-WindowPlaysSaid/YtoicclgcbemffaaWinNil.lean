/- The methods of window.Book at no book. -/
import Derived.Test.YtoicclgcbemffaaChecked
import Derived.Test.YtoicclgcbemffaaBase
namespace Go.Proofs.Ytoicclgcbemffaa
open Go.RowKit

theorem nil_Open (s : Int) (w : World) : Calls Try.prog 29 #[.pointer none, .int .i64 s] w fun e w' => e = .returned (.int .i64 1) ∧ w = w' := by
  go_enter Try.func29, Try.ntmps29
  go_wp2; go_ret; exact ⟨rfl, rfl⟩

theorem nil_Len  (w : World) : Calls Try.prog 26 #[.pointer none] w fun e w' => e = .returned (.int .i64 0) ∧ w = w' := by
  go_enter Try.func26, Try.ntmps26
  go_wp2; go_ret; exact ⟨rfl, rfl⟩

theorem nil_Spend (s n : Int) (w : World) : Calls Try.prog 30 #[.pointer none, .int .i64 s, .int .i64 n] w fun e w' => e = .returned (.int .i64 1) ∧ w = w' := by
  go_enter Try.func30, Try.ntmps30
  go_wp2; go_ret; exact ⟨rfl, rfl⟩

theorem nil_Grow (s n : Int) (w : World) : Calls Try.prog 31 #[.pointer none, .int .i64 s, .int .i64 n] w fun e w' => e = .returned (.int .i64 1) ∧ w = w' := by
  go_enter Try.func31, Try.ntmps31
  go_wp2; go_ret; exact ⟨rfl, rfl⟩

theorem nil_First (n : Int) (w : World) : Calls Try.prog 27 #[.pointer none, .int .i64 n] w fun e w' => e = .returned (.int .i64 1) ∧ w = w' := by
  go_enter Try.func27, Try.ntmps27
  go_wp2; go_ret; exact ⟨rfl, rfl⟩

theorem nil_At (s : Int) (w : World) : Calls Try.prog 14 #[.pointer none, .int .i64 s] w fun e w' => e = .returned (.tuple #[.int .i64 0, .bool false]) ∧ w = w' := by
  go_enter Try.func14, Try.ntmps14
  go_wp2; go_ret2; exact ⟨rfl, rfl⟩

theorem nil_Room (s : Int) (w : World) : Calls Try.prog 15 #[.pointer none, .int .i64 s] w fun e w' => e = .returned (.int .i64 0) ∧ w = w' := by
  go_enter Try.func15, Try.ntmps15
  go_wp2_with fail
  refine (nil_At s w).mono ?_
  rintro e w1 ⟨rfl, rfl⟩
  go_wp2; go_ret; exact ⟨rfl, rfl⟩

theorem nil_Shut (s : Int) (w : World) : Calls Try.prog 28 #[.pointer none, .int .i64 s] w fun e w' => e = .returned (.tuple #[]) ∧ w = w' := by
  go_enter Try.func28, Try.ntmps28
  go_wp2; go_end0; exact ⟨rfl, rfl⟩
end Go.Proofs.Ytoicclgcbemffaa
