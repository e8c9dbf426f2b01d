/- The methods of *pool.rest behind heap.Interface: what a call through the interface meets. -/
import Derived.Test.YtidfokfnigncmaaChecked
import Derived.Test.YtidfokfnigncmaaLies
namespace Go.Proofs.Ytidfokfnigncmaa
open Go.RowKit

theorem ahead_len (a : Addr) (w : World) : (nilAhead (Try.prog.types.size + Made.depth) 66 (.pointer (some a)) "Len").run Try.prog w = .ok (some false) w := by kernel_rfl
theorem ahead_less (a : Addr) (w : World) : (nilAhead (Try.prog.types.size + Made.depth) 66 (.pointer (some a)) "Less").run Try.prog w = .ok (some false) w := by kernel_rfl
theorem ahead_swap (a : Addr) (w : World) : (nilAhead (Try.prog.types.size + Made.depth) 66 (.pointer (some a)) "Swap").run Try.prog w = .ok (some false) w := by kernel_rfl
theorem ahead_push (a : Addr) (w : World) : (nilAhead (Try.prog.types.size + Made.depth) 66 (.pointer (some a)) "Push").run Try.prog w = .ok (some false) w := by kernel_rfl
theorem ahead_pop (a : Addr) (w : World) : (nilAhead (Try.prog.types.size + Made.depth) 66 (.pointer (some a)) "Pop").run Try.prog w = .ok (some false) w := by kernel_rfl
theorem meth_push (n : Nat) (a : Addr) (w : World) : (method (n + 1) 66 (.pointer (some a)) "Push").run Try.prog w = .ok (53, .pointer (some a)) w := by kernel_rfl
theorem meth_pop (n : Nat) (a : Addr) (w : World) : (method (n + 1) 66 (.pointer (some a)) "Pop").run Try.prog w = .ok (52, .pointer (some a)) w := by kernel_rfl
theorem meth_len0 (n : Nat) (a : Addr) (w : World) : (method (n + 1) 66 (.pointer (some a)) "Len").run Try.prog w = ((loadVar 56 a) >>= fun v => pure (50, v)).run Try.prog w := by kernel_rfl
theorem meth_less0 (n : Nat) (a : Addr) (w : World) : (method (n + 1) 66 (.pointer (some a)) "Less").run Try.prog w = ((loadVar 56 a) >>= fun v => pure (25, v)).run Try.prog w := by kernel_rfl
theorem meth_swap0 (n : Nat) (a : Addr) (w : World) : (method (n + 1) 66 (.pointer (some a)) "Swap").run Try.prog w = ((loadVar 56 a) >>= fun v => pure (51, v)).run Try.prog w := by kernel_rfl
theorem load_rest0 (a : Addr) (w : World) : (loadVar 56 a).run Try.prog w = (load a).run Try.prog w := by kernel_rfl
section
variable {a : Addr} {v : Value} {w : World}
theorem load_rest (h : w.cell? a = some v) : (loadVar 56 a).run Try.prog w = .ok v w := by
  rw [load_rest0, run_load, h]
theorem meth_len (n : Nat) (h : w.cell? a = some v) : (method (n + 1) 66 (.pointer (some a)) "Len").run Try.prog w = .ok (50, v) w := by
  rw [meth_len0, Sem.run_bind, load_rest h]; rfl
theorem meth_less (n : Nat) (h : w.cell? a = some v) : (method (n + 1) 66 (.pointer (some a)) "Less").run Try.prog w = .ok (25, v) w := by
  rw [meth_less0, Sem.run_bind, load_rest h]; rfl
theorem meth_swap (n : Nat) (h : w.cell? a = some v) : (method (n + 1) 66 (.pointer (some a)) "Swap").run Try.prog w = .ok (51, v) w := by
  rw [meth_swap0, Sem.run_bind, load_rest h]; rfl
end
end Go.Proofs.Ytidfokfnigncmaa
