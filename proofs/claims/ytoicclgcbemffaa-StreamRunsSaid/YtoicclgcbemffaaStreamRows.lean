/- The walk of stream.rows. -/
import Derived.Test.YtoicclgcbemffaaChecked
import Derived.Test.YtoicclgcbemffaaStreamPlain
import Derived.Great.BuildSlice
import Derived.Great.Walk
import Derived.Great.Ranges
namespace Go.Proofs.Ytoicclgcbemffaa
open Go.RowKit

/-- The rows, as cells. -/
def rowsV : List Value := tabF.flatten.map fun n : Nat => Value.int .i64 (n : Int)
def rowV (i : Nat) : List Value := (tabF.getD i []).map fun n : Nat => Value.int .i64 (n : Int)
theorem heap_new (w : World) (o : Obj) : (w.alloc o).heap[w.heap.size]? = some o := by
  show (w.heap.push o)[w.heap.size]? = _
  simp

set_option maxRecDepth 100000 in
set_option maxHeartbeats 200000 in
theorem rows_any (w : World) : Calls Try.prog 33 #[] w fun e w' => e = .returned (.agg rowsV.toArray) ∧ Below w.heap.size w w' := by
  go_enter Try.func33, Try.ntmps33
  go_step; go_step; go_step
  refine Great.wpList_runTo rfl (some 0) rfl (.pointer (some ⟨w.heap.size, 0, none⟩)) (w.alloc (.cells (Array.replicate 35 (.int .i64 0)) 66)) (by kernel_rfl) ?_
  go_step; go_step; go_step; go_step; go_step
  refine Great.wpList_runTo rfl (some 1) rfl (.agg (rowV 0).toArray) (w.alloc (.cells (Array.replicate 35 (.int .i64 0)) 66)) (by kernel_rfl) ?_
  refine Great.wpList_runTo rfl (some 2) rfl (.agg (rowV 1).toArray) (w.alloc (.cells (Array.replicate 35 (.int .i64 0)) 66)) (by kernel_rfl) ?_
  refine Great.wpList_runTo rfl (some 3) rfl (.agg (rowV 2).toArray) (w.alloc (.cells (Array.replicate 35 (.int .i64 0)) 66)) (by kernel_rfl) ?_
  refine Great.wpList_runTo rfl (some 4) rfl (.agg (rowV 3).toArray) (w.alloc (.cells (Array.replicate 35 (.int .i64 0)) 66)) (by kernel_rfl) ?_
  refine Great.wpList_runTo rfl (some 5) rfl (.agg (rowV 4).toArray) (w.alloc (.cells (Array.replicate 35 (.int .i64 0)) 66)) (by kernel_rfl) ?_
  refine Great.wpList_runTo rfl (some 6) rfl (.agg (rowV 5).toArray) (w.alloc (.cells (Array.replicate 35 (.int .i64 0)) 66)) (by kernel_rfl) ?_
  refine Great.wpList_runTo rfl (some 7) rfl (.agg (rowV 6).toArray) (w.alloc (.cells (Array.replicate 35 (.int .i64 0)) 66)) (by kernel_rfl) ?_
  refine Great.wpList_runTo rfl (some 8) rfl (.agg rowsV.toArray) (w.alloc (.cells (Array.replicate 35 (.int .i64 0)) 66)) (by kernel_rfl) ?_
  refine wpList_store_rowTo rfl 66 (.tmp 0) (.tmp 8) rfl rfl w.heap.size rowsV.toArray (by kernel_rfl) (by kernel_rfl) 66 (Array.replicate 35 (.int .i64 0)) (heap_new w _) (by kernel_rfl) (by kernel_rfl) (by kernel_rfl) ?_
  go_wp2_with fail
  refine bodyPost_ret (v := .agg rowsV.toArray) (results_cell_row rfl _ _ w.heap.size 66 rowsV.toArray (0, 0) _ (by kernel_rfl) (setRow_heap _ _ _ _ _ _ (heap_new w _)) Try.underlying66 rfl (by kernel_rfl)) rfl ?_
  exact ⟨rfl, ((Below.refl _ _).alloc (Nat.le_refl _) _).trans ⟨rfl, rfl, rfl, by simp, fun k hk => setRow_other _ _ _ _ (by omega)⟩⟩
end Go.Proofs.Ytoicclgcbemffaa
