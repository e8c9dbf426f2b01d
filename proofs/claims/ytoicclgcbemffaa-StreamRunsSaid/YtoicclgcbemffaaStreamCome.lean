/- The walk of stream.Come. -/
import Derived.Test.YtoicclgcbemffaaStream
import Derived.Test.YtoicclgcbemffaaStreamRows
namespace Go.Proofs.Ytoicclgcbemffaa
open Go.RowKit

theorem infoMove : (Try.prog.info? 37).map (·.size) = some 5 := by kernel_rfl
theorem rowsV_get {q c : Nat} (hq : q ≤ 6) (hc : c ≤ 4) : rowsV[q * 5 + c]? = some (.int .i64 (((tabF.getD q []).getD c 0 : Nat) : Int)) := by
  have hq' : q = 0 ∨ q = 1 ∨ q = 2 ∨ q = 3 ∨ q = 4 ∨ q = 5 ∨ q = 6 := by omega
  have hc' : c = 0 ∨ c = 1 ∨ c = 2 ∨ c = 3 ∨ c = 4 := by omega
  rcases hq' with rfl | rfl | rfl | rfl | rfl | rfl | rfl <;> rcases hc' with rfl | rfl | rfl | rfl | rfl <;> rfl

set_option maxRecDepth 100000 in
set_option maxHeartbeats 1000000 in
theorem come_in (q c h : Nat) (kind : Int) (fin : Bool) (w : World) (hq : q ≤ 6) (hc : c ≤ 4) (hcol : colF kind = some c) (hh : (tabF.getD q []).getD c 0 = h) (h6 : h = 0 ∨ h = 1 ∨ h = 2 ∨ h = 3 ∨ h = 4 ∨ h = 5 ∨ h = 6) :
    Calls Try.prog 17 #[.int .i64 q, .int .i64 kind, .bool fin] w fun e w' => e = .returned (mvV (howF q h fin)) ∧ Below w.heap.size w w' := by
  have hcv : colV kind = .tuple #[.int .i64 (c : Int), .bool true] := by unfold colV; rw [hcol]
  have hg := rowsV_get hq hc
  rw [hh] at hg
  have HG := Lib.hid hg
  have HC := Lib.hid hcv
  clear hcol hh hcv hg
  go_enter Try.func17, Try.ntmps17
  go_wp2_with fail
  refine (col_any kind _).mono ?_
  rintro e w1 ⟨rfl, rfl⟩
  rw [HC.out]
  go_wp2_with fail
  refine (rows_any _).mono ?_
  rintro e w1 ⟨rfl, hb1⟩
  have hs1 := hb1.size
  simp at hs1
  simp only []
  go_step
  refine Great.wpList_runTo rfl (some 9) rfl (.pointer (some ⟨w1.heap.size, 0, none⟩)) (w1.alloc (.cells (Array.replicate 35 (.int .i64 0)) 66)) (by kernel_rfl) ?_
  refine wpList_store_rowTo rfl 66 (.tmp 9) (.tmp 16) rfl rfl w1.heap.size rowsV.toArray (by kernel_rfl) (by kernel_rfl) 66 (Array.replicate 35 (.int .i64 0)) (heap_new w1 _) (by kernel_rfl) (by kernel_rfl) (by kernel_rfl) ?_
  have hcell : ((w1.alloc (.cells (Array.replicate 35 (.int .i64 0)) 66)).setRow w1.heap.size rowsV.toArray).cell? ⟨w1.heap.size, q * 5 + c, none⟩ = some (.int .i64 (h : Int)) := by
    rw [cell_setRow_same _ _ _ _ _ _ _ (heap_new w1 _)]
    simpa using HG.out
  have hbel : Below (w.heap.size + 1) (w.alloc (.cells #[.int .i64 0, .bool false, .bool false, .int .i64 0, .bool false] 37)) ((w1.alloc (.cells (Array.replicate 35 (.int .i64 0)) 66)).setRow w1.heap.size rowsV.toArray) :=
    ((hb1.mono (by simp)).alloc hs1 _).trans ⟨rfl, rfl, rfl, by simp, fun k hk => setRow_other _ _ _ _ (by omega)⟩
  generalize (w1.alloc (.cells (Array.replicate 35 (.int .i64 0)) 66)).setRow w1.heap.size rowsV.toArray = w2 at *
  generalize w1.heap.size = g at *
  have hres : w2.heap[w.heap.size]? = some (.cells #[.int .i64 0, .bool false, .bool false, .int .i64 0, .bool false] 37 (0, 0)) := (hbel.block _ (by omega)).trans (heap_new w _)
  have HB := Lib.hid ((((Below.refl _ _).alloc (Nat.le_refl _) _).trans (hbel.mono (by omega)) : Below w.heap.size w w2))
  have HRES := Lib.hid hres
  clear hres hbel hb1
  rcases h6 with rfl | rfl | rfl | rfl | rfl | rfl | rfl
  all_goals
    cases fin
    all_goals
      go_wp2_with (first
        | (go_at_call 34; refine (onward_any _ _ _).mono ?_; rintro e w3 ⟨rfl, rfl⟩)
        | (go_at_call 35; refine (code_any _ _ _).mono ?_; rintro e w3 ⟨rfl, rfl⟩)
        | (refine wpList_store_rowTo rfl 37 (.tmp 6) _ rfl rfl w.heap.size _ rfl rfl 37 _ HRES.out infoMove rfl (by simp [Value.oneCell']) ?_))
      refine bodyPost_ret (results_cell_row rfl _ _ w.heap.size 37 _ (0, 0) _ rfl (setRow_heap _ _ _ _ _ _ HRES.out) Try.underlying37 rfl infoMove) rfl ?_
      exact ⟨by simp [mvV, howF], HB.out.trans ⟨rfl, rfl, rfl, by simp, fun k hk => setRow_other _ _ _ _ (by omega)⟩⟩
end Go.Proofs.Ytoicclgcbemffaa
