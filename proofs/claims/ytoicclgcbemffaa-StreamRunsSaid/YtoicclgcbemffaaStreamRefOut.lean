/- The walks of drawbridgeref09.Come and stream.Come at states and types that the table has not. -/
import Derived.Test.YtoicclgcbemffaaStreamCome
namespace Go.Proofs.Ytoicclgcbemffaa
open Go.RowKit

theorem comeF_out {state : Int} (kind : Int) (fin : Bool) (h : state < 0 ∨ 6 < state) : comeF state kind fin = ⟨0, true, false, 0, false⟩ := by unfold comeF; rw [if_pos h]
theorem comeF_none {state kind : Int} (fin : Bool) (h : ¬ (state < 0 ∨ 6 < state)) (hk : colF kind = none) : comeF state kind fin = ⟨state, true, false, 0, false⟩ := by unfold comeF; rw [if_neg h, hk]
theorem colF_none {kind : Int} (h : kind ≠ 0 ∧ kind ≠ 1 ∧ kind ≠ 3 ∧ kind ≠ 8 ∧ kind ≠ 2) : colF kind = none := by
  unfold colF; rw [if_neg h.1, if_neg h.2.1, if_neg h.2.2.1, if_neg h.2.2.2.1, if_neg h.2.2.2.2]

set_option maxRecDepth 100000 in
set_option maxHeartbeats 1000000 in
theorem rcome_out (state kind : Int) (fin : Bool) (w : World) (h : state < 0 ∨ 6 < state) :
    Calls Try.prog 18 #[.int .i64 state, .int .i64 kind, .bool fin] w fun e w' => e = .returned (mvV (comeF state kind fin)) ∧ Below w.heap.size w w' := by
  rw [comeF_out kind fin h]
  rcases h with h | h
  · go_enter Try.func18, Try.ntmps18
    go_wp2
    refine bodyPost_ret (v := mvV ⟨0, true, false, 0, false⟩) (by simp [results, Try.results18, go_sem]; kernel_rfl) rfl ⟨rfl, ?_⟩
    repeat (refine Below.alloc ?_ (by simp <;> omega) _)
    exact Below.refl _ _
  · have h0 : ¬ state < 0 := by omega
    go_enter Try.func18, Try.ntmps18
    go_wp2
    refine bodyPost_ret (v := mvV ⟨0, true, false, 0, false⟩) (by simp [results, Try.results18, go_sem]; kernel_rfl) rfl ⟨rfl, ?_⟩
    repeat (refine Below.alloc ?_ (by simp <;> omega) _)
    exact Below.refl _ _

set_option maxRecDepth 100000 in
set_option maxHeartbeats 1000000 in
theorem rcome_none (state kind : Int) (fin : Bool) (w : World) (h : ¬ (state < 0 ∨ 6 < state)) (hk : kind ≠ 0 ∧ kind ≠ 1 ∧ kind ≠ 3 ∧ kind ≠ 8 ∧ kind ≠ 2) :
    Calls Try.prog 18 #[.int .i64 state, .int .i64 kind, .bool fin] w fun e w' => e = .returned (mvV (comeF state kind fin)) ∧ Below w.heap.size w w' := by
  rw [comeF_none fin h (colF_none hk)]
  obtain ⟨k0, k1, k3, k8, k2⟩ := hk
  have e0 : (kind != 0) = true := by rw [bne_iff_ne]; exact k0
  have e1 : (kind != 1) = true := by rw [bne_iff_ne]; exact k1
  have e3 : (kind != 3) = true := by rw [bne_iff_ne]; exact k3
  have e8 : (kind != 8) = true := by rw [bne_iff_ne]; exact k8
  have e2 : (kind != 2) = true := by rw [bne_iff_ne]; exact k2
  clear k0 k1 k3 k8 k2
  have h0 : ¬ state < 0 := by omega
  have h6 : ¬ 6 < state := by omega
  clear h
  go_enter Try.func18, Try.ntmps18
  go_wp2
  refine bodyPost_ret (v := mvV ⟨state, true, false, 0, false⟩) (by simp [results, Try.results18, go_sem]; kernel_rfl) rfl ⟨rfl, ?_⟩
  repeat (refine Below.alloc ?_ (by simp <;> omega) _)
  exact Below.refl _ _

theorem colV_none {kind : Int} (h : colF kind = none) : colV kind = .tuple #[.int .i64 0, .bool false] := by unfold colV; rw [h]
theorem colV_form (kind : Int) : ∃ (c : Nat) (ok : Bool), colV kind = .tuple #[.int .i64 c, .bool ok] := by
  unfold colV
  split
  · exact ⟨0, false, rfl⟩
  · exact ⟨_, true, rfl⟩

set_option maxRecDepth 100000 in
set_option maxHeartbeats 1000000 in
theorem come_rest (state kind : Int) (fin : Bool) (w : World) (h : (state < 0 ∨ 6 < state) ∨ colF kind = none) :
    Calls Try.prog 17 #[.int .i64 state, .int .i64 kind, .bool fin] w fun e w' => e = .returned (mvV (comeF state kind fin)) ∧ Below w.heap.size w w' := by
  have HG := Lib.hid h
  obtain ⟨c, ok, hc⟩ := colV_form kind
  have HC := Lib.hid hc
  clear h hc
  go_enter Try.func17, Try.ntmps17
  go_wp2_with fail
  refine (col_any kind _).mono ?_
  rintro e w1 ⟨rfl, rfl⟩
  rw [HC.out]
  go_wp2_with fail
  refine (rows_any _).mono ?_
  rintro e w1 ⟨rfl, hb1⟩
  have hs1 := hb1.size
  simp at hs1
  simp only []
  go_step
  refine Great.wpList_runTo rfl (some 9) rfl (.pointer (some ⟨w1.heap.size, 0, none⟩)) (w1.alloc (.cells (Array.replicate 35 (.int .i64 0)) 66)) (by kernel_rfl) ?_
  refine wpList_store_rowTo rfl 66 (.tmp 9) (.tmp 16) rfl rfl w1.heap.size rowsV.toArray (by kernel_rfl) (by kernel_rfl) 66 (Array.replicate 35 (.int .i64 0)) (heap_new w1 _) (by kernel_rfl) (by kernel_rfl) (by kernel_rfl) ?_
  have hbel : Below (w.heap.size + 1) (w.alloc (.cells #[.int .i64 0, .bool false, .bool false, .int .i64 0, .bool false] 37)) ((w1.alloc (.cells (Array.replicate 35 (.int .i64 0)) 66)).setRow w1.heap.size rowsV.toArray) :=
    ((hb1.mono (by simp)).alloc hs1 _).trans ⟨rfl, rfl, rfl, by simp, fun k hk => setRow_other _ _ _ _ (by omega)⟩
  generalize (w1.alloc (.cells (Array.replicate 35 (.int .i64 0)) 66)).setRow w1.heap.size rowsV.toArray = w2 at *
  generalize w1.heap.size = g at *
  have hres : w2.heap[w.heap.size]? = some (.cells #[.int .i64 0, .bool false, .bool false, .int .i64 0, .bool false] 37 (0, 0)) := (hbel.block _ (by omega)).trans (heap_new w _)
  have HB := Lib.hid ((((Below.refl _ _).alloc (Nat.le_refl _) _).trans (hbel.mono (by omega)) : Below w.heap.size w w2))
  have HRES := Lib.hid hres
  clear hres hbel hb1
  by_cases h0 : state < 0
  · go_wp2_with (refine wpList_store_rowTo rfl 37 (.tmp 6) _ rfl rfl w.heap.size _ rfl rfl 37 _ HRES.out infoMove rfl (by simp [Value.oneCell']) ?_)
    refine bodyPost_ret (results_cell_row rfl _ _ w.heap.size 37 _ (0, 0) _ rfl (setRow_heap _ _ _ _ _ _ HRES.out) Try.underlying37 rfl infoMove) rfl ?_
    exact ⟨by rw [comeF_out kind fin (.inl h0)]; rfl, HB.out.trans ⟨rfl, rfl, rfl, by simp, fun k hk => setRow_other _ _ _ _ (by omega)⟩⟩
  · by_cases h6 : 6 < state
    · have h7 : 7 ≤ state := by omega
      go_wp2_with (refine wpList_store_rowTo rfl 37 (.tmp 6) _ rfl rfl w.heap.size _ rfl rfl 37 _ HRES.out infoMove rfl (by simp [Value.oneCell']) ?_)
      refine bodyPost_ret (results_cell_row rfl _ _ w.heap.size 37 _ (0, 0) _ rfl (setRow_heap _ _ _ _ _ _ HRES.out) Try.underlying37 rfl infoMove) rfl ?_
      exact ⟨by rw [comeF_out kind fin (.inr h6)]; rfl, HB.out.trans ⟨rfl, rfl, rfl, by simp, fun k hk => setRow_other _ _ _ _ (by omega)⟩⟩
    · have hn : colF kind = none := HG.out.resolve_left (by omega)
      have hc2 := HC.out
      rw [colV_none hn] at hc2
      injection hc2 with hc2
      simp at hc2
      obtain ⟨-, rfl⟩ := hc2
      have HN := Lib.hid hn
      have h7 : ¬ 7 ≤ state := by omega
      clear hn
      go_wp2_with (refine wpList_store_rowTo rfl 37 (.tmp 6) _ rfl rfl w.heap.size _ rfl rfl 37 _ HRES.out infoMove rfl (by simp [Value.oneCell']) ?_)
      refine bodyPost_ret (results_cell_row rfl _ _ w.heap.size 37 _ (0, 0) _ rfl (setRow_heap _ _ _ _ _ _ HRES.out) Try.underlying37 rfl infoMove) rfl ?_
      exact ⟨by rw [comeF_none fin (by omega) HN.out]; rfl, HB.out.trans ⟨rfl, rfl, rfl, by simp, fun k hk => setRow_other _ _ _ _ (by omega)⟩⟩
end Go.Proofs.Ytoicclgcbemffaa
