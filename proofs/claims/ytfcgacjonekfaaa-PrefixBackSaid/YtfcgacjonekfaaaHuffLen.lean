/- The walk of huff.lengths; a whole array out of a block. -/
import Derived.Test.YtfcgacjonekfaaaPut
import Derived.Test.YtfcgacjonekfaaaHuffOpenPlain
import Derived.Great.BuildSlice
import Derived.Great.Walk
import Derived.Great.Ranges
namespace Go.Proofs.Ytfcgacjonekfaaa
open Go.RowKit

/-- The lengths, as cells. -/
def lensV : List Value := lensN.map fun n : Nat => Value.int .u8 (n : Int)
theorem lensV_ints : lensV = (lensN.map fun n : Nat => (n : Int)).map (Value.int .u8) := by rw [List.map_map]; rfl
theorem lensV_length : lensV.length = 257 := by decide +kernel
theorem lensV_get {i : Nat} (hi : i < 257) : lensV[i]? = some (.int .u8 ((lensN.getD i 0 : Nat) : Int)) := by
  have hl : i < lensN.length := by rw [tab_lengths.1]; exact hi
  simp [lensV, List.getD, List.getElem?_eq_getElem hl]

set_option maxRecDepth 100000 in
set_option maxHeartbeats 1000000 in
theorem lengths_any (w : World) : Calls Try.prog 36 #[] w fun e w' => e = .returned (.agg lensV.toArray) ∧ Below w.heap.size w w' := by
  go_enter Try.func36, Try.ntmps36
  go_step; go_step; go_step
  refine Great.wpList_runTo rfl (some 0) rfl (.pointer (some ⟨w.heap.size, 0, none⟩)) (w.alloc (.cells (Array.replicate 257 (.int .u8 0)) 55)) (by kernel_rfl) ?_
  go_step; go_step; go_step; go_step; go_step
  refine wpList_buildFlatArrTo rfl 55 5 257 _ rfl .u8 (lensN.map fun n : Nat => (n : Int)) (some 1) rfl Try.underlying55 (by kernel_rfl) (by kernel_rfl) (by kernel_rfl) ?_
  rw [← lensV_ints]
  refine wpList_store_rowTo rfl 55 _ _ rfl rfl w.heap.size lensV.toArray rfl rfl 55 (Array.replicate 257 (.int .u8 0)) (heap_alloc_new w _) (by kernel_rfl) (by kernel_rfl) (by kernel_rfl) ?_
  go_wp2_with fail
  refine bodyPost_ret (results_cell_row rfl _ _ w.heap.size 55 lensV.toArray (0, 0) _ rfl (setRow_heap _ _ _ _ _ _ (heap_alloc_new w _)) Try.underlying55 rfl (by kernel_rfl)) rfl ?_
  exact ⟨rfl, ((Below.refl _ _).alloc (Nat.le_refl _) _).trans ⟨rfl, rfl, rfl, by simp, fun k hk => setRow_other _ _ _ _ (by omega)⟩⟩

section
variable {P : Program}
/-- An element of an array that is a value. -/
theorem run_index_arr {t e : TypeId} {n : Nat} {k ki : IntKind} (ht : P.underlying t = some (.array n e)) (he : P.underlying e = some (.int k)) (hsz : (P.info? e).map (·.size) = some 1)
    {cs : List Value} {i : Nat} {v : Value} (w : World) (hi : i < n) (hv : cs[i]? = some v) : (Instr.index t (.agg cs.toArray) (.int ki (i : Int))).run P w = .ok v w := by
  cases hq : P.info? e with
  | none => simp [hq] at hsz
  | some ie =>
    have hs : ie.size = 1 := by simpa [hq] using hsz
    have hag : (isAgg e).run P w = .ok false w := by
      unfold isAgg
      rw [Sem.run_bind, run_underlying he w]
      rfl
    simp [Instr.index, asIntOf, run_underlying ht, sizeOf, typeInfo, hq, hs, part, hag, hi, hv]
/-- A whole array loaded out of the middle of a block. -/
theorem wpList_load_part {ops : Array Oper} {rest : List Oper} {o : Oper} {a : Act} {w : World} {Q : Exit → Act → World → Prop} (ty : TypeId) (x : Operand) (hgd : o.guard = none) (ho : o.op = .load ty x)
    (g off : Nat) (cs : List Value) (d : TypeDesc) (hx : a.eval x = .pointer (some ⟨g, off, none⟩)) (hc : ∀ j v, cs[j]? = some v → w.cell? ⟨g, off + j, none⟩ = some v)
    (hu : P.underlying ty = some d) (hd : (match d with | .struct _ | .array _ _ => true | _ => false) = true) (hi : (P.info? ty).map (·.size) = some cs.length)
    (h : wpList P ops Q rest (a.put o.dst (.agg cs.toArray)) w) : wpList P ops Q (o :: rest) a w := by
  refine wpList_plain hgd fun _ hK => ?_
  have hl : (loadCells ⟨g, off, none⟩ cs.length).run P w = .ok cs.toArray w :=
    run_loadCells_list (P := P) w ⟨g, off, none⟩ cs (fun j v hv => by rw [Addr.add_lit]; exact hc j v hv)
  have hrun : (loadVar ty ⟨g, off, none⟩).run P w = .ok (.agg cs.toArray) w := by
    cases hq : P.info? ty with
    | none => simp [hq] at hi
    | some i =>
      have hs : i.size = cs.length := by simpa [hq] using hi
      have hagg : (isAgg ty).run P w = .ok true w := by
        unfold isAgg
        rw [Sem.run_bind, run_underlying hu w]
        cases d <;> simp_all
      simp [loadVar, Sem.run_bind, hagg, sizeOf, typeInfo, hq, hs, hl]
  unfold Oper.wp execOp
  simp only [ho, hx, Instr.loadAt, Instr.sureAddr, Sem.run_bind, Sem.run_pure, Result.andThen_ok, hrun]
  exact hK _ _ h
end

end Go.Proofs.Ytfcgacjonekfaaa
