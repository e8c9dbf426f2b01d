/- 5 texts in one: TabFixed, Tab6, RTabStatic, RTab1, HDecPlain. -/
import Derived.Test.YtpkmciohehaboaaGreatDoorM2
import Derived.Great.BuildSlice
import Derived.Great.Walk
import Derived.Great.Ranges
import Derived.Outline
import Derived.IntWalk
import Derived.StillTailTactics
import Derived.Deep.DeepCutAuto
import Derived.Deep.RegionLaw
import Derived.Deep.LoopGhost
/- The walk of table.fixed. Printed by wip/gen_fixed.py. -/
namespace Go.Proofs.YtpkmciohehaboaaGreatDoor
open Go.RowKit

def statV : List Value := rcs statF
set_option maxRecDepth 100000 in
set_option maxHeartbeats 2000000 in
theorem fixed_any (w : World) : Calls Tryz.prog 224 #[] w fun e w' => e = .returned (.agg statV.toArray) ∧ Below w.heap.size w w' := by
  go_enter Tryz.func224, Tryz.ntmps224
  go_step; go_step; go_step
  refine Great.wpList_runTo rfl (some 0) rfl (.pointer (some ⟨w.heap.size, 0, none⟩)) (w.alloc (.cells (Array.replicate 122 (.string ByteArray.empty)) 288)) (by kernel_rfl) ?_
  go_step; go_step; go_step; go_step; go_step
  refine Great.wpList_runTo rfl (some 1) rfl (.agg #[.string ⟨#[58, 97, 117, 116, 104, 111, 114, 105, 116, 121]⟩, .string ⟨#[]⟩]) (w.alloc (.cells (Array.replicate 122 (.string ByteArray.empty)) 288)) (by kernel_rfl) ?_
  refine Great.wpList_runTo rfl (some 2) rfl (.agg #[.string ⟨#[58, 109, 101, 116, 104, 111, 100]⟩, .string ⟨#[71, 69, 84]⟩]) (w.alloc (.cells (Array.replicate 122 (.string ByteArray.empty)) 288)) (by kernel_rfl) ?_
  refine Great.wpList_runTo rfl (some 3) rfl (.agg #[.string ⟨#[58, 109, 101, 116, 104, 111, 100]⟩, .string ⟨#[80, 79, 83, 84]⟩]) (w.alloc (.cells (Array.replicate 122 (.string ByteArray.empty)) 288)) (by kernel_rfl) ?_
  refine Great.wpList_runTo rfl (some 4) rfl (.agg #[.string ⟨#[58, 112, 97, 116, 104]⟩, .string ⟨#[47]⟩]) (w.alloc (.cells (Array.replicate 122 (.string ByteArray.empty)) 288)) (by kernel_rfl) ?_
  refine Great.wpList_runTo rfl (some 5) rfl (.agg #[.string ⟨#[58, 112, 97, 116, 104]⟩, .string ⟨#[47, 105, 110, 100, 101, 120, 46, 104, 116, 109, 108]⟩]) (w.alloc (.cells (Array.replicate 122 (.string ByteArray.empty)) 288)) (by kernel_rfl) ?_
  refine Great.wpList_runTo rfl (some 6) rfl (.agg #[.string ⟨#[58, 115, 99, 104, 101, 109, 101]⟩, .string ⟨#[104, 116, 116, 112]⟩]) (w.alloc (.cells (Array.replicate 122 (.string ByteArray.empty)) 288)) (by kernel_rfl) ?_
  refine Great.wpList_runTo rfl (some 7) rfl (.agg #[.string ⟨#[58, 115, 99, 104, 101, 109, 101]⟩, .string ⟨#[104, 116, 116, 112, 115]⟩]) (w.alloc (.cells (Array.replicate 122 (.string ByteArray.empty)) 288)) (by kernel_rfl) ?_
  refine Great.wpList_runTo rfl (some 8) rfl (.agg #[.string ⟨#[58, 115, 116, 97, 116, 117, 115]⟩, .string ⟨#[50, 48, 48]⟩]) (w.alloc (.cells (Array.replicate 122 (.string ByteArray.empty)) 288)) (by kernel_rfl) ?_
  refine Great.wpList_runTo rfl (some 9) rfl (.agg #[.string ⟨#[58, 115, 116, 97, 116, 117, 115]⟩, .string ⟨#[50, 48, 52]⟩]) (w.alloc (.cells (Array.replicate 122 (.string ByteArray.empty)) 288)) (by kernel_rfl) ?_
  refine Great.wpList_runTo rfl (some 10) rfl (.agg #[.string ⟨#[58, 115, 116, 97, 116, 117, 115]⟩, .string ⟨#[50, 48, 54]⟩]) (w.alloc (.cells (Array.replicate 122 (.string ByteArray.empty)) 288)) (by kernel_rfl) ?_
  refine Great.wpList_runTo rfl (some 11) rfl (.agg #[.string ⟨#[58, 115, 116, 97, 116, 117, 115]⟩, .string ⟨#[51, 48, 52]⟩]) (w.alloc (.cells (Array.replicate 122 (.string ByteArray.empty)) 288)) (by kernel_rfl) ?_
  refine Great.wpList_runTo rfl (some 12) rfl (.agg #[.string ⟨#[58, 115, 116, 97, 116, 117, 115]⟩, .string ⟨#[52, 48, 48]⟩]) (w.alloc (.cells (Array.replicate 122 (.string ByteArray.empty)) 288)) (by kernel_rfl) ?_
  refine Great.wpList_runTo rfl (some 13) rfl (.agg #[.string ⟨#[58, 115, 116, 97, 116, 117, 115]⟩, .string ⟨#[52, 48, 52]⟩]) (w.alloc (.cells (Array.replicate 122 (.string ByteArray.empty)) 288)) (by kernel_rfl) ?_
  refine Great.wpList_runTo rfl (some 14) rfl (.agg #[.string ⟨#[58, 115, 116, 97, 116, 117, 115]⟩, .string ⟨#[53, 48, 48]⟩]) (w.alloc (.cells (Array.replicate 122 (.string ByteArray.empty)) 288)) (by kernel_rfl) ?_
  refine Great.wpList_runTo rfl (some 15) rfl (.agg #[.string ⟨#[97, 99, 99, 101, 112, 116, 45, 99, 104, 97, 114, 115, 101, 116]⟩, .string ⟨#[]⟩]) (w.alloc (.cells (Array.replicate 122 (.string ByteArray.empty)) 288)) (by kernel_rfl) ?_
  refine Great.wpList_runTo rfl (some 16) rfl (.agg #[.string ⟨#[97, 99, 99, 101, 112, 116, 45, 101, 110, 99, 111, 100, 105, 110, 103]⟩, .string ⟨#[103, 122, 105, 112, 44, 32, 100, 101, 102, 108, 97, 116, 101]⟩]) (w.alloc (.cells (Array.replicate 122 (.string ByteArray.empty)) 288)) (by kernel_rfl) ?_
  refine Great.wpList_runTo rfl (some 17) rfl (.agg #[.string ⟨#[97, 99, 99, 101, 112, 116, 45, 108, 97, 110, 103, 117, 97, 103, 101]⟩, .string ⟨#[]⟩]) (w.alloc (.cells (Array.replicate 122 (.string ByteArray.empty)) 288)) (by kernel_rfl) ?_
  refine Great.wpList_runTo rfl (some 18) rfl (.agg #[.string ⟨#[97, 99, 99, 101, 112, 116, 45, 114, 97, 110, 103, 101, 115]⟩, .string ⟨#[]⟩]) (w.alloc (.cells (Array.replicate 122 (.string ByteArray.empty)) 288)) (by kernel_rfl) ?_
  refine Great.wpList_runTo rfl (some 19) rfl (.agg #[.string ⟨#[97, 99, 99, 101, 112, 116]⟩, .string ⟨#[]⟩]) (w.alloc (.cells (Array.replicate 122 (.string ByteArray.empty)) 288)) (by kernel_rfl) ?_
  refine Great.wpList_runTo rfl (some 20) rfl (.agg #[.string ⟨#[97, 99, 99, 101, 115, 115, 45, 99, 111, 110, 116, 114, 111, 108, 45, 97, 108, 108, 111, 119, 45, 111, 114, 105, 103, 105, 110]⟩, .string ⟨#[]⟩]) (w.alloc (.cells (Array.replicate 122 (.string ByteArray.empty)) 288)) (by kernel_rfl) ?_
  refine Great.wpList_runTo rfl (some 21) rfl (.agg #[.string ⟨#[97, 103, 101]⟩, .string ⟨#[]⟩]) (w.alloc (.cells (Array.replicate 122 (.string ByteArray.empty)) 288)) (by kernel_rfl) ?_
  refine Great.wpList_runTo rfl (some 22) rfl (.agg #[.string ⟨#[97, 108, 108, 111, 119]⟩, .string ⟨#[]⟩]) (w.alloc (.cells (Array.replicate 122 (.string ByteArray.empty)) 288)) (by kernel_rfl) ?_
  refine Great.wpList_runTo rfl (some 23) rfl (.agg #[.string ⟨#[97, 117, 116, 104, 111, 114, 105, 122, 97, 116, 105, 111, 110]⟩, .string ⟨#[]⟩]) (w.alloc (.cells (Array.replicate 122 (.string ByteArray.empty)) 288)) (by kernel_rfl) ?_
  refine Great.wpList_runTo rfl (some 24) rfl (.agg #[.string ⟨#[99, 97, 99, 104, 101, 45, 99, 111, 110, 116, 114, 111, 108]⟩, .string ⟨#[]⟩]) (w.alloc (.cells (Array.replicate 122 (.string ByteArray.empty)) 288)) (by kernel_rfl) ?_
  refine Great.wpList_runTo rfl (some 25) rfl (.agg #[.string ⟨#[99, 111, 110, 116, 101, 110, 116, 45, 100, 105, 115, 112, 111, 115, 105, 116, 105, 111, 110]⟩, .string ⟨#[]⟩]) (w.alloc (.cells (Array.replicate 122 (.string ByteArray.empty)) 288)) (by kernel_rfl) ?_
  refine Great.wpList_runTo rfl (some 26) rfl (.agg #[.string ⟨#[99, 111, 110, 116, 101, 110, 116, 45, 101, 110, 99, 111, 100, 105, 110, 103]⟩, .string ⟨#[]⟩]) (w.alloc (.cells (Array.replicate 122 (.string ByteArray.empty)) 288)) (by kernel_rfl) ?_
  refine Great.wpList_runTo rfl (some 27) rfl (.agg #[.string ⟨#[99, 111, 110, 116, 101, 110, 116, 45, 108, 97, 110, 103, 117, 97, 103, 101]⟩, .string ⟨#[]⟩]) (w.alloc (.cells (Array.replicate 122 (.string ByteArray.empty)) 288)) (by kernel_rfl) ?_
  refine Great.wpList_runTo rfl (some 28) rfl (.agg #[.string ⟨#[99, 111, 110, 116, 101, 110, 116, 45, 108, 101, 110, 103, 116, 104]⟩, .string ⟨#[]⟩]) (w.alloc (.cells (Array.replicate 122 (.string ByteArray.empty)) 288)) (by kernel_rfl) ?_
  refine Great.wpList_runTo rfl (some 29) rfl (.agg #[.string ⟨#[99, 111, 110, 116, 101, 110, 116, 45, 108, 111, 99, 97, 116, 105, 111, 110]⟩, .string ⟨#[]⟩]) (w.alloc (.cells (Array.replicate 122 (.string ByteArray.empty)) 288)) (by kernel_rfl) ?_
  refine Great.wpList_runTo rfl (some 30) rfl (.agg #[.string ⟨#[99, 111, 110, 116, 101, 110, 116, 45, 114, 97, 110, 103, 101]⟩, .string ⟨#[]⟩]) (w.alloc (.cells (Array.replicate 122 (.string ByteArray.empty)) 288)) (by kernel_rfl) ?_
  refine Great.wpList_runTo rfl (some 31) rfl (.agg #[.string ⟨#[99, 111, 110, 116, 101, 110, 116, 45, 116, 121, 112, 101]⟩, .string ⟨#[]⟩]) (w.alloc (.cells (Array.replicate 122 (.string ByteArray.empty)) 288)) (by kernel_rfl) ?_
  refine Great.wpList_runTo rfl (some 32) rfl (.agg #[.string ⟨#[99, 111, 111, 107, 105, 101]⟩, .string ⟨#[]⟩]) (w.alloc (.cells (Array.replicate 122 (.string ByteArray.empty)) 288)) (by kernel_rfl) ?_
  refine Great.wpList_runTo rfl (some 33) rfl (.agg #[.string ⟨#[100, 97, 116, 101]⟩, .string ⟨#[]⟩]) (w.alloc (.cells (Array.replicate 122 (.string ByteArray.empty)) 288)) (by kernel_rfl) ?_
  refine Great.wpList_runTo rfl (some 34) rfl (.agg #[.string ⟨#[101, 116, 97, 103]⟩, .string ⟨#[]⟩]) (w.alloc (.cells (Array.replicate 122 (.string ByteArray.empty)) 288)) (by kernel_rfl) ?_
  refine Great.wpList_runTo rfl (some 35) rfl (.agg #[.string ⟨#[101, 120, 112, 101, 99, 116]⟩, .string ⟨#[]⟩]) (w.alloc (.cells (Array.replicate 122 (.string ByteArray.empty)) 288)) (by kernel_rfl) ?_
  refine Great.wpList_runTo rfl (some 36) rfl (.agg #[.string ⟨#[101, 120, 112, 105, 114, 101, 115]⟩, .string ⟨#[]⟩]) (w.alloc (.cells (Array.replicate 122 (.string ByteArray.empty)) 288)) (by kernel_rfl) ?_
  refine Great.wpList_runTo rfl (some 37) rfl (.agg #[.string ⟨#[102, 114, 111, 109]⟩, .string ⟨#[]⟩]) (w.alloc (.cells (Array.replicate 122 (.string ByteArray.empty)) 288)) (by kernel_rfl) ?_
  refine Great.wpList_runTo rfl (some 38) rfl (.agg #[.string ⟨#[104, 111, 115, 116]⟩, .string ⟨#[]⟩]) (w.alloc (.cells (Array.replicate 122 (.string ByteArray.empty)) 288)) (by kernel_rfl) ?_
  refine Great.wpList_runTo rfl (some 39) rfl (.agg #[.string ⟨#[105, 102, 45, 109, 97, 116, 99, 104]⟩, .string ⟨#[]⟩]) (w.alloc (.cells (Array.replicate 122 (.string ByteArray.empty)) 288)) (by kernel_rfl) ?_
  refine Great.wpList_runTo rfl (some 40) rfl (.agg #[.string ⟨#[105, 102, 45, 109, 111, 100, 105, 102, 105, 101, 100, 45, 115, 105, 110, 99, 101]⟩, .string ⟨#[]⟩]) (w.alloc (.cells (Array.replicate 122 (.string ByteArray.empty)) 288)) (by kernel_rfl) ?_
  refine Great.wpList_runTo rfl (some 41) rfl (.agg #[.string ⟨#[105, 102, 45, 110, 111, 110, 101, 45, 109, 97, 116, 99, 104]⟩, .string ⟨#[]⟩]) (w.alloc (.cells (Array.replicate 122 (.string ByteArray.empty)) 288)) (by kernel_rfl) ?_
  refine Great.wpList_runTo rfl (some 42) rfl (.agg #[.string ⟨#[105, 102, 45, 114, 97, 110, 103, 101]⟩, .string ⟨#[]⟩]) (w.alloc (.cells (Array.replicate 122 (.string ByteArray.empty)) 288)) (by kernel_rfl) ?_
  refine Great.wpList_runTo rfl (some 43) rfl (.agg #[.string ⟨#[105, 102, 45, 117, 110, 109, 111, 100, 105, 102, 105, 101, 100, 45, 115, 105, 110, 99, 101]⟩, .string ⟨#[]⟩]) (w.alloc (.cells (Array.replicate 122 (.string ByteArray.empty)) 288)) (by kernel_rfl) ?_
  refine Great.wpList_runTo rfl (some 44) rfl (.agg #[.string ⟨#[108, 97, 115, 116, 45, 109, 111, 100, 105, 102, 105, 101, 100]⟩, .string ⟨#[]⟩]) (w.alloc (.cells (Array.replicate 122 (.string ByteArray.empty)) 288)) (by kernel_rfl) ?_
  refine Great.wpList_runTo rfl (some 45) rfl (.agg #[.string ⟨#[108, 105, 110, 107]⟩, .string ⟨#[]⟩]) (w.alloc (.cells (Array.replicate 122 (.string ByteArray.empty)) 288)) (by kernel_rfl) ?_
  refine Great.wpList_runTo rfl (some 46) rfl (.agg #[.string ⟨#[108, 111, 99, 97, 116, 105, 111, 110]⟩, .string ⟨#[]⟩]) (w.alloc (.cells (Array.replicate 122 (.string ByteArray.empty)) 288)) (by kernel_rfl) ?_
  refine Great.wpList_runTo rfl (some 47) rfl (.agg #[.string ⟨#[109, 97, 120, 45, 102, 111, 114, 119, 97, 114, 100, 115]⟩, .string ⟨#[]⟩]) (w.alloc (.cells (Array.replicate 122 (.string ByteArray.empty)) 288)) (by kernel_rfl) ?_
  refine Great.wpList_runTo rfl (some 48) rfl (.agg #[.string ⟨#[112, 114, 111, 120, 121, 45, 97, 117, 116, 104, 101, 110, 116, 105, 99, 97, 116, 101]⟩, .string ⟨#[]⟩]) (w.alloc (.cells (Array.replicate 122 (.string ByteArray.empty)) 288)) (by kernel_rfl) ?_
  refine Great.wpList_runTo rfl (some 49) rfl (.agg #[.string ⟨#[112, 114, 111, 120, 121, 45, 97, 117, 116, 104, 111, 114, 105, 122, 97, 116, 105, 111, 110]⟩, .string ⟨#[]⟩]) (w.alloc (.cells (Array.replicate 122 (.string ByteArray.empty)) 288)) (by kernel_rfl) ?_
  refine Great.wpList_runTo rfl (some 50) rfl (.agg #[.string ⟨#[114, 97, 110, 103, 101]⟩, .string ⟨#[]⟩]) (w.alloc (.cells (Array.replicate 122 (.string ByteArray.empty)) 288)) (by kernel_rfl) ?_
  refine Great.wpList_runTo rfl (some 51) rfl (.agg #[.string ⟨#[114, 101, 102, 101, 114, 101, 114]⟩, .string ⟨#[]⟩]) (w.alloc (.cells (Array.replicate 122 (.string ByteArray.empty)) 288)) (by kernel_rfl) ?_
  refine Great.wpList_runTo rfl (some 52) rfl (.agg #[.string ⟨#[114, 101, 102, 114, 101, 115, 104]⟩, .string ⟨#[]⟩]) (w.alloc (.cells (Array.replicate 122 (.string ByteArray.empty)) 288)) (by kernel_rfl) ?_
  refine Great.wpList_runTo rfl (some 53) rfl (.agg #[.string ⟨#[114, 101, 116, 114, 121, 45, 97, 102, 116, 101, 114]⟩, .string ⟨#[]⟩]) (w.alloc (.cells (Array.replicate 122 (.string ByteArray.empty)) 288)) (by kernel_rfl) ?_
  refine Great.wpList_runTo rfl (some 54) rfl (.agg #[.string ⟨#[115, 101, 114, 118, 101, 114]⟩, .string ⟨#[]⟩]) (w.alloc (.cells (Array.replicate 122 (.string ByteArray.empty)) 288)) (by kernel_rfl) ?_
  refine Great.wpList_runTo rfl (some 55) rfl (.agg #[.string ⟨#[115, 101, 116, 45, 99, 111, 111, 107, 105, 101]⟩, .string ⟨#[]⟩]) (w.alloc (.cells (Array.replicate 122 (.string ByteArray.empty)) 288)) (by kernel_rfl) ?_
  refine Great.wpList_runTo rfl (some 56) rfl (.agg #[.string ⟨#[115, 116, 114, 105, 99, 116, 45, 116, 114, 97, 110, 115, 112, 111, 114, 116, 45, 115, 101, 99, 117, 114, 105, 116, 121]⟩, .string ⟨#[]⟩]) (w.alloc (.cells (Array.replicate 122 (.string ByteArray.empty)) 288)) (by kernel_rfl) ?_
  refine Great.wpList_runTo rfl (some 57) rfl (.agg #[.string ⟨#[116, 114, 97, 110, 115, 102, 101, 114, 45, 101, 110, 99, 111, 100, 105, 110, 103]⟩, .string ⟨#[]⟩]) (w.alloc (.cells (Array.replicate 122 (.string ByteArray.empty)) 288)) (by kernel_rfl) ?_
  refine Great.wpList_runTo rfl (some 58) rfl (.agg #[.string ⟨#[117, 115, 101, 114, 45, 97, 103, 101, 110, 116]⟩, .string ⟨#[]⟩]) (w.alloc (.cells (Array.replicate 122 (.string ByteArray.empty)) 288)) (by kernel_rfl) ?_
  refine Great.wpList_runTo rfl (some 59) rfl (.agg #[.string ⟨#[118, 97, 114, 121]⟩, .string ⟨#[]⟩]) (w.alloc (.cells (Array.replicate 122 (.string ByteArray.empty)) 288)) (by kernel_rfl) ?_
  refine Great.wpList_runTo rfl (some 60) rfl (.agg #[.string ⟨#[118, 105, 97]⟩, .string ⟨#[]⟩]) (w.alloc (.cells (Array.replicate 122 (.string ByteArray.empty)) 288)) (by kernel_rfl) ?_
  refine Great.wpList_runTo rfl (some 61) rfl (.agg #[.string ⟨#[119, 119, 119, 45, 97, 117, 116, 104, 101, 110, 116, 105, 99, 97, 116, 101]⟩, .string ⟨#[]⟩]) (w.alloc (.cells (Array.replicate 122 (.string ByteArray.empty)) 288)) (by kernel_rfl) ?_
  refine Great.wpList_runTo rfl (some 62) rfl (.agg statV.toArray) (w.alloc (.cells (Array.replicate 122 (.string ByteArray.empty)) 288)) (by kernel_rfl) ?_
  refine wpList_store_rowTo rfl 288 (.tmp 0) (.tmp 62) rfl rfl w.heap.size statV.toArray (by kernel_rfl) (by kernel_rfl) 288 (Array.replicate 122 (.string ByteArray.empty)) (heapNew w _) (by kernel_rfl) (by kernel_rfl) (by kernel_rfl) ?_
  go_wp2_with fail
  refine bodyPost_ret (v := .agg statV.toArray) (results_cell_row rfl _ _ w.heap.size 288 statV.toArray (0, 0) _ (by kernel_rfl) (setRow_heap _ _ _ _ _ _ (heapNew w _)) Tryz.underlying288 rfl (by kernel_rfl)) rfl ?_
  exact ⟨rfl, ((Below.refl _ _).alloc (Nat.le_refl _) _).trans ⟨rfl, rfl, rfl, by simp, fun k hk => setRow_other _ _ _ _ (by omega)⟩⟩
end Go.Proofs.YtpkmciohehaboaaGreatDoor

/- The walk of table.At. -/
namespace Go.Proofs.YtpkmciohehaboaaGreatDoor
open Go.RowKit Go.Maps

/-- The row with a number: first those that never change, then those that came, the youngest first. -/
def atRows (rows : List Rw) (n : Int) : Option Rw :=
  if 1 ≤ n ∧ n ≤ 61 then statF[(n - 1).toNat]? else if 61 < n ∧ n - 61 ≤ rows.length then rows[(rows.length - (n - 61)).toNat]? else none
def fieldV (r : Rw) (b : Bool) : Value := .agg #[.string r.1, .string r.2, .bool b]
def atV : Option Rw → Value
  | some r => .tuple #[fieldV r false, .int .i64 0]
  | none => .tuple #[fieldV (emptyB, emptyB) false, .int .i64 40]
theorem atRows_stat (rows : List Rw) {i : Nat} (h : i < 61) : ∃ r, statF[i]? = some r ∧ atRows rows (i + 1 : Int) = some r := by
  obtain ⟨r, hr⟩ : ∃ r, statF[i]? = some r := ⟨_, List.getElem?_eq_getElem (by rw [statF_length]; exact h)⟩
  refine ⟨r, hr, ?_⟩
  unfold atRows
  rw [if_pos (by omega), show ((i : Int) + 1 - 1).toNat = i by omega, hr]
theorem atRows_came (rows : List Rw) {i : Nat} (h : i < rows.length) : ∃ r, rows[i]? = some r ∧ atRows rows (61 + rows.length - i : Int) = some r := by
  obtain ⟨r, hr⟩ : ∃ r, rows[i]? = some r := ⟨_, List.getElem?_eq_getElem h⟩
  refine ⟨r, hr, ?_⟩
  unfold atRows
  rw [if_neg (by omega), if_pos (by omega), show ((rows.length : Int) - (61 + rows.length - i - 61)).toNat = i by omega, hr]
theorem atRows_none {rows : List Rw} {n : Int} (h : n < 1 ∨ 61 + rows.length < n) : atRows rows n = none := by
  unfold atRows
  rw [if_neg (by omega), if_neg (by omega)]
theorem statV_get {i : Nat} {r : Rw} (h : statF[i]? = some r) : statV.toArray[i * 2]? = some (.string r.1) ∧ statV.toArray[i * 2 + 1]? = some (.string r.2) := by
  have := rcs_get h
  simpa [statV] using this

set_option maxRecDepth 100000 in
set_option maxHeartbeats 2000000 in
/-- A row that never changes: whatever the table. -/
theorem at_stat {i : Nat} {r : Rw} (A : Option Addr) (w : World) (hi : i < 61) (hr : statF[i]? = some r) :
    Calls Tryz.prog 216 #[.pointer A, .int .i64 (i + 1)] w fun e w' => e = .returned (atV (some r)) ∧ Below w.heap.size w w' := by
  have hs := statV_get hr
  obtain ⟨s0, s1⟩ := hs
  have HS := Lib.hid (And.intro s0 s1)
  clear s0 s1 hr
  go_enter Tryz.func216, Tryz.ntmps216
  go_wp2_with fail
  refine (fixed_any _).mono ?_
  rintro e w1 ⟨rfl, hb⟩
  obtain ⟨W0, hW0⟩ : ∃ W0, (w.alloc (.cells #[.string emptyB, .string emptyB, .bool false] 26)).alloc (.cells #[.string emptyB, .string emptyB] 276) = W0 := ⟨_, rfl⟩
  have hb' : Below W0.heap.size W0 w1 := by rw [← hW0]; exact hb
  clear hb
  obtain ⟨p, hp⟩ : ∃ p, w.heap.size = p := ⟨_, rfl⟩
  have hsz0 : W0.heap.size = p + 2 := by rw [← hW0, ← hp]; simp
  have hsz := hb'.size
  have hp1 : p < w1.heap.size := by omega
  have hp2 : p + 1 < w1.heap.size := by omega
  have g0 : W0.heap[p]? = some (.cells #[.string emptyB, .string emptyB, .bool false] 26 (0, 0)) := by
    rw [← hW0, ← hp]; exact (Below.heap_alloc _ _ _ (by simp)).trans (heapNew _ _)
  have g1 : W0.heap[p + 1]? = some (.cells #[.string emptyB, .string emptyB] 276 (0, 0)) := by
    rw [← hW0, ← hp]; exact heapNew1 _ _ _
  have k0 := (hb'.block p (by omega)).trans g0
  have k1 := (hb'.block (p + 1) (by omega)).trans g1
  obtain ⟨w2, hw2⟩ : ∃ w2, (w1.alloc (.cells (Array.replicate 122 (.string ByteArray.empty)) 288)).setRow w1.heap.size statV.toArray = w2 := ⟨_, rfl⟩
  have ha : w2.heap[w1.heap.size]? = some (.cells statV.toArray 288 (0, 0)) := by rw [← hw2]; exact setRow_heap _ _ _ _ _ _ (heapNew w1 _)
  have ho : ∀ k, k < w1.heap.size → w2.heap[k]? = w1.heap[k]? := fun k hk => by rw [← hw2]; exact (setRow_other _ _ _ _ (by omega)).trans (Below.heap_alloc _ _ _ hk)
  have hb2 : Below w1.heap.size w1 w2 := ⟨by rw [← hw2]; rfl, by rw [← hw2]; rfl, by rw [← hw2]; rfl, by rw [← hw2]; simp, ho⟩
  have t0 : w2.cell? ⟨w1.heap.size, i * 2, none⟩ = some (.string r.1) := by unfold World.cell?; rw [ha]; exact HS.out.1
  have t1 : w2.cell? ⟨w1.heap.size, i * 2 + 1, none⟩ = some (.string r.2) := by unfold World.cell?; rw [ha]; exact HS.out.2
  have p0 : w2.cell? ⟨p, 0, none⟩ = some (.string emptyB) := by unfold World.cell?; rw [ho p hp1, k0]; rfl
  have p1 : w2.cell? ⟨p, 1, none⟩ = some (.string emptyB) := by unfold World.cell?; rw [ho p hp1, k0]; rfl
  have p2 : w2.cell? ⟨p, 2, none⟩ = some (.bool false) := by unfold World.cell?; rw [ho p hp1, k0]; rfl
  have f0 : ∀ o, w2.frozen? ⟨p, o, none⟩ = false := fun o => by unfold World.frozen?; rw [ho p hp1, k0]; simp
  have q0 : w2.cell? ⟨p + 1, 0, none⟩ = some (.string emptyB) := by unfold World.cell?; rw [ho _ hp2, k1]; rfl
  have q1 : w2.cell? ⟨p + 1, 1, none⟩ = some (.string emptyB) := by unfold World.cell?; rw [ho _ hp2, k1]; rfl
  have f1 : ∀ o, w2.frozen? ⟨p + 1, o, none⟩ = false := fun o => by unfold World.frozen?; rw [ho _ hp2, k1]; simp
  have HB := Lib.hid (And.intro hb' (And.intro hb2 (And.intro hp (And.intro hsz0 hW0))))
  have HW2 := Lib.hid hw2
  rw [hp]
  clear hb' k0 k1 g0 g1 hW0 hsz0 hsz hb2 ho ha hw2 hp
  simp only []
  go_at_K
  go_step
  refine Great.wpList_runTo rfl (some 7) rfl (.pointer (some ⟨w1.heap.size, 0, none⟩)) (w1.alloc (.cells (Array.replicate 122 (.string ByteArray.empty)) 288)) (by kernel_rfl) ?_
  refine wpList_store_rowTo rfl 288 (.tmp 7) (.tmp 16) rfl rfl w1.heap.size statV.toArray (by kernel_rfl) (by kernel_rfl) 288 (Array.replicate 122 (.string ByteArray.empty)) (heapNew w1 _) (by kernel_rfl) (by kernel_rfl) (by kernel_rfl) ?_
  rw [HW2.out]
  go_wp2
  refine bodyPost_ret (v := atV (some r)) (by simp [results, Tryz.results216, go_sem, atV, fieldV, p0, p1, p2]) rfl ⟨rfl, ?_⟩
  obtain ⟨b1, b2, e1, e2, e3⟩ := HB.out
  have b0 : Below w.heap.size w W0 := by rw [← e3]; exact ((Below.refl _ _).alloc (Nat.le_refl _) _).alloc (by simp) _
  exact (((((((b0.trans (b1.mono b0.size)).trans (b2.mono (Nat.le_trans b0.size b1.size))).setCell (by show w.heap.size ≤ p + 1; omega) _).setCell (by show w.heap.size ≤ p + 1; omega) _).setCell (by show w.heap.size ≤ p; omega) _).setCell (by show w.heap.size ≤ p; omega) _).setCell (by show w.heap.size ≤ p; omega) _)

set_option maxRecDepth 100000 in
set_option maxHeartbeats 2000000 in
theorem at_out {g N : Nat} {F : Nat → Prop} {T : Tb} (n : Int) (w : World) (h : TabIs w g F N T) (hn : n < 1 ∨ 61 + T.rows.length < n) (hnb : n ≤ 9223372036854775807) :
    Calls Tryz.prog 216 #[.pointer (some ⟨g, 0, none⟩), .int .i64 n] w fun e w' => e = .returned (atV none) ∧ Below w.heap.size w w' := by
  obtain ⟨h1, h2, h3, h4, h5, h6, h7⟩ := h.inv
  have HC := Lib.hid (fun (o1 o2 : Obj) => len_any _ ((h.alloc o1).alloc o2))
  clear h1 h7
  by_cases hneg : n < 1
  · clear hn
    go_enter Tryz.func216, Tryz.ntmps216
    go_wp2
    refine bodyPost_ret (v := atV none) (by simp [results, Tryz.results216, go_sem, atV, fieldV, emptyB]) rfl ⟨rfl, ?_⟩
    exact ((Below.refl _ _).alloc (Nat.le_refl _) _).alloc (by simp) _
  · have hbig : 61 + (T.rows.length : Int) < n := by omega
    have h61 : 61 < n := by omega
    clear hn hneg
    go_enter Tryz.func216, Tryz.ntmps216
    go_wp2_with fail
    refine (HC.out _ _).mono ?_
    rintro e w1 ⟨rfl, rfl⟩
    go_wp2
    refine bodyPost_ret (v := atV none) (by simp [results, Tryz.results216, go_sem, atV, fieldV, emptyB]) rfl ⟨rfl, ?_⟩
    exact ((Below.refl _ _).alloc (Nat.le_refl _) _).alloc (by simp) _

set_option maxRecDepth 100000 in
set_option maxHeartbeats 2000000 in
theorem at_came {g N : Nat} {F : Nat → Prop} {T : Tb} {i : Nat} {r : Rw} (w : World) (h : TabIs w g F N T) (hi : T.rows[i]? = some r) (n : Int) (hn : n = 61 + T.rows.length - i) :
    Calls Tryz.prog 216 #[.pointer (some ⟨g, 0, none⟩), .int .i64 n] w fun e w' => e = .returned (atV (some r)) ∧ Below w.heap.size w w' := by
  obtain ⟨h1, h2, h3, h4, h5, h6, h7⟩ := h.inv
  have hlt : i < T.rows.length := (List.getElem?_eq_some_iff.1 hi).1
  have HC := Lib.hid (fun (o1 o2 : Obj) => len_any _ ((h.alloc o1).alloc o2))
  obtain ⟨mb, mn, A, c, rfl, ht⟩ := h
  have hgl := ht.raw.lt g (.inl rfl)
  have ht2 := (ht.raw.alloc (.cells #[.string emptyB, .string emptyB, .bool false] 26)).alloc (.cells #[.string emptyB, .string emptyB] 276)
  obtain ⟨-, -, c2, -⟩ := ht.raw.cells
  obtain ⟨q, o, rfl, hq, r0, r1⟩ := ht.raw.at_ hi
  have n1 : 61 < n := by omega
  have n2 : n ≤ 61 + T.rows.length := by omega
  have s1 : IntKind.i64.wrap (n - 61) = n - 61 := by rw [IntWalk.i64_in _ ⟨by omega, by omega⟩]
  have s2 : IntKind.i64.wrap ((T.rows.length : Int) - (n - 61)) = i := by rw [IntWalk.i64_in _ ⟨by omega, by omega⟩]; omega
  generalize T.rows.length = len at *
  clear h1 h7 hi ht ht2 hn
  go_enter Tryz.func216, Tryz.ntmps216
  go_wp2_with fail
  refine (HC.out _ _).mono ?_
  rintro e w1 ⟨rfl, rfl⟩
  obtain ⟨W0, hW0⟩ : ∃ W0, (w.alloc (.cells #[.string emptyB, .string emptyB, .bool false] 26)).alloc (.cells #[.string emptyB, .string emptyB] 276) = W0 := ⟨_, rfl⟩
  have b0 : Below w.heap.size w W0 := by rw [← hW0]; exact ((Below.refl _ _).alloc (Nat.le_refl _) _).alloc (by simp) _
  have HB := Lib.hid b0
  have HQ := Lib.hid hW0
  go_upto_region 7 with fail
  rw [show (w.alloc (.cells #[.string ⟨#[]⟩, .string ⟨#[]⟩, .bool false] 26)).alloc (.cells #[.string ⟨#[]⟩, .string ⟨#[]⟩] 276) = W0 from HQ.out]
  obtain ⟨p, hp⟩ : ∃ p, w.heap.size = p := ⟨_, rfl⟩
  have k0 : W0.heap[p]? = some (.cells #[.string emptyB, .string emptyB, .bool false] 26 (0, 0)) := by
    rw [← hW0, ← hp]; exact (Below.heap_alloc _ _ _ (by simp)).trans (heapNew _ _)
  have k1 : W0.heap[p + 1]? = some (.cells #[.string emptyB, .string emptyB] 276 (0, 0)) := by
    rw [← hW0, ← hp]; exact heapNew1 _ _ _
  have p0 : W0.cell? ⟨p, 0, none⟩ = some (.string emptyB) := by unfold World.cell?; rw [k0]; rfl
  have p1 : W0.cell? ⟨p, 1, none⟩ = some (.string emptyB) := by unfold World.cell?; rw [k0]; rfl
  have p2 : W0.cell? ⟨p, 2, none⟩ = some (.bool false) := by unfold World.cell?; rw [k0]; rfl
  have f0 : ∀ o, W0.frozen? ⟨p, o, none⟩ = false := fun o => by unfold World.frozen?; rw [k0]; simp
  have q0 : W0.cell? ⟨p + 1, 0, none⟩ = some (.string emptyB) := by unfold World.cell?; rw [k1]; rfl
  have q1 : W0.cell? ⟨p + 1, 1, none⟩ = some (.string emptyB) := by unfold World.cell?; rw [k1]; rfl
  have f1 : ∀ o, W0.frozen? ⟨p + 1, o, none⟩ = false := fun o => by unfold World.frozen?; rw [k1]; simp
  have d2 := (b0.cell (p := ⟨g, 2, none⟩) hgl).trans c2
  have e0 := (b0.cell (p := ⟨q, o + i * 2, none⟩) hq).trans r0
  have e1 := (b0.cell (p := ⟨q, o + i * 2 + 1, none⟩) hq).trans r1
  rw [hp]
  have HP := Lib.hid hp
  clear c2 r0 r1 b0 hW0 k0 k1 hp HQ
  go_still_tail 14, (by kernel_rfl)
  change wpList _ _ _ _ _ W0.drew
  go_wp2
  refine bodyPost_ret (v := atV (some r)) (by simp [results, Tryz.results216, go_sem, atV, fieldV, p0, p1, p2]) rfl ⟨rfl, ?_⟩
  exact (((((HB.out.setCell (by show w.heap.size ≤ p + 1; have := HP.out; omega) _).setCell (by show w.heap.size ≤ p + 1; have := HP.out; omega) _).setCell (by show w.heap.size ≤ p; have := HP.out; omega) _).setCell (by show w.heap.size ≤ p; have := HP.out; omega) _).setCell (by show w.heap.size ≤ p; have := HP.out; omega) _).drew

theorem at_any {g N : Nat} {F : Nat → Prop} {T : Tb} (n : Int) (w : World) (h : TabIs w g F N T) (hnb : n ≤ 9223372036854775807) :
    Calls Tryz.prog 216 #[.pointer (some ⟨g, 0, none⟩), .int .i64 n] w fun e w' => e = .returned (atV (atRows T.rows n)) ∧ Below w.heap.size w w' := by
  by_cases h1 : n < 1 ∨ 61 + T.rows.length < n
  · rw [atRows_none h1]; exact at_out n w h h1 hnb
  · by_cases h2 : n ≤ 61
    · obtain ⟨i, hi⟩ : ∃ i : Nat, n = i + 1 := ⟨(n - 1).toNat, by omega⟩
      subst hi
      obtain ⟨r, hr, ha⟩ := atRows_stat T.rows (i := i) (by omega)
      rw [ha]
      exact at_stat _ w (by omega) hr
    · obtain ⟨i, hi⟩ : ∃ i : Nat, n = 61 + T.rows.length - i := ⟨(61 + T.rows.length - n).toNat, by omega⟩
      obtain ⟨r, hr, ha⟩ := atRows_came T.rows (i := i) (by omega)
      have hn := hi
      subst hi
      rw [ha]
      exact at_came w h hr _ rfl

end Go.Proofs.YtpkmciohehaboaaGreatDoor

/- Fields in memory; the walk of drawbridgeref04.Static. Printed by wip/gen_static.py. -/
namespace Go.Proofs.YtpkmciohehaboaaGreatDoor
open Go.RowKit

/-- Fields, as cells; none of them never to be kept. -/
def fcs (l : List Rw) : List Value := l.flatMap fun r => [.string r.1, .string r.2, .bool false]
theorem fcs_cons (r : Rw) (l : List Rw) : fcs (r :: l) = .string r.1 :: .string r.2 :: .bool false :: fcs l := rfl
theorem fcs_length (l : List Rw) : (fcs l).length = l.length * 3 := by
  induction l with
  | nil => rfl
  | cons p l ih => rw [fcs_cons]; simp only [List.length_cons, ih]; omega
theorem fcs_get {l : List Rw} : ∀ {i : Nat} {r : Rw}, l[i]? = some r → (fcs l)[i * 3]? = some (.string r.1) ∧ (fcs l)[i * 3 + 1]? = some (.string r.2) ∧ (fcs l)[i * 3 + 2]? = some (.bool false) := by
  induction l with
  | nil => intro i p h; simp at h
  | cons q L ih =>
    intro i p h
    rw [fcs_cons]
    cases i with
    | zero => simp at h; subst h; exact ⟨rfl, rfl, rfl⟩
    | succ i =>
      have := ih (i := i) (r := p) (by simpa using h)
      rw [show (i + 1) * 3 = i * 3 + 1 + 1 + 1 by omega]
      simpa using this
theorem fcs_app (l k : List Rw) : fcs (l ++ k) = fcs l ++ fcs k := by simp [fcs, List.flatMap_append]
theorem fcs_one (l : List Rw) : ∀ u ∈ fcs l, u.oneCell' = true := by
  induction l with
  | nil => intro u h; cases h
  | cons p L ih =>
    intro u h
    rw [fcs_cons] at h
    simp only [List.mem_cons] at h
    rcases h with rfl | rfl | rfl | h
    · rfl
    · rfl
    · rfl
    · exact ih u h
theorem tFields : SlT Tryz.prog 22 26 (.agg #[.string ByteArray.empty, .string ByteArray.empty, .bool false]) 3 40 :=
  ⟨Tryz.underlying22, by kernel_rfl, rfl, by decide⟩
def fstatV : List Value := fcs statF
set_option maxRecDepth 100000 in
set_option maxHeartbeats 2000000 in
theorem static_any (w : World) : Calls Tryz.prog 87 #[] w fun e w' => e = .returned (.slice (some ⟨w.heap.size, 0, none⟩) 61 61) ∧ w' = w.alloc (.cells fstatV.toArray 26) := by
  go_enter Tryz.func87, Tryz.ntmps87
  go_step; go_step; go_step
  refine Great.wpList_runTo rfl (some 0) rfl (.slice none 0 0) w (by kernel_rfl) ?_
  go_step; go_step; go_step; go_step; go_step
  refine Great.wpList_runTo rfl (some 1) rfl (.agg #[.string ⟨#[58, 97, 117, 116, 104, 111, 114, 105, 116, 121]⟩, .string ⟨#[]⟩, .bool false]) w (by kernel_rfl) ?_
  refine Great.wpList_runTo rfl (some 2) rfl (.agg #[.string ⟨#[58, 109, 101, 116, 104, 111, 100]⟩, .string ⟨#[71, 69, 84]⟩, .bool false]) w (by kernel_rfl) ?_
  refine Great.wpList_runTo rfl (some 3) rfl (.agg #[.string ⟨#[58, 109, 101, 116, 104, 111, 100]⟩, .string ⟨#[80, 79, 83, 84]⟩, .bool false]) w (by kernel_rfl) ?_
  refine Great.wpList_runTo rfl (some 4) rfl (.agg #[.string ⟨#[58, 112, 97, 116, 104]⟩, .string ⟨#[47]⟩, .bool false]) w (by kernel_rfl) ?_
  refine Great.wpList_runTo rfl (some 5) rfl (.agg #[.string ⟨#[58, 112, 97, 116, 104]⟩, .string ⟨#[47, 105, 110, 100, 101, 120, 46, 104, 116, 109, 108]⟩, .bool false]) w (by kernel_rfl) ?_
  refine Great.wpList_runTo rfl (some 6) rfl (.agg #[.string ⟨#[58, 115, 99, 104, 101, 109, 101]⟩, .string ⟨#[104, 116, 116, 112]⟩, .bool false]) w (by kernel_rfl) ?_
  refine Great.wpList_runTo rfl (some 7) rfl (.agg #[.string ⟨#[58, 115, 99, 104, 101, 109, 101]⟩, .string ⟨#[104, 116, 116, 112, 115]⟩, .bool false]) w (by kernel_rfl) ?_
  refine Great.wpList_runTo rfl (some 8) rfl (.agg #[.string ⟨#[58, 115, 116, 97, 116, 117, 115]⟩, .string ⟨#[50, 48, 48]⟩, .bool false]) w (by kernel_rfl) ?_
  refine Great.wpList_runTo rfl (some 9) rfl (.agg #[.string ⟨#[58, 115, 116, 97, 116, 117, 115]⟩, .string ⟨#[50, 48, 52]⟩, .bool false]) w (by kernel_rfl) ?_
  refine Great.wpList_runTo rfl (some 10) rfl (.agg #[.string ⟨#[58, 115, 116, 97, 116, 117, 115]⟩, .string ⟨#[50, 48, 54]⟩, .bool false]) w (by kernel_rfl) ?_
  refine Great.wpList_runTo rfl (some 11) rfl (.agg #[.string ⟨#[58, 115, 116, 97, 116, 117, 115]⟩, .string ⟨#[51, 48, 52]⟩, .bool false]) w (by kernel_rfl) ?_
  refine Great.wpList_runTo rfl (some 12) rfl (.agg #[.string ⟨#[58, 115, 116, 97, 116, 117, 115]⟩, .string ⟨#[52, 48, 48]⟩, .bool false]) w (by kernel_rfl) ?_
  refine Great.wpList_runTo rfl (some 13) rfl (.agg #[.string ⟨#[58, 115, 116, 97, 116, 117, 115]⟩, .string ⟨#[52, 48, 52]⟩, .bool false]) w (by kernel_rfl) ?_
  refine Great.wpList_runTo rfl (some 14) rfl (.agg #[.string ⟨#[58, 115, 116, 97, 116, 117, 115]⟩, .string ⟨#[53, 48, 48]⟩, .bool false]) w (by kernel_rfl) ?_
  refine Great.wpList_runTo rfl (some 15) rfl (.agg #[.string ⟨#[97, 99, 99, 101, 112, 116, 45, 99, 104, 97, 114, 115, 101, 116]⟩, .string ⟨#[]⟩, .bool false]) w (by kernel_rfl) ?_
  refine Great.wpList_runTo rfl (some 16) rfl (.agg #[.string ⟨#[97, 99, 99, 101, 112, 116, 45, 101, 110, 99, 111, 100, 105, 110, 103]⟩, .string ⟨#[103, 122, 105, 112, 44, 32, 100, 101, 102, 108, 97, 116, 101]⟩, .bool false]) w (by kernel_rfl) ?_
  refine Great.wpList_runTo rfl (some 17) rfl (.agg #[.string ⟨#[97, 99, 99, 101, 112, 116, 45, 108, 97, 110, 103, 117, 97, 103, 101]⟩, .string ⟨#[]⟩, .bool false]) w (by kernel_rfl) ?_
  refine Great.wpList_runTo rfl (some 18) rfl (.agg #[.string ⟨#[97, 99, 99, 101, 112, 116, 45, 114, 97, 110, 103, 101, 115]⟩, .string ⟨#[]⟩, .bool false]) w (by kernel_rfl) ?_
  refine Great.wpList_runTo rfl (some 19) rfl (.agg #[.string ⟨#[97, 99, 99, 101, 112, 116]⟩, .string ⟨#[]⟩, .bool false]) w (by kernel_rfl) ?_
  refine Great.wpList_runTo rfl (some 20) rfl (.agg #[.string ⟨#[97, 99, 99, 101, 115, 115, 45, 99, 111, 110, 116, 114, 111, 108, 45, 97, 108, 108, 111, 119, 45, 111, 114, 105, 103, 105, 110]⟩, .string ⟨#[]⟩, .bool false]) w (by kernel_rfl) ?_
  refine Great.wpList_runTo rfl (some 21) rfl (.agg #[.string ⟨#[97, 103, 101]⟩, .string ⟨#[]⟩, .bool false]) w (by kernel_rfl) ?_
  refine Great.wpList_runTo rfl (some 22) rfl (.agg #[.string ⟨#[97, 108, 108, 111, 119]⟩, .string ⟨#[]⟩, .bool false]) w (by kernel_rfl) ?_
  refine Great.wpList_runTo rfl (some 23) rfl (.agg #[.string ⟨#[97, 117, 116, 104, 111, 114, 105, 122, 97, 116, 105, 111, 110]⟩, .string ⟨#[]⟩, .bool false]) w (by kernel_rfl) ?_
  refine Great.wpList_runTo rfl (some 24) rfl (.agg #[.string ⟨#[99, 97, 99, 104, 101, 45, 99, 111, 110, 116, 114, 111, 108]⟩, .string ⟨#[]⟩, .bool false]) w (by kernel_rfl) ?_
  refine Great.wpList_runTo rfl (some 25) rfl (.agg #[.string ⟨#[99, 111, 110, 116, 101, 110, 116, 45, 100, 105, 115, 112, 111, 115, 105, 116, 105, 111, 110]⟩, .string ⟨#[]⟩, .bool false]) w (by kernel_rfl) ?_
  refine Great.wpList_runTo rfl (some 26) rfl (.agg #[.string ⟨#[99, 111, 110, 116, 101, 110, 116, 45, 101, 110, 99, 111, 100, 105, 110, 103]⟩, .string ⟨#[]⟩, .bool false]) w (by kernel_rfl) ?_
  refine Great.wpList_runTo rfl (some 27) rfl (.agg #[.string ⟨#[99, 111, 110, 116, 101, 110, 116, 45, 108, 97, 110, 103, 117, 97, 103, 101]⟩, .string ⟨#[]⟩, .bool false]) w (by kernel_rfl) ?_
  refine Great.wpList_runTo rfl (some 28) rfl (.agg #[.string ⟨#[99, 111, 110, 116, 101, 110, 116, 45, 108, 101, 110, 103, 116, 104]⟩, .string ⟨#[]⟩, .bool false]) w (by kernel_rfl) ?_
  refine Great.wpList_runTo rfl (some 29) rfl (.agg #[.string ⟨#[99, 111, 110, 116, 101, 110, 116, 45, 108, 111, 99, 97, 116, 105, 111, 110]⟩, .string ⟨#[]⟩, .bool false]) w (by kernel_rfl) ?_
  refine Great.wpList_runTo rfl (some 30) rfl (.agg #[.string ⟨#[99, 111, 110, 116, 101, 110, 116, 45, 114, 97, 110, 103, 101]⟩, .string ⟨#[]⟩, .bool false]) w (by kernel_rfl) ?_
  refine Great.wpList_runTo rfl (some 31) rfl (.agg #[.string ⟨#[99, 111, 110, 116, 101, 110, 116, 45, 116, 121, 112, 101]⟩, .string ⟨#[]⟩, .bool false]) w (by kernel_rfl) ?_
  refine Great.wpList_runTo rfl (some 32) rfl (.agg #[.string ⟨#[99, 111, 111, 107, 105, 101]⟩, .string ⟨#[]⟩, .bool false]) w (by kernel_rfl) ?_
  refine Great.wpList_runTo rfl (some 33) rfl (.agg #[.string ⟨#[100, 97, 116, 101]⟩, .string ⟨#[]⟩, .bool false]) w (by kernel_rfl) ?_
  refine Great.wpList_runTo rfl (some 34) rfl (.agg #[.string ⟨#[101, 116, 97, 103]⟩, .string ⟨#[]⟩, .bool false]) w (by kernel_rfl) ?_
  refine Great.wpList_runTo rfl (some 35) rfl (.agg #[.string ⟨#[101, 120, 112, 101, 99, 116]⟩, .string ⟨#[]⟩, .bool false]) w (by kernel_rfl) ?_
  refine Great.wpList_runTo rfl (some 36) rfl (.agg #[.string ⟨#[101, 120, 112, 105, 114, 101, 115]⟩, .string ⟨#[]⟩, .bool false]) w (by kernel_rfl) ?_
  refine Great.wpList_runTo rfl (some 37) rfl (.agg #[.string ⟨#[102, 114, 111, 109]⟩, .string ⟨#[]⟩, .bool false]) w (by kernel_rfl) ?_
  refine Great.wpList_runTo rfl (some 38) rfl (.agg #[.string ⟨#[104, 111, 115, 116]⟩, .string ⟨#[]⟩, .bool false]) w (by kernel_rfl) ?_
  refine Great.wpList_runTo rfl (some 39) rfl (.agg #[.string ⟨#[105, 102, 45, 109, 97, 116, 99, 104]⟩, .string ⟨#[]⟩, .bool false]) w (by kernel_rfl) ?_
  refine Great.wpList_runTo rfl (some 40) rfl (.agg #[.string ⟨#[105, 102, 45, 109, 111, 100, 105, 102, 105, 101, 100, 45, 115, 105, 110, 99, 101]⟩, .string ⟨#[]⟩, .bool false]) w (by kernel_rfl) ?_
  refine Great.wpList_runTo rfl (some 41) rfl (.agg #[.string ⟨#[105, 102, 45, 110, 111, 110, 101, 45, 109, 97, 116, 99, 104]⟩, .string ⟨#[]⟩, .bool false]) w (by kernel_rfl) ?_
  refine Great.wpList_runTo rfl (some 42) rfl (.agg #[.string ⟨#[105, 102, 45, 114, 97, 110, 103, 101]⟩, .string ⟨#[]⟩, .bool false]) w (by kernel_rfl) ?_
  refine Great.wpList_runTo rfl (some 43) rfl (.agg #[.string ⟨#[105, 102, 45, 117, 110, 109, 111, 100, 105, 102, 105, 101, 100, 45, 115, 105, 110, 99, 101]⟩, .string ⟨#[]⟩, .bool false]) w (by kernel_rfl) ?_
  refine Great.wpList_runTo rfl (some 44) rfl (.agg #[.string ⟨#[108, 97, 115, 116, 45, 109, 111, 100, 105, 102, 105, 101, 100]⟩, .string ⟨#[]⟩, .bool false]) w (by kernel_rfl) ?_
  refine Great.wpList_runTo rfl (some 45) rfl (.agg #[.string ⟨#[108, 105, 110, 107]⟩, .string ⟨#[]⟩, .bool false]) w (by kernel_rfl) ?_
  refine Great.wpList_runTo rfl (some 46) rfl (.agg #[.string ⟨#[108, 111, 99, 97, 116, 105, 111, 110]⟩, .string ⟨#[]⟩, .bool false]) w (by kernel_rfl) ?_
  refine Great.wpList_runTo rfl (some 47) rfl (.agg #[.string ⟨#[109, 97, 120, 45, 102, 111, 114, 119, 97, 114, 100, 115]⟩, .string ⟨#[]⟩, .bool false]) w (by kernel_rfl) ?_
  refine Great.wpList_runTo rfl (some 48) rfl (.agg #[.string ⟨#[112, 114, 111, 120, 121, 45, 97, 117, 116, 104, 101, 110, 116, 105, 99, 97, 116, 101]⟩, .string ⟨#[]⟩, .bool false]) w (by kernel_rfl) ?_
  refine Great.wpList_runTo rfl (some 49) rfl (.agg #[.string ⟨#[112, 114, 111, 120, 121, 45, 97, 117, 116, 104, 111, 114, 105, 122, 97, 116, 105, 111, 110]⟩, .string ⟨#[]⟩, .bool false]) w (by kernel_rfl) ?_
  refine Great.wpList_runTo rfl (some 50) rfl (.agg #[.string ⟨#[114, 97, 110, 103, 101]⟩, .string ⟨#[]⟩, .bool false]) w (by kernel_rfl) ?_
  refine Great.wpList_runTo rfl (some 51) rfl (.agg #[.string ⟨#[114, 101, 102, 101, 114, 101, 114]⟩, .string ⟨#[]⟩, .bool false]) w (by kernel_rfl) ?_
  refine Great.wpList_runTo rfl (some 52) rfl (.agg #[.string ⟨#[114, 101, 102, 114, 101, 115, 104]⟩, .string ⟨#[]⟩, .bool false]) w (by kernel_rfl) ?_
  refine Great.wpList_runTo rfl (some 53) rfl (.agg #[.string ⟨#[114, 101, 116, 114, 121, 45, 97, 102, 116, 101, 114]⟩, .string ⟨#[]⟩, .bool false]) w (by kernel_rfl) ?_
  refine Great.wpList_runTo rfl (some 54) rfl (.agg #[.string ⟨#[115, 101, 114, 118, 101, 114]⟩, .string ⟨#[]⟩, .bool false]) w (by kernel_rfl) ?_
  refine Great.wpList_runTo rfl (some 55) rfl (.agg #[.string ⟨#[115, 101, 116, 45, 99, 111, 111, 107, 105, 101]⟩, .string ⟨#[]⟩, .bool false]) w (by kernel_rfl) ?_
  refine Great.wpList_runTo rfl (some 56) rfl (.agg #[.string ⟨#[115, 116, 114, 105, 99, 116, 45, 116, 114, 97, 110, 115, 112, 111, 114, 116, 45, 115, 101, 99, 117, 114, 105, 116, 121]⟩, .string ⟨#[]⟩, .bool false]) w (by kernel_rfl) ?_
  refine Great.wpList_runTo rfl (some 57) rfl (.agg #[.string ⟨#[116, 114, 97, 110, 115, 102, 101, 114, 45, 101, 110, 99, 111, 100, 105, 110, 103]⟩, .string ⟨#[]⟩, .bool false]) w (by kernel_rfl) ?_
  refine Great.wpList_runTo rfl (some 58) rfl (.agg #[.string ⟨#[117, 115, 101, 114, 45, 97, 103, 101, 110, 116]⟩, .string ⟨#[]⟩, .bool false]) w (by kernel_rfl) ?_
  refine Great.wpList_runTo rfl (some 59) rfl (.agg #[.string ⟨#[118, 97, 114, 121]⟩, .string ⟨#[]⟩, .bool false]) w (by kernel_rfl) ?_
  refine Great.wpList_runTo rfl (some 60) rfl (.agg #[.string ⟨#[118, 105, 97]⟩, .string ⟨#[]⟩, .bool false]) w (by kernel_rfl) ?_
  refine Great.wpList_runTo rfl (some 61) rfl (.agg #[.string ⟨#[119, 119, 119, 45, 97, 117, 116, 104, 101, 110, 116, 105, 99, 97, 116, 101]⟩, .string ⟨#[]⟩, .bool false]) w (by kernel_rfl) ?_
  refine Great.wpList_runTo rfl (some 62) rfl (.slice (some ⟨w.heap.size, 0, none⟩) 61 61) (w.alloc (.cells fstatV.toArray 26)) (by kernel_rfl) ?_
  go_wp2
  go_ret
  exact ⟨rfl, rfl⟩
theorem cost_ref (r : Rw) (b : Bool) (w : World) (h1 : r.1.size ≤ 140737488355328) (h2 : r.2.size ≤ 140737488355328) :
    Calls Tryz.prog 52 #[.agg #[.string r.1, .string r.2, .bool b]] w fun e w' => e = .returned (.int .i64 (cost r : Nat)) ∧ w' = w.alloc (.cells #[.string r.1, .string r.2, .bool b] 26) := by
  go_enter Tryz.func52, Tryz.ntmps52
  go_wp2
  go_ret
  exact ⟨ret_v (by unfold cost; congr 1), rfl⟩
end Go.Proofs.YtpkmciohehaboaaGreatDoor

/- The document's table in memory; the walks of drawbridgeref04.Size, Resize. -/
namespace Go.Proofs.YtpkmciohehaboaaGreatDoor
open Go.RowKit

def rfoot (g : Nat) (A : Option Addr) (k : Nat) : Prop := k = g ∨ ∃ a, A = some a ∧ a.block = k
/-- The document's table: the rows (here the oldest first) lie the youngest first. -/
structure RT (w : World) (g : Nat) (A : Option Addr) (c : Nat) (most : Int) (rows : List Rw) : Prop where
  book : w.heap[g]? = some (.cells #[.int .i64 most, .slice A rows.length c] 111 (0, 0))
  row : Lies w 26 3 (.slice A rows.length c) rows.length (fcs rows.reverse)
  ne : ∀ a, A = some a → a.block ≠ g
def RIs (w : World) (g : Nat) (F : Nat → Prop) (most : Int) (rows : List Rw) : Prop := ∃ A c, F = rfoot g A ∧ RT w g A c most rows
section
variable {w w' : World} {g c : Nat} {A : Option Addr} {most : Int} {rows : List Rw} {F : Nat → Prop}
theorem RT.lt (h : RT w g A c most rows) : ∀ k, rfoot g A k → k < w.heap.size := by
  rintro k (rfl | ⟨a, ha, rfl⟩)
  · exact (Array.getElem?_eq_some_iff.1 h.book).1
  · obtain ⟨A', c', hv, _, _, hb⟩ := h.row.form
    injection hv with e1
    subst e1
    exact hb a ha
theorem RT.keep (h : RT w g A c most rows) (hk : ∀ k, rfoot g A k → w'.heap[k]? = w.heap[k]?) : RT w' g A c most rows := by
  refine ⟨(hk g (.inl rfl)).trans h.book, h.row.keep fun q hq => hk q ?_, h.ne⟩
  cases A with
  | none => cases hq
  | some a => exact .inr ⟨a, rfl, by simpa [Value.ownBlock] using hq⟩
theorem RT.cells (h : RT w g A c most rows) : w.cell? ⟨g, 0, none⟩ = some (.int .i64 most) ∧ w.cell? ⟨g, 1, none⟩ = some (.slice A rows.length c) := by
  refine ⟨?_, ?_⟩ <;> (unfold World.cell?; rw [h.book]; rfl)
theorem RT.free (h : RT w g A c most rows) (o : Nat) : w.frozen? ⟨g, o, none⟩ = false := by
  unfold World.frozen?; rw [h.book]; simp
theorem RIs.lt (h : RIs w g F most rows) : ∀ k, F k → k < w.heap.size := by
  obtain ⟨A, c, rfl, ht⟩ := h
  exact ht.lt
theorem RIs.keep (h : RIs w g F most rows) (hk : ∀ k, F k → w'.heap[k]? = w.heap[k]?) : RIs w' g F most rows := by
  obtain ⟨A, c, rfl, ht⟩ := h
  exact ⟨A, c, rfl, ht.keep hk⟩
theorem RIs.below (h : RIs w g F most rows) (hb : Below w.heap.size w w') : RIs w' g F most rows := h.keep fun k hk => hb.block k (h.lt k hk)
theorem RIs.kept {G : Nat → Prop} (h : RIs w g F most rows) (hk : Kept G w w') (hd : ∀ k, F k → ¬ G k) : RIs w' g F most rows := h.keep fun k hf => hk.block k (h.lt k hf) (hd k hf)
/-- A row's cells, by its place from the youngest. -/
theorem RT.at_ (h : RT w g A c most rows) {i : Nat} {r : Rw} (hi : rows.reverse[i]? = some r) : ∃ q o, A = some ⟨q, o, none⟩ ∧ q < w.heap.size ∧ w.cell? ⟨q, o + i * 3, none⟩ = some (.string r.1) ∧ w.cell? ⟨q, o + i * 3 + 1, none⟩ = some (.string r.2) ∧ w.cell? ⟨q, o + i * 3 + 2, none⟩ = some (.bool false) := by
  have hlt : i < rows.length := by have := (List.getElem?_eq_some_iff.1 hi).1; simpa using this
  obtain ⟨q, o, hA, hq, hc⟩ := (h.row.rd rfl).2 (by omega)
  have e := fcs_get hi
  exact ⟨q, o, hA, hq, (hc _ (by omega)).trans e.1, (hc (i * 3 + 1) (by omega)).trans e.2.1, (hc (i * 3 + 2) (by omega)).trans e.2.2⟩
end
/-- What the rows' bytes come to. -/
def Small (rows : List Rw) : Prop := sumc rows ≤ 1099511627776 ∧ ∀ r ∈ rows, okR r
theorem Small.len {rows : List Rw} (h : Small rows) : (rows.length : Int) * 32 ≤ 1099511627776 := by
  have h1 := h.1
  have : ∀ l : List Rw, (l.length : Int) * 32 ≤ sumc l := by
    intro l
    induction l with
    | nil => exact Int.le_refl _
    | cons r l ih => rw [sumc_cons]; simp only [List.length_cons]; unfold cost; omega
  have := this rows
  omega
theorem Small.mem {rows : List Rw} (h : Small rows) {r : Rw} (hr : r ∈ rows) : r.1.size ≤ 1099511627776 ∧ r.2.size ≤ 1099511627776 := by
  have : ∀ l : List Rw, r ∈ l → (cost r : Int) ≤ sumc l := by
    intro l
    induction l with
    | nil => intro h; cases h
    | cons a l ih =>
      intro hm
      rw [sumc_cons]
      have := sumc_nonneg l
      rcases List.mem_cons.1 hm with rfl | h
      · omega
      · have := ih h; omega
  have h1 := this rows hr
  have h2 := h.1
  have h3 : (cost r : Int) = r.1.size + r.2.size + 32 := by unfold cost; omega
  omega

theorem sumc_app (l k : List Rw) : sumc (l ++ k) = sumc l + sumc k := by unfold sumc; simp
end Go.Proofs.YtpkmciohehaboaaGreatDoor

/- What a decoder of header blocks reads, in plain Lean. No program in sight. -/
namespace Go.Proofs.YtpkmciohehaboaaGreatDoor
open Go.RowKit

/-- A field: its row; whether it never comes into a table. -/
abbrev Fd := Rw × Bool
/-- A decoder within a block. -/
structure HSt where
  T : Tb
  left : List UInt8
  fields : List Fd
  cost : Nat
  changes : Nat
def prefF (c : Nat) : Nat := if 128 ≤ c then 127 else if 64 ≤ c then 63 else if 32 ≤ c then 31 else 15
def takeS (l : List UInt8) : Except Nat (ByteArray × List UInt8) := if (takeT l).2.2 ≠ 0 then .error (takeT l).2.2 else .ok (⟨(takeT l).1.toArray⟩, l.drop (takeT l).2.1)
def takeN (T : Tb) (n : Nat) (l : List UInt8) : Except Nat (ByteArray × List UInt8) :=
  if 0 < n then (match atRows T.rows n with
    | none => .error 40
    | some r => .ok (r.1, l)) else takeS l
def litP (T : Tb) (n : Nat) (l : List UInt8) : Except Nat (Rw × List UInt8) := match takeN T n l with
  | .error e => .error e
  | .ok (nm, l1) => match takeS l1 with
    | .error e => .error e
    | .ok (v, l2) => .ok ((nm, v), l2)
def HSt.put (S : HSt) (l : List UInt8) (f : Fd) : HSt := { S with left := l, fields := S.fields ++ [f], cost := S.cost + Go.Proofs.YtpkmciohehaboaaGreatDoor.cost f.1 }
/-- Behind a part's number n. -/
def afterP (mo : Int) (c n : Nat) (l : List UInt8) (S : HSt) : Except Nat HSt :=
  if 128 ≤ c then (match atRows S.T.rows n with
    | none => .error 40
    | some r => .ok (S.put l (r, false)))
  else if 64 ≤ c then (match litP S.T n l with
    | .error e => .error e
    | .ok (f, l2) => .ok ({ S with T := S.T.add f }.put l2 (f, false)))
  else if 32 ≤ c then (if 0 < S.fields.length ∨ 2 < S.changes + 1 ∨ mo < n then .error 50 else .ok { S with T := S.T.resize n, left := l, changes := S.changes + 1 })
  else (match litP S.T n l with
    | .error e => .error e
    | .ok (f, l2) => .ok (S.put l2 (f, decide (16 ≤ c))))
def partP (mo : Int) (S : HSt) : Except Nat HSt :=
  if (takeI (prefF (ba S.left 0)) S.left).2.2 ≠ 0 then .error (takeI (prefF (ba S.left 0)) S.left).2.2
  else afterP mo (ba S.left 0) (takeI (prefF (ba S.left 0)) S.left).1 (S.left.drop (takeI (prefF (ba S.left 0)) S.left).2.1) S
def decP (mo : Int) : Nat → HSt → Except Nat HSt
  | 0, S => .ok S
  | k + 1, S => if S.left.length = 0 then .ok S else match partP mo S with
    | .error e => .error e
    | .ok S' => decP mo k S'
/-- A whole block: the fields, the error; the table behind it, if the decoder isn't broken. -/
def outD (mo li : Int) (T : Tb) (l : List UInt8) : List Fd × Nat × Option Tb := match decP mo l.length ⟨T, l, [], 0, 0⟩ with
  | .error e => ([], e, none)
  | .ok S => if li < (S.cost : Int) then ([], 51, some S.T) else (S.fields, 0, some S.T)

theorem prefF_bd (c : Nat) : prefF c ≤ 255 ∧ 1 ≤ prefF c := by unfold prefF; repeat' split
                                                               all_goals omega
theorem takeT_bd2 (l : List UInt8) : ((takeT l).2.2 = 0 → (takeT l).1.length ≤ 4096 ∧ 1 ≤ (takeT l).2.1 ∧ (takeT l).2.1 ≤ l.length) ∧ (takeT l).2.2 ≤ 12 := by
  have hb := takeI_bd (show 127 ≤ 255 by omega) l
  have he := takeI_err 127 l
  unfold takeT
  split
  · rename_i h
    exact ⟨fun h2 => absurd h2 h, he⟩
  · rename_i h0
    have h0 : (takeI 127 l).2.2 = 0 := by simpa using h0
    have hb := hb h0
    split
    · exact ⟨fun h => by simp at h, by simp⟩
    · rename_i h1
      split
      · exact ⟨fun h => by simp at h, by simp⟩
      · rename_i h2
        split
        · exact ⟨fun _ => ⟨by unfold pieceT; rw [List.length_take]; omega, by simp only; omega, by simp only; omega⟩, by simp⟩
        · split
          · exact ⟨fun h => by simp at h, by simp⟩
          · split
            · exact ⟨fun h => by simp at h, by simp⟩
            · exact ⟨fun _ => ⟨by simp only; omega, by simp only; omega, by simp only; omega⟩, by simp⟩
theorem takeS_ok {l l2 : List UInt8} {s : ByteArray} (h : takeS l = .ok (s, l2)) : s.size ≤ 4096 ∧ l2.length < l.length := by
  unfold takeS at h
  split at h
  · cases h
  · rename_i he
    injection h with h
    injection h with h1 h2
    have := (takeT_bd2 l).1 (by simpa using he)
    subst h1 h2
    refine ⟨?_, by rw [List.length_drop]; omega⟩
    show (takeT l).1.toArray.size ≤ 4096
    simpa using this.1
theorem shrunk_mem (m : Int) : ∀ (l : List Rw) (g : Int) {r : Rw}, r ∈ (shrunk m g l).2 → r ∈ l
  | [], g, r, h => by cases h
  | a :: l, g, r, h => by
    by_cases hc : m < ((((a :: l).map cost).sum : Nat) : Int)
    · rw [shrunk_go hc] at h
      exact List.mem_cons_of_mem _ (shrunk_mem m l (g + 1) h)
    · rw [shrunk_stop (by omega)] at h
      exact h
/-- A table that may be. -/
structure TOk (T : Tb) : Prop where
  most0 : 0 ≤ T.most
  most1 : T.most ≤ 65536
  fits : sumc T.rows ≤ T.most
  okr : ∀ r ∈ T.rows, okR r
theorem TOk.mem {T : Tb} (h : TOk T) {r : Rw} (hr : r ∈ T.rows) : r.1.size ≤ 65536 ∧ r.2.size ≤ 65536 := by
  have : ∀ l : List Rw, r ∈ l → (Go.Proofs.YtpkmciohehaboaaGreatDoor.cost r : Int) ≤ sumc l := by
    intro l
    induction l with
    | nil => intro h; cases h
    | cons a l ih =>
      intro hm
      rw [sumc_cons]
      have := sumc_nonneg l
      rcases List.mem_cons.1 hm with rfl | h
      · omega
      · have := ih h; omega
  have h1 := this T.rows hr
  have h2 := h.fits
  have h3 := h.most1
  have h4 : (cost r : Int) = r.1.size + r.2.size + 32 := by unfold cost; omega
  omega
theorem stat_sizes : ∀ r ∈ statF, r.1.size ≤ 100 ∧ r.2.size ≤ 100 := by decide +kernel
theorem atRows_mem {rows : List Rw} {n : Int} {r : Rw} (h : atRows rows n = some r) : r ∈ statF ∨ r ∈ rows := by
  unfold atRows at h
  split at h
  · exact .inl (List.mem_of_getElem? h)
  · split at h
    · exact .inr (List.mem_of_getElem? h)
    · cases h
theorem atRows_size {T : Tb} (hT : TOk T) {n : Int} {r : Rw} (h : atRows T.rows n = some r) : r.1.size ≤ 65536 ∧ r.2.size ≤ 65536 := by
  rcases atRows_mem h with h | h
  · have := stat_sizes r h; omega
  · exact hT.mem h
theorem takeN_ok {T : Tb} (hT : TOk T) {n : Nat} {l l2 : List UInt8} {s : ByteArray} (h : takeN T n l = .ok (s, l2)) : s.size ≤ 65536 ∧ l2.length ≤ l.length := by
  unfold takeN at h
  split at h
  · split at h
    · cases h
    · rename_i r hr
      injection h with h
      injection h with h1 h2
      subst h1 h2
      exact ⟨(atRows_size hT hr).1, Nat.le_refl _⟩
  · have := takeS_ok h; omega
theorem litP_ok {T : Tb} (hT : TOk T) {n : Nat} {l l2 : List UInt8} {f : Rw} (h : litP T n l = .ok (f, l2)) : f.1.size ≤ 65536 ∧ f.2.size ≤ 4096 ∧ l2.length ≤ l.length := by
  unfold litP at h
  split at h
  · cases h
  · rename_i nm l1 h1
    split at h
    · cases h
    · rename_i v l3 h2
      injection h with h
      injection h with e1 e2
      subst e1 e2
      have := takeN_ok hT h1
      have := takeS_ok h2
      simp only; omega
theorem TOk.resize {T : Tb} (h : TOk T) {n : Int} (h0 : 0 ≤ n) (h1 : n ≤ 65536) : TOk (T.resize n) := by
  refine ⟨h0, h1, ?_, fun r hr => h.okr r ?_⟩
  · exact shrunk_fits h0 _ _
  · exact shrunk_mem _ _ _ hr
theorem TOk.add {T : Tb} (h : TOk T) {r : Rw} (h1 : r.1.size ≤ 1099511627776) (h2 : r.2.size ≤ 1099511627776) : TOk (T.add r) := by
  have hok : okR r := by unfold okR okS; unfold maxLen; omega
  unfold Tb.add
  split
  · refine ⟨h.most0, h.most1, ?_, fun r' hr => h.okr r' (shrunk_mem _ _ _ hr)⟩
    have := shrunk_fits (Int.le_refl 0) T.rows T.gone
    have := h.most0
    show sumc (shrunk 0 T.gone T.rows).2 ≤ T.most
    omega
  · rename_i hc
    have hc0 : (0 : Int) ≤ T.most - cost r := by omega
    have hf := shrunk_fits hc0 T.rows T.gone
    refine ⟨h.most0, h.most1, ?_, fun r' hr => ?_⟩
    · show sumc ((shrunk (T.most - cost r) T.gone T.rows).2 ++ [r]) ≤ T.most
      rw [sumc_app]
      have : sumc [r] = cost r := by unfold sumc; simp
      omega
    · rcases List.mem_append.1 hr with h3 | h3
      · exact h.okr r' (shrunk_mem _ _ _ h3)
      · have : r' = r := by simpa using h3
        rw [this]; exact hok
/-- What holds of a decoder within a block of L bytes. -/
structure HOk (L : Nat) (S : HSt) : Prop where
  tok : TOk S.T
  sz : ∀ f ∈ S.fields, f.1.1.size ≤ 65536 ∧ f.1.2.size ≤ 65536
  cost : S.cost = (S.fields.map fun f => Go.Proofs.YtpkmciohehaboaaGreatDoor.cost f.1).sum
  len : S.fields.length + S.left.length ≤ L
  chg : S.changes ≤ 2
theorem HOk.costle {L : Nat} {S : HSt} (h : HOk L S) : S.cost ≤ 131104 * S.fields.length := by
  rw [h.cost]
  have : ∀ l : List Fd, (∀ f ∈ l, f.1.1.size ≤ 65536 ∧ f.1.2.size ≤ 65536) → (l.map fun f => Go.Proofs.YtpkmciohehaboaaGreatDoor.cost f.1).sum ≤ 131104 * l.length := by
    intro l
    induction l with
    | nil => intro _; simp
    | cons f l ih =>
      intro hf
      have h1 := hf f (by simp)
      have h2 := ih fun g hg => hf g (by simp [hg])
      simp only [List.map_cons, List.sum_cons, List.length_cons]
      have : Go.Proofs.YtpkmciohehaboaaGreatDoor.cost f.1 = f.1.1.size + f.1.2.size + 32 := rfl
      omega
  exact this _ h.sz
theorem HOk.put {L : Nat} {S : HSt} (h : HOk L S) {l : List UInt8} {f : Fd} (hl : l.length < S.left.length) (h1 : f.1.1.size ≤ 65536) (h2 : f.1.2.size ≤ 65536) : HOk L (S.put l f) :=
  ⟨h.tok, fun g hg => by
    rcases List.mem_append.1 hg with h3 | h3
    · exact h.sz g h3
    · have : g = f := by simpa using h3
      rw [this]; exact ⟨h1, h2⟩, by show S.cost + Go.Proofs.YtpkmciohehaboaaGreatDoor.cost f.1 = ((S.fields ++ [f]).map _).sum; rw [List.map_append, List.sum_append, ← h.cost]; simp, by have := h.len; show (S.fields ++ [f]).length + l.length ≤ L; rw [List.length_append]; simp only [List.length_cons, List.length_nil]; omega, h.chg⟩
theorem HOk.setT {L : Nat} {S : HSt} (h : HOk L S) {T : Tb} (hT : TOk T) : HOk L { S with T := T } := ⟨hT, h.sz, h.cost, h.len, h.chg⟩
theorem HOk.after {L : Nat} {mo : Int} {c n : Nat} {l : List UInt8} {S S' : HSt} (h : HOk L S) (hl : l.length < S.left.length) (hmo : mo ≤ 65536) (he : afterP mo c n l S = .ok S') : HOk L S' ∧ S'.left.length < S.left.length := by
  unfold afterP at he
  split at he
  · split at he
    · cases he
    · rename_i r hr
      injection he with he
      subst he
      have := atRows_size h.tok hr
      exact ⟨h.put hl this.1 this.2, hl⟩
  · split at he
    · split at he
      · cases he
      · rename_i f l2 hf
        injection he with he
        subst he
        obtain ⟨a, b, d⟩ := litP_ok h.tok hf
        exact ⟨(h.setT (h.tok.add (by omega) (by omega))).put (f := (f, false)) (by simp only; omega) (by simp only; omega) (by simp only; omega), by show l2.length < _; omega⟩
    · split at he
      · split at he
        · cases he
        · rename_i hn
          injection he with he
          subst he
          have hc := h.chg
          exact ⟨⟨h.tok.resize (by omega) (by omega), h.sz, h.cost, by have := h.len; simp only; omega, by simp only; omega⟩, hl⟩
      · split at he
        · cases he
        · rename_i f l2 hf
          injection he with he
          subst he
          obtain ⟨a, b, d⟩ := litP_ok h.tok hf
          exact ⟨h.put (f := (f, _)) (by omega) (by simp only; omega) (by simp only; omega), by show l2.length < _; omega⟩
theorem HOk.part {L : Nat} {mo : Int} {S S' : HSt} (h : HOk L S) (hmo : mo ≤ 65536) (he : partP mo S = .ok S') : HOk L S' ∧ S'.left.length < S.left.length := by
  unfold partP at he
  split at he
  · cases he
  · rename_i h0
    have h0 : (takeI (prefF (ba S.left 0)) S.left).2.2 = 0 := by simpa using h0
    have := takeI_bd (prefF_bd _).1 S.left h0
    exact h.after (by rw [List.length_drop]; omega) hmo he
theorem decP_more {mo : Int} {L : Nat} (hmo : mo ≤ 65536) : ∀ (j k : Nat) (S : HSt), HOk L S → S.left.length ≤ j → j ≤ k → decP mo k S = decP mo j S
  | 0, 0, S, _, _, _ => rfl
  | 0, k + 1, S, _, hj, _ => by show decP mo (k + 1) S = .ok S; unfold decP; rw [if_pos (by omega)]
  | j + 1, 0, S, _, _, h => by omega
  | j + 1, k + 1, S, hok, hj, hk => by
    show (if S.left.length = 0 then Except.ok S else match partP mo S with | .error e => .error e | .ok S' => decP mo k S') = (if S.left.length = 0 then Except.ok S else match partP mo S with | .error e => .error e | .ok S' => decP mo j S')
    split
    · rfl
    · split
      · rfl
      · rename_i S' hS
        obtain ⟨a, b⟩ := hok.part hmo hS
        exact decP_more hmo j k S' a (by omega) (by omega)
theorem decP_step {mo : Int} {L : Nat} (hmo : mo ≤ 65536) {S S' : HSt} (hok : HOk L S) (h0 : 0 < S.left.length) (h : partP mo S = .ok S') : decP mo S.left.length S = decP mo S'.left.length S' := by
  obtain ⟨a, b⟩ := hok.part hmo h
  obtain ⟨k, hk⟩ : ∃ k, S.left.length = k + 1 := ⟨S.left.length - 1, by omega⟩
  rw [hk, decP, if_neg (by omega), h]
  exact decP_more hmo _ _ _ a (Nat.le_refl _) (by omega)
theorem decP_fail {mo : Int} {S : HSt} {e : Nat} (h0 : 0 < S.left.length) (h : partP mo S = .error e) : decP mo S.left.length S = .error e := by
  obtain ⟨k, hk⟩ : ∃ k, S.left.length = k + 1 := ⟨S.left.length - 1, by omega⟩
  rw [hk, decP, if_neg (by omega), h]
theorem decP_done {mo : Int} {S : HSt} (h0 : S.left.length = 0) : decP mo S.left.length S = .ok S := by rw [h0]; rfl
theorem HOk.start {T : Tb} (hT : TOk T) (l : List UInt8) : HOk l.length ⟨T, l, [], 0, 0⟩ :=
  { tok := hT, sz := (fun f hf => by cases hf), cost := rfl, len := by simp, chg := by simp }
end Go.Proofs.YtpkmciohehaboaaGreatDoor
