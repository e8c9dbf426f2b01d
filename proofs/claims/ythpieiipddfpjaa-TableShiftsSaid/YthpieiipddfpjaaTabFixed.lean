/- The walk of table.fixed. Printed by wip/gen_fixed.py. -/
import Derived.Test.YthpieiipddfpjaaTab
import Derived.Test.YthpieiipddfpjaaTabRows
import Derived.Great.BuildSlice
import Derived.Great.Walk
import Derived.Great.Ranges
namespace Go.Proofs.Ythpieiipddfpjaa
open Go.RowKit

def statV : List Value := rcs statF
set_option maxRecDepth 100000 in
set_option maxHeartbeats 2000000 in
theorem fixed_any (w : World) : Calls Try.prog 45 #[] w fun e w' => e = .returned (.agg statV.toArray) ∧ Below w.heap.size w w' := by
  go_enter Try.func45, Try.ntmps45
  go_step; go_step; go_step
  refine Great.wpList_runTo rfl (some 0) rfl (.pointer (some ⟨w.heap.size, 0, none⟩)) (w.alloc (.cells (Array.replicate 122 (.string ByteArray.empty)) 86)) (by kernel_rfl) ?_
  go_step; go_step; go_step; go_step; go_step
  refine Great.wpList_runTo rfl (some 1) rfl (.agg #[.string ⟨#[58, 97, 117, 116, 104, 111, 114, 105, 116, 121]⟩, .string ⟨#[]⟩]) (w.alloc (.cells (Array.replicate 122 (.string ByteArray.empty)) 86)) (by kernel_rfl) ?_
  refine Great.wpList_runTo rfl (some 2) rfl (.agg #[.string ⟨#[58, 109, 101, 116, 104, 111, 100]⟩, .string ⟨#[71, 69, 84]⟩]) (w.alloc (.cells (Array.replicate 122 (.string ByteArray.empty)) 86)) (by kernel_rfl) ?_
  refine Great.wpList_runTo rfl (some 3) rfl (.agg #[.string ⟨#[58, 109, 101, 116, 104, 111, 100]⟩, .string ⟨#[80, 79, 83, 84]⟩]) (w.alloc (.cells (Array.replicate 122 (.string ByteArray.empty)) 86)) (by kernel_rfl) ?_
  refine Great.wpList_runTo rfl (some 4) rfl (.agg #[.string ⟨#[58, 112, 97, 116, 104]⟩, .string ⟨#[47]⟩]) (w.alloc (.cells (Array.replicate 122 (.string ByteArray.empty)) 86)) (by kernel_rfl) ?_
  refine Great.wpList_runTo rfl (some 5) rfl (.agg #[.string ⟨#[58, 112, 97, 116, 104]⟩, .string ⟨#[47, 105, 110, 100, 101, 120, 46, 104, 116, 109, 108]⟩]) (w.alloc (.cells (Array.replicate 122 (.string ByteArray.empty)) 86)) (by kernel_rfl) ?_
  refine Great.wpList_runTo rfl (some 6) rfl (.agg #[.string ⟨#[58, 115, 99, 104, 101, 109, 101]⟩, .string ⟨#[104, 116, 116, 112]⟩]) (w.alloc (.cells (Array.replicate 122 (.string ByteArray.empty)) 86)) (by kernel_rfl) ?_
  refine Great.wpList_runTo rfl (some 7) rfl (.agg #[.string ⟨#[58, 115, 99, 104, 101, 109, 101]⟩, .string ⟨#[104, 116, 116, 112, 115]⟩]) (w.alloc (.cells (Array.replicate 122 (.string ByteArray.empty)) 86)) (by kernel_rfl) ?_
  refine Great.wpList_runTo rfl (some 8) rfl (.agg #[.string ⟨#[58, 115, 116, 97, 116, 117, 115]⟩, .string ⟨#[50, 48, 48]⟩]) (w.alloc (.cells (Array.replicate 122 (.string ByteArray.empty)) 86)) (by kernel_rfl) ?_
  refine Great.wpList_runTo rfl (some 9) rfl (.agg #[.string ⟨#[58, 115, 116, 97, 116, 117, 115]⟩, .string ⟨#[50, 48, 52]⟩]) (w.alloc (.cells (Array.replicate 122 (.string ByteArray.empty)) 86)) (by kernel_rfl) ?_
  refine Great.wpList_runTo rfl (some 10) rfl (.agg #[.string ⟨#[58, 115, 116, 97, 116, 117, 115]⟩, .string ⟨#[50, 48, 54]⟩]) (w.alloc (.cells (Array.replicate 122 (.string ByteArray.empty)) 86)) (by kernel_rfl) ?_
  refine Great.wpList_runTo rfl (some 11) rfl (.agg #[.string ⟨#[58, 115, 116, 97, 116, 117, 115]⟩, .string ⟨#[51, 48, 52]⟩]) (w.alloc (.cells (Array.replicate 122 (.string ByteArray.empty)) 86)) (by kernel_rfl) ?_
  refine Great.wpList_runTo rfl (some 12) rfl (.agg #[.string ⟨#[58, 115, 116, 97, 116, 117, 115]⟩, .string ⟨#[52, 48, 48]⟩]) (w.alloc (.cells (Array.replicate 122 (.string ByteArray.empty)) 86)) (by kernel_rfl) ?_
  refine Great.wpList_runTo rfl (some 13) rfl (.agg #[.string ⟨#[58, 115, 116, 97, 116, 117, 115]⟩, .string ⟨#[52, 48, 52]⟩]) (w.alloc (.cells (Array.replicate 122 (.string ByteArray.empty)) 86)) (by kernel_rfl) ?_
  refine Great.wpList_runTo rfl (some 14) rfl (.agg #[.string ⟨#[58, 115, 116, 97, 116, 117, 115]⟩, .string ⟨#[53, 48, 48]⟩]) (w.alloc (.cells (Array.replicate 122 (.string ByteArray.empty)) 86)) (by kernel_rfl) ?_
  refine Great.wpList_runTo rfl (some 15) rfl (.agg #[.string ⟨#[97, 99, 99, 101, 112, 116, 45, 99, 104, 97, 114, 115, 101, 116]⟩, .string ⟨#[]⟩]) (w.alloc (.cells (Array.replicate 122 (.string ByteArray.empty)) 86)) (by kernel_rfl) ?_
  refine Great.wpList_runTo rfl (some 16) rfl (.agg #[.string ⟨#[97, 99, 99, 101, 112, 116, 45, 101, 110, 99, 111, 100, 105, 110, 103]⟩, .string ⟨#[103, 122, 105, 112, 44, 32, 100, 101, 102, 108, 97, 116, 101]⟩]) (w.alloc (.cells (Array.replicate 122 (.string ByteArray.empty)) 86)) (by kernel_rfl) ?_
  refine Great.wpList_runTo rfl (some 17) rfl (.agg #[.string ⟨#[97, 99, 99, 101, 112, 116, 45, 108, 97, 110, 103, 117, 97, 103, 101]⟩, .string ⟨#[]⟩]) (w.alloc (.cells (Array.replicate 122 (.string ByteArray.empty)) 86)) (by kernel_rfl) ?_
  refine Great.wpList_runTo rfl (some 18) rfl (.agg #[.string ⟨#[97, 99, 99, 101, 112, 116, 45, 114, 97, 110, 103, 101, 115]⟩, .string ⟨#[]⟩]) (w.alloc (.cells (Array.replicate 122 (.string ByteArray.empty)) 86)) (by kernel_rfl) ?_
  refine Great.wpList_runTo rfl (some 19) rfl (.agg #[.string ⟨#[97, 99, 99, 101, 112, 116]⟩, .string ⟨#[]⟩]) (w.alloc (.cells (Array.replicate 122 (.string ByteArray.empty)) 86)) (by kernel_rfl) ?_
  refine Great.wpList_runTo rfl (some 20) rfl (.agg #[.string ⟨#[97, 99, 99, 101, 115, 115, 45, 99, 111, 110, 116, 114, 111, 108, 45, 97, 108, 108, 111, 119, 45, 111, 114, 105, 103, 105, 110]⟩, .string ⟨#[]⟩]) (w.alloc (.cells (Array.replicate 122 (.string ByteArray.empty)) 86)) (by kernel_rfl) ?_
  refine Great.wpList_runTo rfl (some 21) rfl (.agg #[.string ⟨#[97, 103, 101]⟩, .string ⟨#[]⟩]) (w.alloc (.cells (Array.replicate 122 (.string ByteArray.empty)) 86)) (by kernel_rfl) ?_
  refine Great.wpList_runTo rfl (some 22) rfl (.agg #[.string ⟨#[97, 108, 108, 111, 119]⟩, .string ⟨#[]⟩]) (w.alloc (.cells (Array.replicate 122 (.string ByteArray.empty)) 86)) (by kernel_rfl) ?_
  refine Great.wpList_runTo rfl (some 23) rfl (.agg #[.string ⟨#[97, 117, 116, 104, 111, 114, 105, 122, 97, 116, 105, 111, 110]⟩, .string ⟨#[]⟩]) (w.alloc (.cells (Array.replicate 122 (.string ByteArray.empty)) 86)) (by kernel_rfl) ?_
  refine Great.wpList_runTo rfl (some 24) rfl (.agg #[.string ⟨#[99, 97, 99, 104, 101, 45, 99, 111, 110, 116, 114, 111, 108]⟩, .string ⟨#[]⟩]) (w.alloc (.cells (Array.replicate 122 (.string ByteArray.empty)) 86)) (by kernel_rfl) ?_
  refine Great.wpList_runTo rfl (some 25) rfl (.agg #[.string ⟨#[99, 111, 110, 116, 101, 110, 116, 45, 100, 105, 115, 112, 111, 115, 105, 116, 105, 111, 110]⟩, .string ⟨#[]⟩]) (w.alloc (.cells (Array.replicate 122 (.string ByteArray.empty)) 86)) (by kernel_rfl) ?_
  refine Great.wpList_runTo rfl (some 26) rfl (.agg #[.string ⟨#[99, 111, 110, 116, 101, 110, 116, 45, 101, 110, 99, 111, 100, 105, 110, 103]⟩, .string ⟨#[]⟩]) (w.alloc (.cells (Array.replicate 122 (.string ByteArray.empty)) 86)) (by kernel_rfl) ?_
  refine Great.wpList_runTo rfl (some 27) rfl (.agg #[.string ⟨#[99, 111, 110, 116, 101, 110, 116, 45, 108, 97, 110, 103, 117, 97, 103, 101]⟩, .string ⟨#[]⟩]) (w.alloc (.cells (Array.replicate 122 (.string ByteArray.empty)) 86)) (by kernel_rfl) ?_
  refine Great.wpList_runTo rfl (some 28) rfl (.agg #[.string ⟨#[99, 111, 110, 116, 101, 110, 116, 45, 108, 101, 110, 103, 116, 104]⟩, .string ⟨#[]⟩]) (w.alloc (.cells (Array.replicate 122 (.string ByteArray.empty)) 86)) (by kernel_rfl) ?_
  refine Great.wpList_runTo rfl (some 29) rfl (.agg #[.string ⟨#[99, 111, 110, 116, 101, 110, 116, 45, 108, 111, 99, 97, 116, 105, 111, 110]⟩, .string ⟨#[]⟩]) (w.alloc (.cells (Array.replicate 122 (.string ByteArray.empty)) 86)) (by kernel_rfl) ?_
  refine Great.wpList_runTo rfl (some 30) rfl (.agg #[.string ⟨#[99, 111, 110, 116, 101, 110, 116, 45, 114, 97, 110, 103, 101]⟩, .string ⟨#[]⟩]) (w.alloc (.cells (Array.replicate 122 (.string ByteArray.empty)) 86)) (by kernel_rfl) ?_
  refine Great.wpList_runTo rfl (some 31) rfl (.agg #[.string ⟨#[99, 111, 110, 116, 101, 110, 116, 45, 116, 121, 112, 101]⟩, .string ⟨#[]⟩]) (w.alloc (.cells (Array.replicate 122 (.string ByteArray.empty)) 86)) (by kernel_rfl) ?_
  refine Great.wpList_runTo rfl (some 32) rfl (.agg #[.string ⟨#[99, 111, 111, 107, 105, 101]⟩, .string ⟨#[]⟩]) (w.alloc (.cells (Array.replicate 122 (.string ByteArray.empty)) 86)) (by kernel_rfl) ?_
  refine Great.wpList_runTo rfl (some 33) rfl (.agg #[.string ⟨#[100, 97, 116, 101]⟩, .string ⟨#[]⟩]) (w.alloc (.cells (Array.replicate 122 (.string ByteArray.empty)) 86)) (by kernel_rfl) ?_
  refine Great.wpList_runTo rfl (some 34) rfl (.agg #[.string ⟨#[101, 116, 97, 103]⟩, .string ⟨#[]⟩]) (w.alloc (.cells (Array.replicate 122 (.string ByteArray.empty)) 86)) (by kernel_rfl) ?_
  refine Great.wpList_runTo rfl (some 35) rfl (.agg #[.string ⟨#[101, 120, 112, 101, 99, 116]⟩, .string ⟨#[]⟩]) (w.alloc (.cells (Array.replicate 122 (.string ByteArray.empty)) 86)) (by kernel_rfl) ?_
  refine Great.wpList_runTo rfl (some 36) rfl (.agg #[.string ⟨#[101, 120, 112, 105, 114, 101, 115]⟩, .string ⟨#[]⟩]) (w.alloc (.cells (Array.replicate 122 (.string ByteArray.empty)) 86)) (by kernel_rfl) ?_
  refine Great.wpList_runTo rfl (some 37) rfl (.agg #[.string ⟨#[102, 114, 111, 109]⟩, .string ⟨#[]⟩]) (w.alloc (.cells (Array.replicate 122 (.string ByteArray.empty)) 86)) (by kernel_rfl) ?_
  refine Great.wpList_runTo rfl (some 38) rfl (.agg #[.string ⟨#[104, 111, 115, 116]⟩, .string ⟨#[]⟩]) (w.alloc (.cells (Array.replicate 122 (.string ByteArray.empty)) 86)) (by kernel_rfl) ?_
  refine Great.wpList_runTo rfl (some 39) rfl (.agg #[.string ⟨#[105, 102, 45, 109, 97, 116, 99, 104]⟩, .string ⟨#[]⟩]) (w.alloc (.cells (Array.replicate 122 (.string ByteArray.empty)) 86)) (by kernel_rfl) ?_
  refine Great.wpList_runTo rfl (some 40) rfl (.agg #[.string ⟨#[105, 102, 45, 109, 111, 100, 105, 102, 105, 101, 100, 45, 115, 105, 110, 99, 101]⟩, .string ⟨#[]⟩]) (w.alloc (.cells (Array.replicate 122 (.string ByteArray.empty)) 86)) (by kernel_rfl) ?_
  refine Great.wpList_runTo rfl (some 41) rfl (.agg #[.string ⟨#[105, 102, 45, 110, 111, 110, 101, 45, 109, 97, 116, 99, 104]⟩, .string ⟨#[]⟩]) (w.alloc (.cells (Array.replicate 122 (.string ByteArray.empty)) 86)) (by kernel_rfl) ?_
  refine Great.wpList_runTo rfl (some 42) rfl (.agg #[.string ⟨#[105, 102, 45, 114, 97, 110, 103, 101]⟩, .string ⟨#[]⟩]) (w.alloc (.cells (Array.replicate 122 (.string ByteArray.empty)) 86)) (by kernel_rfl) ?_
  refine Great.wpList_runTo rfl (some 43) rfl (.agg #[.string ⟨#[105, 102, 45, 117, 110, 109, 111, 100, 105, 102, 105, 101, 100, 45, 115, 105, 110, 99, 101]⟩, .string ⟨#[]⟩]) (w.alloc (.cells (Array.replicate 122 (.string ByteArray.empty)) 86)) (by kernel_rfl) ?_
  refine Great.wpList_runTo rfl (some 44) rfl (.agg #[.string ⟨#[108, 97, 115, 116, 45, 109, 111, 100, 105, 102, 105, 101, 100]⟩, .string ⟨#[]⟩]) (w.alloc (.cells (Array.replicate 122 (.string ByteArray.empty)) 86)) (by kernel_rfl) ?_
  refine Great.wpList_runTo rfl (some 45) rfl (.agg #[.string ⟨#[108, 105, 110, 107]⟩, .string ⟨#[]⟩]) (w.alloc (.cells (Array.replicate 122 (.string ByteArray.empty)) 86)) (by kernel_rfl) ?_
  refine Great.wpList_runTo rfl (some 46) rfl (.agg #[.string ⟨#[108, 111, 99, 97, 116, 105, 111, 110]⟩, .string ⟨#[]⟩]) (w.alloc (.cells (Array.replicate 122 (.string ByteArray.empty)) 86)) (by kernel_rfl) ?_
  refine Great.wpList_runTo rfl (some 47) rfl (.agg #[.string ⟨#[109, 97, 120, 45, 102, 111, 114, 119, 97, 114, 100, 115]⟩, .string ⟨#[]⟩]) (w.alloc (.cells (Array.replicate 122 (.string ByteArray.empty)) 86)) (by kernel_rfl) ?_
  refine Great.wpList_runTo rfl (some 48) rfl (.agg #[.string ⟨#[112, 114, 111, 120, 121, 45, 97, 117, 116, 104, 101, 110, 116, 105, 99, 97, 116, 101]⟩, .string ⟨#[]⟩]) (w.alloc (.cells (Array.replicate 122 (.string ByteArray.empty)) 86)) (by kernel_rfl) ?_
  refine Great.wpList_runTo rfl (some 49) rfl (.agg #[.string ⟨#[112, 114, 111, 120, 121, 45, 97, 117, 116, 104, 111, 114, 105, 122, 97, 116, 105, 111, 110]⟩, .string ⟨#[]⟩]) (w.alloc (.cells (Array.replicate 122 (.string ByteArray.empty)) 86)) (by kernel_rfl) ?_
  refine Great.wpList_runTo rfl (some 50) rfl (.agg #[.string ⟨#[114, 97, 110, 103, 101]⟩, .string ⟨#[]⟩]) (w.alloc (.cells (Array.replicate 122 (.string ByteArray.empty)) 86)) (by kernel_rfl) ?_
  refine Great.wpList_runTo rfl (some 51) rfl (.agg #[.string ⟨#[114, 101, 102, 101, 114, 101, 114]⟩, .string ⟨#[]⟩]) (w.alloc (.cells (Array.replicate 122 (.string ByteArray.empty)) 86)) (by kernel_rfl) ?_
  refine Great.wpList_runTo rfl (some 52) rfl (.agg #[.string ⟨#[114, 101, 102, 114, 101, 115, 104]⟩, .string ⟨#[]⟩]) (w.alloc (.cells (Array.replicate 122 (.string ByteArray.empty)) 86)) (by kernel_rfl) ?_
  refine Great.wpList_runTo rfl (some 53) rfl (.agg #[.string ⟨#[114, 101, 116, 114, 121, 45, 97, 102, 116, 101, 114]⟩, .string ⟨#[]⟩]) (w.alloc (.cells (Array.replicate 122 (.string ByteArray.empty)) 86)) (by kernel_rfl) ?_
  refine Great.wpList_runTo rfl (some 54) rfl (.agg #[.string ⟨#[115, 101, 114, 118, 101, 114]⟩, .string ⟨#[]⟩]) (w.alloc (.cells (Array.replicate 122 (.string ByteArray.empty)) 86)) (by kernel_rfl) ?_
  refine Great.wpList_runTo rfl (some 55) rfl (.agg #[.string ⟨#[115, 101, 116, 45, 99, 111, 111, 107, 105, 101]⟩, .string ⟨#[]⟩]) (w.alloc (.cells (Array.replicate 122 (.string ByteArray.empty)) 86)) (by kernel_rfl) ?_
  refine Great.wpList_runTo rfl (some 56) rfl (.agg #[.string ⟨#[115, 116, 114, 105, 99, 116, 45, 116, 114, 97, 110, 115, 112, 111, 114, 116, 45, 115, 101, 99, 117, 114, 105, 116, 121]⟩, .string ⟨#[]⟩]) (w.alloc (.cells (Array.replicate 122 (.string ByteArray.empty)) 86)) (by kernel_rfl) ?_
  refine Great.wpList_runTo rfl (some 57) rfl (.agg #[.string ⟨#[116, 114, 97, 110, 115, 102, 101, 114, 45, 101, 110, 99, 111, 100, 105, 110, 103]⟩, .string ⟨#[]⟩]) (w.alloc (.cells (Array.replicate 122 (.string ByteArray.empty)) 86)) (by kernel_rfl) ?_
  refine Great.wpList_runTo rfl (some 58) rfl (.agg #[.string ⟨#[117, 115, 101, 114, 45, 97, 103, 101, 110, 116]⟩, .string ⟨#[]⟩]) (w.alloc (.cells (Array.replicate 122 (.string ByteArray.empty)) 86)) (by kernel_rfl) ?_
  refine Great.wpList_runTo rfl (some 59) rfl (.agg #[.string ⟨#[118, 97, 114, 121]⟩, .string ⟨#[]⟩]) (w.alloc (.cells (Array.replicate 122 (.string ByteArray.empty)) 86)) (by kernel_rfl) ?_
  refine Great.wpList_runTo rfl (some 60) rfl (.agg #[.string ⟨#[118, 105, 97]⟩, .string ⟨#[]⟩]) (w.alloc (.cells (Array.replicate 122 (.string ByteArray.empty)) 86)) (by kernel_rfl) ?_
  refine Great.wpList_runTo rfl (some 61) rfl (.agg #[.string ⟨#[119, 119, 119, 45, 97, 117, 116, 104, 101, 110, 116, 105, 99, 97, 116, 101]⟩, .string ⟨#[]⟩]) (w.alloc (.cells (Array.replicate 122 (.string ByteArray.empty)) 86)) (by kernel_rfl) ?_
  refine Great.wpList_runTo rfl (some 62) rfl (.agg statV.toArray) (w.alloc (.cells (Array.replicate 122 (.string ByteArray.empty)) 86)) (by kernel_rfl) ?_
  refine wpList_store_rowTo rfl 86 (.tmp 0) (.tmp 62) rfl rfl w.heap.size statV.toArray (by kernel_rfl) (by kernel_rfl) 86 (Array.replicate 122 (.string ByteArray.empty)) (heapNew w _) (by kernel_rfl) (by kernel_rfl) (by kernel_rfl) ?_
  go_wp2_with fail
  refine bodyPost_ret (v := .agg statV.toArray) (results_cell_row rfl _ _ w.heap.size 86 statV.toArray (0, 0) _ (by kernel_rfl) (setRow_heap _ _ _ _ _ _ (heapNew w _)) Try.underlying86 rfl (by kernel_rfl)) rfl ?_
  exact ⟨rfl, ((Below.refl _ _).alloc (Nat.le_refl _) _).trans ⟨rfl, rfl, rfl, by simp, fun k hk => setRow_other _ _ _ _ (by omega)⟩⟩
end Go.Proofs.Ythpieiipddfpjaa
