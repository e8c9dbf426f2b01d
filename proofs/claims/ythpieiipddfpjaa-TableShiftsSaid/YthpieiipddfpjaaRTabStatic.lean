/- Fields in memory; the walk of drawbridgeref04.Static. Printed by wip/gen_static.py. -/
import Derived.Test.YthpieiipddfpjaaTab
import Derived.Test.YthpieiipddfpjaaTabRows
import Derived.Great.BuildSlice
import Derived.Great.Walk
import Derived.Great.Ranges
namespace Go.Proofs.Ythpieiipddfpjaa
open Go.RowKit

/-- Fields, as cells; none of them never to be kept. -/
def fcs (l : List Rw) : List Value := l.flatMap fun r => [.string r.1, .string r.2, .bool false]
theorem fcs_cons (r : Rw) (l : List Rw) : fcs (r :: l) = .string r.1 :: .string r.2 :: .bool false :: fcs l := rfl
theorem fcs_length (l : List Rw) : (fcs l).length = l.length * 3 := by
  induction l with
  | nil => rfl
  | cons p l ih => rw [fcs_cons]; simp only [List.length_cons, ih]; omega
theorem fcs_get {l : List Rw} : ∀ {i : Nat} {r : Rw}, l[i]? = some r → (fcs l)[i * 3]? = some (.string r.1) ∧ (fcs l)[i * 3 + 1]? = some (.string r.2) ∧ (fcs l)[i * 3 + 2]? = some (.bool false) := by
  induction l with
  | nil => intro i p h; simp at h
  | cons q L ih =>
    intro i p h
    rw [fcs_cons]
    cases i with
    | zero => simp at h; subst h; exact ⟨rfl, rfl, rfl⟩
    | succ i =>
      have := ih (i := i) (r := p) (by simpa using h)
      rw [show (i + 1) * 3 = i * 3 + 1 + 1 + 1 by omega]
      simpa using this
theorem fcs_app (l k : List Rw) : fcs (l ++ k) = fcs l ++ fcs k := by simp [fcs, List.flatMap_append]
theorem fcs_one (l : List Rw) : ∀ u ∈ fcs l, u.oneCell' = true := by
  induction l with
  | nil => intro u h; cases h
  | cons p L ih =>
    intro u h
    rw [fcs_cons] at h
    simp only [List.mem_cons] at h
    rcases h with rfl | rfl | rfl | h
    · rfl
    · rfl
    · rfl
    · exact ih u h
theorem tFields : SlT Try.prog 32 24 (.agg #[.string ByteArray.empty, .string ByteArray.empty, .bool false]) 3 40 :=
  ⟨Try.underlying32, by kernel_rfl, rfl, by decide⟩
def fstatV : List Value := fcs statF
set_option maxRecDepth 100000 in
set_option maxHeartbeats 2000000 in
theorem static_any (w : World) : Calls Try.prog 47 #[] w fun e w' => e = .returned (.slice (some ⟨w.heap.size, 0, none⟩) 61 61) ∧ w' = w.alloc (.cells fstatV.toArray 24) := by
  go_enter Try.func47, Try.ntmps47
  go_step; go_step; go_step
  refine Great.wpList_runTo rfl (some 0) rfl (.slice none 0 0) w (by kernel_rfl) ?_
  go_step; go_step; go_step; go_step; go_step
  refine Great.wpList_runTo rfl (some 1) rfl (.agg #[.string ⟨#[58, 97, 117, 116, 104, 111, 114, 105, 116, 121]⟩, .string ⟨#[]⟩, .bool false]) w (by kernel_rfl) ?_
  refine Great.wpList_runTo rfl (some 2) rfl (.agg #[.string ⟨#[58, 109, 101, 116, 104, 111, 100]⟩, .string ⟨#[71, 69, 84]⟩, .bool false]) w (by kernel_rfl) ?_
  refine Great.wpList_runTo rfl (some 3) rfl (.agg #[.string ⟨#[58, 109, 101, 116, 104, 111, 100]⟩, .string ⟨#[80, 79, 83, 84]⟩, .bool false]) w (by kernel_rfl) ?_
  refine Great.wpList_runTo rfl (some 4) rfl (.agg #[.string ⟨#[58, 112, 97, 116, 104]⟩, .string ⟨#[47]⟩, .bool false]) w (by kernel_rfl) ?_
  refine Great.wpList_runTo rfl (some 5) rfl (.agg #[.string ⟨#[58, 112, 97, 116, 104]⟩, .string ⟨#[47, 105, 110, 100, 101, 120, 46, 104, 116, 109, 108]⟩, .bool false]) w (by kernel_rfl) ?_
  refine Great.wpList_runTo rfl (some 6) rfl (.agg #[.string ⟨#[58, 115, 99, 104, 101, 109, 101]⟩, .string ⟨#[104, 116, 116, 112]⟩, .bool false]) w (by kernel_rfl) ?_
  refine Great.wpList_runTo rfl (some 7) rfl (.agg #[.string ⟨#[58, 115, 99, 104, 101, 109, 101]⟩, .string ⟨#[104, 116, 116, 112, 115]⟩, .bool false]) w (by kernel_rfl) ?_
  refine Great.wpList_runTo rfl (some 8) rfl (.agg #[.string ⟨#[58, 115, 116, 97, 116, 117, 115]⟩, .string ⟨#[50, 48, 48]⟩, .bool false]) w (by kernel_rfl) ?_
  refine Great.wpList_runTo rfl (some 9) rfl (.agg #[.string ⟨#[58, 115, 116, 97, 116, 117, 115]⟩, .string ⟨#[50, 48, 52]⟩, .bool false]) w (by kernel_rfl) ?_
  refine Great.wpList_runTo rfl (some 10) rfl (.agg #[.string ⟨#[58, 115, 116, 97, 116, 117, 115]⟩, .string ⟨#[50, 48, 54]⟩, .bool false]) w (by kernel_rfl) ?_
  refine Great.wpList_runTo rfl (some 11) rfl (.agg #[.string ⟨#[58, 115, 116, 97, 116, 117, 115]⟩, .string ⟨#[51, 48, 52]⟩, .bool false]) w (by kernel_rfl) ?_
  refine Great.wpList_runTo rfl (some 12) rfl (.agg #[.string ⟨#[58, 115, 116, 97, 116, 117, 115]⟩, .string ⟨#[52, 48, 48]⟩, .bool false]) w (by kernel_rfl) ?_
  refine Great.wpList_runTo rfl (some 13) rfl (.agg #[.string ⟨#[58, 115, 116, 97, 116, 117, 115]⟩, .string ⟨#[52, 48, 52]⟩, .bool false]) w (by kernel_rfl) ?_
  refine Great.wpList_runTo rfl (some 14) rfl (.agg #[.string ⟨#[58, 115, 116, 97, 116, 117, 115]⟩, .string ⟨#[53, 48, 48]⟩, .bool false]) w (by kernel_rfl) ?_
  refine Great.wpList_runTo rfl (some 15) rfl (.agg #[.string ⟨#[97, 99, 99, 101, 112, 116, 45, 99, 104, 97, 114, 115, 101, 116]⟩, .string ⟨#[]⟩, .bool false]) w (by kernel_rfl) ?_
  refine Great.wpList_runTo rfl (some 16) rfl (.agg #[.string ⟨#[97, 99, 99, 101, 112, 116, 45, 101, 110, 99, 111, 100, 105, 110, 103]⟩, .string ⟨#[103, 122, 105, 112, 44, 32, 100, 101, 102, 108, 97, 116, 101]⟩, .bool false]) w (by kernel_rfl) ?_
  refine Great.wpList_runTo rfl (some 17) rfl (.agg #[.string ⟨#[97, 99, 99, 101, 112, 116, 45, 108, 97, 110, 103, 117, 97, 103, 101]⟩, .string ⟨#[]⟩, .bool false]) w (by kernel_rfl) ?_
  refine Great.wpList_runTo rfl (some 18) rfl (.agg #[.string ⟨#[97, 99, 99, 101, 112, 116, 45, 114, 97, 110, 103, 101, 115]⟩, .string ⟨#[]⟩, .bool false]) w (by kernel_rfl) ?_
  refine Great.wpList_runTo rfl (some 19) rfl (.agg #[.string ⟨#[97, 99, 99, 101, 112, 116]⟩, .string ⟨#[]⟩, .bool false]) w (by kernel_rfl) ?_
  refine Great.wpList_runTo rfl (some 20) rfl (.agg #[.string ⟨#[97, 99, 99, 101, 115, 115, 45, 99, 111, 110, 116, 114, 111, 108, 45, 97, 108, 108, 111, 119, 45, 111, 114, 105, 103, 105, 110]⟩, .string ⟨#[]⟩, .bool false]) w (by kernel_rfl) ?_
  refine Great.wpList_runTo rfl (some 21) rfl (.agg #[.string ⟨#[97, 103, 101]⟩, .string ⟨#[]⟩, .bool false]) w (by kernel_rfl) ?_
  refine Great.wpList_runTo rfl (some 22) rfl (.agg #[.string ⟨#[97, 108, 108, 111, 119]⟩, .string ⟨#[]⟩, .bool false]) w (by kernel_rfl) ?_
  refine Great.wpList_runTo rfl (some 23) rfl (.agg #[.string ⟨#[97, 117, 116, 104, 111, 114, 105, 122, 97, 116, 105, 111, 110]⟩, .string ⟨#[]⟩, .bool false]) w (by kernel_rfl) ?_
  refine Great.wpList_runTo rfl (some 24) rfl (.agg #[.string ⟨#[99, 97, 99, 104, 101, 45, 99, 111, 110, 116, 114, 111, 108]⟩, .string ⟨#[]⟩, .bool false]) w (by kernel_rfl) ?_
  refine Great.wpList_runTo rfl (some 25) rfl (.agg #[.string ⟨#[99, 111, 110, 116, 101, 110, 116, 45, 100, 105, 115, 112, 111, 115, 105, 116, 105, 111, 110]⟩, .string ⟨#[]⟩, .bool false]) w (by kernel_rfl) ?_
  refine Great.wpList_runTo rfl (some 26) rfl (.agg #[.string ⟨#[99, 111, 110, 116, 101, 110, 116, 45, 101, 110, 99, 111, 100, 105, 110, 103]⟩, .string ⟨#[]⟩, .bool false]) w (by kernel_rfl) ?_
  refine Great.wpList_runTo rfl (some 27) rfl (.agg #[.string ⟨#[99, 111, 110, 116, 101, 110, 116, 45, 108, 97, 110, 103, 117, 97, 103, 101]⟩, .string ⟨#[]⟩, .bool false]) w (by kernel_rfl) ?_
  refine Great.wpList_runTo rfl (some 28) rfl (.agg #[.string ⟨#[99, 111, 110, 116, 101, 110, 116, 45, 108, 101, 110, 103, 116, 104]⟩, .string ⟨#[]⟩, .bool false]) w (by kernel_rfl) ?_
  refine Great.wpList_runTo rfl (some 29) rfl (.agg #[.string ⟨#[99, 111, 110, 116, 101, 110, 116, 45, 108, 111, 99, 97, 116, 105, 111, 110]⟩, .string ⟨#[]⟩, .bool false]) w (by kernel_rfl) ?_
  refine Great.wpList_runTo rfl (some 30) rfl (.agg #[.string ⟨#[99, 111, 110, 116, 101, 110, 116, 45, 114, 97, 110, 103, 101]⟩, .string ⟨#[]⟩, .bool false]) w (by kernel_rfl) ?_
  refine Great.wpList_runTo rfl (some 31) rfl (.agg #[.string ⟨#[99, 111, 110, 116, 101, 110, 116, 45, 116, 121, 112, 101]⟩, .string ⟨#[]⟩, .bool false]) w (by kernel_rfl) ?_
  refine Great.wpList_runTo rfl (some 32) rfl (.agg #[.string ⟨#[99, 111, 111, 107, 105, 101]⟩, .string ⟨#[]⟩, .bool false]) w (by kernel_rfl) ?_
  refine Great.wpList_runTo rfl (some 33) rfl (.agg #[.string ⟨#[100, 97, 116, 101]⟩, .string ⟨#[]⟩, .bool false]) w (by kernel_rfl) ?_
  refine Great.wpList_runTo rfl (some 34) rfl (.agg #[.string ⟨#[101, 116, 97, 103]⟩, .string ⟨#[]⟩, .bool false]) w (by kernel_rfl) ?_
  refine Great.wpList_runTo rfl (some 35) rfl (.agg #[.string ⟨#[101, 120, 112, 101, 99, 116]⟩, .string ⟨#[]⟩, .bool false]) w (by kernel_rfl) ?_
  refine Great.wpList_runTo rfl (some 36) rfl (.agg #[.string ⟨#[101, 120, 112, 105, 114, 101, 115]⟩, .string ⟨#[]⟩, .bool false]) w (by kernel_rfl) ?_
  refine Great.wpList_runTo rfl (some 37) rfl (.agg #[.string ⟨#[102, 114, 111, 109]⟩, .string ⟨#[]⟩, .bool false]) w (by kernel_rfl) ?_
  refine Great.wpList_runTo rfl (some 38) rfl (.agg #[.string ⟨#[104, 111, 115, 116]⟩, .string ⟨#[]⟩, .bool false]) w (by kernel_rfl) ?_
  refine Great.wpList_runTo rfl (some 39) rfl (.agg #[.string ⟨#[105, 102, 45, 109, 97, 116, 99, 104]⟩, .string ⟨#[]⟩, .bool false]) w (by kernel_rfl) ?_
  refine Great.wpList_runTo rfl (some 40) rfl (.agg #[.string ⟨#[105, 102, 45, 109, 111, 100, 105, 102, 105, 101, 100, 45, 115, 105, 110, 99, 101]⟩, .string ⟨#[]⟩, .bool false]) w (by kernel_rfl) ?_
  refine Great.wpList_runTo rfl (some 41) rfl (.agg #[.string ⟨#[105, 102, 45, 110, 111, 110, 101, 45, 109, 97, 116, 99, 104]⟩, .string ⟨#[]⟩, .bool false]) w (by kernel_rfl) ?_
  refine Great.wpList_runTo rfl (some 42) rfl (.agg #[.string ⟨#[105, 102, 45, 114, 97, 110, 103, 101]⟩, .string ⟨#[]⟩, .bool false]) w (by kernel_rfl) ?_
  refine Great.wpList_runTo rfl (some 43) rfl (.agg #[.string ⟨#[105, 102, 45, 117, 110, 109, 111, 100, 105, 102, 105, 101, 100, 45, 115, 105, 110, 99, 101]⟩, .string ⟨#[]⟩, .bool false]) w (by kernel_rfl) ?_
  refine Great.wpList_runTo rfl (some 44) rfl (.agg #[.string ⟨#[108, 97, 115, 116, 45, 109, 111, 100, 105, 102, 105, 101, 100]⟩, .string ⟨#[]⟩, .bool false]) w (by kernel_rfl) ?_
  refine Great.wpList_runTo rfl (some 45) rfl (.agg #[.string ⟨#[108, 105, 110, 107]⟩, .string ⟨#[]⟩, .bool false]) w (by kernel_rfl) ?_
  refine Great.wpList_runTo rfl (some 46) rfl (.agg #[.string ⟨#[108, 111, 99, 97, 116, 105, 111, 110]⟩, .string ⟨#[]⟩, .bool false]) w (by kernel_rfl) ?_
  refine Great.wpList_runTo rfl (some 47) rfl (.agg #[.string ⟨#[109, 97, 120, 45, 102, 111, 114, 119, 97, 114, 100, 115]⟩, .string ⟨#[]⟩, .bool false]) w (by kernel_rfl) ?_
  refine Great.wpList_runTo rfl (some 48) rfl (.agg #[.string ⟨#[112, 114, 111, 120, 121, 45, 97, 117, 116, 104, 101, 110, 116, 105, 99, 97, 116, 101]⟩, .string ⟨#[]⟩, .bool false]) w (by kernel_rfl) ?_
  refine Great.wpList_runTo rfl (some 49) rfl (.agg #[.string ⟨#[112, 114, 111, 120, 121, 45, 97, 117, 116, 104, 111, 114, 105, 122, 97, 116, 105, 111, 110]⟩, .string ⟨#[]⟩, .bool false]) w (by kernel_rfl) ?_
  refine Great.wpList_runTo rfl (some 50) rfl (.agg #[.string ⟨#[114, 97, 110, 103, 101]⟩, .string ⟨#[]⟩, .bool false]) w (by kernel_rfl) ?_
  refine Great.wpList_runTo rfl (some 51) rfl (.agg #[.string ⟨#[114, 101, 102, 101, 114, 101, 114]⟩, .string ⟨#[]⟩, .bool false]) w (by kernel_rfl) ?_
  refine Great.wpList_runTo rfl (some 52) rfl (.agg #[.string ⟨#[114, 101, 102, 114, 101, 115, 104]⟩, .string ⟨#[]⟩, .bool false]) w (by kernel_rfl) ?_
  refine Great.wpList_runTo rfl (some 53) rfl (.agg #[.string ⟨#[114, 101, 116, 114, 121, 45, 97, 102, 116, 101, 114]⟩, .string ⟨#[]⟩, .bool false]) w (by kernel_rfl) ?_
  refine Great.wpList_runTo rfl (some 54) rfl (.agg #[.string ⟨#[115, 101, 114, 118, 101, 114]⟩, .string ⟨#[]⟩, .bool false]) w (by kernel_rfl) ?_
  refine Great.wpList_runTo rfl (some 55) rfl (.agg #[.string ⟨#[115, 101, 116, 45, 99, 111, 111, 107, 105, 101]⟩, .string ⟨#[]⟩, .bool false]) w (by kernel_rfl) ?_
  refine Great.wpList_runTo rfl (some 56) rfl (.agg #[.string ⟨#[115, 116, 114, 105, 99, 116, 45, 116, 114, 97, 110, 115, 112, 111, 114, 116, 45, 115, 101, 99, 117, 114, 105, 116, 121]⟩, .string ⟨#[]⟩, .bool false]) w (by kernel_rfl) ?_
  refine Great.wpList_runTo rfl (some 57) rfl (.agg #[.string ⟨#[116, 114, 97, 110, 115, 102, 101, 114, 45, 101, 110, 99, 111, 100, 105, 110, 103]⟩, .string ⟨#[]⟩, .bool false]) w (by kernel_rfl) ?_
  refine Great.wpList_runTo rfl (some 58) rfl (.agg #[.string ⟨#[117, 115, 101, 114, 45, 97, 103, 101, 110, 116]⟩, .string ⟨#[]⟩, .bool false]) w (by kernel_rfl) ?_
  refine Great.wpList_runTo rfl (some 59) rfl (.agg #[.string ⟨#[118, 97, 114, 121]⟩, .string ⟨#[]⟩, .bool false]) w (by kernel_rfl) ?_
  refine Great.wpList_runTo rfl (some 60) rfl (.agg #[.string ⟨#[118, 105, 97]⟩, .string ⟨#[]⟩, .bool false]) w (by kernel_rfl) ?_
  refine Great.wpList_runTo rfl (some 61) rfl (.agg #[.string ⟨#[119, 119, 119, 45, 97, 117, 116, 104, 101, 110, 116, 105, 99, 97, 116, 101]⟩, .string ⟨#[]⟩, .bool false]) w (by kernel_rfl) ?_
  refine Great.wpList_runTo rfl (some 62) rfl (.slice (some ⟨w.heap.size, 0, none⟩) 61 61) (w.alloc (.cells fstatV.toArray 24)) (by kernel_rfl) ?_
  go_wp2
  go_ret
  exact ⟨rfl, rfl⟩
theorem cost_ref (r : Rw) (b : Bool) (w : World) (h1 : r.1.size ≤ 140737488355328) (h2 : r.2.size ≤ 140737488355328) :
    Calls Try.prog 27 #[.agg #[.string r.1, .string r.2, .bool b]] w fun e w' => e = .returned (.int .i64 (cost r : Nat)) ∧ w' = w.alloc (.cells #[.string r.1, .string r.2, .bool b] 24) := by
  go_enter Try.func27, Try.ntmps27
  go_wp2
  go_ret
  exact ⟨ret_v (by unfold cost; congr 1), rfl⟩
end Go.Proofs.Ythpieiipddfpjaa
