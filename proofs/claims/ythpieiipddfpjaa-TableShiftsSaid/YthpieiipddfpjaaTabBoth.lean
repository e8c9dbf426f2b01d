/- Two tables with the same rows: what a law's walk needs of them. -/
import Derived.Test.YthpieiipddfpjaaTabPlay
import Derived.Test.YthpieiipddfpjaaTabAwake
import Derived.Test.YthpieiipddfpjaaRTab4
namespace Go.Proofs.Ythpieiipddfpjaa
open Go.RowKit

theorem atV_shape (v : Option Rw) : ∃ (f : Rw) (e : Int), atV v = .tuple #[.agg #[.string f.1, .string f.2, .bool false], .int .i64 e] := by
  cases v with
  | none => exact ⟨(emptyB, emptyB), 40, rfl⟩
  | some r => exact ⟨r, 0, rfl⟩
section
variable {B : Nat} {W w w' : World} {g q N : Nat} {T : Tb}
theorem Both.below (h : Both B W w g q N T) (hB : B ≤ w.heap.size) (hb : Below w.heap.size w w') : Both B W w' g q N T := by
  obtain ⟨F, G, ht, hr, hd, hF, hG, hb0⟩ := h
  exact ⟨F, G, ht.keep fun k hk => hb.block k (ht.lt k hk), hr.below hb, hd, hF, hG, hb0.trans (hb.mono hB)⟩
theorem Both.from (h : Both B W w g q N T) {W0 : World} (hb : Below B W0 W) : Both B W0 w g q N T := by
  obtain ⟨F, G, ht, hr, hd, hF, hG, hb0⟩ := h
  exact ⟨F, G, ht, hr, hd, hF, hG, hb.trans hb0⟩
/-- The two tables, new. -/
theorem both_new {F : Nat → Prop} {most : Int} (ht : TabIs w g F 0 ⟨most, 0, []⟩) (hF : ∀ k, F k → B ≤ k) (hB : B ≤ w.heap.size) {W2 : World} (hW : w.alloc (.cells #[.int .i64 most, .slice none 0 0] 34) = W2) (hq : w.heap.size = q) :
    Both B W2 W2 g q 0 ⟨most, 0, []⟩ := by
  subst hW hq
  refine ⟨F, rfoot w.heap.size none, ht.alloc _, ⟨none, 0, rfl, ⟨heapNew _ _, Lies.nil _ _ _, fun a h => by cases h⟩⟩, fun k h1 h2 => ?_, hF, fun k h => ?_, Below.refl _ _⟩
  · rcases h2 with rfl | ⟨a, ha, _⟩
    · exact Nat.lt_irrefl _ (ht.lt _ h1)
    · cases ha
  · rcases h with rfl | ⟨a, ha, _⟩
    · exact hB
    · cases ha
end
end Go.Proofs.Ythpieiipddfpjaa
