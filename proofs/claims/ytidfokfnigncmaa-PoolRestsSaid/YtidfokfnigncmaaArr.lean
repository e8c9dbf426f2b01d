/- A [2]byte that came in. -/
import Derived.Test.YtidfokfnigncmaaLift
import Derived.Deep.Fields
import Derived.ChangeSame
namespace Go.Proofs.Ytidfokfnigncmaa
open Go.ChangeShapes Go.WideShapes Go.ChangeAt Go.RowKit Go.WideMaps Go.ChangeMaps Go.Deep
set_option maxRecDepth 100000

section
variable {H : Type} {enc : TypeId × Value → H} {W : World} {base : Nat}
theorem open_arr2 {v : Value} {d : DataW H} {p : List MemPlace} (hval : Value.okWide Try.prog W .any base 34 v) (h : DataW.Trod enc Try.prog W 0 (fun _ => true) true 34 v d p) :
    ∃ x y : Int, v = .agg #[.int .u8 x, .int .u8 y] ∧ (0 ≤ x ∧ x < 256) ∧ (0 ≤ y ∧ y < 256) := by
  have hv : ∃ cs, v = .agg cs := by
    simp only [Value.okWide, Try.underlying34] at hval
    obtain ⟨cs, h1, _⟩ := hval
    exact ⟨cs, h1⟩
  obtain ⟨cs, rfl⟩ := hv
  obtain ⟨fuel, hf⟩ := h
  obtain ⟨xs, m, _, _, hl, hx, hf⟩ := DataW.trod_array Try.underlying34 hf
  rw [show Try.prog.cellsOf 34 = 2 by kernel_rfl] at hl
  have c1 : Try.prog.cellsOf 5 = 1 := by kernel_rfl
  obtain ⟨cl⟩ := cs
  change cl.length = 2 at hl
  match cl, hl, xs, hx with
  | [c0, c1'], _, [x0, x1], _ =>
    have f0 := hf 0 (by decide)
    have f1 := hf 1 (by decide)
    rw [c1] at f0 f1
    change DataW.trod enc Try.prog W 0 _ true m 5 (List.take 1 (List.drop 0 [c0, c1'])) = some x0 at f0
    change DataW.trod enc Try.prog W 0 _ true m 5 (List.take 1 (List.drop 1 [c0, c1'])) = some x1 at f1
    obtain ⟨a, e0, -, w0⟩ := DataW.trod_int Try.underlying5 f0
    obtain ⟨b, e1, -, w1⟩ := DataW.trod_int Try.underlying5 f1
    simp at e0 e1
    subst e0 e1
    exact ⟨a, b, rfl, wf_u8 w0, wf_u8 w1⟩
end
end Go.Proofs.Ytidfokfnigncmaa
