/- An api.Field that came in: its texts are not longer than what may be read. -/
import Derived.Test.YthpieiipddfpjaaScript
namespace Go.Proofs.Ythpieiipddfpjaa
open Go.ChangeShapes Go.WideShapes Go.ChangeAt Go.RowKit Go.WideMaps Go.ChangeMaps Go.Deep
set_option maxRecDepth 100000

section
variable {H : Type} {enc : TypeId × Value → H} {W : World} {base : Nat}
theorem open_field2 {v : Value} {d : DataW H} {p : List MemPlace} (hval : Value.okWide Try.prog W .any base 24 v) (h : DataW.Trod enc Try.prog W 0 (fun _ => true) true 24 v d p)
    {ts : List TypeId} {ds : List (DataW H)} (hsz : (DataW.weightsEach Try.prog ts ds).all (· ≤ reachBytes) = true) {j : Nat} (ht : ts[j]? = some 24) (hd : ds[j]? = some d) :
    ∃ (f : Rw) (nv : Bool), v = .agg #[.string f.1, .string f.2, .bool nv] ∧ f.1.size ≤ 140737488351232 ∧ f.2.size ≤ 140737488351232 := by
  obtain ⟨cs, rfl, -⟩ := okWide_struct Try.underlying24 hval
  obtain ⟨fuel, hf⟩ := h
  obtain ⟨xs, m, _, hd0, hl, hx, hf⟩ := DataW.trod_struct Try.underlying24 hf
  rw [show Try.prog.cellsOf 24 = 3 by kernel_rfl] at hl
  have cb : Try.prog.cellsOf 4 = 1 := by kernel_rfl
  have cs1 : Try.prog.cellsOf 9 = 1 := by kernel_rfl
  obtain ⟨cl⟩ := cs
  change cl.length = 3 at hl
  match cl, hl, xs, hx with
  | [c0, c1, c2], _, [x0, x1, x2], _ =>
    have f0 := hf 0 _ rfl
    have f1 := hf 1 _ rfl
    have f2 := hf 2 _ rfl
    change DataW.trod enc Try.prog W 0 _ true m 9 (List.take (Try.prog.cellsOf 9) (List.drop 0 [c0, c1, c2])) = some x0 at f0
    change DataW.trod enc Try.prog W 0 _ true m 9 (List.take (Try.prog.cellsOf 9) (List.drop 1 [c0, c1, c2])) = some x1 at f1
    change DataW.trod enc Try.prog W 0 _ true m 4 (List.take (Try.prog.cellsOf 4) (List.drop 2 [c0, c1, c2])) = some x2 at f2
    rw [cb] at f2
    rw [cs1] at f0 f1
    obtain ⟨a, e0, y0, w0⟩ := DataW.trod_string Try.underlying9 f0
    obtain ⟨b, e1, y1, w1⟩ := DataW.trod_string Try.underlying9 f1
    obtain ⟨v, e2, -⟩ := DataW.trod_bool Try.underlying4 f2
    simp at e0 e1 e2
    subst e0 e1 e2 y0 y1
    simp only [Prod.mk.injEq] at hd0
    obtain ⟨rfl, -⟩ := hd0
    refine ⟨(a, b), v, rfl, ?_, ?_⟩
    · have := List.all_eq_true.1 hsz _ (DataW.weights_mem_each ht hd a.data.toList.length (by simp [DataW.weights, Try.underlying24, DataW.weightsEach]))
      have h2 : a.data.toList.length ≤ reachBytes := of_decide_eq_true this
      have h3 : a.data.toList.length = a.size := by simp
      unfold reachBytes at h2
      show a.size ≤ _
      omega
    · have := List.all_eq_true.1 hsz _ (DataW.weights_mem_each ht hd b.data.toList.length (by simp [DataW.weights, Try.underlying24, DataW.weightsEach]))
      have h2 : b.data.toList.length ≤ reachBytes := of_decide_eq_true this
      have h3 : b.data.toList.length = b.size := by simp
      unfold reachBytes at h2
      show b.size ≤ _
      omega
end
end Go.Proofs.Ythpieiipddfpjaa
