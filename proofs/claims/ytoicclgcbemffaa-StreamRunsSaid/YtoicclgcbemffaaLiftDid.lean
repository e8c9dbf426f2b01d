/- A []drawbridgelaw09.Did that came in: its frames, in memory. -/
import Derived.Test.YtoicclgcbemffaaLift
import Derived.Test.YtoicclgcbemffaaStreamRuns
import Derived.Deep.Slices
import Derived.Deep.Fields
import Derived.ChangeSame
namespace Go.Proofs.Ytoicclgcbemffaa
open Go.ChangeShapes Go.WideShapes Go.ChangeAt Go.RowKit Go.WideMaps Go.ChangeMaps Go.Deep

section
variable {H : Type} {enc : TypeId × Value → H} {W : World} {base : Nat}
/-- One frame's three cells. -/
theorem did_cells {cs : List Value} {x : DataW H × List MemPlace} {sp : Nat → Bool} {held : Bool} {n : Nat} (h : DataW.trod enc Try.prog W base sp held n 45 cs = some x) :
    ∃ (a : Bool) (k : Int) (f : Bool), cs = [.bool a, .int .i64 k, .bool f] := by
  obtain ⟨xs, m, _, _, hl, hx, hf⟩ := DataW.trod_struct Try.underlying45 h
  rw [show Try.prog.cellsOf 45 = 3 by kernel_rfl] at hl
  have cb : Try.prog.cellsOf 4 = 1 := by kernel_rfl
  have ci : Try.prog.cellsOf 3 = 1 := by kernel_rfl
  match cs, hl with
  | [c0, c1, c2], _ =>
    match xs, hx with
    | [x0, x1, x2], _ =>
      have f0 := hf 0 _ rfl
      have f1 := hf 1 _ rfl
      have f2 := hf 2 _ rfl
      change DataW.trod enc Try.prog W base sp held m 4 (List.take (Try.prog.cellsOf 4) (List.drop 0 [c0, c1, c2])) = some x0 at f0
      change DataW.trod enc Try.prog W base sp held m 3 (List.take (Try.prog.cellsOf 3) (List.drop 1 [c0, c1, c2])) = some x1 at f1
      change DataW.trod enc Try.prog W base sp held m 4 (List.take (Try.prog.cellsOf 4) (List.drop 2 [c0, c1, c2])) = some x2 at f2
      rw [cb] at f0 f2
      rw [ci] at f1
      obtain ⟨a, e0, -⟩ := DataW.trod_bool Try.underlying4 f0
      obtain ⟨k, e1, -, -⟩ := DataW.trod_int Try.underlying3 f1
      obtain ⟨f, e2, -⟩ := DataW.trod_bool Try.underlying4 f2
      simp at e0 e1 e2
      exact ⟨a, k, f, by rw [e0, e1, e2]⟩
theorem open_dids {v : Value} {d : DataW H} {p : List MemPlace} (hval : Value.okWide Try.prog W .any base 43 v) (h : DataW.Trod enc Try.prog W 0 (fun _ => true) true 43 v d p)
    (hlt : ∀ x ∈ p, x.block < W.heap.size) {ts : List TypeId} {ds : List (DataW H)} (hsz : (DataW.weightsEach Try.prog ts ds).all (· ≤ reachBytes) = true) {j : Nat} (ht : ts[j]? = some 43) (hd : ds[j]? = some d) :
    ∃ A n c D, v = .slice A n c ∧ n ≤ c ∧ c ≤ maxLen ∧ n ≤ 140737488351232 ∧ Dids W A n D := by
  obtain ⟨a1, len, cap, rfl⟩ := okWide_slice Try.underlying43 hval
  obtain ⟨fuel, hf⟩ := h
  rcases open_slice Try.underlying43 hf with ⟨hcs, hx⟩ | ⟨a, len', cap', m, n, D, Pl, hcs, _, hl, hm, hmm, hx, hi⟩
  · simp [Value.cells] at hcs
    obtain ⟨rfl, rfl, rfl⟩ := hcs
    exact ⟨none, 0, 0, fun _ => (false, 0, false), rfl, Nat.le_refl _, Nat.zero_le _, by omega, fun h => absurd h (by omega)⟩
  · simp [Value.cells] at hcs
    obtain ⟨rfl, rfl, rfl⟩ := hcs
    simp only [Prod.mk.injEq] at hx
    obtain ⟨rfl, rfl⟩ := hx
    have hmc : m = cap := by simpa using hmm
    subst hmc
    have hC : Try.prog.cellsOf 45 = 3 := by kernel_rfl
    have hreach : len ≤ 140737488351232 := by
      have := sized_slice hsz (e := 45) ht hd Try.underlying43
      rw [show Try.prog.bytesOf 45 = 24 by kernel_rfl] at this
      simp [reachBytes] at this
      omega
    obtain ⟨ab, ao, spot⟩ := a
    have hall : ∀ i, i < len → ∃ x : Bool × Int × Bool, W.cell? ((⟨ab, ao, spot⟩ : Addr).add (i * 3 + 0)) = some (.bool x.1) ∧ W.cell? ((⟨ab, ao, spot⟩ : Addr).add (i * 3 + 1)) = some (.int .i64 x.2.1) ∧ W.cell? ((⟨ab, ao, spot⟩ : Addr).add (i * 3 + 2)) = some (.bool x.2.2) := by
      intro i hil
      obtain ⟨cs', hc, ht'⟩ := hi i (by omega)
      rw [hC] at hc
      obtain ⟨x0, x1, x2, rfl⟩ := did_cells ht'
      obtain ⟨_, _, hat⟩ := World.cells?_some hc
      refine ⟨(x0, x1, x2), ?_, ?_, ?_⟩
      · rw [← Go.Deep.add_add]; exact hat 0 (by omega)
      · rw [← Go.Deep.add_add]; exact hat 1 (by omega)
      · rw [← Go.Deep.add_add]; exact hat 2 (by omega)
    rcases Nat.eq_zero_or_pos len with h0 | hpos
    · exact ⟨_, len, m, fun _ => (false, 0, false), rfl, hl, hm, hreach, fun h => absurd h (by omega)⟩
    have hspot : spot = none := by
      obtain ⟨x, hx0, _⟩ := hall 0 hpos
      simpa [Addr.add] using World.cell?_spot hx0
    subst hspot
    have hall2 : ∀ i, i < len → ∃ x : Bool × Int × Bool, W.cell? ⟨ab, ao + i * 3, none⟩ = some (.bool x.1) ∧ W.cell? ⟨ab, ao + i * 3 + 1, none⟩ = some (.int .i64 x.2.1) ∧ W.cell? ⟨ab, ao + i * 3 + 2, none⟩ = some (.bool x.2.2) := by
      intro i hil
      obtain ⟨x, y0, y1, y2⟩ := hall i hil
      simp only [Addr.add_lit, ← Nat.add_assoc] at y0 y1 y2
      exact ⟨x, y0, y1, y2⟩
    refine ⟨_, len, m, fun i => if h : i < len then Classical.choose (hall2 i h) else (false, 0, false), rfl, hl, hm, hreach, fun _ => ?_⟩
    refine ⟨ab, ao, rfl, ?_, fun i hil => ?_⟩
    · exact hlt (.cell ab ao) (List.mem_append_left _ (by rw [hC]; simp only [MemPlace.row, List.mem_map, List.mem_range]; exact ⟨0, by omega, rfl⟩))
    · have := Classical.choose_spec (hall2 i hil)
      simp only [hil, dif_pos]
      exact this
end
end Go.Proofs.Ytoicclgcbemffaa
