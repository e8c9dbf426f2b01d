/- A []drawbridgelaw16.Do that came in: its steps, in memory. -/
import Derived.Test.YtidfokfnigncmaaLift
import Derived.Deep.Slices
import Derived.Deep.Fields
import Derived.ChangeSame
namespace Go.Proofs.Ytidfokfnigncmaa
open Go.ChangeShapes Go.WideShapes Go.ChangeAt Go.RowKit Go.WideMaps Go.ChangeMaps Go.Deep

/-- A row of steps in memory: kind, stream, n. -/
def Dos (w : World) (A : Option Addr) (n : Nat) (D : Nat → Int × Int × Int) : Prop :=
  0 < n → ∃ b o, A = some ⟨b, o, none⟩ ∧ b < w.heap.size ∧ ∀ i, i < n →
    (w.cell? ⟨b, o + i * 3, none⟩ = some (.int .i64 (D i).1) ∧ w.cell? ⟨b, o + i * 3 + 1, none⟩ = some (.int .i64 (D i).2.1) ∧ w.cell? ⟨b, o + i * 3 + 2, none⟩ = some (.int .i64 (D i).2.2)) ∧
    (Lit.int .i64 (D i).1).wf = true ∧ (Lit.int .i64 (D i).2.1).wf = true ∧ (Lit.int .i64 (D i).2.2).wf = true

section
variable {H : Type} {enc : TypeId × Value → H} {W : World} {base : Nat}
/-- One step's three cells. -/
theorem do_cells {cs : List Value} {x : DataW H × List MemPlace} {sp : Nat → Bool} {held : Bool} {n : Nat} (h : DataW.trod enc Try.prog W base sp held n 44 cs = some x) :
    ∃ a k f : Int, cs = [.int .i64 a, .int .i64 k, .int .i64 f] ∧ (Lit.int .i64 a).wf = true ∧ (Lit.int .i64 k).wf = true ∧ (Lit.int .i64 f).wf = true := by
  obtain ⟨xs, m, _, _, hl, hx, hf⟩ := DataW.trod_struct Try.underlying44 h
  rw [show Try.prog.cellsOf 44 = 3 by kernel_rfl] at hl
  have cb : Try.prog.cellsOf 2 = 1 := by kernel_rfl
  have ci : Try.prog.cellsOf 3 = 1 := by kernel_rfl
  match cs, hl with
  | [c0, c1, c2], _ =>
    match xs, hx with
    | [x0, x1, x2], _ =>
      have f0 := hf 0 _ rfl
      have f1 := hf 1 _ rfl
      have f2 := hf 2 _ rfl
      change DataW.trod enc Try.prog W base sp held m 3 (List.take (Try.prog.cellsOf 3) (List.drop 0 [c0, c1, c2])) = some x0 at f0
      change DataW.trod enc Try.prog W base sp held m 3 (List.take (Try.prog.cellsOf 3) (List.drop 1 [c0, c1, c2])) = some x1 at f1
      change DataW.trod enc Try.prog W base sp held m 2 (List.take (Try.prog.cellsOf 2) (List.drop 2 [c0, c1, c2])) = some x2 at f2
      rw [cb] at f2
      rw [ci] at f0 f1
      obtain ⟨a, e0, -, w0⟩ := DataW.trod_int Try.underlying3 f0
      obtain ⟨k, e1, -, w1⟩ := DataW.trod_int Try.underlying3 f1
      obtain ⟨f, e2, -, w2⟩ := DataW.trod_int Try.underlying2 f2
      simp at e0 e1 e2
      exact ⟨a, k, f, by rw [e0, e1, e2], w0, w1, w2⟩
theorem open_dos {v : Value} {d : DataW H} {p : List MemPlace} (hval : Value.okWide Try.prog W .any base 38 v) (h : DataW.Trod enc Try.prog W 0 (fun _ => true) true 38 v d p)
    (hlt : ∀ x ∈ p, x.block < W.heap.size) {ts : List TypeId} {ds : List (DataW H)} (hsz : (DataW.weightsEach Try.prog ts ds).all (· ≤ reachBytes) = true) {j : Nat} (ht : ts[j]? = some 38) (hd : ds[j]? = some d) :
    ∃ A n c D, v = .slice A n c ∧ n ≤ c ∧ c ≤ maxLen ∧ n ≤ 140737488351232 ∧ Dos W A n D := by
  obtain ⟨a1, len, cap, rfl⟩ := okWide_slice Try.underlying38 hval
  obtain ⟨fuel, hf⟩ := h
  rcases open_slice Try.underlying38 hf with ⟨hcs, hx⟩ | ⟨a, len', cap', m, n, D, Pl, hcs, _, hl, hm, hmm, hx, hi⟩
  · simp [Value.cells] at hcs
    obtain ⟨rfl, rfl, rfl⟩ := hcs
    exact ⟨none, 0, 0, fun _ => (0, 0, 0), rfl, Nat.le_refl _, Nat.zero_le _, by omega, fun h => absurd h (by omega)⟩
  · simp [Value.cells] at hcs
    obtain ⟨rfl, rfl, rfl⟩ := hcs
    simp only [Prod.mk.injEq] at hx
    obtain ⟨rfl, rfl⟩ := hx
    have hmc : m = cap := by simpa using hmm
    subst hmc
    have hC : Try.prog.cellsOf 44 = 3 := by kernel_rfl
    have hreach : len ≤ 140737488351232 := by
      have := sized_slice hsz (e := 44) ht hd Try.underlying38
      rw [show Try.prog.bytesOf 44 = 24 by kernel_rfl] at this
      simp [reachBytes] at this
      omega
    obtain ⟨ab, ao, spot⟩ := a
    have hall : ∀ i, i < len → ∃ x : Int × Int × Int, (W.cell? ((⟨ab, ao, spot⟩ : Addr).add (i * 3 + 0)) = some (.int .i64 x.1) ∧ W.cell? ((⟨ab, ao, spot⟩ : Addr).add (i * 3 + 1)) = some (.int .i64 x.2.1) ∧ W.cell? ((⟨ab, ao, spot⟩ : Addr).add (i * 3 + 2)) = some (.int .i64 x.2.2)) ∧
        (Lit.int .i64 x.1).wf = true ∧ (Lit.int .i64 x.2.1).wf = true ∧ (Lit.int .i64 x.2.2).wf = true := by
      intro i hil
      obtain ⟨cs', hc, ht'⟩ := hi i (by omega)
      rw [hC] at hc
      obtain ⟨x0, x1, x2, rfl, w0, w1, w2⟩ := do_cells ht'
      obtain ⟨_, _, hat⟩ := World.cells?_some hc
      refine ⟨(x0, x1, x2), ⟨?_, ?_, ?_⟩, w0, w1, w2⟩
      · rw [← Go.Deep.add_add]; exact hat 0 (by omega)
      · rw [← Go.Deep.add_add]; exact hat 1 (by omega)
      · rw [← Go.Deep.add_add]; exact hat 2 (by omega)
    rcases Nat.eq_zero_or_pos len with h0 | hpos
    · exact ⟨_, len, m, fun _ => (0, 0, 0), rfl, hl, hm, hreach, fun h => absurd h (by omega)⟩
    have hspot : spot = none := by
      obtain ⟨x, ⟨hx0, _⟩, _⟩ := hall 0 hpos
      simpa [Addr.add] using World.cell?_spot hx0
    subst hspot
    have hall2 : ∀ i, i < len → ∃ x : Int × Int × Int, (W.cell? ⟨ab, ao + i * 3, none⟩ = some (.int .i64 x.1) ∧ W.cell? ⟨ab, ao + i * 3 + 1, none⟩ = some (.int .i64 x.2.1) ∧ W.cell? ⟨ab, ao + i * 3 + 2, none⟩ = some (.int .i64 x.2.2)) ∧
        (Lit.int .i64 x.1).wf = true ∧ (Lit.int .i64 x.2.1).wf = true ∧ (Lit.int .i64 x.2.2).wf = true := by
      intro i hil
      obtain ⟨x, ⟨y0, y1, y2⟩, hw⟩ := hall i hil
      simp only [Addr.add_lit, ← Nat.add_assoc] at y0 y1 y2
      exact ⟨x, ⟨y0, y1, y2⟩, hw⟩
    refine ⟨_, len, m, fun i => if h : i < len then Classical.choose (hall2 i h) else (0, 0, 0), rfl, hl, hm, hreach, fun _ => ?_⟩
    refine ⟨ab, ao, rfl, ?_, fun i hil => ?_⟩
    · exact hlt (.cell ab ao) (List.mem_append_left _ (by rw [hC]; simp only [MemPlace.row, List.mem_map, List.mem_range]; exact ⟨0, by omega, rfl⟩))
    · have := Classical.choose_spec (hall2 i hil)
      simp only [hil, dif_pos]
      exact this
/-- A drawbridgelaw16.Do that came in. -/
theorem open_do {v : Value} {d : DataW H} {p : List MemPlace} (hval : Value.okWide Try.prog W .any base 44 v) (h : DataW.Trod enc Try.prog W 0 (fun _ => true) true 44 v d p) :
    ∃ a k f : Int, v = .agg #[.int .i64 a, .int .i64 k, .int .i64 f] ∧ (Lit.int .i64 a).wf = true ∧ (Lit.int .i64 k).wf = true ∧ (Lit.int .i64 f).wf = true := by
  obtain ⟨cs, rfl, -⟩ := okWide_struct Try.underlying44 hval
  obtain ⟨fuel, hf⟩ := h
  obtain ⟨a, k, f, hcs, hw⟩ := do_cells hf
  refine ⟨a, k, f, ?_, hw⟩
  congr 1
  apply Array.ext'
  simpa [Value.cells] using hcs
end
end Go.Proofs.Ytidfokfnigncmaa
