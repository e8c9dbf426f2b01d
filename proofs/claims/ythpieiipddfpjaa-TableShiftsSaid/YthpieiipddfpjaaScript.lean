/- A []drawbridgelaw04.Do that came in: its steps, in memory; an api.Field that came in. -/
import Derived.Test.YthpieiipddfpjaaLift
import Derived.Test.YthpieiipddfpjaaTab
import Derived.Deep.Slices
import Derived.Deep.Fields
import Derived.ChangeSame
namespace Go.Proofs.Ythpieiipddfpjaa
open Go.ChangeShapes Go.WideShapes Go.ChangeAt Go.RowKit Go.WideMaps Go.ChangeMaps Go.Deep
set_option maxRecDepth 100000

/-- A step: its kind, its field, its number. -/
structure St where
  sk : Int
  sf : Rw
  sv : Bool
  sn : Int
def St.zero : St := ⟨0, (ByteArray.empty, ByteArray.empty), false, 0⟩
def StAt (w : World) (b o : Nat) (x : St) : Prop :=
  w.cell? ⟨b, o, none⟩ = some (.int .i64 x.sk) ∧ w.cell? ⟨b, o + 1, none⟩ = some (.string x.sf.1) ∧ w.cell? ⟨b, o + 2, none⟩ = some (.string x.sf.2) ∧ w.cell? ⟨b, o + 3, none⟩ = some (.bool x.sv) ∧ w.cell? ⟨b, o + 4, none⟩ = some (.int .i64 x.sn)
def StOk (x : St) : Prop := (Lit.int .i64 x.sk).wf = true ∧ x.sf.1.size ≤ maxLen ∧ x.sf.2.size ≤ maxLen ∧ (Lit.int .i64 x.sn).wf = true
/-- A row of steps in memory, in a block below B. -/
def Script (w : World) (B : Nat) (A : Option Addr) (n : Nat) (D : Nat → St) : Prop :=
  (∀ i, i < n → StOk (D i)) ∧ (0 < n → ∃ b o, A = some ⟨b, o, none⟩ ∧ b < B ∧ ∀ i, i < n → StAt w b (o + i * 5) (D i))
theorem Script.below {w w' : World} {B : Nat} {A : Option Addr} {n : Nat} {D : Nat → St} (h : Script w B A n D) (hb : Below B w w') : Script w' B A n D := by
  refine ⟨h.1, fun h0 => ?_⟩
  obtain ⟨b, o, hA, hlt, hc⟩ := h.2 h0
  refine ⟨b, o, hA, hlt, fun i hi => ?_⟩
  obtain ⟨h1, h2, h3, h4, h5⟩ := hc i hi
  have e : ∀ j, w'.cell? ⟨b, j, none⟩ = w.cell? ⟨b, j, none⟩ := fun j => hb.cell (p := ⟨b, j, none⟩) hlt
  exact ⟨(e _).trans h1, (e _).trans h2, (e _).trans h3, (e _).trans h4, (e _).trans h5⟩

section
variable {H : Type} {enc : TypeId × Value → H} {W : World} {base : Nat}
/-- A field's three cells. -/
theorem field_cells {cs : List Value} {x : DataW H × List MemPlace} {sp : Nat → Bool} {held : Bool} {n : Nat} (h : DataW.trod enc Try.prog W base sp held n 24 cs = some x) :
    ∃ (a b : ByteArray) (v : Bool), cs = [.string a, .string b, .bool v] ∧ a.size ≤ maxLen ∧ b.size ≤ maxLen := by
  obtain ⟨xs, m, _, _, hl, hx, hf⟩ := DataW.trod_struct Try.underlying24 h
  rw [show Try.prog.cellsOf 24 = 3 by kernel_rfl] at hl
  have cb : Try.prog.cellsOf 4 = 1 := by kernel_rfl
  have cs1 : Try.prog.cellsOf 9 = 1 := by kernel_rfl
  match cs, hl with
  | [c0, c1, c2], _ =>
    match xs, hx with
    | [x0, x1, x2], _ =>
      have f0 := hf 0 _ rfl
      have f1 := hf 1 _ rfl
      have f2 := hf 2 _ rfl
      change DataW.trod enc Try.prog W base sp held m 9 (List.take (Try.prog.cellsOf 9) (List.drop 0 [c0, c1, c2])) = some x0 at f0
      change DataW.trod enc Try.prog W base sp held m 9 (List.take (Try.prog.cellsOf 9) (List.drop 1 [c0, c1, c2])) = some x1 at f1
      change DataW.trod enc Try.prog W base sp held m 4 (List.take (Try.prog.cellsOf 4) (List.drop 2 [c0, c1, c2])) = some x2 at f2
      rw [cb] at f2
      rw [cs1] at f0 f1
      obtain ⟨a, e0, -, w0⟩ := DataW.trod_string Try.underlying9 f0
      obtain ⟨b, e1, -, w1⟩ := DataW.trod_string Try.underlying9 f1
      obtain ⟨v, e2, -⟩ := DataW.trod_bool Try.underlying4 f2
      simp at e0 e1 e2
      exact ⟨a, b, v, by rw [e0, e1, e2], w0, w1⟩
/-- One step's five cells. -/
theorem do_cells {cs : List Value} {x : DataW H × List MemPlace} {sp : Nat → Bool} {held : Bool} {n : Nat} (h : DataW.trod enc Try.prog W base sp held n 47 cs = some x) :
    ∃ s : St, cs = [.int .i64 s.sk, .string s.sf.1, .string s.sf.2, .bool s.sv, .int .i64 s.sn] ∧ StOk s := by
  obtain ⟨xs, m, _, _, hl, hx, hf⟩ := DataW.trod_struct Try.underlying47 h
  rw [show Try.prog.cellsOf 47 = 5 by kernel_rfl] at hl
  have cf : Try.prog.cellsOf 24 = 3 := by kernel_rfl
  have ci : Try.prog.cellsOf 3 = 1 := by kernel_rfl
  match cs, hl with
  | [c0, c1, c2, c3, c4], _ =>
    match xs, hx with
    | [x0, x1, x2], _ =>
      have f0 := hf 0 _ rfl
      have f1 := hf 1 _ rfl
      have f2 := hf 2 _ rfl
      change DataW.trod enc Try.prog W base sp held m 3 (List.take (Try.prog.cellsOf 3) (List.drop 0 [c0, c1, c2, c3, c4])) = some x0 at f0
      change DataW.trod enc Try.prog W base sp held m 24 (List.take (Try.prog.cellsOf 24) (List.drop 1 [c0, c1, c2, c3, c4])) = some x1 at f1
      change DataW.trod enc Try.prog W base sp held m 3 (List.take (Try.prog.cellsOf 3) (List.drop 4 [c0, c1, c2, c3, c4])) = some x2 at f2
      rw [cf] at f1
      rw [ci] at f0 f2
      obtain ⟨a, e0, -, w0⟩ := DataW.trod_int Try.underlying3 f0
      obtain ⟨s, t, v, e1, w1, w2⟩ := field_cells f1
      obtain ⟨k, e2, -, w3⟩ := DataW.trod_int Try.underlying3 f2
      simp at e0 e1 e2
      obtain ⟨rfl, rfl, rfl⟩ := e1
      exact ⟨⟨a, (s, t), v, k⟩, by rw [e0, e2], w0, w1, w2, w3⟩
theorem open_script {v : Value} {d : DataW H} {p : List MemPlace} (hval : Value.okWide Try.prog W .any base 22 v) (h : DataW.Trod enc Try.prog W 0 (fun _ => true) true 22 v d p)
    (hlt : ∀ x ∈ p, x.block < W.heap.size) {ts : List TypeId} {ds : List (DataW H)} (hsz : (DataW.weightsEach Try.prog ts ds).all (· ≤ reachBytes) = true) {j : Nat} (ht : ts[j]? = some 22) (hd : ds[j]? = some d) :
    ∃ A n c D, v = .slice A n c ∧ n ≤ c ∧ c ≤ maxLen ∧ n ≤ 140737488351232 ∧ Script W W.heap.size A n D := by
  obtain ⟨a1, len, cap, rfl⟩ := okWide_slice Try.underlying22 hval
  obtain ⟨fuel, hf⟩ := h
  rcases open_slice Try.underlying22 hf with ⟨hcs, hx⟩ | ⟨a, len', cap', m, n, D, Pl, hcs, _, hl, hm, hmm, hx, hi⟩
  · simp [Value.cells] at hcs
    obtain ⟨rfl, rfl, rfl⟩ := hcs
    exact ⟨none, 0, 0, fun _ => St.zero, rfl, Nat.le_refl _, Nat.zero_le _, by omega, fun i h => absurd h (by omega), fun h => absurd h (by omega)⟩
  · simp [Value.cells] at hcs
    obtain ⟨rfl, rfl, rfl⟩ := hcs
    simp only [Prod.mk.injEq] at hx
    obtain ⟨rfl, rfl⟩ := hx
    have hmc : m = cap := by simpa using hmm
    subst hmc
    have hC : Try.prog.cellsOf 47 = 5 := by kernel_rfl
    have hreach : len ≤ 140737488351232 := by
      have := sized_slice hsz (e := 47) ht hd Try.underlying22
      rw [show Try.prog.bytesOf 47 = 56 by kernel_rfl] at this
      simp [reachBytes] at this
      omega
    obtain ⟨ab, ao, spot⟩ := a
    have hall : ∀ i, i < len → ∃ x : St, (W.cell? ((⟨ab, ao, spot⟩ : Addr).add (i * 5 + 0)) = some (.int .i64 x.sk) ∧ W.cell? ((⟨ab, ao, spot⟩ : Addr).add (i * 5 + 1)) = some (.string x.sf.1) ∧
        W.cell? ((⟨ab, ao, spot⟩ : Addr).add (i * 5 + 2)) = some (.string x.sf.2) ∧ W.cell? ((⟨ab, ao, spot⟩ : Addr).add (i * 5 + 3)) = some (.bool x.sv) ∧ W.cell? ((⟨ab, ao, spot⟩ : Addr).add (i * 5 + 4)) = some (.int .i64 x.sn)) ∧ StOk x := by
      intro i hil
      obtain ⟨cs', hc, ht'⟩ := hi i (by omega)
      rw [hC] at hc
      obtain ⟨x, rfl, hok⟩ := do_cells ht'
      obtain ⟨_, _, hat⟩ := World.cells?_some hc
      refine ⟨x, ⟨?_, ?_, ?_, ?_, ?_⟩, hok⟩
      · rw [← Go.Deep.add_add]; exact hat 0 (by omega)
      · rw [← Go.Deep.add_add]; exact hat 1 (by omega)
      · rw [← Go.Deep.add_add]; exact hat 2 (by omega)
      · rw [← Go.Deep.add_add]; exact hat 3 (by omega)
      · rw [← Go.Deep.add_add]; exact hat 4 (by omega)
    rcases Nat.eq_zero_or_pos len with h0 | hpos
    · exact ⟨_, len, m, fun _ => St.zero, rfl, hl, hm, hreach, fun i h => absurd h (by omega), fun h => absurd h (by omega)⟩
    have hspot : spot = none := by
      obtain ⟨x, ⟨hx0, _⟩, _⟩ := hall 0 hpos
      simpa [Addr.add] using World.cell?_spot hx0
    subst hspot
    have hall2 : ∀ i, i < len → ∃ x : St, StAt W ab (ao + i * 5) x ∧ StOk x := by
      intro i hil
      obtain ⟨x, ⟨y0, y1, y2, y3, y4⟩, hw⟩ := hall i hil
      simp only [Addr.add_lit, ← Nat.add_assoc] at y0 y1 y2 y3 y4
      exact ⟨x, ⟨y0, y1, y2, y3, y4⟩, hw⟩
    refine ⟨_, len, m, fun i => if h : i < len then Classical.choose (hall2 i h) else St.zero, rfl, hl, hm, hreach, fun i hil => ?_, fun _ => ?_⟩
    · have := Classical.choose_spec (hall2 i hil)
      simp only [hil, dif_pos]
      exact this.2
    refine ⟨ab, ao, rfl, ?_, fun i hil => ?_⟩
    · exact hlt (.cell ab ao) (List.mem_append_left _ (by rw [hC]; simp only [MemPlace.row, List.mem_map, List.mem_range]; exact ⟨0, by omega, rfl⟩))
    · have := Classical.choose_spec (hall2 i hil)
      simp only [hil, dif_pos]
      exact this.1
/-- An api.Field that came in. -/
theorem open_field {v : Value} {d : DataW H} {p : List MemPlace} (hval : Value.okWide Try.prog W .any base 24 v) (h : DataW.Trod enc Try.prog W 0 (fun _ => true) true 24 v d p) :
    ∃ (f : Rw) (nv : Bool), v = .agg #[.string f.1, .string f.2, .bool nv] ∧ f.1.size ≤ maxLen ∧ f.2.size ≤ maxLen := by
  obtain ⟨cs, rfl, -⟩ := okWide_struct Try.underlying24 hval
  obtain ⟨fuel, hf⟩ := h
  obtain ⟨a, b, nv, hcs, hw⟩ := field_cells hf
  refine ⟨(a, b), nv, ?_, hw⟩
  congr 1
  apply Array.ext'
  simpa [Value.cells] using hcs
end
end Go.Proofs.Ythpieiipddfpjaa
