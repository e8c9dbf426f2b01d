/- Two tables of the program, apart from each other. -/
import Derived.Test.YthpieiipddfpjaaTabBoth
namespace Go.Proofs.Ythpieiipddfpjaa
open Go.RowKit

/-- Both tables, apart from each other, above B. -/
def Twin (B : Nat) (W w : World) (g q : Nat) (N : Nat) (T T2 : Tb) : Prop :=
  ∃ F G, TabIs w g F N T ∧ TabIs w q G N T2 ∧ (∀ k, F k → ¬ G k) ∧ (∀ k, F k → B ≤ k) ∧ (∀ k, G k → B ≤ k) ∧ Below B W w
section
variable {B : Nat} {W w w' : World} {g q N N' : Nat} {T T2 T' : Tb} {v : Value} {fn : FuncId} {args : Array Value}
theorem Twin.bel (h : Twin B W w g q N T T2) : Below B W w := by
  obtain ⟨F, G, ht, h2, hd, hF, hG, hb0⟩ := h
  exact hb0
theorem Twin.one (h : Twin B W w g q N T T2) : ∃ F, TabIs w g F N T := by
  obtain ⟨F, G, ht, h2, hd, hF, hG, hb0⟩ := h
  exact ⟨F, ht⟩
theorem Twin.two (h : Twin B W w g q N T T2) : ∃ F, TabIs w q F N T2 := by
  obtain ⟨F, G, ht, h2, hd, hF, hG, hb0⟩ := h
  exact ⟨G, h2⟩
theorem Twin.more (h : Twin B W w g q N T T2) (hn : N ≤ N') (hN : N' ≤ 1099511627776) : Twin B W w g q N' T T2 := by
  obtain ⟨F, G, ht, h2, hd, hF, hG, hb0⟩ := h
  exact ⟨F, G, ht.more hn hN, h2.more hn hN, hd, hF, hG, hb0⟩
theorem Twin.below (h : Twin B W w g q N T T2) (hB : B ≤ w.heap.size) (hb : Below w.heap.size w w') : Twin B W w' g q N T T2 := by
  obtain ⟨F, G, ht, h2, hd, hF, hG, hb0⟩ := h
  exact ⟨F, G, ht.keep fun k hk => hb.block k (ht.lt k hk), h2.keep fun k hk => hb.block k (h2.lt k hk), hd, hF, hG, hb0.trans (hb.mono hB)⟩
def TwinPost (B : Nat) (W : World) (g q : Nat) (N : Nat) (T T2 : Tb) (v : Value) (e : Ending) (w' : World) : Prop := e = .returned v ∧ Twin B W w' g q N T T2 ∧ B ≤ w'.heap.size
theorem Twin.step1 (h : Twin B W w g q N T T2) (hB : B ≤ w.heap.size) (hn : N ≤ N') (hN : N' ≤ 1099511627776) (hc : ∀ F, TabIs w g F N T → Calls Try.prog fn args w (TStep w g F N' T' v)) :
    Calls Try.prog fn args w (TwinPost B W g q N' T' T2 v) := by
  obtain ⟨F, G, ht, h2, hd, hF, hG, hb0⟩ := h
  refine (hc F ht).mono ?_
  rintro e w' ⟨he, F', ht', hk, hg⟩
  obtain ⟨k1, k2, k3, k4⟩ := TabIs.beside (B := B) h2 (fun k a b => hd k b a) hF hb0 hB hk hg
  exact ⟨he, ⟨F', G, ht', k1.more hn hN, fun k a b => k2 k b a, k3, hG, k4⟩, Nat.le_trans hB hk.size⟩
theorem Twin.step2 (h : Twin B W w g q N T T2) (hB : B ≤ w.heap.size) (hn : N ≤ N') (hN : N' ≤ 1099511627776) (hc : ∀ F, TabIs w q F N T2 → Calls Try.prog fn args w (TStep w q F N' T' v)) :
    Calls Try.prog fn args w (TwinPost B W g q N' T T' v) := by
  obtain ⟨F, G, ht, h2, hd, hF, hG, hb0⟩ := h
  refine (hc G h2).mono ?_
  rintro e w' ⟨he, G', ht', hk, hg⟩
  obtain ⟨k1, k2, k3, k4⟩ := TabIs.beside (B := B) ht hd hG hb0 hB hk hg
  exact ⟨he, ⟨F, G', k1.more hn hN, ht', k2, hF, k3, k4⟩, Nat.le_trans hB hk.size⟩
theorem twin_new {F G : Nat → Prop} (ht : TabIs w g F 0 T) (hF : ∀ k, F k → B ≤ k) (hB : B ≤ w.heap.size) (h2 : TabIs w' q G 0 T2) (hG : ∀ k, G k → w.heap.size ≤ k) (hb : Below w.heap.size w w') (hb0 : Below B W w) : Twin B W w' g q 0 T T2 :=
  ⟨F, G, ht.keep fun k hk => hb.block k (ht.lt k hk), h2, fun k a b => by have := ht.lt k a; have := hG k b; omega, hF, fun k h => by have := hG k h; omega, hb0.trans (hb.mono hB)⟩
end
theorem Tb.resize_self (T : Tb) : T.resize (sumc T.rows) = ⟨sumc T.rows, T.gone, T.rows⟩ := by
  unfold Tb.resize Tb.shrink
  simp only
  rw [shrunk_stop (Int.le_refl (sumc T.rows))]
theorem Tb.resize_again (T : Tb) (m low : Int) : (⟨m, T.gone, T.rows⟩ : Tb).resize low = T.resize low := rfl
theorem Tb.add_big {T : Tb} {r : Rw} (h : T.most < cost r) : (T.add r).rows = [] := by rw [Tb.add_rows]; unfold raddR; rw [if_pos h]
theorem Tb.add_last {T : Tb} {r : Rw} (h : ¬ T.most < cost r) : atRows (T.add r).rows 62 = some r := by
  rw [Tb.add_rows]; unfold raddR; rw [if_neg h]
  obtain ⟨x, hx, ha⟩ := atRows_came ((shrunk (T.most - cost r) 0 T.rows).2 ++ [r]) (i := (shrunk (T.most - cost r) 0 T.rows).2.length) (by simp)
  simp at hx
  subst hx
  rw [← ha]
  congr 1
  simp
  omega
theorem Script.mono {w : World} {B B' : Nat} {A : Option Addr} {n : Nat} {D : Nat → St} (h : Script w B A n D) (hB : B ≤ B') : Script w B' A n D := by
  refine ⟨h.1, fun h0 => ?_⟩
  obtain ⟨b, o, hA, hlt, hc⟩ := h.2 h0
  exact ⟨b, o, hA, by omega, hc⟩
end Go.Proofs.Ythpieiipddfpjaa
