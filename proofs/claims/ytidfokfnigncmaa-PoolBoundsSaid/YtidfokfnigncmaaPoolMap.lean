/- A map of numbers to connections, as a function. -/
import Derived.Test.YtidfokfnigncmaaPool3
import Derived.Maps.OwnSet
import Derived.Maps.OwnOps
import Derived.Maps.Views
import Derived.MapViews
import Derived.ChangeSame
namespace Go.Proofs.Ytidfokfnigncmaa
open Go.RowKit Go.Maps

def okI (i : Int) : Prop := (Lit.int .i64 i).wf = true
def intKey (i : Int) : Lit := .int .i64 i
theorem lawInt : Keyed Try.prog 3 := int_keyed Try.underlying3
theorem intKey_ok {i : Int} (h : okI i) : keyOf Try.prog 3 (.int .i64 i) = some (intKey i) := keyOf_int_mk Try.underlying3 h
theorem intKey_lit {i : Int} (h : okI i) : WideAt.IsKeyLit (intKey i) := Keyed.key lawInt (intKey_ok h)
theorem intKey_ne {i j : Int} (h : i ≠ j) : intKey i ≠ intKey j := fun e => h (by unfold intKey at e; injection e)
/-- How a connection in the map reads. -/
def pE (v : Value) : Option (DataW Unit × List MemPlace) := match v with
  | .pointer (some ⟨b, 0, none⟩) => some (.lit (.int .i64 (b : Int)), [])
  | .pointer none => some (.lit (.bool false), [])
  | _ => none
theorem pE_ptr (b : Nat) : pE (ptrV b) = some (.lit (.int .i64 (b : Int)), []) := rfl
theorem pE_inv {v : Value} {b : Nat} {ps : List MemPlace} (h : pE v = some (.lit (.int .i64 (b : Int)), ps)) : v = ptrV b := by
  unfold pE at h
  split at h
  · injection h with h
    injection h with h1 h2
    injection h1 with h1
    injection h1 with h1 h3
    have : (_ : Nat) = b := Int.ofNat.inj h3
    subst this
    rfl
  · injection h with h
    injection h with h1 h2
    injection h1 with h1
    cases h1
  · cases h
theorem pE_nil {v : Value} {ps : List MemPlace} (h : pE v = some (.lit (.bool false), ps)) : v = .pointer none := by
  unfold pE at h
  split at h
  · injection h with h
    injection h with h1 h2
    injection h1 with h1
    cases h1
  · rfl
  · cases h
theorem zeroLink (w : World) : (zeroValue 61).run Try.prog w = .ok (.pointer none) w := by kernel_rfl
/-- The map in block mb reads as f, and has k entries. -/
def MapIs (w : World) (mb N : Nat) (f : Int → Option Nat) (k : Nat) : Prop :=
  ∃ D : DataW Unit, w.ownsMap Try.prog 3 pE mb N D ∧ (∀ i, okI i → has D (intKey i) = (f i).isSome) ∧ (∀ i b, okI i → f i = some b → D.atKey (intKey i) (.lit (.bool false)) = .lit (.int .i64 (b : Int))) ∧ size D = k
def lookV : Option Nat → Value
  | some b => .tuple #[ptrV b, .bool true]
  | none => .tuple #[.pointer none, .bool false]
section
variable {w w' : World} {mb N k : Nat} {f f' : Int → Option Nat}
theorem MapIs.lt (h : MapIs w mb N f k) : mb < w.heap.size := by obtain ⟨D, hD, _⟩ := h; exact hD.lt
theorem MapIs.keep (h : MapIs w mb N f k) (hk : w'.heap[mb]? = w.heap[mb]?) : MapIs w' mb N f k := by
  obtain ⟨D, ⟨es, cl, hb, h2⟩, h3⟩ := h
  exact ⟨D, ⟨es, cl, hk.trans hb, h2⟩, h3⟩
theorem MapIs.more (h : MapIs w mb N f k) {N' : Nat} (hn : N ≤ N') : MapIs w mb N' f k := by
  obtain ⟨D, h1, h2⟩ := h
  exact ⟨D, h1.mono hn, h2⟩
theorem MapIs.congr (h : MapIs w mb N f k) (hf : ∀ i, okI i → f' i = f i) : MapIs w mb N f' k := by
  obtain ⟨D, h1, h2, h3, h4⟩ := h
  exact ⟨D, h1, fun i hi => by rw [hf i hi]; exact h2 i hi, fun i b hi hb => h3 i b hi (by rw [← hf i hi]; exact hb), h4⟩
theorem MapIs.look (h : MapIs w mb N f k) {i : Int} (hi : okI i) : (Instr.lookup 54 (.map (some mb)) (.int .i64 i) true).run Try.prog w = .ok (lookV (f i)) w := by
  obtain ⟨D, h1, h2, h3, h4⟩ := h
  obtain ⟨v, ps, hrun, hR⟩ := h1.look_ok lawInt Try.underlying54 (zeroLink _) (zd := .lit (.bool false)) (zp := []) rfl (intKey_ok hi)
  rw [hrun, h2 i hi]
  cases hf : f i with
  | some b =>
    rw [h3 i b hi hf] at hR
    rw [pE_inv hR]; rfl
  | none =>
    rw [atKey_of_not_has (by rw [h2 i hi, hf]; rfl)] at hR
    rw [pE_nil hR]; rfl
theorem MapIs.len (h : MapIs w mb N f k) (ty : TypeId) : (Builtin.len_ #[54] ty #[.map (some mb)]).run Try.prog w = .ok (.int .i64 k) w := by
  obtain ⟨D, h1, h2, h3, h4⟩ := h
  rw [h1.len Try.underlying54 ty, h4]
theorem MapIs.put (h : MapIs w mb N f k) {i : Int} (hi : okI i) (hf : f i = none) (hN : N < maxLen) (b : Nat) :
    ∃ w', (Instr.mapUpdate 54 (.map (some mb)) (.int .i64 i) (ptrV b)).run Try.prog w = .ok () w' ∧ MapIs w' mb (N + 1) (fun j => if j = i then some b else f j) (k + 1) ∧ w.grownBy w' (some mb) := by
  obtain ⟨D, h1, h2, h3, h4⟩ := h
  obtain ⟨w', hrun, ho, hg⟩ := h1.update lawInt Try.underlying54 hN (intKey_ok hi) (pE_ptr b)
  have ht := h1.tidy lawInt
  refine ⟨w', hrun, ⟨_, ho, fun j hj => ?_, fun j c hj hc => ?_, ?_⟩, hg⟩
  · by_cases e : j = i
    · subst e; rw [has_put_same ht.isMap (intKey_lit hj)]; simp
    · rw [has_put_other (intKey_ne e), h2 j hj]; simp [e]
  · by_cases e : j = i
    · subst e
      simp only [if_true] at hc
      injection hc with hc
      subst hc
      exact atKey_put_same ht.isMap (intKey_lit hj) _ _
    · simp only [if_neg e] at hc
      rw [atKey_put_other (intKey_ne e)]
      exact h3 j c hj hc
  · rw [size_put ht, h2 i hi, hf, h4]; rfl
theorem MapIs.del (h : MapIs w mb N f k) {i : Int} {b : Nat} (hi : okI i) (hf : f i = some b) (ty : TypeId) :
    ∃ w', (Builtin.delete_ #[54, 3] ty #[.map (some mb), .int .i64 i]).run Try.prog w = .ok (.tuple #[]) w' ∧ MapIs w' mb N (fun j => if j = i then none else f j) (k - 1) ∧ w.grownBy w' (some mb) := by
  obtain ⟨D, h1, h2, h3, h4⟩ := h
  obtain ⟨w', hrun, ho, hg⟩ := h1.drop lawInt Try.underlying54 (intKey_ok hi) ty
  have ht := h1.tidy lawInt
  refine ⟨w', hrun, ⟨_, ho, fun j hj => ?_, fun j c hj hc => ?_, ?_⟩, hg.grown⟩
  · by_cases e : j = i
    · subst e; rw [has_del_same]; simp
    · rw [has_del_other (intKey_ne e), h2 j hj]; simp [e]
  · by_cases e : j = i
    · subst e; simp at hc
    · simp only [if_neg e] at hc
      rw [atKey_del_other (intKey_ne e)]
      exact h3 j c hj hc
  · have := size_del (k := intKey i) ht
    rw [h2 i hi, hf] at this
    simp at this
    omega
theorem mapIs_made (w : World) : MapIs (w.alloc (.map #[] 0)) w.heap.size 0 (fun _ => none) 0 := ⟨.map [], World.ownsMap_made _ _ _ _, fun _ _ => rfl, (fun _ _ _ h => by cases h), rfl⟩
end
end Go.Proofs.Ytidfokfnigncmaa
