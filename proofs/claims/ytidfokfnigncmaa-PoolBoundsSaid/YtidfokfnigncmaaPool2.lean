/- The walk of rest.Swap. -/
import Derived.Test.YtidfokfnigncmaaPoolM
import Derived.ChangeAlike
namespace Go.Proofs.Ytidfokfnigncmaa
open Go.RowKit

def AlikeT (w' w : World) : Prop := w'.heap = w.heap ∧ w'.os = w.os ∧ w'.output = w.output ∧ w'.tape = w.tape
theorem AlikeT.kept {w w' w2 : World} {F : Nat → Prop} (h : AlikeT w' w2) (hk : Kept F w w2) : Kept F w w' :=
  ⟨h.2.1.trans hk.os, h.2.2.2.trans hk.tape, h.2.2.1.trans hk.output, by rw [h.1]; exact hk.size, fun k h1 h2 => by rw [h.1]; exact hk.block k h1 h2⟩
theorem set_block {w : World} {q j : Nat} {cur : Array Value} {e : TypeId} {p : Nat × Nat} (h : w.heap[q]? = some (.cells cur e p)) (u : Value) : (w.setCell ⟨q, j, none⟩ u).heap[q]? = some (.cells (cur.setIfInBounds j u) e p) := by
  simp only [World.setCell, Array.getElem?_modify, if_true]
  rw [h]; rfl
theorem set_other {w : World} {p k j : Nat} (u : Value) (h : k ≠ p) : (w.setCell ⟨p, j, none⟩ u).heap[k]? = w.heap[k]? := Below.heap_setCell _ _ _ _ (by simpa using h)
theorem Lies.set {w : World} {q o c n i : Nat} {e : TypeId} {xs : List Value} (h : Lies w e 1 (.slice (some ⟨q, o, none⟩) n c) n xs) (hi : i < n) (u : Value) :
    Lies (w.setCell ⟨q, o + i, none⟩ u) e 1 (.slice (some ⟨q, o, none⟩) n c) n (xs.set i u) := by
  refine ⟨by rw [List.length_set]; exact h.1, ?_⟩
  rcases h.2 with ⟨h1, _⟩ | ⟨g, o', cap, cur, hv, hb, hn, hc, hs, hcell⟩
  · cases h1
  · injection hv with e1 e2 e3
    injection e1 with e1
    injection e1 with e1 e4
    subst e1 e3 e4
    refine .inr ⟨q, o, c, cur.setIfInBounds (o + i) u, rfl, set_block hb u, hn, hc, by simpa using hs, fun j hj => ?_⟩
    have h0 := hcell j hj
    unfold World.cell? at h0 ⊢
    rw [hb] at h0
    rw [set_block hb u]
    simp only [Option.isSome_none, Bool.false_eq_true, if_false] at h0 ⊢
    rw [Array.getElem?_setIfInBounds, List.getElem?_set]
    have hl := h.1
    by_cases e : i = j
    · subst e
      rw [if_pos rfl, if_pos rfl, if_pos (by omega), if_pos (by omega)]
    · rw [if_neg (by omega), if_neg e]
      exact h0
section
variable {w w' : World} {g mb c : Nat} {B : Bk} {A : Option Addr} {H : List Nat} {m : Nat → Lk}
theorem swapL_map (H : List Nat) {i k b b' : Nat} (hb : H[i]? = some b) (hb' : H[k]? = some b') : ((H.map ptrV).set i (ptrV b')).set k (ptrV b) = (swapL H i k).map ptrV := by
  unfold swapL
  rw [List.getD_eq_getElem?_getD, List.getD_eq_getElem?_getD, hb, hb', List.map_set, List.map_set]; rfl
theorem swapL_some (H : List Nat) {i k b b' : Nat} (hb : H[i]? = some b) (hb' : H[k]? = some b') (j : Nat) : (swapL H i k)[j]? = if j = k then some b else if j = i then some b' else H[j]? := by
  have hi := (List.getElem?_eq_some_iff.1 hb).1
  have hk := (List.getElem?_eq_some_iff.1 hb').1
  unfold swapL
  rw [List.getD_eq_getElem?_getD, List.getD_eq_getElem?_getD, hb, hb']
  simp only [Option.getD_some, List.getElem?_set, List.length_set]
  by_cases e : j = k
  · subst e; simp [hk]
  · rw [if_neg (fun h => e h.symm), if_neg e]
    by_cases e2 : j = i
    · subst e2; simp [hi]
    · rw [if_neg (fun h => e2 h.symm), if_neg e2]
end
set_option maxRecDepth 100000 in
set_option maxHeartbeats 2000000 in
theorem rswap_raw {q o n c i k b b' : Nat} {pi pk : Int} {X Y : Lk} (w : World) (hik : i ≠ k) (hi : i < n) (hk : k < n)
    (q0 : w.cell? ⟨q, o + i, none⟩ = some (ptrV b)) (q1 : w.cell? ⟨q, o + k, none⟩ = some (ptrV b')) (f0 : ∀ j, w.frozen? ⟨q, j, none⟩ = false)
    (hb : w.heap[b]? = some (.cells (lkCells X pi) 63 (0, 0))) (hb' : w.heap[b']? = some (.cells (lkCells Y pk) 63 (0, 0))) (hbb : b ≠ b') (hqb : q ≠ b) (hqb' : q ≠ b') :
    Calls Try.prog 51 #[.slice (some ⟨q, o, none⟩) n c, .int .i64 i, .int .i64 k] w fun e w' => e = .returned (.tuple #[]) ∧
      AlikeT w' ((((w.setCell ⟨q, o + i, none⟩ (ptrV b')).setCell ⟨q, o + k, none⟩ (ptrV b)).setCell ⟨b', 3, none⟩ (.int .i64 i)).setCell ⟨b, 3, none⟩ (.int .i64 k)) := by
  have i0 : (0 : Int) ≤ i := by omega
  have i1 : (i : Int) < n := by omega
  have j0 : (0 : Int) ≤ k := by omega
  have j1 : (k : Int) < n := by omega
  obtain ⟨-, -, -, x3⟩ := lk_cells hb
  obtain ⟨-, -, -, y3⟩ := lk_cells hb'
  have g0 := lk_free hb 3
  have g1 := lk_free hb' 3
  have f1 := f0 (o + i)
  have f2 := f0 (o + k)
  unfold ptrV at *
  have hne : o + i ≠ o + k := by omega
  clear hb hb' f0
  go_enter Try.func51, Try.ntmps51
  go_wp2
  go_region
  all_goals
    go_wp2
    go_region
    all_goals
      go_wp2
      go_end0
      exact ⟨rfl, rfl, rfl, rfl, rfl⟩
/-- What a change of the heap hands back. -/
def HStep (W : World) (g mb : Nat) (B : Bk) (A : Option Addr) (c : Nat) (H H' : List Nat) (m : Nat → Lk) (v : Value) (e : Ending) (w' : World) : Prop := e = .returned v ∧ HM w' g mb B A c H' m ∧ Kept (hfoot A H) W w'
theorem rswap_any {g mb c i k : Nat} {B : Bk} {A : Option Addr} {H : List Nat} {m : Nat → Lk} (w : World) (h : HM w g mb B A c H m) (hik : i ≠ k) (hi : i < H.length) (hk : k < H.length) :
    Calls Try.prog 51 #[.slice A H.length c, .int .i64 i, .int .i64 k] w (HStep w g mb B A c H (swapL H i k) m (.tuple #[])) := by
  obtain ⟨q, o, b, rfl, hq, hb, q0⟩ := h.at_ hi
  obtain ⟨q', o', b', hA, -, hb', q1⟩ := h.at_ hk
  injection hA with hA
  injection hA with e1 e2
  subst e1 e2
  have hgq := (h.apart _ rfl).1
  have hqH : q ∉ H := (h.apart _ rfl).2
  have hbH := List.mem_of_getElem? hb
  have hbH' := List.mem_of_getElem? hb'
  have hbb : b ≠ b' := fun e => by
    subst e
    obtain ⟨l1, e1⟩ := List.getElem?_eq_some_iff.1 hb
    obtain ⟨l2, e2⟩ := List.getElem?_eq_some_iff.1 hb'
    exact hik ((List.getElem_inj h.nodup).1 (e1.trans e2.symm))
  have hqb : q ≠ b := fun e => hqH (e ▸ hbH)
  have hqb' : q ≠ b' := fun e => hqH (e ▸ hbH')
  have hgb : g ≠ b := fun e => h.gH (e ▸ hbH)
  have hgb' : g ≠ b' := fun e => h.gH (e ▸ hbH')
  have hf : ∀ j, w.frozen? ⟨q, j, none⟩ = false := by
    rcases h.row.2 with ⟨h1, _⟩ | ⟨g', o', cap, cur, hv, hbl, _⟩
    · cases h1
    · injection hv with e1
      injection e1 with e1
      injection e1 with e1
      subst e1
      intro j
      unfold World.frozen?; rw [hbl]; simp
  have x := h.lk i b hb
  have y := h.lk k b' hb'
  refine (rswap_raw w hik hi hk q0 q1 hf x y hbb hqb hqb').mono ?_
  rintro e w' ⟨rfl, ha⟩
  have hother : ∀ j, j ≠ q → j ≠ b → j ≠ b' → w'.heap[j]? = w.heap[j]? := fun j h1 h2 h3 => by rw [ha.1, set_other _ h2, set_other _ h3, set_other _ h1, set_other _ h1]
  refine ⟨rfl, ⟨?_, ?_, ?_, ?_, ?_, ?_⟩, ?_⟩
  · rw [hother g (Ne.symm hgq) hgb hgb', swapL_length]; exact h.book
  · rw [swapL_length, ← swapL_map H hb hb']
    have h1 := (h.row.set hi (ptrV b')).set hk (ptrV b)
    refine h1.keep fun q' hq' => ?_
    simp only [Value.ownBlock, Option.some.injEq] at hq'
    subst hq'
    rw [ha.1, set_other _ hqb, set_other _ hqb']
  · intro j d hd
    rw [swapL_some H hb hb' j] at hd
    by_cases e : j = k
    · subst e
      rw [if_pos rfl] at hd
      injection hd with hd
      subst hd
      have := set_block (j := 3) (((set_other (w := (w.setCell ⟨q, o + i, none⟩ (ptrV b')).setCell ⟨q, o + j, none⟩ (ptrV b)) (p := b') (j := 3) (.int .i64 (i : Int)) hbb).trans ((set_other _ (Ne.symm hqb)).trans (set_other _ (Ne.symm hqb)))).trans x) (.int .i64 (j : Int))
      rw [ha.1, this]; rfl
    · rw [if_neg e] at hd
      by_cases e2 : j = i
      · subst e2
        rw [if_pos rfl] at hd
        injection hd with hd
        subst hd
        have := set_block (j := 3) (((set_other (w := w.setCell ⟨q, o + j, none⟩ (ptrV b')) (p := q) (j := o + k) (ptrV b) (Ne.symm hqb')).trans (set_other _ (Ne.symm hqb'))).trans y) (.int .i64 (j : Int))
        rw [ha.1, set_other _ (Ne.symm hbb), this]; rfl
      · rw [if_neg e2] at hd
        have hdb : d ≠ b := fun e3 => by
          subst e3
          obtain ⟨l1, e1⟩ := List.getElem?_eq_some_iff.1 hb
          obtain ⟨l2, e4⟩ := List.getElem?_eq_some_iff.1 hd
          exact e2 ((List.getElem_inj h.nodup).1 (e4.trans e1.symm))
        have hdb' : d ≠ b' := fun e3 => by
          subst e3
          obtain ⟨l1, e1⟩ := List.getElem?_eq_some_iff.1 hb'
          obtain ⟨l2, e4⟩ := List.getElem?_eq_some_iff.1 hd
          exact e ((List.getElem_inj h.nodup).1 (e4.trans e1.symm))
        rw [hother d (fun e3 => hqH (e3 ▸ List.mem_of_getElem? hd)) hdb hdb']
        exact h.lk j d hd
  · exact fun hg => h.gH ((swapL_perm H hi hk).mem_iff.1 hg)
  · intro a ha'
    refine ⟨(h.apart a ha').1, fun hm => (h.apart a ha').2 ((swapL_perm H hi hk).mem_iff.1 hm)⟩
  · exact (swapL_perm H hi hk).nodup_iff.2 h.nodup
  · exact ha.kept (((((Kept.refl _ _).setCell (.inl ⟨_, rfl, rfl⟩) _ _).setCell (.inl ⟨_, rfl, rfl⟩) _ _).setCell (.inr hbH') _ _).setCell (.inr hbH) _ _)
end Go.Proofs.Ytidfokfnigncmaa
