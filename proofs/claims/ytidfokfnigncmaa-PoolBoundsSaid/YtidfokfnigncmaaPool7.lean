/- A swap of a place with itself; the walk of heap.Pop. -/
import Derived.Test.YtidfokfnigncmaaPool6
namespace Go.Proofs.Ytidfokfnigncmaa
open Go.RowKit

set_option maxRecDepth 100000 in
set_option maxHeartbeats 2000000 in
theorem rsame_raw {q o n c i b : Nat} {X : Lk} (w : World) (hi : i < n)
    (q0 : w.cell? ⟨q, o + i, none⟩ = some (ptrV b)) (f0 : ∀ j, w.frozen? ⟨q, j, none⟩ = false)
    (hb : w.heap[b]? = some (.cells (lkCells X i) 63 (0, 0))) (hqb : q ≠ b) :
    Calls Try.prog 51 #[.slice (some ⟨q, o, none⟩) n c, .int .i64 i, .int .i64 i] w fun e w' => e = .returned (.tuple #[]) ∧
      AlikeT w' ((((w.setCell ⟨q, o + i, none⟩ (ptrV b)).setCell ⟨q, o + i, none⟩ (ptrV b)).setCell ⟨b, 3, none⟩ (.int .i64 i)).setCell ⟨b, 3, none⟩ (.int .i64 i)) := by
  have i0 : (0 : Int) ≤ i := by omega
  have i1 : (i : Int) < n := by omega
  obtain ⟨-, -, -, x3⟩ := lk_cells hb
  have g0 := lk_free hb 3
  have f1 := f0 (o + i)
  unfold ptrV at *
  clear hb f0
  go_enter Try.func51, Try.ntmps51
  go_wp2
  go_region
  all_goals
    go_wp2
    go_region
    all_goals
      go_wp2
      go_end0
      exact ⟨rfl, rfl, rfl, rfl, rfl⟩
theorem rsame_any {g mb c i : Nat} {B : Bk} {A : Option Addr} {H : List Nat} {m : Nat → Lk} (w : World) (h : HM w g mb B A c H m) (hi : i < H.length) :
    Calls Try.prog 51 #[.slice A H.length c, .int .i64 i, .int .i64 i] w (HStep w g mb B A c H H m (.tuple #[])) := by
  obtain ⟨q, o, b, rfl, hq, hb, q0⟩ := h.at_ hi
  have hgq := (h.apart _ rfl).1
  have hqH : q ∉ H := (h.apart _ rfl).2
  have hbH := List.mem_of_getElem? hb
  have hqb : q ≠ b := fun e => hqH (e ▸ hbH)
  have hgb : g ≠ b := fun e => h.gH (e ▸ hbH)
  have hf : ∀ j, w.frozen? ⟨q, j, none⟩ = false := by
    rcases h.row.2 with ⟨h1, _⟩ | ⟨g', o', cap, cur, hv, hbl, _⟩
    · cases h1
    · injection hv with e1
      injection e1 with e1
      injection e1 with e1
      subst e1
      intro j
      unfold World.frozen?; rw [hbl]; simp
  have x := h.lk i b hb
  refine (rsame_raw w hi q0 hf x hqb).mono ?_
  rintro e w' ⟨rfl, ha⟩
  have hother : ∀ j, j ≠ q → j ≠ b → w'.heap[j]? = w.heap[j]? := fun j h1 h2 => by rw [ha.1, set_other _ h2, set_other _ h2, set_other _ h1, set_other _ h1]
  have hmap : (H.map ptrV).set i (ptrV b) = H.map ptrV := by
    apply List.ext_getElem?
    intro j
    rw [List.getElem?_set]
    by_cases e : i = j
    · subst e
      rw [if_pos rfl, List.getElem?_map, hb, if_pos (by simpa using hi)]; rfl
    · rw [if_neg e]
  have hblk : w'.heap[b]? = some (.cells (lkCells (m b) i) 63 (0, 0)) := by
    have h1 := ((set_other (w := w.setCell ⟨q, o + i, none⟩ (ptrV b)) (p := q) (j := o + i) (ptrV b) (Ne.symm hqb)).trans (set_other _ (Ne.symm hqb))).trans x
    rw [ha.1, set_block (set_block h1 _) _]; rfl
  refine ⟨rfl, ⟨?_, ?_, ?_, h.gH, h.apart, h.nodup⟩, ?_⟩
  · rw [hother g (Ne.symm hgq) hgb]; exact h.book
  · have h1 := (h.row.set hi (ptrV b)).set hi (ptrV b)
    rw [hmap, hmap] at h1
    refine h1.keep fun q' hq' => ?_
    simp only [Value.ownBlock, Option.some.injEq] at hq'
    subst hq'
    rw [ha.1, set_other _ hqb, set_other _ hqb]
  · intro j d hd
    by_cases e : d = b
    · subst e
      obtain ⟨l1, e1⟩ := List.getElem?_eq_some_iff.1 hb
      obtain ⟨l2, e2⟩ := List.getElem?_eq_some_iff.1 hd
      have : j = i := (List.getElem_inj h.nodup).1 (e2.trans e1.symm)
      subst this
      exact hblk
    · rw [hother d (fun e3 => hqH (e3 ▸ List.mem_of_getElem? hd)) e]
      exact h.lk j d hd
  · exact ha.kept (((((Kept.refl _ _).setCell (.inl ⟨_, rfl, rfl⟩) _ _).setCell (.inl ⟨_, rfl, rfl⟩) _ _).setCell (.inr hbH) _ _).setCell (.inr hbH) _ _)
/-- A swap of the first with the last. -/
theorem rswap_first {g mb c n b : Nat} {B : Bk} {A : Option Addr} {H : List Nat} {m : Nat → Lk} (w : World) (h : HM w g mb B A c H m) (hN : H.length = n + 1) (hb : H[0]? = some b) (hh : IsHeap m H (n + 1)) :
    Calls Try.prog 51 #[.slice A (n + 1) c, .int .i64 0, .int .i64 n] w fun e w' => e = .returned (.tuple #[]) ∧ ∃ H', H'.Perm H ∧ H'[n]? = some b ∧ DnInv m H' n 0 ∧ HM w' g mb B A c H' m ∧ Kept (hfoot A H) w w' := by
  by_cases hz : n = 0
  · subst hz
    have := rsame_any (i := 0) w h (by omega)
    rw [hN] at this
    refine this.mono ?_
    rintro e w' ⟨rfl, hm, hk⟩
    exact ⟨rfl, H, List.Perm.refl _, hb, ⟨fun k _ hk => by omega, fun k _ hk => by omega, .inl fun h => by omega⟩, hm, hk⟩
  · have := rswap_any (i := 0) (k := n) w h (by omega) (by omega) (by omega)
    rw [hN] at this
    refine this.mono ?_
    rintro e w' ⟨rfl, hm, hk⟩
    refine ⟨rfl, _, swapL_perm H (by omega) (by omega), ?_, IsHeap.remove hh hN.symm (by omega), hm, hk⟩
    exact swapL_at H hb (List.getElem?_eq_getElem (by omega))
set_option maxRecDepth 100000 in
set_option maxHeartbeats 4000000 in
theorem hpop_any {g mb c n : Nat} {B : Bk} {A : Option Addr} {H : List Nat} {m : Nat → Lk} {b : Nat} (w : World) (h : HM w g mb B A c H m) (hh : IsHeap m H H.length) (hb : H[0]? = some b) (hN : H.length = n + 1) (hn : n + 1 ≤ 549755813888) :
    Calls Try.prog 28 #[restI g] w (HRemPost w g mb B A c H m b) := by
  obtain ⟨-, -, -, -, c4⟩ := h.cells
  rw [hN] at c4 hh
  have HSW := Lib.hid (rswap_first w h hN hb hh)
  have HN := Lib.hid hN
  have hml : (method 197 66 (.pointer (some ⟨g, 4, none⟩)) "Len").run Try.prog w = .ok (50, .slice A (n + 1) c) w := meth_len 196 c4
  have hmp : ∀ w, (method 197 66 (.pointer (some ⟨g, 4, none⟩)) "Pop").run Try.prog w = .ok (52, .pointer (some ⟨g, 4, none⟩)) w := fun w => meth_pop 196 _ _
  have hms : (method 197 66 (.pointer (some ⟨g, 4, none⟩)) "Swap").run Try.prog w = .ok (51, .slice A (n + 1) c) w := meth_swap 196 c4
  clear h hh hb hN
  unfold restI
  go_enter Try.func28, Try.ntmps28
  go_wp2_with fail
  refine (rlen_any A (n + 1) c w).mono ?_
  rintro e w2 ⟨rfl, rfl⟩
  go_wp2_with fail
  refine HSW.out.mono ?_
  rintro e w3 ⟨rfl, H3, hp3, hat3, hdn3, hm3, hk3⟩
  have H3' := Lib.hid (And.intro hp3 (And.intro hat3 (And.intro hdn3 (And.intro hm3 hk3))))
  have HL3 := Lib.hid (hp3.length_eq.trans HN.out)
  clear hp3 hat3 hdn3 hm3 hk3 hml hms c4
  go_wp2_with fail
  refine (down_any (n := n) (i0 := 0) w3 H3'.out.2.2.2.1 HL3.out (by omega) (by omega) H3'.out.2.2.1 (by omega)).mono ?_
  rintro e w4 ⟨bv, H4, rfl, hp4, hd4, hm4, hk4, ht4, hf4⟩
  have hheap : IsHeap m H4 n := by
    cases bv with
    | true => exact ht4 rfl
    | false =>
      obtain ⟨e1, e2⟩ := hf4 rfl
      subst e1
      exact H3'.out.2.2.1.heap e2 (fun h => by omega)
  have H4' := Lib.hid (And.intro hp4 (And.intro hd4 (And.intro hm4 (And.intro hk4 hheap))))
  have HKK : Hid (Kept (gfoot g A H) w w4) := Lib.hid (kept_g (H3'.out.2.2.2.2.same (hk4.mono fun q hq => hfoot_perm H3'.out.1 hq)))
  clear hp4 hd4 hm4 hk4 ht4 hf4 hheap
  go_wp2_with fail
  refine (rpop_n w4 H4'.out.2.2.1 (H4'.out.1.length_eq.trans HL3.out) ((drop_get H4'.out.2.1).trans H3'.out.2.1) (by omega)).mono ?_
  rintro e w5 hpp
  have HPP := Lib.hid hpp
  obtain ⟨rfl, -⟩ := hpp
  go_wp2_with fail
  go_ret
  exact rem_end (H4'.out.1.trans H3'.out.1) (H4'.out.1.length_eq.trans HL3.out) ((drop_get H4'.out.2.1).trans H3'.out.2.1) H4'.out.2.2.2.2 HKK.out HPP.out
end Go.Proofs.Ytidfokfnigncmaa
