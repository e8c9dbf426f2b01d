/- The walk of window.First. -/
import Derived.Test.YtoicclgcbemffaaWin3
import Derived.Maps.RangeWalk
namespace Go.Proofs.Ytoicclgcbemffaa
open Go.RowKit Go.Maps

theorem But.grown0 {g m : Nat} {w w' : World} (h : w.grownBy w' none) : But g m w w' := ⟨h.os, h.tape, h.output, h.size, fun i hi _ _ => h.block i hi (by simp)⟩
/-- Is some stream's window beyond the greatest number then? -/
def FirstBad (L : List (Int × Int)) (n : Int) : Prop := ∃ s x, look L s = some x ∧ 2147483647 - n < x
def WFst (g m : Nat) (W : World) (n all first : Int) (L : List (Int × Int)) (e : Ending) (w' : World) : Prop :=
  (FirstBad L n ∧ e = .returned (.int .i64 11) ∧ WB w' g m all first L ∧ But g m W w') ∨ (¬ FirstBad L n ∧ e = .returned (.int .i64 0) ∧ WB w' g m all n L ∧ But g m W w')
/-- What has come of the range: nothing beyond. -/
def FstRel (w : World) (m : Nat) (n : Int) (L : List (Int × Int)) (D : DataW Unit) (wr : World) : Prop :=
  ∃ left cnt, wr.ranges Try.prog 3 (plainElem Try.prog 2) m w.heap.size L.length D left cnt ∧ w.grownBy wr none ∧ ∀ s x, look L s = some x → left (key s) = false → x ≤ 2147483647 - n

set_option maxHeartbeats 400000 in
theorem wfirst_arg {g : Nat} (n : Int) (w : World) (h : n < 0 ∨ 2147483647 < n) :
    Calls Try.prog 27 #[.pointer (some ⟨g, 0, none⟩), .int .i64 n] w fun e w' => e = .returned (.int .i64 1) ∧ w = w' := by
  by_cases h1 : n < 0
  · clear h
    go_enter Try.func27, Try.ntmps27
    go_wp2; go_ret; exact ⟨rfl, rfl⟩
  · have h2 : 2147483647 < n := by omega
    clear h
    go_enter Try.func27, Try.ntmps27
    go_wp2; go_ret; exact ⟨rfl, rfl⟩

theorem hb_first {w : World} {g m : Nat} {all first : Int} {L : List (Int × Int)} (h : WB w g m all first L) (v : Int) : WB (w.setCell ⟨g, 1, none⟩ (.int .i64 v)) g m all v L := by
  have hb : (w.setCell ⟨g, 1, none⟩ (.int .i64 v)).heap[g]? = some (.cells #[.int .i64 all, .int .i64 v, .map (some m)] 63 (0, 0)) := by
    simp only [World.setCell, Array.getElem?_modify, if_true]
    rw [h.book]; rfl
  obtain ⟨D, ⟨es, cl, h1, h2⟩, h3⟩ := h.map
  refine ⟨hb, h.ne, h.once, D, ⟨es, cl, ?_, h2⟩, h3⟩
  rw [Below.heap_setCell _ _ _ _ (by have := h.ne; simp; omega)]
  exact h1

set_option maxRecDepth 100000 in
set_option maxHeartbeats 1000000 in
theorem wfirst_any {g m : Nat} {all first : Int} {L : List (Int × Int)} (n : Int) (w : World) (h : WB w g m all first L) (h0 : 0 ≤ n) (h1 : n ≤ 2147483647) :
    Calls Try.prog 27 #[.pointer (some ⟨g, 0, none⟩), .int .i64 n] w (WFst g m w n all first L) := by
  obtain ⟨c0, c1, c2⟩ := h.cells
  obtain ⟨D, hD, hM⟩ := h.map
  have HD := Lib.hid hD
  have HM := Lib.hid hM
  have H := Lib.hid h
  have hlt := h.lt
  clear hD hM h
  go_enter Try.func27, Try.ntmps27
  go_wp2_with (at_range; refine wpList_range_own _ rfl _ 61 rfl 3 2 lawK Try.underlying61 _ m L.length D rfl HD.out ?_; intro w0 hrg0 hg0 hs0)
  go_frame
  go_loopw [6] (fun _ wr => FstRel w m n L D wr) (fun _ wr => wr.rangeLeft m w.heap.size)
  case atStart => exact ⟨_, _, hrg0, hg0, fun s x hl hf => by rw [HM.out.has, hl] at hf; cases hf⟩
  case round =>
    obtain ⟨left, cnt, hrg, hgw, hall⟩ := hrel
    have HA := Lib.hid hall
    have HRG := Lib.hid hrg
    have hwb : WB wr g m all first L := H.out.keep (hgw.block g hlt.1 (by simp)) (hgw.block m hlt.2 (by simp))
    obtain ⟨k0, k1, k2⟩ := hwb.cells
    have kf := hwb.free 1
    have HWB := Lib.hid hwb
    have HG := Lib.hid hgw
    clear hall hwb hrg hgw hg0 hrg0
    go_wp2_with (at_next; refine wpList_next_ranges_ii _ rfl _ rfl 3 2 .i64 .i64 lawK Try.underlying3 Try.underlying2 m w.heap.size L.length _ _ _ rfl HRG.out ?_ ?_)
    · intro _ hl0
      have HL0 := Lib.hid hl0
      clear hl0
      go_wp2
      go_ret
      refine .inr ⟨fun ⟨s, x, hs, hx⟩ => ?_, rfl, hb_first HWB.out n, (But.grown0 HG.out).trans (But.setCell g m _ 1 _)⟩
      have := HA.out s x hs (HL0.out _)
      omega
    · intro x c w1 cnt1 hwx hwc hlx hat hrg1 hlt1 hg1 hs1 hen
      have hgw1 := HG.out.andThen hg1 (fun j hj => by cases hj; exact Or.inl (Nat.le_refl _))
      have hb1 : WB w1 g m all first L := H.out.keep (hgw1.block g hlt.1 (by simp)) (hgw1.block m hlt.2 (by simp))
      have hhas : Maps.has D (key x) = true := has_true_of_atKey hat
      have hlk : look L x = some c := by
        rw [HM.out.has] at hhas
        cases hq : look L x with
        | none => rw [hq] at hhas; cases hhas
        | some y =>
          have := (HM.out.at_ x y hq).symm.trans (hat (num 0))
          rw [num_inj this]
      have HF := Lib.hid (And.intro hlk (And.intro hat (And.intro hrg1 (And.intro hgw1 (And.intro hb1 hlx)))))
      have HE := Lib.hid hlt1
      clear hlk hat hrg1 hgw1 hb1 hhas hlx hwx hwc hg1 hs1 hlt1
      by_cases hbig : 2147483647 - n < c
      · go_wp2
        go_ret
        exact .inl ⟨⟨x, c, HF.out.1, hbig⟩, rfl, HF.out.2.2.2.2.1, But.grown0 HF.out.2.2.2.1⟩
      · go_wp2
        obtain ⟨f1, f2, f3, f4, f5, f6⟩ := HF.out
        go_roundw
        case rel =>
          refine ⟨_, cnt1, f3, f4, fun s y hs hf => ?_⟩
          by_cases hsx : s = x
          · subst hsx
            rw [f1] at hs
            injection hs with hs
            omega
          · refine HA.out s y hs ?_
            rw [show (key s).sameKey (Lit.int .i64 x) = false from sameKey_ne (key_ne hsx)] at hf
            simpa using hf
        case measure => rw [f3.left_eq, HRG.out.left_eq]; exact HE.out
end Go.Proofs.Ytoicclgcbemffaa
