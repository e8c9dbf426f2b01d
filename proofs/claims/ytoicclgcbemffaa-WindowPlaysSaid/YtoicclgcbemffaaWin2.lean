/- The walks of window.Shut, Room, Spend, Grow. -/
import Derived.Test.YtoicclgcbemffaaWin
namespace Go.Proofs.Ytoicclgcbemffaa
open Go.RowKit Go.Maps

set_option maxHeartbeats 1000000 in
theorem wshut_any {g m : Nat} {all first : Int} {L : List (Int × Int)} (s : Int) (w : World) (h : WB w g m all first L) (hs : (Lit.int .i64 s).wf = true) :
    Calls Try.prog 28 #[.pointer (some ⟨g, 0, none⟩), .int .i64 s] w fun e w' => e = .returned (.tuple #[]) ∧ WB w' g m all first (delL L s) ∧ But g m w w' := by
  obtain ⟨c0, c1, c2⟩ := h.cells
  obtain ⟨D, hD, hM⟩ := h.map
  have HS := Lib.hid hs
  have HD := Lib.hid hD
  have HM := Lib.hid hM
  have H := Lib.hid h
  clear hs hD hM h
  go_enter Try.func28, Try.ntmps28
  go_wp2_with (at_delete; refine wpList_delete_own _ rfl _ _ 61 3 rfl 2 lawK Try.underlying61 _ m _ D rfl HD.out _ (key s) rfl (keyOf_int_mk Try.underlying3 HS.out) ?_; intro w1 hown1 hturn1)
  go_end0
  have hg := hturn1.grown
  refine ⟨rfl, ⟨hb_g H.out hg, H.out.ne, once_del H.out.once s, _, ?_, HM.out.del (HD.out.tidy lawK) H.out.once s⟩, But.grown hg⟩
  have := tight hown1
  rw [(HM.out.del (HD.out.tidy lawK) H.out.once s).size] at this
  exact this

theorem val_eq {k : IntKind} {a b : Int} (h : a = b) : Value.int k a = .int k b := by rw [h]
def roomF (all first : Int) (L : List (Int × Int)) (s : Int) : Int := if s = 0 then 0 else match look L s with
  | none => 0
  | some x => max 0 (min (first + x) all)

set_option maxHeartbeats 1000000 in
theorem wroom_any {g m : Nat} {all first : Int} {L : List (Int × Int)} (s : Int) (w : World) (h : WB w g m all first L) (hi : WInv all first L) (hs : (Lit.int .i64 s).wf = true) :
    Calls Try.prog 15 #[.pointer (some ⟨g, 0, none⟩), .int .i64 s] w fun e w' => e = .returned (.int .i64 (roomF all first L s)) ∧ w = w' := by
  obtain ⟨c0, c1, c2⟩ := h.cells
  have HA := Lib.hid (wat_any s w h hi hs)
  by_cases h0 : s = 0
  · subst h0
    clear hs h hi
    go_enter Try.func15, Try.ntmps15
    go_wp2_with fail
    refine HA.out.mono ?_
    rintro e w1 ⟨rfl, rfl⟩
    rw [show pairV (atF all first L 0) = .tuple #[.int .i64 all, .bool true] from rfl]
    go_wp2; go_ret; exact ⟨rfl, rfl⟩
  · have e0 : (s == 0) = false := by simpa using h0
    cases hl : look L s with
    | none =>
      have hf : pairV (atF all first L s) = .tuple #[.int .i64 0, .bool false] := by unfold atF; rw [if_neg h0, hl]; rfl
      have hr : roomF all first L s = 0 := by unfold roomF; rw [if_neg h0, hl]
      rw [hr]
      have HF := Lib.hid hf
      clear hf hr hl h0 hs h hi
      go_enter Try.func15, Try.ntmps15
      go_wp2_with fail
      refine HA.out.mono ?_
      rintro e w1 ⟨rfl, rfl⟩
      rw [HF.out]
      go_wp2; go_ret; exact ⟨rfl, rfl⟩
    | some x =>
      have hf : pairV (atF all first L s) = .tuple #[.int .i64 (first + x), .bool true] := by unfold atF; rw [if_neg h0, hl]; rfl
      have hr : roomF all first L s = max 0 (min (first + x) all) := by unfold roomF; rw [if_neg h0, hl]
      rw [hr]
      have HF := Lib.hid hf
      clear hf hr hl h0 hs h hi
      generalize first + x = y at *
      go_enter Try.func15, Try.ntmps15
      go_wp2_with fail
      refine HA.out.mono ?_
      rintro e w1 ⟨rfl, rfl⟩
      rw [HF.out]
      go_wp2
      all_goals (go_ret; exact ⟨ret_v (val_eq (by omega)), rfl⟩)

theorem room_le {all first : Int} {L : List (Int × Int)} {s x : Int} (h0 : s ≠ 0) (hl : look L s = some x) : roomF all first L s = max 0 (min (first + x) all) := by unfold roomF; rw [if_neg h0, hl]
theorem WInv.spend {all first : Int} {L : List (Int × Int)} (h : WInv all first L) {s x n : Int} (h0 : s ≠ 0) (hl : look L s = some x) (hn : 0 ≤ n) (hr : n ≤ roomF all first L s) : WInv (all - n) first (putL L s (x - n)) := by
  rw [room_le h0 hl] at hr
  have a0 := h.all0
  have a1 := h.all1
  have f0 := h.first0
  have f1 := h.first1
  obtain ⟨x1, x2⟩ := h.lk hl
  refine ⟨by omega, by omega, f0, f1, fun p hp => ?_⟩
  unfold putL upd at hp
  rw [hl] at hp
  simp only [Option.isSome_some, if_true, List.mem_map] at hp
  obtain ⟨q, hq, rfl⟩ := hp
  split
  · exact ⟨by simp only; omega, by simp only; omega⟩
  · exact h.off q hq

def spendF (all first : Int) (L : List (Int × Int)) (s n : Int) : Int := if s = 0 ∨ look L s = none then 4 else if n < 0 ∨ roomF all first L s < n then 11 else 0

theorem hb_store {w : World} {g m : Nat} {all first : Int} {L : List (Int × Int)} (h : WB w g m all first L) (v : Int) : WB (w.setCell ⟨g, 0, none⟩ (.int .i64 v)) g m v first L := by
  have hb : (w.setCell ⟨g, 0, none⟩ (.int .i64 v)).heap[g]? = some (.cells #[.int .i64 v, .int .i64 first, .map (some m)] 63 (0, 0)) := by
    simp only [World.setCell, Array.getElem?_modify, if_true]
    rw [h.book]; rfl
  obtain ⟨D, ⟨es, cl, h1, h2⟩, h3⟩ := h.map
  refine ⟨hb, h.ne, h.once, D, ⟨es, cl, ?_, h2⟩, h3⟩
  rw [Below.heap_setCell _ _ _ _ (by have := h.ne; simp; omega)]
  exact h1

/-- The book behind a store into its map. -/
theorem wb_put {w w1 : World} {g m : Nat} {all first : Int} {L : List (Int × Int)} {D : DataW Unit} {s y : Int} {n : Nat} (h : WB w g m all first L) (hD : w.ownsMap Try.prog 3 (plainElem Try.prog 2) m L.length D) (hM : MapIs D L)
    (h1 : w1.ownsMap Try.prog 3 (plainElem Try.prog 2) m n (D.put (key s) (num y)))
    (hg : w1.heap[g]? = some (.cells #[.int .i64 all, .int .i64 first, .map (some m)] 63 (0, 0))) : WB w1 g m all first (putL L s y) := by
  refine ⟨hg, h.ne, once_put h.once s y, _, ?_, hM.put (hD.tidy lawK) s y⟩
  have := tight h1
  rw [(hM.put (hD.tidy lawK) s y).size] at this
  exact this

set_option maxRecDepth 100000 in
set_option maxHeartbeats 1000000 in
theorem wspend_ok {g m : Nat} {all first : Int} {L : List (Int × Int)} (s n x : Int) (w : World) (h : WB w g m all first L) (hi : WInv all first L) (hs : (Lit.int .i64 s).wf = true) (h0 : s ≠ 0) (hl : look L s = some x) (hn : 0 ≤ n) (hr : n ≤ roomF all first L s) (hlen : L.length < 100000) :
    Calls Try.prog 30 #[.pointer (some ⟨g, 0, none⟩), .int .i64 s, .int .i64 n] w (WDid g m w 0 (all - n) first (putL L s (x - n))) := by
  obtain ⟨c0, c1, c2⟩ := h.cells
  have HA := Lib.hid (wat_any s w h hi hs)
  have HR := Lib.hid (wroom_any s w h hi hs)
  have e0 : (s == 0) = false := by simpa using h0
  have hf : pairV (atF all first L s) = .tuple #[.int .i64 (first + x), .bool true] := by unfold atF; rw [if_neg h0, hl]; rfl
  have HF := Lib.hid hf
  obtain ⟨D, hD, hM⟩ := h.map
  have HS := Lib.hid hs
  have HD := Lib.hid hD
  have HM := Lib.hid hM
  have H := Lib.hid h
  have HAT := Lib.hid (hM.at_ s x hl)
  have HL := Lib.hid hl
  obtain ⟨x1, x2⟩ := hi.lk hl
  have a0 := hi.all0
  have a1 := hi.all1
  have f0 := hi.first0
  have hrm : roomF all first L s ≤ 2147483647 := by rw [room_le h0 hl]; omega
  have hrl : n ≤ max 0 (min (first + x) all) := by rw [← room_le h0 hl]; exact hr
  have hn2 : n ≤ all := by omega
  generalize roomF all first L s = r at *
  clear hs hD hM h hf hl hi h0 hrl
  go_enter Try.func30, Try.ntmps30
  go_wp2_with fail
  refine HA.out.mono ?_
  rintro e w1 ⟨rfl, rfl⟩
  rw [HF.out]
  go_wp2_with fail
  refine HR.out.mono ?_
  rintro e w1 ⟨rfl, rfl⟩
  go_wp2_with (first
    | (at_lookup; refine wpList_lookup_own_int _ rfl _ _ 61 rfl 3 2 .i64 lawK Try.underlying61 Try.underlying2 (zeroE _) m _ D rfl HD.out _ (key s) rfl (keyOf_int_mk Try.underlying3 HS.out) ?_; intro c hat hwc; obtain rfl : c = x := num_inj (HAT.out.symm.trans hat); clear hat hwc)
    | (at_mapUpdate; refine wpList_mapUpdate_own _ rfl _ _ _ 61 rfl 3 2 lawK Try.underlying61 _ m _ D rfl HD.out (by unfold maxLen; omega) _ _ (key s) rfl rfl (keyOf_int_mk Try.underlying3 HS.out) (num _) [] (plainElem_int Try.underlying2 (WalkArith.wf_i64 (by omega))) ?_; intro w1 hown1 hgrow1; have hg1 := hb_g H.out hgrow1; have d0 : w1.cell? ⟨g, 0, none⟩ = some (.int .i64 all) := (by unfold World.cell?; rw [hg1]; rfl); have d1 : w1.frozen? ⟨g, 0, none⟩ = false := (by unfold World.frozen?; rw [hg1]; simp); have HG1 := Lib.hid hg1; clear hg1))
  go_ret
  exact ⟨rfl, hb_store (wb_put H.out HD.out HM.out hown1 HG1.out) _, (But.grown hgrow1).trans (But.setCell g m _ 0 _)⟩

/-- Spend that is refused. -/
theorem spendF_ok {all first : Int} {L : List (Int × Int)} {s n x : Int} (h0 : s ≠ 0) (hl : look L s = some x) (hn : 0 ≤ n) (hr : n ≤ roomF all first L s) : spendF all first L s n = 0 := by
  unfold spendF
  rw [hl, if_neg (by simp [h0]), if_neg (by omega)]

set_option maxHeartbeats 1000000 in
theorem wspend_no {g m : Nat} {all first : Int} {L : List (Int × Int)} (s n : Int) (w : World) (h : WB w g m all first L) (hi : WInv all first L) (hs : (Lit.int .i64 s).wf = true) (hf : spendF all first L s n ≠ 0) :
    Calls Try.prog 30 #[.pointer (some ⟨g, 0, none⟩), .int .i64 s, .int .i64 n] w fun e w' => e = .returned (.int .i64 (spendF all first L s n)) ∧ w = w' := by
  have HA := Lib.hid (wat_any s w h hi hs)
  have HR := Lib.hid (wroom_any s w h hi hs)
  by_cases h0 : s = 0
  · have hsp : spendF all first L s n = 4 := by unfold spendF; rw [if_pos (.inl h0)]
    rw [hsp]
    subst h0
    clear hsp hf hs h hi HR
    go_enter Try.func30, Try.ntmps30
    go_wp2_with fail
    refine HA.out.mono ?_
    rintro e w1 ⟨rfl, rfl⟩
    rw [show pairV (atF all first L 0) = .tuple #[.int .i64 all, .bool true] from rfl]
    go_wp2; go_ret; exact ⟨rfl, rfl⟩
  · have e0 : (s == 0) = false := by simpa using h0
    cases hl : look L s with
    | none =>
      have hp : pairV (atF all first L s) = .tuple #[.int .i64 0, .bool false] := by unfold atF; rw [if_neg h0, hl]; rfl
      have hsp : spendF all first L s n = 4 := by unfold spendF; rw [if_pos (.inr hl)]
      rw [hsp]
      have HF := Lib.hid hp
      clear hp hsp hf hl h0 hs h hi HR
      go_enter Try.func30, Try.ntmps30
      go_wp2_with fail
      refine HA.out.mono ?_
      rintro e w1 ⟨rfl, rfl⟩
      rw [HF.out]
      go_wp2; go_ret; exact ⟨rfl, rfl⟩
    | some x =>
      have hp : pairV (atF all first L s) = .tuple #[.int .i64 (first + x), .bool true] := by unfold atF; rw [if_neg h0, hl]; rfl
      have HF := Lib.hid hp
      have hno : ¬ (0 ≤ n ∧ n ≤ roomF all first L s) := fun hc => hf (spendF_ok h0 hl hc.1 hc.2)
      have hsp : spendF all first L s n = 11 := by
        unfold spendF
        rw [hl, if_neg (by simp [h0]), if_pos (by omega)]
      rw [hsp]
      generalize roomF all first L s = r at *
      clear hp hsp hf hl h0 hs h hi
      by_cases hn : n < 0
      · clear hno
        go_enter Try.func30, Try.ntmps30
        go_wp2_with fail
        refine HA.out.mono ?_
        rintro e w1 ⟨rfl, rfl⟩
        rw [HF.out]
        go_wp2; go_ret; exact ⟨rfl, rfl⟩
      · have hn' : 0 ≤ n := by omega
        have hrn : r < n := by omega
        clear hno hn
        go_enter Try.func30, Try.ntmps30
        go_wp2_with fail
        refine HA.out.mono ?_
        rintro e w1 ⟨rfl, rfl⟩
        rw [HF.out]
        go_wp2_with fail
        refine HR.out.mono ?_
        rintro e w1 ⟨rfl, rfl⟩
        go_wp2; go_ret; exact ⟨rfl, rfl⟩
end Go.Proofs.Ytoicclgcbemffaa
