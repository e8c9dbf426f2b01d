/- The walk of window.Grow. -/
import Derived.Test.YtoicclgcbemffaaWin2
namespace Go.Proofs.Ytoicclgcbemffaa
open Go.RowKit Go.Maps

def growF (all first : Int) (L : List (Int × Int)) (s n : Int) : Int :=
  if n < 1 ∨ 2147483647 < n then 1 else if (atF all first L s).2 = false then 4 else if 2147483647 - n < (atF all first L s).1 then 11 else 0

set_option maxHeartbeats 1000000 in
theorem wgrow_arg {g : Nat} (s n : Int) (w : World) (h : n < 1 ∨ 2147483647 < n) :
    Calls Try.prog 31 #[.pointer (some ⟨g, 0, none⟩), .int .i64 s, .int .i64 n] w fun e w' => e = .returned (.int .i64 1) ∧ w = w' := by
  by_cases h1 : n < 1
  · clear h
    go_enter Try.func31, Try.ntmps31
    go_wp2; go_ret; exact ⟨rfl, rfl⟩
  · have h2 : 2147483647 < n := by omega
    clear h
    go_enter Try.func31, Try.ntmps31
    go_wp2; go_ret; exact ⟨rfl, rfl⟩

set_option maxHeartbeats 1000000 in
theorem wgrow_no {g m : Nat} {all first : Int} {L : List (Int × Int)} (s n : Int) (w : World) (h : WB w g m all first L) (hi : WInv all first L) (hs : (Lit.int .i64 s).wf = true) (hf : growF all first L s n ≠ 0) :
    Calls Try.prog 31 #[.pointer (some ⟨g, 0, none⟩), .int .i64 s, .int .i64 n] w fun e w' => e = .returned (.int .i64 (growF all first L s n)) ∧ w = w' := by
  by_cases ha : n < 1 ∨ 2147483647 < n
  · have hg : growF all first L s n = 1 := by unfold growF; rw [if_pos ha]
    rw [hg]
    exact wgrow_arg s n w ha
  · have HA := Lib.hid (wat_any s w h hi hs)
    have h1 : 1 ≤ n := by omega
    have h2 : n ≤ 2147483647 := by omega
    have hg : growF all first L s n = if (atF all first L s).2 = false then 4 else if 2147483647 - n < (atF all first L s).1 then 11 else 0 := by unfold growF; rw [if_neg ha]
    rw [hg] at hf ⊢
    clear hg h hi hs ha
    generalize atF all first L s = r at *
    obtain ⟨y, ok⟩ := r
    simp only [pairV] at HA hf ⊢
    cases ok with
    | false =>
      simp only [if_true]
      clear hf
      go_enter Try.func31, Try.ntmps31
      go_wp2_with fail
      refine HA.out.mono ?_
      rintro e w1 ⟨rfl, rfl⟩
      go_wp2; go_ret; exact ⟨rfl, rfl⟩
    | true =>
      by_cases hy : 2147483647 - n < y
      · rw [if_neg (by simp), if_pos hy]
        clear hf
        go_enter Try.func31, Try.ntmps31
        go_wp2_with fail
        refine HA.out.mono ?_
        rintro e w1 ⟨rfl, rfl⟩
        go_wp2; go_ret; exact ⟨rfl, rfl⟩
      · rw [if_neg (by simp), if_neg hy] at hf
        exact absurd rfl hf

set_option maxHeartbeats 1000000 in
theorem wgrow_0 {g m : Nat} {all first : Int} {L : List (Int × Int)} (n : Int) (w : World) (h : WB w g m all first L) (hi : WInv all first L) (h1 : 1 ≤ n) (h2 : all + n ≤ 2147483647) :
    Calls Try.prog 31 #[.pointer (some ⟨g, 0, none⟩), .int .i64 0, .int .i64 n] w (WDid g m w 0 (all + n) first L) := by
  obtain ⟨c0, c1, c2⟩ := h.cells
  have d0 := h.free 0
  have HA := Lib.hid (wat_any 0 w h hi (by decide))
  have H := Lib.hid h
  have a0 := hi.all0
  clear h hi
  go_enter Try.func31, Try.ntmps31
  go_wp2_with fail
  refine HA.out.mono ?_
  rintro e w1 ⟨rfl, rfl⟩
  rw [show pairV (atF all first L 0) = .tuple #[.int .i64 all, .bool true] from rfl]
  go_wp2
  go_ret
  exact ⟨rfl, hb_store H.out _, But.setCell g m _ 0 _⟩

set_option maxRecDepth 100000 in
set_option maxHeartbeats 1000000 in
theorem wgrow_s {g m : Nat} {all first : Int} {L : List (Int × Int)} (s n x : Int) (w : World) (h : WB w g m all first L) (hi : WInv all first L) (hs : (Lit.int .i64 s).wf = true) (h0 : s ≠ 0) (hl : look L s = some x) (h1 : 1 ≤ n) (hn2 : n ≤ 2147483647) (h2 : first + x + n ≤ 2147483647) (hlen : L.length < 100000) :
    Calls Try.prog 31 #[.pointer (some ⟨g, 0, none⟩), .int .i64 s, .int .i64 n] w (WDid g m w 0 all first (putL L s (x + n))) := by
  obtain ⟨c0, c1, c2⟩ := h.cells
  have HA := Lib.hid (wat_any s w h hi hs)
  have e0 : (s == 0) = false := by simpa using h0
  have hf : pairV (atF all first L s) = .tuple #[.int .i64 (first + x), .bool true] := by unfold atF; rw [if_neg h0, hl]; rfl
  have HF := Lib.hid hf
  obtain ⟨D, hD, hM⟩ := h.map
  have HS := Lib.hid hs
  have HD := Lib.hid hD
  have HM := Lib.hid hM
  have H := Lib.hid h
  have HAT := Lib.hid (hM.at_ s x hl)
  obtain ⟨x1, x2⟩ := hi.lk hl
  have f0 := hi.first0
  have f1 := hi.first1
  clear hs hD hM h hf hl hi h0
  go_enter Try.func31, Try.ntmps31
  go_wp2_with fail
  refine HA.out.mono ?_
  rintro e w1 ⟨rfl, rfl⟩
  rw [HF.out]
  go_wp2_with (first
    | (at_lookup; refine wpList_lookup_own_int _ rfl _ _ 61 rfl 3 2 .i64 lawK Try.underlying61 Try.underlying2 (zeroE _) m _ D rfl HD.out _ (key s) rfl (keyOf_int_mk Try.underlying3 HS.out) ?_; intro c hat hwc; obtain rfl : c = x := num_inj (HAT.out.symm.trans hat); clear hat hwc)
    | (at_mapUpdate; refine wpList_mapUpdate_own _ rfl _ _ _ 61 rfl 3 2 lawK Try.underlying61 _ m _ D rfl HD.out (by unfold maxLen; omega) _ _ (key s) rfl rfl (keyOf_int_mk Try.underlying3 HS.out) (num _) [] (plainElem_int Try.underlying2 (WalkArith.wf_i64 (by omega))) ?_; intro w1 hown1 hgrow1))
  go_ret
  exact ⟨rfl, wb_put H.out HD.out HM.out hown1 (hb_g H.out hgrow1), But.grown hgrow1⟩
end Go.Proofs.Ytoicclgcbemffaa
