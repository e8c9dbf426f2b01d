/- The walks of window.New, Open, Shut, At, Len. -/
import Derived.Test.YtoicclgcbemffaaChecked
import Derived.Test.YtoicclgcbemffaaWinPlain
import Derived.Maps.OwnOps
namespace Go.Proofs.Ytoicclgcbemffaa
open Go.RowKit Go.Maps

theorem lawK : Keyed Try.prog 3 := int_keyed Try.underlying3
theorem zeroE (w : World) : (zeroValue 2).run Try.prog w = .ok (.int .i64 0) w := by kernel_rfl

theorem heapNew (w : World) (o : Obj) : (w.alloc o).heap[w.heap.size]? = some o := by
  show (w.heap.push o)[w.heap.size]? = _
  simp
/-- Every block but two is as it was. -/
structure But (g m : Nat) (w w' : World) : Prop where
  os : w'.os = w.os
  tape : w'.tape = w.tape
  output : w'.output = w.output
  size : w.heap.size ≤ w'.heap.size
  block : ∀ k, k < w.heap.size → k ≠ g → k ≠ m → w'.heap[k]? = w.heap[k]?
theorem But.refl (g m : Nat) (w : World) : But g m w w := ⟨rfl, rfl, rfl, Nat.le_refl _, fun _ _ _ _ => rfl⟩
theorem But.trans {g m : Nat} {a b c : World} (h : But g m a b) (k : But g m b c) : But g m a c :=
  ⟨k.os.trans h.os, k.tape.trans h.tape, k.output.trans h.output, Nat.le_trans h.size k.size, fun i hi h1 h2 => (k.block i (Nat.lt_of_lt_of_le hi h.size) h1 h2).trans (h.block i hi h1 h2)⟩
theorem But.grown {g m : Nat} {w w' : World} (h : w.grownBy w' (some m)) : But g m w w' := ⟨h.os, h.tape, h.output, h.size, fun i hi _ h2 => h.block i hi (by simpa using h2)⟩
theorem But.below {g m B : Nat} {w w' : World} (h : But g m w w') (h1 : B ≤ g) (h2 : B ≤ m) (hs : B ≤ w.heap.size) : Below B w w' :=
  ⟨h.os, h.tape, h.output, h.size, fun k hk => h.block k (by omega) (by omega) (by omega)⟩
theorem But.setCell (g m : Nat) (w : World) (o : Nat) (v : Value) : But g m w (w.setCell ⟨g, o, none⟩ v) :=
  ⟨rfl, rfl, rfl, by simp [World.setCell], fun k _ h1 _ => Below.heap_setCell _ _ _ _ h1⟩

/-- A book in memory: its block g, its map's block m; what it holds. -/
structure WB (w : World) (g m : Nat) (all first : Int) (L : List (Int × Int)) : Prop where
  book : w.heap[g]? = some (.cells #[.int .i64 all, .int .i64 first, .map (some m)] 63 (0, 0))
  ne : g ≠ m
  once : Once L
  map : ∃ D : DataW Unit, w.ownsMap Try.prog 3 (plainElem Try.prog 2) m L.length D ∧ MapIs D L

section
variable {w w' : World} {g m : Nat} {all first : Int} {L : List (Int × Int)}
theorem tight {P : Program} {H : Type} {k : TypeId} {R : Value → Option (DataW H × List MemPlace)} {b n : Nat} {D : DataW H} (h : w.ownsMap P k R b n D) : w.ownsMap P k R b (Maps.size D) D := by
  obtain ⟨es, cl, h1, h2, _, h4⟩ := h
  refine ⟨es, cl, h1, h2, ?_, h4⟩
  rw [h4, Maps.size_eq, length_read]
  exact Nat.le_refl _
theorem WB.lt (h : WB w g m all first L) : g < w.heap.size ∧ m < w.heap.size := by
  obtain ⟨D, hD, _⟩ := h.map
  exact ⟨(Array.getElem?_eq_some_iff.1 h.book).1, hD.lt⟩
theorem WB.keep (h : WB w g m all first L) (hg : w'.heap[g]? = w.heap[g]?) (hm : w'.heap[m]? = w.heap[m]?) : WB w' g m all first L := by
  obtain ⟨D, ⟨es, cl, h1, h2⟩, h3⟩ := h.map
  exact ⟨hg.trans h.book, h.ne, h.once, D, ⟨es, cl, hm.trans h1, h2⟩, h3⟩
theorem WB.below {B : Nat} (h : WB w g m all first L) (hb : Below B w w') (h1 : g < B) (h2 : m < B) : WB w' g m all first L := h.keep (hb.block g h1) (hb.block m h2)
theorem WB.cells (h : WB w g m all first L) : w.cell? ⟨g, 0, none⟩ = some (.int .i64 all) ∧ w.cell? ⟨g, 1, none⟩ = some (.int .i64 first) ∧ w.cell? ⟨g, 2, none⟩ = some (.map (some m)) := by
  refine ⟨?_, ?_, ?_⟩ <;> (unfold World.cell?; rw [h.book]; rfl)
theorem hb_g (h : WB w g m all first L) (hg : w.grownBy w' (some m)) : w'.heap[g]? = some (.cells #[.int .i64 all, .int .i64 first, .map (some m)] 63 (0, 0)) :=
  (hg.block g h.lt.1 (by have := h.ne; simpa using this)).trans h.book
theorem WB.free (h : WB w g m all first L) (o : Nat) : w.frozen? ⟨g, o, none⟩ = false := by
  unfold World.frozen?; rw [h.book]; simp
end

set_option maxHeartbeats 400000 in
theorem wnew_bad (n : Int) (w : World) (h : n < 0 ∨ 2147483647 < n) : Calls Try.prog 12 #[.int .i64 n] w fun e w' => e = .returned (.tuple #[.pointer none, .int .i64 1]) ∧ w = w' := by
  rcases h with h | h
  · go_enter Try.func12, Try.ntmps12
    go_wp2; go_ret2; exact ⟨rfl, rfl⟩
  · have h0 : ¬ n < 0 := by omega
    go_enter Try.func12, Try.ntmps12
    go_wp2; go_ret2; exact ⟨rfl, rfl⟩

def WNew (n : Int) (W : World) (e : Ending) (w' : World) : Prop := ∃ g m, e = .returned (.tuple #[.pointer (some ⟨g, 0, none⟩), .int .i64 0]) ∧ WB w' g m 65535 n [] ∧ W.heap.size ≤ g ∧ W.heap.size ≤ m ∧ Below W.heap.size W w'
set_option maxHeartbeats 400000 in
theorem wnew_any (n : Int) (w : World) (h0 : 0 ≤ n) (h1 : n ≤ 2147483647) : Calls Try.prog 12 #[.int .i64 n] w (WNew n w) := by
  have hmm := @run_makeMap Try.prog
  go_enter Try.func12, Try.ntmps12
  go_wp2
  go_ret2
  refine ⟨w.heap.size + 1, w.heap.size, rfl, ⟨?_, by omega, List.nodup_nil, .map [], ?_, MapIs.empty⟩, by omega, by omega, ((Below.refl _ _).alloc (Nat.le_refl _) _).alloc (by simp) _⟩
  · have hn := heapNew (w.alloc (.map #[] 0)) (.cells #[.int .i64 65535, .int .i64 n, .map (some w.heap.size)] 63)
    rw [show (w.alloc (.map #[] 0)).heap.size = w.heap.size + 1 by simp] at hn
    exact hn
  · exact (World.ownsMap_made w _ _ _).alloc _

/-- What the numbers of a book may be. -/
structure WInv (all first : Int) (L : List (Int × Int)) : Prop where
  all0 : 0 ≤ all
  all1 : all ≤ 2147483647
  first0 : 0 ≤ first
  first1 : first ≤ 2147483647
  off : ∀ p ∈ L, -2147483647 ≤ p.2 ∧ first + p.2 ≤ 2147483647
theorem WInv.lk {all first : Int} {L : List (Int × Int)} (h : WInv all first L) {s x : Int} (hl : look L s = some x) : -2147483647 ≤ x ∧ first + x ≤ 2147483647 := by
  unfold look at hl
  cases hf : L.find? (fun p => p.1 == s) with
  | none => rw [hf] at hl; cases hl
  | some p =>
    rw [hf] at hl
    injection hl with hl
    have := h.off p (List.mem_of_find?_eq_some hf)
    simp only at hl
    rw [hl] at this
    exact this

def atF (all first : Int) (L : List (Int × Int)) (s : Int) : Int × Bool := if s = 0 then (all, true) else match look L s with
  | none => (0, false)
  | some x => (first + x, true)
theorem num_inj {x c : Int} (h : num x = .lit (.int .i64 c)) : c = x := by unfold num at h; simp at h; exact h.symm
def pairV (r : Int × Bool) : Value := .tuple #[.int .i64 r.1, .bool r.2]

set_option maxHeartbeats 400000 in
theorem wat_any {g m : Nat} {all first : Int} {L : List (Int × Int)} (s : Int) (w : World) (h : WB w g m all first L) (hi : WInv all first L) (hs : (Lit.int .i64 s).wf = true) :
    Calls Try.prog 14 #[.pointer (some ⟨g, 0, none⟩), .int .i64 s] w fun e w' => e = .returned (pairV (atF all first L s)) ∧ w = w' := by
  obtain ⟨c0, c1, c2⟩ := h.cells
  by_cases h0 : s = 0
  · subst h0
    clear hs
    go_enter Try.func14, Try.ntmps14
    go_wp2; go_ret2; exact ⟨rfl, rfl⟩
  · obtain ⟨D, hD, hM⟩ := h.map
    have e0 : (s == 0) = false := by simpa using h0
    have HS := Lib.hid hs
    have HD := Lib.hid hD
    have HM := Lib.hid hM
    have f1 := hi.first0
    have f2 := hi.first1
    clear hs hD hM h
    cases hl : look L s with
    | none =>
      have hf : atF all first L s = (0, false) := by unfold atF; rw [if_neg h0, hl]
      have hh := HM.out.has s
      rw [hl] at hh
      have HH := Lib.hid hh
      rw [hf]
      clear hf hl hh h0 hi
      go_enter Try.func14, Try.ntmps14
      go_wp2_with (at_lookup; refine wpList_lookup_own_ok_int _ rfl _ _ 61 rfl 3 2 .i64 lawK Try.underlying61 Try.underlying2 (zeroE _) m _ D rfl HD.out _ (key s) rfl (keyOf_int_mk Try.underlying3 HS.out) ?_; intro c hat hwc; rw [HH.out]; clear hat hwc)
      go_ret2
      exact ⟨rfl, rfl⟩
    | some x =>
      have hf : atF all first L s = (first + x, true) := by unfold atF; rw [if_neg h0, hl]
      have hh := HM.out.has s
      rw [hl] at hh
      have HH := Lib.hid hh
      have HA := Lib.hid (HM.out.at_ s x hl)
      obtain ⟨x1, x2⟩ := hi.lk hl
      rw [hf]
      clear hf hl hh h0 hi
      go_enter Try.func14, Try.ntmps14
      go_wp2_with (at_lookup; refine wpList_lookup_own_ok_int _ rfl _ _ 61 rfl 3 2 .i64 lawK Try.underlying61 Try.underlying2 (zeroE _) m _ D rfl HD.out _ (key s) rfl (keyOf_int_mk Try.underlying3 HS.out) ?_; intro c hat hwc; rw [HH.out]; obtain rfl : c = x := num_inj (HA.out.symm.trans hat); clear hat hwc)
      go_ret2
      exact ⟨rfl, rfl⟩

set_option maxHeartbeats 400000 in
theorem wlen_any {g m : Nat} {all first : Int} {L : List (Int × Int)} (w : World) (h : WB w g m all first L) :
    Calls Try.prog 26 #[.pointer (some ⟨g, 0, none⟩)] w fun e w' => e = .returned (.int .i64 (L.length : Int)) ∧ w = w' := by
  obtain ⟨c0, c1, c2⟩ := h.cells
  obtain ⟨D, hD, hM⟩ := h.map
  have HD := Lib.hid hD
  have HS := Lib.hid hM.size
  clear hD hM h
  go_enter Try.func26, Try.ntmps26
  go_wp2_with (at_len; refine wpList_len_own _ rfl _ 61 rfl 3 2 Try.underlying61 _ m _ D rfl HD.out ?_; rw [HS.out])
  go_ret
  exact ⟨rfl, rfl⟩

/-- What a call that changes a book hands back. -/
def WDid (g m : Nat) (W : World) (err : Int) (all first : Int) (L : List (Int × Int)) (e : Ending) (w' : World) : Prop :=
  e = .returned (.int .i64 err) ∧ WB w' g m all first L ∧ But g m W w'

set_option maxHeartbeats 400000 in
theorem wopen_arg {g : Nat} (s : Int) (w : World) (hs : s < 1) :
    Calls Try.prog 29 #[.pointer (some ⟨g, 0, none⟩), .int .i64 s] w fun e w' => e = .returned (.int .i64 1) ∧ w = w' := by
  go_enter Try.func29, Try.ntmps29
  go_wp2; go_ret; exact ⟨rfl, rfl⟩

set_option maxHeartbeats 1000000 in
theorem wopen_any {g m : Nat} {all first : Int} {L : List (Int × Int)} (s : Int) (w : World) (h : WB w g m all first L) (hs : (Lit.int .i64 s).wf = true) (h1 : 1 ≤ s) (hn : L.length < 100000) :
    Calls Try.prog 29 #[.pointer (some ⟨g, 0, none⟩), .int .i64 s] w
      (if (look L s).isSome then WDid g m w 5 all first L else WDid g m w 0 all first (putL L s 0)) := by
  obtain ⟨c0, c1, c2⟩ := h.cells
  obtain ⟨D, hD, hM⟩ := h.map
  have HS := Lib.hid hs
  have HD := Lib.hid hD
  have HM := Lib.hid hM
  have H := Lib.hid h
  have hh := hM.has s
  clear hs hD hM h
  cases hl : look L s with
  | some x =>
    rw [hl] at hh
    have HH := Lib.hid hh
    clear hh hl
    simp only [Option.isSome_some, if_true]
    go_enter Try.func29, Try.ntmps29
    go_wp2_with (at_lookup; refine wpList_lookup_own_ok_int _ rfl _ _ 61 rfl 3 2 .i64 lawK Try.underlying61 Try.underlying2 (zeroE _) m _ D rfl HD.out _ (key s) rfl (keyOf_int_mk Try.underlying3 HS.out) ?_; intro c hat hwc; rw [HH.out]; clear hat hwc)
    go_ret
    exact ⟨rfl, H.out, But.refl _ _ _⟩
  | none =>
    have HL := Lib.hid hl
    rw [hl] at hh
    have HH := Lib.hid hh
    clear hh hl
    simp only [Option.isSome_none, Bool.false_eq_true, if_false]
    go_enter Try.func29, Try.ntmps29
    go_wp2_with (first
      | (at_lookup; refine wpList_lookup_own_ok_int _ rfl _ _ 61 rfl 3 2 .i64 lawK Try.underlying61 Try.underlying2 (zeroE _) m _ D rfl HD.out _ (key s) rfl (keyOf_int_mk Try.underlying3 HS.out) ?_; intro c hat hwc; rw [HH.out]; clear hat hwc)
      | (at_mapUpdate; refine wpList_mapUpdate_own _ rfl _ _ _ 61 rfl 3 2 lawK Try.underlying61 _ m _ D rfl HD.out (by unfold maxLen; omega) _ _ (key s) rfl rfl (keyOf_int_mk Try.underlying3 HS.out) (num 0) [] (plainElem_int Try.underlying2 (by decide)) ?_; intro w1 hown1 hgrow1))
    go_ret
    have hb := But.grown (g := g) hgrow1
    have hlt := H.out.lt
    refine ⟨rfl, ⟨(hb_g H.out hgrow1), H.out.ne, once_put H.out.once s 0, _, ?_, HM.out.put (HD.out.tidy lawK) s 0⟩, hb⟩
    have := tight hown1
    rw [(HM.out.put (HD.out.tidy lawK) s 0).size] at this
    exact this
end Go.Proofs.Ytoicclgcbemffaa
