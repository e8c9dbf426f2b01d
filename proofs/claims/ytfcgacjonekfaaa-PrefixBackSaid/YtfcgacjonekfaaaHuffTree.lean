/- The walk of drawbridgeref02.Tree. -/
import Derived.Test.YtfcgacjonekfaaaHuffREnc
import Derived.Test.YtfcgacjonekfaaaHuffTreeWay
namespace Go.Proofs.Ytfcgacjonekfaaa
open Go.RowKit

theorem tSteps : SlT Try.prog 63 67 (.agg #[.int .i64 0, .int .i64 0, .int .i64 0]) 3 24 := ⟨Try.underlying63, by kernel_rfl, rfl, by omega⟩

/-- The tree's row, beside the lengths and the codes. -/
structure TreeW (W w : World) (gl gc b0 : Nat) (v : Value) (T : List Node) : Prop where
  own : w.ownsRow b0 67 3 v T.length (rowV T)
  lc : LC w gl
  cc : CC w gc
  bel : Below W.heap.size W w
  gl : gl < b0
  gc : gc < b0
  hb : W.heap.size ≤ b0
  lt : b0 ≤ w.heap.size
theorem own3_form {w : World} {b0 : Nat} {v : Value} {T : List Node} (h : w.ownsRow b0 67 3 v T.length (rowV T)) (hl : 0 < T.length) :
    ∃ g c, v = .slice (some ⟨g, 0, none⟩) T.length c ∧ b0 ≤ g ∧ g < w.heap.size ∧ T.length ≤ c ∧ c ≤ maxLen := by
  rcases h.2 with ⟨rfl, h0⟩ | ⟨g, cap, cur, rfl, hb, hg, hnc, hcm, _⟩
  · omega
  · exact ⟨g, cap, rfl, hb, (Array.getElem?_eq_some_iff.1 hg).1, hnc, hcm⟩
theorem TreeW.grown {W w w' : World} {gl gc b0 : Nat} {v v' : Value} {T T' : List Node} (h : TreeW W w gl gc b0 v T) (hown : w'.ownsRow b0 67 3 v' T'.length (rowV T')) (hg : w.grownBy w' v.ownBlock) : TreeW W w' gl gc b0 v' T' :=
  ⟨hown, fun i hi => hg.cell (h.lc i hi) (fun e => by have := (h.own.lt gl e.symm).1; have := h.gl; omega), fun i hi => hg.cell (h.cc i hi) (fun e => by have := (h.own.lt gc e.symm).1; have := h.gc; omega),
    Below.app h.bel h.own hg h.hb h.bel.size, h.gl, h.gc, h.hb, Nat.le_trans h.lt hg.size⟩
theorem TreeW.alloc {W w : World} {gl gc b0 : Nat} {v : Value} {T : List Node} (h : TreeW W w gl gc b0 v T) (o : Obj) : TreeW W (w.alloc o) gl gc b0 v T :=
  ⟨h.own.alloc o, fun i hi => (World.cell?_alloc_lt w o _ (World.block_lt_of_cell? w _ (h.lc i hi))).trans (h.lc i hi), fun i hi => (World.cell?_alloc_lt w o _ (World.block_lt_of_cell? w _ (h.cc i hi))).trans (h.cc i hi),
    h.bel.alloc h.bel.size o, h.gl, h.gc, h.hb, by have := h.lt; simp; omega⟩
theorem TreeW.store {W w : World} {gl gc b0 g c : Nat} {T T' : List Node} (h : TreeW W w gl gc b0 (.slice (some ⟨g, 0, none⟩) T.length c) T) (hg : b0 ≤ g) (i : Nat) (u : Value) (hT : (rowV T).set i u = rowV T') (hl : T'.length = T.length) :
    TreeW W (w.setCell ⟨g, i, none⟩ u) gl gc b0 (.slice (some ⟨g, 0, none⟩) T.length c) T' :=
  ⟨by rw [hl]; have := (World.ownsRow.stored h.own i u).1; rw [hT] at this; exact this, h.lc.set_ (by have := h.gl; omega) _ _, h.cc.set_ (by have := h.gc; omega) _ _,
    h.bel.setCell (p := ⟨g, _, none⟩) (by show _ ≤ g; have := h.hb; omega) _, h.gl, h.gc, h.hb, by have := h.lt; simpa [World.setCell] using this⟩
theorem TreeW.cell {W w : World} {gl gc b0 g c : Nat} {T : List Node} (h : TreeW W w gl gc b0 (.slice (some ⟨g, 0, none⟩) T.length c) T) {i k : Nat} (hi : i < T.length) (hk : k < 3) :
    w.cell? ⟨g, i * 3 + k, none⟩ = (nodeV (T.getD i newN))[k]? := by rw [World.ownsRow.cellAt h.own _ (by omega), rowV_get T i k hi hk]
theorem Rd.node (w : World) : Rd (w.alloc (.cells #[.int .i64 0, .int .i64 0, .int .i64 (-1)] 67)) (w.heap.size + 1) 3 (some ⟨w.heap.size, 0, none⟩) 1 (rowV [newN]) := by
  refine ⟨rfl, fun _ => ⟨_, _, rfl, by omega, fun j hj => ?_⟩⟩
  rw [World.cell?_alloc_at _ _ _ _ rfl]
  have : j = 0 ∨ j = 1 ∨ j = 2 := by omega
  rcases this with rfl | rfl | rfl <;> rfl
/-- Behind s symbols. -/
def TRel (W : World) (gl gc b0 : Nat) (v iv : Value) (w : World) : Prop := ∃ s : Nat, iv = .int .i64 s ∧ s ≤ 257 ∧ TreeW W w gl gc b0 v (treeAt s)
/-- j bits of a symbol's code are to come. -/
def TBitRel (W : World) (gl gc b0 s c n : Nat) (v av jv : Value) (w : World) : Prop :=
  ∃ j : Nat, ∃ st : List Node × Nat, jv = .int .i64 ((j : Int) - 1) ∧ j ≤ n ∧ av = .int .i64 (st.2 : Int) ∧ goBits c j st = goBits c n (treeAt s, 0) ∧ WfS st ∧ st.1.length + j ≤ 7800 ∧ TreeW W w gl gc b0 v st.1

set_option maxRecDepth 100000 in
set_option maxHeartbeats 2000000 in
theorem rtree_any (w : World) : Calls Try.prog 35 #[] w fun e w' => ∃ v, e = .returned v ∧ w'.ownsRow w.heap.size 67 3 v treeT.length (rowV treeT) ∧ Below w.heap.size w w' := by
  go_enter Try.func35, Try.ntmps35
  go_wp2_with fail
  refine (rlengths_any w).mono ?_
  rintro e w1 ⟨gl, rfl, hownl, hb1⟩
  have hlc : LC w1 gl := fun i hi => by rw [World.ownsRow.cellAt hownl i (by omega), i64s_get (by rw [tab_lengths.1]; exact hi)]
  have hgl := (hownl.lt gl rfl).2
  have HLC := Lib.hid hlc
  clear hownl hlc
  go_wp2_with fail
  refine (rcodes_any w1).mono ?_
  rintro e w2 ⟨gc, rfl, hownc, hb2⟩
  have hcc : CC w2 gc := fun i hi => by rw [World.ownsRow.cellAt hownc i (by omega), u32s_get (by rw [tab_lengths.2.1]; exact hi)]
  have hgc := (hownc.lt gc rfl)
  have HCC := Lib.hid hcc
  clear hownc hcc
  go_wp2
  have hs1 := hb1.size
  have hs2 := hb2.size
  have htw : TreeW w (w2.alloc (.cells #[.int .i64 0, .int .i64 0, .int .i64 (-1)] 67)) gl gc w2.heap.size (.slice (some ⟨w2.heap.size, 0, none⟩) 1 1) (treeAt 0) :=
    ⟨World.ownsRow_lit w2 #[.int .i64 0, .int .i64 0, .int .i64 (-1)] 1 (Nat.le_refl _) (by unfold maxLen; omega) rfl,
      fun i hi => (World.cell?_alloc_lt w2 _ _ (by show gl < _; omega)).trans ((hb2.cell (p := ⟨gl, i, none⟩) (by show gl < _; omega)).trans (HLC.out i hi)),
      fun i hi => (World.cell?_alloc_lt w2 _ _ (by show gc < _; omega)).trans (HCC.out i hi), (hb1.trans (hb2.mono hs1)).alloc (by omega) _, by omega, by omega, by omega, by simp⟩
  generalize w2.heap.size = b0 at *
  have HTW := Lib.hid htw
  clear htw HLC HCC hb1 hb2
  go_loopw [3, 4] (TRel w gl gc b0) (fun _ i _ => 257 - (intOf i).toNat)
  case atStart => exact ⟨0, rfl, by omega, HTW.out⟩
  case round =>
    obtain ⟨s, rfl, hs, htw⟩ := hrel
    have hwf := tree_wf s hs
    obtain ⟨g, cp, rfl, hg0, hgw, hcp, hcm⟩ := own3_form htw.own hwf.2.2
    by_cases hlt : s < 257
    · have hcl := htw.lc s hlt
      have hn30 := lens_le s
      have hc32 := code_lt s
      have hstep := treeAt_next s
      unfold treeStep at hstep
      obtain ⟨n, hn⟩ : ∃ n, n = lensN.getD s 0 := ⟨_, rfl⟩
      obtain ⟨c, hc⟩ : ∃ c, c = codeT.getD s 0 := ⟨_, rfl⟩
      rw [← hn] at hcl hn30 hstep
      rw [← hc] at hc32 hstep
      have HC := Lib.hid hc
      have HS := Lib.hid hstep
      have HT := Lib.hid htw
      have hlen := hwf.2.1
      have HWF := Lib.hid (And.intro hwf.1 hwf.2.2)
      clear hstep hn hc htw hwf
      have elt : decide ((s : Int) < 257) = true := decide_eq_true (by omega)
      go_wp2
      clear elt
      go_loopw [3, 5, 6] (TBitRel w gl gc b0 s c n) (fun _ _ j _ => (intOf j + 1).toNat)
      case atStart => exact ⟨n, (treeAt s, 0), by go_num, Nat.le_refl _, rfl, rfl, ⟨HWF.out.1, HWF.out.2⟩, by show (treeAt s).length + n ≤ 7800; omega, HT.out⟩
      case round =>
        clear hcl
        obtain ⟨j, st, rfl, hj, rfl, hgo, hwfs, hl78, htw⟩ := hrel
        obtain ⟨g, cp, rfl, hg0, hgw, hcp, hcm⟩ := own3_form htw.own (Nat.lt_of_le_of_lt (Nat.zero_le _) hwfs.pos)
        have hpos := hwfs.pos
        cases j with
        | zero =>
          rw [goBits] at hgo
          rw [← hgo] at HS
          have hcs := htw.cell hpos (k := 2) (by omega)
          have hcs2 : ∃ z : Int, wr.cell? ⟨g, st.2 * 3 + 2, none⟩ = some (.int .i64 z) := ⟨_, hcs⟩
          obtain ⟨z, hz⟩ := hcs2
          have hst3 := htw.store hg0 (st.2 * 3 + 2) (.int .i64 (s : Int)) (rowV_set _ st.2 2 _ ((st.1.getD st.2 newN).1, (st.1.getD st.2 newN).2.1, (s : Int)) hpos (by omega) rfl) (by simp)
          have hfro := World.ownsRow.frozenAt htw.own (st.2 * 3 + 2)
          have HT3 := Lib.hid hst3
          rw [show ((0 : Nat) : Int) - 1 = -1 by rfl]
          clear hcs hst3 htw hwfs hgo
          generalize hT1 : st.1.length = T1 at *
          generalize hat : st.2 = at1 at *
          rw [setSym, hat] at HS
          have HL := Lib.hid hT1
          clear hT1
          go_wp2
          refine ⟨⟨s + 1, by go_num, by omega, ?_⟩, by simp [intOf] <;> omega⟩
          rw [HS.out]
          have h3 := HT3.out
          exact h3
        | succ j' =>
          have hcx := htw.cc s hlt
          rw [← HC.out] at hcx
          obtain ⟨y, hy⟩ : ∃ y, y = c / 2 ^ j' := ⟨_, rfl⟩
          have ey : (c : Int) / 2 ^ j' = (y : Int) := by rw [hy]; simp
          have hy32 : y < 4294967296 := by rw [hy]; exact Nat.lt_of_le_of_lt (Nat.div_le_self _ _) (by omega)
          have eb := and_one32 y hy32
          obtain ⟨b, hbt⟩ : ∃ b, b = y % 2 := ⟨_, rfl⟩
          rw [← hbt] at eb
          have hb2 : b < 2 := by omega
          have hb2i : (b : Int) < 2 := by omega
          have ej : ((j' + 1 : Nat) : Int) - 1 = (j' : Int) := by omega
          rw [goBits, ← hy, ← hbt] at hgo
          have hcn := htw.cell hpos (k := b) (by omega)
          rw [node_next _ hb2] at hcn
          obtain ⟨hst1, hst2, hst3⟩ := hwfs.step b
          by_cases hz : nxt (st.1.getD st.2 newN) b = 0
          · have hst : stepBit st b = ((st.1 ++ [newN]).set st.2 (setNx (st.1.getD st.2 newN) b st.1.length), st.1.length) := by unfold stepBit; rw [if_pos hz]
            rw [hst] at hgo hst1
            rw [hz] at hcn
            replace hcn : wr.cell? ⟨g, st.2 * 3 + b, none⟩ = some (.int .i64 0) := hcn
            have hgd : (st.1 ++ [newN]).getD st.2 newN = st.1.getD st.2 newN := by rw [List.getD, List.getD, List.getElem?_append_left hpos]
            have HT := Lib.hid htw
            have HG := Lib.hid (And.intro hgo (And.intro hst1 hgd))
            clear hgo hst1 hst2 hst3 htw hwfs hz hst hy hbt hgd
            generalize hT1 : st.1.length = T1 at *
            generalize hat : st.2 = at1 at *
            have HL := Lib.hid hT1
            clear hT1
            rw [ej]
            have HOX := Lib.hid (show wr.ownsRow b0 67 3 (.slice (some ⟨g, 0, none⟩) T1 cp) T1 (rowV st.1) by have := HT.out.own; rw [HL.out] at this; exact this)
            have hltX := HT.out.lt
            go_wp2_with (first
              | (at_builtin
                 refine wpList_app (.tmp 42) (.tmp 44) tSteps rfl rfl (World.ownsRow.alloc HOX.out _) rfl (Rd.node wr) rfl (rowV_one [newN]) (le_maxLen (by omega)) (by omega) (by simp; omega) ?_
                 intro v3 w3 hown3 hg3 _
                 have hl3 : (st.1 ++ [newN]).length = T1 + 1 := by rw [List.length_append, HL.out]; rfl
                 have htw3 : TreeW w w3 gl gc b0 v3 (st.1 ++ [newN]) := (HT.out.alloc _).grown (by rw [hl3, rowV_append]; exact hown3) hg3
                 obtain ⟨g3, cp3, rfl, hg30, hg3w, hcp3, hcm3⟩ := own3_form htw3.own (by omega)
                 have hcell3 := htw3.cell (i := at1) (k := b) (by omega) (by omega)
                 rw [node_next _ hb2, HG.out.2.2] at hcell3
                 have hfro3 := World.ownsRow.frozenAt htw3.own (at1 * 3 + b)
                 have hst3 := htw3.store hg30 (at1 * 3 + b) (.int .i64 (T1 : Int)) (rowV_set _ at1 b _ _ (by omega) (by omega) (node_setNx _ hb2 T1)) (by simp)
                 rw [HG.out.2.2] at hst3
                 have HT3 := Lib.hid hst3
                 have hcp4 : T1 + 1 ≤ cp3 := by omega
                 rw [hl3]
                 clear hown3 hg3 htw3 hst3 hl3 hcp3))
            have hT3 := HT3.out
            rw [List.length_append, HL.out] at hT3
            exact ⟨⟨j', ((st.1 ++ [newN]).set at1 (setNx (st.1.getD at1 newN) b T1), T1), rfl, by omega, rfl, HG.out.1, HG.out.2.1, by show ((st.1 ++ [newN]).set at1 _).length + j' ≤ 7800; rw [List.length_set, List.length_append, HL.out]; show T1 + 1 + j' ≤ 7800; omega, hT3⟩, by simp [intOf] <;> omega⟩
          · have hst : stepBit st b = (st.1, nxt (st.1.getD st.2 newN) b) := by unfold stepBit; rw [if_neg hz]
            rw [hst] at hgo hst1
            generalize nxt (st.1.getD st.2 newN) b = x at *
            have e0 : ((x : Int) == 0) = false := by rw [beq_eq_false_iff_ne]; omega
            have HT := Lib.hid htw
            have HG := Lib.hid (And.intro hgo hst1)
            clear hgo hst1 hst2 hst3 htw hwfs hz hst hy hbt
            generalize hT1 : st.1.length = T1 at *
            generalize hat : st.2 = at1 at *
            rw [ej]
            go_wp2
            exact ⟨⟨j', (st.1, x), rfl, by omega, rfl, HG.out.1, HG.out.2, by show st.1.length + j' ≤ 7800; omega, HT.out⟩, by simp [intOf] <;> omega⟩
    · have h257 : s = 257 := by omega
      subst h257
      rw [show treeAt 257 = treeT from tree_end] at htw ⊢
      have HT := Lib.hid htw
      clear hwf hcp htw
      generalize htl : treeT.length = tl at *
      go_wp2
      go_ret
      refine ⟨_, rfl, ?_, HT.out.bel⟩
      have := HT.out.own
      rw [htl] at this
      rw [htl]
      exact own_mono2 this HT.out.hb
end Go.Proofs.Ytfcgacjonekfaaa
