/- 11 texts in one: HuffTreeWay, HuffTree, HuffDec, Laws2b, BytesEq, Laws2c, Laws2d, HuffRDec, TakeText, Lift, Script. -/
import Derived.Test.YthpieiipddfpjaaM6
import Derived.Test.YthpieiipddfpjaaM5
import Derived.Test.YthpieiipddfpjaaM4
import Derived.Test.YthpieiipddfpjaaM1
import Derived.Test.YthpieiipddfpjaaM3
import Derived.Test.YthpieiipddfpjaaRows
import Derived.ProofKit
import Derived.OpenShut
import Derived.SizedLaws
import Derived.Test.YthpieiipddfpjaaM2
import Derived.Deep.Slices
import Derived.Deep.Fields
import Derived.ChangeSame
/- Walking down the tree is reading the codes. No program in sight. -/
namespace Go.Proofs.Ythpieiipddfpjaa
open Go.RowKit

theorem tree_root : (treeT.getD 0 newN).2.2 < 0 ∧ wayT 0 = (0, 0) := by
  have := tree_ok
  unfold okTree at this
  rw [Bool.and_eq_true, Bool.and_eq_true, decide_eq_true_eq, beq_iff_eq] at this
  exact ⟨this.1.2, this.2⟩
/-- One bit down the tree is one bit on in the codes. -/
theorem tree_down {i b : Nat} (hi : i < treeT.length) (hs : (treeT.getD i newN).2.2 < 0) (hb : b < 2) :
    nxt (treeT.getD i newN) b < treeT.length ∧ wayT (nxt (treeT.getD i newN) b) = (2 * (wayT i).1 + b, (wayT i).2 + 1) ∧
    (((treeT.getD (nxt (treeT.getD i newN) b) newN).2.2 < 0 ∧ hitB (2 * (wayT i).1 + b) ((wayT i).2 + 1) = false) ∨
      ((treeT.getD (nxt (treeT.getD i newN) b) newN).2.2 = (symAt (2 * (wayT i).1 + b) ((wayT i).2 + 1) : Int) ∧ hitB (2 * (wayT i).1 + b) ((wayT i).2 + 1) = true)) := by
  have h := tree_ok
  unfold okTree at h
  rw [Bool.and_eq_true, Bool.and_eq_true, List.all_eq_true] at h
  have h1 := h.1.1 i (List.mem_range.2 hi)
  rw [Bool.or_eq_true, decide_eq_true_eq, Bool.and_eq_true] at h1
  have h2 : okNode treeT wayTab i b = true := by
    rcases h1 with h1 | h1
    · exact absurd hs (Int.not_lt.2 h1)
    · have : b = 0 ∨ b = 1 := by omega
      rcases this with rfl | rfl
      · exact h1.1
      · exact h1.2
  unfold okNode at h2
  rw [Bool.and_eq_true, Bool.and_eq_true, decide_eq_true_eq, beq_iff_eq] at h2
  refine ⟨h2.1.1, h2.1.2, ?_⟩
  have h3 := h2.2
  split at h3
  · rename_i hn
    exact Or.inl ⟨hn, by simpa [wayT] using h3⟩
  · rw [Bool.and_eq_true, beq_iff_eq] at h3
    exact Or.inr ⟨h3.2, h3.1⟩
end Go.Proofs.Ythpieiipddfpjaa

/- The walk of drawbridgeref02.Tree. -/
namespace Go.Proofs.Ythpieiipddfpjaa
open Go.RowKit

theorem tSteps : SlT Try.prog 120 124 (.agg #[.int .i64 0, .int .i64 0, .int .i64 0]) 3 24 := ⟨Try.underlying120, by kernel_rfl, rfl, by omega⟩

/-- The tree's row, beside the lengths and the codes. -/
structure TreeW (W w : World) (gl gc b0 : Nat) (v : Value) (T : List Node) : Prop where
  own : w.ownsRow b0 124 3 v T.length (hrowV T)
  lc : LC w gl
  cc : CC w gc
  bel : Below W.heap.size W w
  gl : gl < b0
  gc : gc < b0
  hb : W.heap.size ≤ b0
  lt : b0 ≤ w.heap.size
theorem own3_form {w : World} {b0 : Nat} {v : Value} {T : List Node} (h : w.ownsRow b0 124 3 v T.length (hrowV T)) (hl : 0 < T.length) :
    ∃ g c, v = .slice (some ⟨g, 0, none⟩) T.length c ∧ b0 ≤ g ∧ g < w.heap.size ∧ T.length ≤ c ∧ c ≤ maxLen := by
  rcases h.2 with ⟨rfl, h0⟩ | ⟨g, cap, cur, rfl, hb, hg, hnc, hcm, _⟩
  · omega
  · exact ⟨g, cap, rfl, hb, (Array.getElem?_eq_some_iff.1 hg).1, hnc, hcm⟩
theorem TreeW.grown {W w w' : World} {gl gc b0 : Nat} {v v' : Value} {T T' : List Node} (h : TreeW W w gl gc b0 v T) (hown : w'.ownsRow b0 124 3 v' T'.length (hrowV T')) (hg : w.grownBy w' v.ownBlock) : TreeW W w' gl gc b0 v' T' :=
  ⟨hown, fun i hi => hg.cell (h.lc i hi) (fun e => by have := (h.own.lt gl e.symm).1; have := h.gl; omega), fun i hi => hg.cell (h.cc i hi) (fun e => by have := (h.own.lt gc e.symm).1; have := h.gc; omega),
    Below.app h.bel h.own hg h.hb h.bel.size, h.gl, h.gc, h.hb, Nat.le_trans h.lt hg.size⟩
theorem TreeW.alloc {W w : World} {gl gc b0 : Nat} {v : Value} {T : List Node} (h : TreeW W w gl gc b0 v T) (o : Obj) : TreeW W (w.alloc o) gl gc b0 v T :=
  ⟨h.own.alloc o, fun i hi => (World.cell?_alloc_lt w o _ (World.block_lt_of_cell? w _ (h.lc i hi))).trans (h.lc i hi), fun i hi => (World.cell?_alloc_lt w o _ (World.block_lt_of_cell? w _ (h.cc i hi))).trans (h.cc i hi),
    h.bel.alloc h.bel.size o, h.gl, h.gc, h.hb, by have := h.lt; simp; omega⟩
theorem TreeW.store {W w : World} {gl gc b0 g c : Nat} {T T' : List Node} (h : TreeW W w gl gc b0 (.slice (some ⟨g, 0, none⟩) T.length c) T) (hg : b0 ≤ g) (i : Nat) (u : Value) (hT : (hrowV T).set i u = hrowV T') (hl : T'.length = T.length) :
    TreeW W (w.setCell ⟨g, i, none⟩ u) gl gc b0 (.slice (some ⟨g, 0, none⟩) T.length c) T' :=
  ⟨by rw [hl]; have := (World.ownsRow.stored h.own i u).1; rw [hT] at this; exact this, h.lc.set_ (by have := h.gl; omega) _ _, h.cc.set_ (by have := h.gc; omega) _ _,
    h.bel.setCell (p := ⟨g, _, none⟩) (by show _ ≤ g; have := h.hb; omega) _, h.gl, h.gc, h.hb, by have := h.lt; simpa [World.setCell] using this⟩
theorem TreeW.cell {W w : World} {gl gc b0 g c : Nat} {T : List Node} (h : TreeW W w gl gc b0 (.slice (some ⟨g, 0, none⟩) T.length c) T) {i k : Nat} (hi : i < T.length) (hk : k < 3) :
    w.cell? ⟨g, i * 3 + k, none⟩ = (nodeV (T.getD i newN))[k]? := by rw [World.ownsRow.cellAt h.own _ (by omega), rowV_get T i k hi hk]
theorem Rd.node (w : World) : Rd (w.alloc (.cells #[.int .i64 0, .int .i64 0, .int .i64 (-1)] 124)) (w.heap.size + 1) 3 (some ⟨w.heap.size, 0, none⟩) 1 (hrowV [newN]) := by
  refine ⟨rfl, fun _ => ⟨_, _, rfl, by omega, fun j hj => ?_⟩⟩
  rw [World.cell?_alloc_at _ _ _ _ rfl]
  have : j = 0 ∨ j = 1 ∨ j = 2 := by omega
  rcases this with rfl | rfl | rfl <;> rfl
/-- Behind s symbols. -/
def TRel (W : World) (gl gc b0 : Nat) (v iv : Value) (w : World) : Prop := ∃ s : Nat, iv = .int .i64 s ∧ s ≤ 257 ∧ TreeW W w gl gc b0 v (treeAt s)
/-- j bits of a symbol's code are to come. -/
def TBitRel (W : World) (gl gc b0 s c n : Nat) (v av jv : Value) (w : World) : Prop :=
  ∃ j : Nat, ∃ st : List Node × Nat, jv = .int .i64 ((j : Int) - 1) ∧ j ≤ n ∧ av = .int .i64 (st.2 : Int) ∧ goBits c j st = goBits c n (treeAt s, 0) ∧ WfS st ∧ st.1.length + j ≤ 7800 ∧ TreeW W w gl gc b0 v st.1

set_option maxRecDepth 100000 in
set_option maxHeartbeats 2000000 in
theorem rtree_any (w : World) : Calls Try.prog 75 #[] w fun e w' => ∃ v, e = .returned v ∧ w'.ownsRow w.heap.size 124 3 v treeT.length (hrowV treeT) ∧ Below w.heap.size w w' := by
  go_enter Try.func75, Try.ntmps75
  go_wp2_with fail
  refine (rlengths_any w).mono ?_
  rintro e w1 ⟨gl, rfl, hownl, hb1⟩
  have hlc : LC w1 gl := fun i hi => by rw [World.ownsRow.cellAt hownl i (by omega), i64s_get (by rw [tab_lengths.1]; exact hi)]
  have hgl := (hownl.lt gl rfl).2
  have HLC := Lib.hid hlc
  clear hownl hlc
  go_wp2_with fail
  refine (rcodes_any w1).mono ?_
  rintro e w2 ⟨gc, rfl, hownc, hb2⟩
  have hcc : CC w2 gc := fun i hi => by rw [World.ownsRow.cellAt hownc i (by omega), u32s_get (by rw [tab_lengths.2.1]; exact hi)]
  have hgc := (hownc.lt gc rfl)
  have HCC := Lib.hid hcc
  clear hownc hcc
  go_wp2
  have hs1 := hb1.size
  have hs2 := hb2.size
  have htw : TreeW w (w2.alloc (.cells #[.int .i64 0, .int .i64 0, .int .i64 (-1)] 124)) gl gc w2.heap.size (.slice (some ⟨w2.heap.size, 0, none⟩) 1 1) (treeAt 0) :=
    ⟨World.ownsRow_lit w2 #[.int .i64 0, .int .i64 0, .int .i64 (-1)] 1 (Nat.le_refl _) (by unfold maxLen; omega) rfl,
      fun i hi => (World.cell?_alloc_lt w2 _ _ (by show gl < _; omega)).trans ((hb2.cell (p := ⟨gl, i, none⟩) (by show gl < _; omega)).trans (HLC.out i hi)),
      fun i hi => (World.cell?_alloc_lt w2 _ _ (by show gc < _; omega)).trans (HCC.out i hi), (hb1.trans (hb2.mono hs1)).alloc (by omega) _, by omega, by omega, by omega, by simp⟩
  generalize w2.heap.size = b0 at *
  have HTW := Lib.hid htw
  clear htw HLC HCC hb1 hb2
  go_loopw [3, 4] (TRel w gl gc b0) (fun _ i _ => 257 - (intOf i).toNat)
  case atStart => exact ⟨0, rfl, by omega, HTW.out⟩
  case round =>
    obtain ⟨s, rfl, hs, htw⟩ := hrel
    have hwf := tree_wf s hs
    obtain ⟨g, cp, rfl, hg0, hgw, hcp, hcm⟩ := own3_form htw.own hwf.2.2
    by_cases hlt : s < 257
    · have hcl := htw.lc s hlt
      have hn30 := lens_le s
      have hc32 := code_lt s
      have hstep := treeAt_next s
      unfold treeStep at hstep
      obtain ⟨n, hn⟩ : ∃ n, n = lensN.getD s 0 := ⟨_, rfl⟩
      obtain ⟨c, hc⟩ : ∃ c, c = codeT.getD s 0 := ⟨_, rfl⟩
      rw [← hn] at hcl hn30 hstep
      rw [← hc] at hc32 hstep
      have HC := Lib.hid hc
      have HS := Lib.hid hstep
      have HT := Lib.hid htw
      have hlen := hwf.2.1
      have HWF := Lib.hid (And.intro hwf.1 hwf.2.2)
      clear hstep hn hc htw hwf
      have elt : decide ((s : Int) < 257) = true := decide_eq_true (by omega)
      go_wp2
      clear elt
      go_loopw [3, 5, 6] (TBitRel w gl gc b0 s c n) (fun _ _ j _ => (intOf j + 1).toNat)
      case atStart => exact ⟨n, (treeAt s, 0), by go_num, Nat.le_refl _, rfl, rfl, ⟨HWF.out.1, HWF.out.2⟩, by show (treeAt s).length + n ≤ 7800; omega, HT.out⟩
      case round =>
        clear hcl
        obtain ⟨j, st, rfl, hj, rfl, hgo, hwfs, hl78, htw⟩ := hrel
        obtain ⟨g, cp, rfl, hg0, hgw, hcp, hcm⟩ := own3_form htw.own (Nat.lt_of_le_of_lt (Nat.zero_le _) hwfs.pos)
        have hpos := hwfs.pos
        cases j with
        | zero =>
          rw [goBits] at hgo
          rw [← hgo] at HS
          have hcs := htw.cell hpos (k := 2) (by omega)
          have hcs2 : ∃ z : Int, wr.cell? ⟨g, st.2 * 3 + 2, none⟩ = some (.int .i64 z) := ⟨_, hcs⟩
          obtain ⟨z, hz⟩ := hcs2
          have hst3 := htw.store hg0 (st.2 * 3 + 2) (.int .i64 (s : Int)) (rowV_set _ st.2 2 _ ((st.1.getD st.2 newN).1, (st.1.getD st.2 newN).2.1, (s : Int)) hpos (by omega) rfl) (by simp)
          have hfro := World.ownsRow.frozenAt htw.own (st.2 * 3 + 2)
          have HT3 := Lib.hid hst3
          rw [show ((0 : Nat) : Int) - 1 = -1 by rfl]
          clear hcs hst3 htw hwfs hgo
          generalize hT1 : st.1.length = T1 at *
          generalize hat : st.2 = at1 at *
          rw [setSym, hat] at HS
          have HL := Lib.hid hT1
          clear hT1
          go_wp2
          refine ⟨⟨s + 1, by go_num, by omega, ?_⟩, by simp [intOf] <;> omega⟩
          rw [HS.out]
          have h3 := HT3.out
          exact h3
        | succ j' =>
          have hcx := htw.cc s hlt
          rw [← HC.out] at hcx
          obtain ⟨y, hy⟩ : ∃ y, y = c / 2 ^ j' := ⟨_, rfl⟩
          have ey : (c : Int) / 2 ^ j' = (y : Int) := by rw [hy]; simp
          have hy32 : y < 4294967296 := by rw [hy]; exact Nat.lt_of_le_of_lt (Nat.div_le_self _ _) (by omega)
          have eb := and_one32 y hy32
          obtain ⟨b, hbt⟩ : ∃ b, b = y % 2 := ⟨_, rfl⟩
          rw [← hbt] at eb
          have hb2 : b < 2 := by omega
          have hb2i : (b : Int) < 2 := by omega
          have ej : ((j' + 1 : Nat) : Int) - 1 = (j' : Int) := by omega
          rw [goBits, ← hy, ← hbt] at hgo
          have hcn := htw.cell hpos (k := b) (by omega)
          rw [node_next _ hb2] at hcn
          obtain ⟨hst1, hst2, hst3⟩ := hwfs.step b
          by_cases hz : nxt (st.1.getD st.2 newN) b = 0
          · have hst : stepBit st b = ((st.1 ++ [newN]).set st.2 (setNx (st.1.getD st.2 newN) b st.1.length), st.1.length) := by unfold stepBit; rw [if_pos hz]
            rw [hst] at hgo hst1
            rw [hz] at hcn
            replace hcn : wr.cell? ⟨g, st.2 * 3 + b, none⟩ = some (.int .i64 0) := hcn
            have hgd : (st.1 ++ [newN]).getD st.2 newN = st.1.getD st.2 newN := by rw [List.getD, List.getD, List.getElem?_append_left hpos]
            have HT := Lib.hid htw
            have HG := Lib.hid (And.intro hgo (And.intro hst1 hgd))
            clear hgo hst1 hst2 hst3 htw hwfs hz hst hy hbt hgd
            generalize hT1 : st.1.length = T1 at *
            generalize hat : st.2 = at1 at *
            have HL := Lib.hid hT1
            clear hT1
            rw [ej]
            have HOX := Lib.hid (show wr.ownsRow b0 124 3 (.slice (some ⟨g, 0, none⟩) T1 cp) T1 (hrowV st.1) by have := HT.out.own; rw [HL.out] at this; exact this)
            have hltX := HT.out.lt
            go_wp2_with (first
              | (at_builtin
                 refine wpList_app (.tmp 42) (.tmp 44) tSteps rfl rfl (World.ownsRow.alloc HOX.out _) rfl (Rd.node wr) rfl (rowV_one [newN]) (le_maxLen (by omega)) (by omega) (by simp; omega) ?_
                 intro v3 w3 hown3 hg3 _
                 have hl3 : (st.1 ++ [newN]).length = T1 + 1 := by rw [List.length_append, HL.out]; rfl
                 have htw3 : TreeW w w3 gl gc b0 v3 (st.1 ++ [newN]) := (HT.out.alloc _).grown (by rw [hl3, rowV_append]; exact hown3) hg3
                 obtain ⟨g3, cp3, rfl, hg30, hg3w, hcp3, hcm3⟩ := own3_form htw3.own (by omega)
                 have hcell3 := htw3.cell (i := at1) (k := b) (by omega) (by omega)
                 rw [node_next _ hb2, HG.out.2.2] at hcell3
                 have hfro3 := World.ownsRow.frozenAt htw3.own (at1 * 3 + b)
                 have hst3 := htw3.store hg30 (at1 * 3 + b) (.int .i64 (T1 : Int)) (rowV_set _ at1 b _ _ (by omega) (by omega) (node_setNx _ hb2 T1)) (by simp)
                 rw [HG.out.2.2] at hst3
                 have HT3 := Lib.hid hst3
                 have hcp4 : T1 + 1 ≤ cp3 := by omega
                 rw [hl3]
                 clear hown3 hg3 htw3 hst3 hl3 hcp3))
            have hT3 := HT3.out
            rw [List.length_append, HL.out] at hT3
            exact ⟨⟨j', ((st.1 ++ [newN]).set at1 (setNx (st.1.getD at1 newN) b T1), T1), rfl, by omega, rfl, HG.out.1, HG.out.2.1, by show ((st.1 ++ [newN]).set at1 _).length + j' ≤ 7800; rw [List.length_set, List.length_append, HL.out]; show T1 + 1 + j' ≤ 7800; omega, hT3⟩, by simp [intOf] <;> omega⟩
          · have hst : stepBit st b = (st.1, nxt (st.1.getD st.2 newN) b) := by unfold stepBit; rw [if_neg hz]
            rw [hst] at hgo hst1
            generalize nxt (st.1.getD st.2 newN) b = x at *
            have e0 : ((x : Int) == 0) = false := by rw [beq_eq_false_iff_ne]; omega
            have HT := Lib.hid htw
            have HG := Lib.hid (And.intro hgo hst1)
            clear hgo hst1 hst2 hst3 htw hwfs hz hst hy hbt
            generalize hT1 : st.1.length = T1 at *
            generalize hat : st.2 = at1 at *
            rw [ej]
            go_wp2
            exact ⟨⟨j', (st.1, x), rfl, by omega, rfl, HG.out.1, HG.out.2, by show st.1.length + j' ≤ 7800; omega, HT.out⟩, by simp [intOf] <;> omega⟩
    · have h257 : s = 257 := by omega
      subst h257
      rw [show treeAt 257 = treeT from tree_end] at htw ⊢
      have HT := Lib.hid htw
      clear hwf hcp htw
      generalize htl : treeT.length = tl at *
      go_wp2
      go_ret
      refine ⟨_, rfl, ?_, HT.out.bel⟩
      have := HT.out.own
      rw [htl] at this
      rw [htl]
      exact own_mono2 this HT.out.hb
end Go.Proofs.Ythpieiipddfpjaa

/- The walk of huff.Decode. -/
namespace Go.Proofs.Ythpieiipddfpjaa
open Go.RowKit

/-- What Decode hands back. -/
def decV : Option (List UInt8) → Value
  | none => .tuple #[.string ByteArray.empty, .int .i64 10]
  | some l => .tuple #[.string ⟨l.toArray⟩, .int .i64 0]
/-- Behind i bits. -/
def DecRel (W : World) (B : Nat) (l : List UInt8) (cv nv ov iv v : Value) (w : World) : Prop :=
  ∃ i c n : Nat, ∃ ones : Bool, ∃ out : List UInt8, iv = .int .i64 i ∧ i ≤ 8 * l.length ∧ cv = .int .u32 c ∧ nv = .int .i64 n ∧ ov = .bool ones ∧ Mid c n ∧ out.length + n ≤ i ∧
    decB l = decGo c n ones out ((bitsB l).drop i) ∧ w.ownsRow (B + 1) 5 1 v out.length (bvs out) ∧ Bk w B ∧ Below W.heap.size W w

set_option maxRecDepth 100000 in
set_option maxHeartbeats 2000000 in
theorem dec_some (b o n cap : Nat) (l : List UInt8) (w : World) (hn0 : 0 < n) (hn16 : n ≤ 1048576) (hn : n = l.length) (hb : b < w.heap.size) (hc : ∀ j, j < n → w.cell? ⟨b, o + j, none⟩ = some (.int .u8 (ba l j : Int))) :
    Calls Try.prog 77 #[.slice (some ⟨b, o, none⟩) n cap] w fun e w' => e = .returned (decV (decB l)) ∧ Below w.heap.size w w' := by
  have HN := Lib.hid hn
  have HC := Lib.hid hc
  clear hn hc
  go_enter Try.func77, Try.ntmps77
  go_wp2_with fail
  refine (open_any w).mono ?_
  rintro e w1 ⟨B, rfl, hbk, hB, hb1⟩
  have HBK := Lib.hid (show Bk w1 B from hbk)
  have hBlt := Book.lt hbk
  clear hbk
  go_wp2
  go_loopw [6, 7, 8, 16, 5] (DecRel w B l) (fun _ _ _ i _ _ => 8 * n - (intOf i).toNat)
  case atStart => exact ⟨0, 0, 0, true, [], rfl, by omega, rfl, rfl, rfl, Mid.zero, by simp, rfl, World.ownsRow_nil _ _ _ _, HBK.out, hb1⟩
  case round =>
    obtain ⟨i, c, d, ones, out, rfl, hi, rfl, rfl, rfl, hmid, hol, hdec, hown, hbk, hbel⟩ := hrel
    have hi' : i ≤ 8 * n := by have := HN.out; omega
    clear hi
    by_cases hlt : i < 8 * n
    · obtain ⟨q, hq⟩ : ∃ q, q = i / 8 := ⟨_, rfl⟩
      obtain ⟨r, hr⟩ : ∃ r, r = i % 8 := ⟨_, rfl⟩
      have eq1 : (i : Int) / 8 = (q : Int) := by omega
      have er1 : (i : Int) % 8 = (r : Int) := by omega
      have hqn : q < n := by omega
      have hr8 : r < 8 := by omega
      have hcell : wr.cell? ⟨b, o + q, none⟩ = some (.int .u8 (ba l q : Int)) := by rw [(bcell hbel).1 b _ hb]; exact HC.out q hqn
      have hx := ba_lt l q
      have hc30 := hmid.pow30
      have hd := hmid.le
      obtain ⟨y, hy⟩ : ∃ y, y = ba l q / 2 ^ (7 - r) := ⟨_, rfl⟩
      have ey : (ba l q : Int) / 2 ^ (7 - r) = (y : Int) := by rw [hy]; simp
      have hy256 : y < 256 := by rw [hy]; exact Nat.lt_of_le_of_lt (Nat.div_le_self _ _) hx
      obtain ⟨bt, hbt⟩ : ∃ bt, bt = bitAt l i := ⟨_, rfl⟩
      have hbt2 : bt < 2 := by rw [hbt]; exact bitAt_lt l i
      have hbty : y % 2 = bt := by rw [hbt, hy, bitAt, hq, hr]
      have eb := and_one y hy256
      rw [hbty] at eb
      have eo := or_bit hc30 hbt2
      have hlt30 := hmid.lt hbt2
      have hge := hmid.ge (b := bt)
      have hc2 : 2 * c + bt < 1073741824 := by omega
      have hstep := hdec
      rw [bitsB_drop (by have := HN.out; omega), ← hbt, decGo, hmid.hit] at hstep
      have hcf := Bk.first hbk (i := d + 1) (by omega)
      have hcm := Bk.many hbk (i := d + 1) (by omega)
      have hnx := hmid.next hbt2
      have hroom := hmid.room (b := bt)
      have hsa : symAt (2 * c + bt) (d + 1) = symT.getD (fromT.getD (d + 1) 0 + (2 * c + bt - firstT.getD (d + 1) 0)) 0 := rfl
      generalize hd1 : d + 1 = d1 at *
      have ed : (d : Int) + 1 = (d1 : Int) := by omega
      have hd31 : (d1 : Int) < 31 := by omega
      generalize firstT.getD d1 0 = f at *
      generalize manyT.getD d1 0 = m at *
      generalize 2 * c + bt = c2 at *
      have HD := Lib.hid hstep
      have HNX := Lib.hid hnx
      have HBK := Lib.hid hbk
      have HOWN := Lib.hid hown
      generalize hx : c2 - f = x at *
      have ew1 : IntKind.u32.wrap ((c2 : Int) - (f : Int)) = (x : Int) := by rw [IntWalk.u32_in _ ⟨by omega, by omega⟩]; omega
      have ew2 : IntKind.i64.wrap (x : Int) = (x : Int) := IntWalk.i64_in _ ⟨by omega, by omega⟩
      have e6 : decide (c2 < f) = false := by simp; omega
      have hcfr := Bk.from_ HBK.out (i := d1) (by omega)
      generalize fromT.getD d1 0 = fr at *
      have hbi : ((bt : Int) == 1) = (bt == 1) := by rw [Bool.eq_iff_iff, beq_iff_eq, beq_iff_eq]; omega
      have HBI := Lib.hid hbi
      clear hdec hstep hmid hbk hown hq hr hy hbt hbty hnx hlt30 hd1 hx hbi
      by_cases hhit : x < m
      · have e7 : decide (m ≤ x) = false := by simp; omega
        have hp := hroom hhit
        have ew3 : IntKind.i64.wrap ((fr : Int) + (x : Int)) = ((fr + x : Nat) : Int) := by rw [IntWalk.i64_in _ ⟨by omega, by omega⟩]; omega
        have hcs := Bk.sym HBK.out hp
        have hsv := sym_le (fr + x)
        have hst := HD.out
        rw [if_pos (decide_eq_true hhit), hsa] at hst
        generalize symT.getD (fr + x) 0 = sv at *
        generalize fr + x = p at *
        have hp257 : (p : Int) < 257 := by omega
        have HST := Lib.hid hst
        clear hst hsa hroom
        by_cases hs : sv = 256
        · subst hs
          have hnone : decB l = none := by rw [HST.out, if_pos rfl]
          have HNO := Lib.hid hnone
          clear hnone
          cases ones <;>
          · go_wp2
            go_quiet (fail)
            go_wp2
            go_quiet (fail)
            go_wp2
            go_ret2
            exact ⟨by rw [HNO.out]; rfl, hbel.drewN _⟩
        · have e8 : ((sv : Int) == 256) = false := by rw [beq_eq_false_iff_ne]; omega
          have hs256 : sv < 256 := by omega
          rw [if_neg hs] at HST
          clear hs
          cases ones <;>
          · go_wp2
            go_quiet (fail)
            go_wp2
            go_quiet (fail)
            clear ew1 ew2 ew3
            go_wp2_with (at_builtin; refine wpList_app (.tmp 90) (.tmp 93) tBytes rfl rfl (World.ownsRow.alloc HOWN.out _) rfl (Rd.one _ _ _) rfl (oneInt _ _) (le_maxLen (by omega)) (by omega) (by have := Book.lt HBK.out; simp; omega) ?_; intro v3 w3 hown3 hg3 _)
            refine ⟨⟨i + 1, 0, 0, true, out ++ [UInt8.ofNat sv], by go_num, by have := HN.out; omega, rfl, rfl, rfl, Mid.zero, by simp; omega, HST.out, ?_, ?_, ?_⟩, by simp [intOf]; omega⟩
            · exact OwnB.snoc hown3 (by rw [bv, toNat_ofNat hs256])
            · exact Bk.grown (Bk.alloc (Bk.drewN HBK.out _) _) hg3 (fun e => by have := (World.ownsRow.lt HOWN.out B e.symm).1; omega)
            · exact Below.app ((hbel.drewN _).alloc hbel.size _) (World.ownsRow.alloc HOWN.out _) hg3 (by omega) (by have := hbel.size; simp; omega)
      · have e7 : decide (m ≤ x) = true := by simp; omega
        have hst := HD.out
        rw [if_neg (by simp; omega)] at hst
        have HST := Lib.hid hst
        clear hst hsa hroom
        cases ones
        · go_wp2
          go_quiet (fail)
          go_wp2
          exact ⟨⟨i + 1, c2, d1, false, out, by go_num, by have := HN.out; omega, rfl, rfl, rfl, HNX.out (by omega), by omega, HST.out, HOWN.out, HBK.out, hbel.drewN _⟩, by simp [intOf]; omega⟩
        · go_wp2
          go_quiet (fail)
          go_wp2
          exact ⟨⟨i + 1, c2, d1, bt == 1, out, by go_num, by have := HN.out; omega, rfl, rfl, by rw [HBI.out], HNX.out (by omega), by omega, HST.out, HOWN.out, HBK.out, hbel.drewN _⟩, by simp [intOf]; omega⟩
    · obtain rfl : i = 8 * n := by omega
      have hnil : (bitsB l).drop (8 * n) = [] := List.drop_eq_nil_of_le (by rw [bitsB_length, HN.out]; exact Nat.le_refl _)
      rw [hnil, decGo] at hdec
      have hlen : (8 * (n : Int)) = ((8 * n : Nat) : Int) := by omega
      obtain ⟨A, cc, rfl, -, -, hrd, -⟩ := own_slice hown
      have hstr := run_str Try.underlying52 Try.underlying5 Try.underlying9 hrd cc
      by_cases h7 : 7 < d
      · rw [if_pos (Or.inl h7)] at hdec
        have HD := Lib.hid hdec
        clear hdec hnil hown hrd hstr hmid hbk hlen
        cases ones <;>
        · go_wp2
          go_ret2
          exact ⟨by rw [HD.out]; rfl, hbel⟩
      · cases ones
        · rw [if_pos (Or.inr rfl)] at hdec
          have HD := Lib.hid hdec
          clear hdec hnil hown hrd hstr hmid hbk hlen
          go_wp2
          go_ret2
          exact ⟨by rw [HD.out]; rfl, hbel⟩
        · rw [if_neg (by simp; omega)] at hdec
          have HD := Lib.hid hdec
          clear hdec hnil hown hrd hmid hbk hlen
          go_wp2
          go_ret2
          exact ⟨by rw [HD.out]; rfl, hbel⟩

set_option maxRecDepth 100000 in
set_option maxHeartbeats 1000000 in
theorem dec_none (A : Option Addr) (cap : Nat) (w : World) : Calls Try.prog 77 #[.slice A 0 cap] w fun e w' => e = .returned (decV (decB [])) ∧ Below w.heap.size w w' := by
  have hd : decB [] = some [] := by decide +kernel
  have HD := Lib.hid hd
  clear hd
  go_enter Try.func77, Try.ntmps77
  go_wp2_with fail
  refine (open_any w).mono ?_
  rintro e w1 ⟨B, rfl, hbk, hB, hb1⟩
  have hstr := run_str (P := Try.prog) (w := w1) Try.underlying52 Try.underlying5 Try.underlying9 (show Rd w1 0 1 none 0 (bvs []) from Rd.none_ w1 0 1 none) 0
  clear hbk
  go_wp2
  refine wp_loop_rounds 1 ?_
  rw [rounds_succ]
  go_wp2
  go_ret2
  exact ⟨by rw [HD.out]; rfl, hb1⟩

/-- Decode, whatever the bytes. -/
theorem dec_any {A : Option Addr} {n cap : Nat} {l : List UInt8} {w : World} (hr : Rd w w.heap.size 1 A n (bvs l)) (hn : n ≤ 1048576) :
    Calls Try.prog 77 #[.slice A n cap] w fun e w' => e = .returned (decV (decB l)) ∧ Below w.heap.size w w' := by
  rcases Nat.eq_zero_or_pos n with rfl | hn0
  · have hl0 : l = [] := List.eq_nil_of_length_eq_zero hr.blen
    subst hl0
    exact dec_none A cap w
  · obtain ⟨hl, b, o, rfl, hb, hc⟩ := hr.bas hn0
    exact dec_some b o n cap l w hn0 hn hl.symm hb hc
end Go.Proofs.Ythpieiipddfpjaa

/- The walks of drawbridgelaw02.awake and HuffSums. -/
namespace Go.Proofs.Ythpieiipddfpjaa
open Go.RowKit

theorem _root_.Go.RowKit.Below.tr {w w1 w2 : World} (h : Below w.heap.size w w1) (h2 : Below w1.heap.size w1 w2) : Below w.heap.size w w2 := h.trans (h2.mono h.size)

theorem str_app (a b : ByteArray) : (a ++ b).data.toList = a.data.toList ++ b.data.toList := by
  rw [ByteArray.data_append, Array.toList_append]

end Go.Proofs.Ythpieiipddfpjaa

/- The walk of drawbridgeref01.Bytes at two rows of the same bytes. -/
namespace Go.Proofs.Ythpieiipddfpjaa
open Go.RowKit
set_option maxHeartbeats 400000 in
theorem bytes_same {A A' : Option Addr} {B B' n n' c c' : Nat} {l : List UInt8} {w : World} (hr : Rd w B 1 A n (bvs l)) (hr' : Rd w B' 1 A' n' (bvs l)) :
    Calls Try.prog 34 #[.slice A n c, .slice A' n' c'] w fun e w' => e = .returned (.bool true) ∧ w = w' := by
  have e1 := run_str Try.underlying52 Try.underlying5 Try.underlying9 hr c
  have e2 := run_str Try.underlying52 Try.underlying5 Try.underlying9 hr' c'
  clear hr hr'
  go_enter Try.func34, Try.ntmps34
  go_wp2
  go_ret
  exact ⟨ret_v (by simp), rfl⟩
end Go.Proofs.Ythpieiipddfpjaa

/- The walk of drawbridgelaw02.HuffEncodes. -/
namespace Go.Proofs.Ythpieiipddfpjaa
open Go.RowKit

end Go.Proofs.Ythpieiipddfpjaa

/- The walk of drawbridgelaw02.HuffBack. -/
namespace Go.Proofs.Ythpieiipddfpjaa
open Go.RowKit

theorem own_empty2 {base size : Nat} {e : TypeId} (w : World) (h : base ≤ w.heap.size) : (w.alloc (.cells #[] e)).ownsRow base e size (.slice (some ⟨w.heap.size, 0, none⟩) 0 0) 0 [] :=
  World.ownsRow_lit w #[] 0 h (Nat.zero_le _) (by simp)
theorem decV_some (l : List UInt8) : decV (some l) = .tuple #[.string ⟨l.toArray⟩, .int .i64 0] := rfl
theorem decV_none : decV none = .tuple #[.string ⟨#[]⟩, .int .i64 10] := rfl
theorem str_back (s : ByteArray) : (⟨s.data.toList.toArray⟩ : ByteArray) = s := by rw [Array.toArray_toList]

end Go.Proofs.Ythpieiipddfpjaa

/- The walk of drawbridgeref02.Decode: down the tree is reading the codes. -/
namespace Go.Proofs.Ythpieiipddfpjaa
open Go.RowKit

/-- The tree lies in block g. -/
def TC (w : World) (g : Nat) : Prop := ∀ i k, i < 513 → k < 3 → w.cell? ⟨g, i * 3 + k, none⟩ = (nodeV (treeT.getD i newN))[k]?
theorem and_one8 (x : Nat) (hx : x < 256) : Go.bits .and .u8 (x : Int) 1 = ((x % 2 : Nat) : Int) := by
  rw [show (1 : Int) = ((1 : Nat) : Int) from rfl, u8_and_nat _ _ (by omega) (by omega), nat_mask1]
/-- Behind i bits, at a node of the tree. -/
structure DSt (W w : World) (gt b0 : Nat) (l : List UInt8) (i at1 : Nat) (ones : Bool) (out : List UInt8) (v : Value) : Prop where
  lt : at1 < 513
  sym : (treeT.getD at1 newN).2.2 < 0
  mid : Mid (wayT at1).1 (wayT at1).2
  ol : out.length + (wayT at1).2 ≤ i
  dec : decB l = decGo (wayT at1).1 (wayT at1).2 ones out ((bitsB l).drop i)
  own : w.ownsRow b0 5 1 v out.length (bvs out)
  tc : TC w gt
  bel : Below W.heap.size W w
  hb : W.heap.size ≤ b0
  gt : gt < b0
  lb : b0 ≤ w.heap.size
def RDecRel (W : World) (gt b0 : Nat) (l : List UInt8) (v av lv nv iv : Value) (w : World) : Prop :=
  ∃ i at1 : Nat, ∃ ones : Bool, ∃ out : List UInt8, iv = .int .i64 i ∧ i ≤ l.length ∧ av = .int .i64 at1 ∧ lv = .int .i64 ((wayT at1).2 : Int) ∧ nv = .bool (!ones) ∧ DSt W w gt b0 l (8 * i) at1 ones out v
def RBitRel (W : World) (gt b0 : Nat) (l : List UInt8) (i : Nat) (v av lv nv jv : Value) (w : World) : Prop :=
  ∃ m at1 : Nat, ∃ ones : Bool, ∃ out : List UInt8, jv = .int .i64 ((7 : Int) - m) ∧ m ≤ 8 ∧ av = .int .i64 at1 ∧ lv = .int .i64 ((wayT at1).2 : Int) ∧ nv = .bool (!ones) ∧ DSt W w gt b0 l (8 * i + m) at1 ones out v

set_option maxRecDepth 100000 in
set_option maxHeartbeats 2000000 in
theorem rdec_any {A : Option Addr} {n cap : Nat} {l : List UInt8} {w : World} (hr : Rd w w.heap.size 1 A n (bvs l)) (hn : n ≤ 1048576) :
    Calls Try.prog 71 #[.slice A n cap] w fun e w' => e = .returned (decV (decB l)) ∧ Below w.heap.size w w' := by
  have hnl : n = l.length := hr.blen.symm
  have HN := Lib.hid hnl
  have HR := Lib.hid hr
  clear hnl hr
  go_enter Try.func71, Try.ntmps71
  go_wp2_with fail
  refine (rtree_any w).mono ?_
  rintro e w1 ⟨v, rfl, hown, hb1⟩
  obtain ⟨gt, ct, rfl, hg0, hg1, -, -⟩ := own3_form hown (by rw [tree_len]; decide)
  have htc : TC w1 gt := fun i k hi hk => by rw [World.ownsRow.cellAt hown _ (by rw [tree_len]; omega), rowV_get treeT i k (by rw [tree_len]; exact hi) hk]
  rw [tree_len]
  have hs1 := hb1.size
  have hD : DSt w (w1.alloc (.cells #[] 5)) gt w1.heap.size l 0 0 true [] (.slice (some ⟨w1.heap.size, 0, none⟩) 0 0) :=
    ⟨by decide, tree_root.1, by rw [tree_root.2]; exact Mid.zero, by rw [tree_root.2]; exact Nat.le_refl _, by rw [tree_root.2]; rfl, own_empty2 w1 (Nat.le_refl _),
      fun i k hi hk => (World.cell?_alloc_lt w1 _ ⟨gt, i * 3 + k, none⟩ hg1).trans (htc i k hi hk), hb1.alloc hs1 _, hs1, hg1, by simp⟩
  have HD := Lib.hid hD
  clear hown htc hD hb1
  go_wp2
  generalize w1.heap.size = b0 at *
  go_loopw [5, 6, 7, 8, 9] (RDecRel w gt b0 l) (fun _ _ _ _ i _ => n - (intOf i).toNat)
  case atStart => exact ⟨0, 0, true, [], rfl, by omega, rfl, by rw [tree_root.2]; rfl, rfl, HD.out⟩
  case round =>
    obtain ⟨i, at1, ones, out, rfl, hi, rfl, rfl, rfl, hd⟩ := hrel
    rw [← HN.out] at hi
    have hmid := hd.mid.le
    have hD := Lib.hid hd
    clear hd
    by_cases hlt : i < n
    · have elt : decide ((i : Int) < n) = true := decide_eq_true (by omega)
      go_wp2
      clear elt
      go_loopw [5, 6, 7, 8, 10] (RBitRel w gt b0 l i) (fun _ _ _ _ j _ => (intOf j + 1).toNat)
      case atStart => exact ⟨0, at1, ones, out, rfl, by omega, rfl, rfl, rfl, hD.out⟩
      case round =>
        clear hD hmid
        obtain ⟨m, at2, on2, out2, rfl, hm, rfl, rfl, rfl, hd⟩ := hrel
        by_cases hm8 : m < 8
        · obtain ⟨b, o, rfl, hb, hc⟩ : ∃ b o, A = some ⟨b, o, none⟩ ∧ b < w.heap.size ∧ ∀ j, j < n → w.cell? ⟨b, o + j, none⟩ = some (.int .u8 (ba l j : Int)) := (HR.out.bas (by omega)).2
          have hcell : wr.cell? ⟨b, o + i, none⟩ = some (.int .u8 (ba l i : Int)) := by rw [(bcell hd.bel).1 b _ hb]; exact hc i hlt
          have hx := ba_lt l i
          obtain ⟨q, hq⟩ : ∃ q, q = 7 - m := ⟨_, rfl⟩
          have eq1 : (7 : Int) - (m : Int) = (q : Int) := by omega
          have hq8 : q < 8 := by omega
          obtain ⟨y, hy⟩ : ∃ y, y = ba l i / 2 ^ q := ⟨_, rfl⟩
          have ey : (ba l i : Int) / 2 ^ q = (y : Int) := by rw [hy]; simp
          have hy256 : y < 256 := by rw [hy]; exact Nat.lt_of_le_of_lt (Nat.div_le_self _ _) hx
          have eb := and_one8 y hy256
          obtain ⟨bt, hbt⟩ : ∃ bt, bt = bitAt l (8 * i + m) := ⟨_, rfl⟩
          have hbt2 : bt < 2 := by rw [hbt]; exact bitAt_lt l _
          have hbty : y % 2 = bt := by rw [hbt, hy, bitAt, hq, show (8 * i + m) / 8 = i by omega, show (8 * i + m) % 8 = m by omega]
          rw [hbty] at eb
          have hbt2i : (bt : Int) < 2 := by omega
          have hat := hd.lt
          have hati : (at2 : Int) < 513 := by omega
          have hcn := hd.tc at2 bt hat (by omega)
          rw [node_next _ hbt2] at hcn
          obtain ⟨hx1, hx2, hx3⟩ := tree_down (by rw [tree_len]; exact hat) hd.sym hbt2
          rw [tree_len] at hx1
          have hstep := hd.dec
          rw [bitsB_drop (by have := HN.out; omega), ← hbt, decGo] at hstep
          have hnext := hd.mid.next hbt2
          have hhit := hd.mid.hit (b := bt)
          have hml := hd.mid.le
          have hol := hd.ol
          have hcs := hd.tc (nxt (treeT.getD at2 newN) bt) 2 hx1 (by omega)
          replace hcs : wr.cell? ⟨gt, nxt (treeT.getD at2 newN) bt * 3 + 2, none⟩ = some (.int .i64 (treeT.getD (nxt (treeT.getD at2 newN) bt) newN).2.2) := hcs
          obtain ⟨x, hxe⟩ : ∃ x, x = nxt (treeT.getD at2 newN) bt := ⟨_, rfl⟩
          rw [← hxe] at hcn hx1 hx2 hx3 hcs
          obtain ⟨sv, hsv⟩ : ∃ sv, sv = (treeT.getD x newN).2.2 := ⟨_, rfl⟩
          rw [← hsv] at hx3 hcs
          have hxi : (x : Int) < 513 := by omega
          have hbi : (((bt : Int) == 0) : Bool) = !(bt == 1) := by
            have : bt = 0 ∨ bt = 1 := by omega
            rcases this with rfl | rfl <;> rfl
          have HSV := Lib.hid hsv
          have HW := Lib.hid hx2
          have HD := Lib.hid hd
          generalize hlf : (wayT at2).2 = lf at *
          generalize hcc : (wayT at2).1 = cc at *
          have HST := Lib.hid (And.intro hstep (And.intro hnext hhit))
          clear hq hy hbt hbty hx2 hstep hnext hhit hxe hsv hd hc hcc hlf
          rcases hx3 with ⟨hneg, hno⟩ | ⟨hsym, hyes⟩
          · have e1 : decide (sv < 0) = true := decide_eq_true hneg
            have hst := HST.out.1
            rw [if_neg (by rw [hno]; decide)] at hst
            have hmm : manyT.getD (lf + 1) 0 ≤ 2 * cc + bt - firstT.getD (lf + 1) 0 := by
              have := HST.out.2.2
              rw [hno] at this
              have := of_decide_eq_false this.symm
              omega
            have hmid := HST.out.2.1 hmm
            have HX := Lib.hid (And.intro hst hmid)
            clear hst hmm hmid hno
            cases on2
            · go_wp2
              exact ⟨⟨m + 1, x, false, out2, by go_num, by omega, rfl, by rw [HW.out]; go_num, rfl,
                ⟨hx1, by rw [← HSV.out]; exact hneg, by rw [HW.out]; exact HX.out.2, by rw [HW.out]; show out2.length + (lf + 1) ≤ _; omega, by rw [HW.out]; exact HX.out.1, HD.out.own, HD.out.tc, HD.out.bel, HD.out.hb, HD.out.gt, HD.out.lb⟩⟩, by simp [intOf]; omega⟩
            · go_wp2
              exact ⟨⟨m + 1, x, bt == 1, out2, by go_num, by omega, rfl, by rw [HW.out]; go_num, rfl,
                ⟨hx1, by rw [← HSV.out]; exact hneg, by rw [HW.out]; exact HX.out.2, by rw [HW.out]; show out2.length + (lf + 1) ≤ _; omega, by rw [HW.out]; exact HX.out.1, HD.out.own, HD.out.tc, HD.out.bel, HD.out.hb, HD.out.gt, HD.out.lb⟩⟩, by simp [intOf]; omega⟩
          · have hns := sym_le (fromT.getD (lf + 1) 0 + (2 * cc + bt - firstT.getD (lf + 1) 0))
            have hst := HST.out.1
            rw [if_pos hyes] at hst
            rw [show symT.getD (fromT.getD (lf + 1) 0 + (2 * cc + bt - firstT.getD (lf + 1) 0)) 0 = symAt (2 * cc + bt) (lf + 1) from rfl] at hns
            generalize symAt (2 * cc + bt) (lf + 1) = ns at *
            subst hsym
            have HX := Lib.hid hst
            clear hst hyes
            by_cases hs : ns = 256
            · subst hs
              have hnone : decB l = none := by rw [HX.out, if_pos rfl]
              have HNO := Lib.hid hnone
              have hbel := HD.out.bel
              clear hnone
              cases on2 <;>
              · go_wp2
                go_ret2
                exact ⟨by rw [HNO.out]; rfl, hbel⟩
            · have e8 : ((ns : Int) == 256) = false := by rw [beq_eq_false_iff_ne]; omega
              have hs256 : ns < 256 := by omega
              rw [if_neg hs] at HX
              clear hs
              have hown := HD.out.own
              have HOWN := Lib.hid hown
              clear hown
              have hlb := HD.out.lb
              have hol2 : out2.length ≤ 8388616 := by have := HN.out; omega
              cases on2 <;>
              · go_wp2_with (first
                  | (at_builtin
                     refine wpList_app (.tmp 57) (.tmp 64) tBytes rfl rfl (World.ownsRow.alloc HOWN.out _) rfl (Rd.one _ _ _) rfl (oneInt _ _) (le_maxLen (by omega)) (by omega) (by simp; omega) ?_
                     intro v3 w3 hown3 hg3 _))
                refine ⟨⟨m + 1, 0, true, out2 ++ [UInt8.ofNat ns], by go_num, by omega, rfl, by rw [tree_root.2]; rfl, rfl, ?_⟩, by simp [intOf]; omega⟩
                refine ⟨by decide, tree_root.1, by rw [tree_root.2]; exact Mid.zero, by rw [tree_root.2, List.length_append]; show out2.length + 1 + 0 ≤ _; omega, by rw [tree_root.2]; exact HX.out, ?_, ?_, ?_, HD.out.hb, HD.out.gt, ?_⟩
                · exact OwnB.snoc hown3 (by rw [bv, toNat_ofNat hs256])
                · intro i' k hi' hk
                  have hgt := HD.out.gt
                  obtain ⟨u, hu⟩ : ∃ u, (nodeV (treeT.getD i' newN))[k]? = some u := ⟨_, List.getElem?_eq_getElem (show k < (nodeV (treeT.getD i' newN)).length from hk)⟩
                  rw [hu]
                  exact (hg3.cell ((World.cell?_alloc_lt wr _ ⟨gt, i' * 3 + k, none⟩ (by show gt < _; omega)).trans ((HD.out.tc i' k hi' hk).trans hu)) (fun e => by have := (World.ownsRow.lt HOWN.out gt e.symm).1; omega))
                · exact Below.app (HD.out.bel.alloc HD.out.bel.size _) (World.ownsRow.alloc HOWN.out _) hg3 HD.out.hb (by have := HD.out.bel.size; simp; omega)
                · exact Nat.le_trans hlb (Nat.le_trans (by simp) hg3.size)
        · obtain rfl : m = 8 := by omega
          have HD := Lib.hid hd
          clear hd
          rw [show (7 : Int) - ((8 : Nat) : Int) = -1 by rfl]
          go_wp2
          exact ⟨⟨i + 1, at2, on2, out2, by go_num, by have := HN.out; omega, rfl, rfl, rfl, HD.out⟩, by simp [intOf]; omega⟩
    · obtain rfl : i = n := by omega
      have hdec := hD.out.dec
      rw [List.drop_eq_nil_of_le (by rw [bitsB_length, HN.out]; exact Nat.le_refl _), decGo] at hdec
      obtain ⟨A2, cc, rfl, -, -, hrd, -⟩ := own_slice hD.out.own
      have hstr := run_str Try.underlying52 Try.underlying5 Try.underlying9 hrd cc
      have hbel := hD.out.bel
      generalize (wayT at1).2 = lf at *
      by_cases h7 : 7 < lf
      · rw [if_pos (Or.inl h7)] at hdec
        have HX := Lib.hid hdec
        clear hdec hrd hstr hD
        cases ones <;>
        · go_wp2
          go_ret2
          exact ⟨by rw [HX.out]; rfl, hbel⟩
      · cases ones
        · rw [if_pos (Or.inr rfl)] at hdec
          have HX := Lib.hid hdec
          clear hdec hrd hstr hD
          go_wp2
          go_ret2
          exact ⟨by rw [HX.out]; rfl, hbel⟩
        · rw [if_neg (by simp; omega)] at hdec
          have HX := Lib.hid hdec
          clear hdec hrd hD
          go_wp2
          go_ret2
          exact ⟨by rw [HX.out]; rfl, hbel⟩
end Go.Proofs.Ythpieiipddfpjaa

/- The walks of prefix.TakeText and drawbridgeref03.TakeText. -/
namespace Go.Proofs.Ythpieiipddfpjaa
open Go.RowKit

theorem Rd.cut {w : World} {B b o n a m : Nat} {l : List UInt8} (h : Rd w B 1 (some ⟨b, o, none⟩) n (bvs l)) (h1 : a + m ≤ n) : Rd w B 1 (some ⟨b, o + a, none⟩) m (bvs ((l.drop a).take m)) := by
  have hl := h.blen
  refine ⟨by simp [bvs]; omega, fun hm => ?_⟩
  obtain ⟨b', o', e, hb, hc⟩ := h.2 (by omega)
  injection e with e; injection e with e1 e2 e3; subst e1 e2
  refine ⟨_, _, rfl, hb, fun j hj => ?_⟩
  rw [Nat.add_assoc, hc (a + j) (by omega)]
  simp only [bvs, List.getElem?_map, List.getElem?_take, List.getElem?_drop]
  rw [if_pos (by omega)]
/-- 'own[at:end]' of a slice whose room ends there: nothing. -/
theorem Rd.end_ {w : World} {B n : Nat} {A : Option Addr} {l : List UInt8} (_hl : l.length = n) : Rd w B 1 A 0 (bvs ((l.drop n).take 0)) := by
  rw [List.take_zero]; exact Rd.none_ _ _ _ _

set_option maxRecDepth 100000 in
set_option maxHeartbeats 2000000 in
theorem takeText_any {A : Option Addr} {n cap : Nat} {l : List UInt8} {w : World} (hr : Rd w w.heap.size 1 A n (bvs l)) (hcap : n ≤ cap) (hm : cap ≤ maxLen) (hn : n ≤ 1048576) :
    Calls Try.prog 74 #[.slice A n cap] w fun e w' => e = .returned (triT (takeT l)) ∧ Below w.heap.size w w' := by
  have HL := Lib.hid hr.blen
  have hcm := hm
  unfold maxLen at hcm
  obtain ⟨⟨m, a, z⟩, hv⟩ : ∃ r, takeI 127 l = r := ⟨_, rfl⟩
  have hbd := takeI_bd (F := 127) (by omega) l
  have hze := takeI_err 127 l
  rw [hv] at hbd hze
  simp only at hbd hze
  have HV := Lib.hid hv
  have ht := take_any (w := w) full7 hr hcap hm
  rw [hv] at ht
  simp only [tri] at ht
  have HT := Lib.hid ht
  have HR := Lib.hid hr
  clear hv ht hr
  by_cases hz : z = 0
  · have hbd1 := hbd hz
    subst hz
    clear hbd hze
    obtain ⟨h31, ha1, han, ha6⟩ := hbd1
    rw [HL.out] at han
    by_cases hm4 : 4096 < m
    · go_enter Try.func74, Try.ntmps74
      go_wp2_with fail
      refine HT.out.mono ?_
      rintro e w1 ⟨rfl, rfl⟩
      go_wp2
      go_ret3
      exact ⟨by rw [takeT_long HV.out rfl hm4]; rfl, Below.refl _ _⟩
    · by_cases hl : n < a + m
      · go_enter Try.func74, Try.ntmps74
        go_wp2_with fail
        refine HT.out.mono ?_
        rintro e w1 ⟨rfl, rfl⟩
        go_wp2
        go_ret3
        exact ⟨by rw [takeT_short HV.out rfl (by omega) (by rw [HL.out]; exact hl)]; rfl, Below.refl _ _⟩
      · obtain ⟨-, b, o, rfl, hb, hc⟩ := HR.out.bas (by omega)
        have hc0 : w.cell? ⟨b, o, none⟩ = some (.int .u8 (ba l 0 : Int)) := hc 0 (by omega)
        clear hc
        by_cases hca : cap = a
        · obtain rfl : cap = n := by omega
          obtain rfl : a = cap := by omega
          obtain rfl : m = 0 := by omega
          have hp := Rd.end_ (w := w) (B := w.heap.size) (A := some ⟨b, o, none⟩) HL.out
          have e1 := run_str Try.underlying52 Try.underlying5 Try.underlying9 hp (a - a)
          simp only [Nat.sub_self] at e1
          have E1 := Lib.hid e1
          have HP := Lib.hid hp
          clear e1 hp
          by_cases hb0 : ba l 0 < 128
          · have e1 := E1.out
            go_enter Try.func74, Try.ntmps74
            go_wp2_with fail
            refine HT.out.mono ?_
            rintro e w1 ⟨rfl, rfl⟩
            go_wp2
            go_ret3
            exact ⟨by rw [takeT_raw HV.out rfl (by omega) (by rw [HL.out]; omega) hb0]; rfl, Below.refl _ _⟩
          · have hT := takeT_bits HV.out rfl (by omega) (by rw [HL.out]; omega) (by omega)
            have hd := dec_any HP.out (by omega) (cap := a - a)
            simp only [Nat.sub_self] at hd
            generalize decB ((l.drop a).take 0) = D at *
            have HD := Lib.hid hd
            have HTT := Lib.hid hT
            clear hd hT
            go_enter Try.func74, Try.ntmps74
            go_wp2_with fail
            refine HT.out.mono ?_
            rintro e w1 ⟨rfl, rfl⟩
            go_wp2_with fail
            refine HD.out.mono ?_
            rintro e w2 ⟨rfl, hb2⟩
            cases D with
            | none =>
              simp only [decV]
              go_wp2
              go_ret3
              exact ⟨by rw [HTT.out]; rfl, hb2⟩
            | some t =>
              simp only [decV]
              have hsz : (ByteArray.mk t.toArray).size = t.length := by simp [ByteArray.size]
              have hfin := HTT.out
              simp only at hfin
              obtain ⟨s, hs⟩ : ∃ s : ByteArray, s = ⟨t.toArray⟩ := ⟨_, rfl⟩
              rw [← hs] at hsz ⊢
              have HS := Lib.hid hs
              have HSZ := Lib.hid hsz
              have HF := Lib.hid hfin
              clear hs hsz hfin
              by_cases hbig : 4096 < s.size
              · go_wp2
                go_ret3
                exact ⟨by rw [HF.out, if_pos (by rw [← HSZ.out]; exact hbig)]; rfl, hb2⟩
              · go_wp2
                go_ret3
                exact ⟨by rw [HF.out, if_neg (by rw [← HSZ.out]; exact hbig), HS.out]; rfl, hb2⟩
        · have hp := Rd.cut (a := a) (m := m) HR.out (by omega)
          have e1 := run_str Try.underlying52 Try.underlying5 Try.underlying9 hp (cap - a)
          have E1 := Lib.hid e1
          have HP := Lib.hid hp
          clear e1 hp
          by_cases hb0 : ba l 0 < 128
          · have e1 := E1.out
            go_enter Try.func74, Try.ntmps74
            go_wp2_with fail
            refine HT.out.mono ?_
            rintro e w1 ⟨rfl, rfl⟩
            go_wp2
            go_ret3
            exact ⟨by rw [takeT_raw HV.out rfl (by omega) (by rw [HL.out]; omega) hb0]; rfl, Below.refl _ _⟩
          · have hT := takeT_bits HV.out rfl (by omega) (by rw [HL.out]; omega) (by omega)
            have hd := dec_any HP.out (by omega) (cap := cap - a)
            generalize decB ((l.drop a).take m) = D at *
            have HD := Lib.hid hd
            have HTT := Lib.hid hT
            clear hd hT
            go_enter Try.func74, Try.ntmps74
            go_wp2_with fail
            refine HT.out.mono ?_
            rintro e w1 ⟨rfl, rfl⟩
            go_wp2_with fail
            refine HD.out.mono ?_
            rintro e w2 ⟨rfl, hb2⟩
            cases D with
            | none =>
              simp only [decV]
              go_wp2
              go_ret3
              exact ⟨by rw [HTT.out]; rfl, hb2⟩
            | some t =>
              simp only [decV]
              have hsz : (ByteArray.mk t.toArray).size = t.length := by simp [ByteArray.size]
              have hfin := HTT.out
              simp only at hfin
              obtain ⟨s, hs⟩ : ∃ s : ByteArray, s = ⟨t.toArray⟩ := ⟨_, rfl⟩
              rw [← hs] at hsz ⊢
              have HS := Lib.hid hs
              have HSZ := Lib.hid hsz
              have HF := Lib.hid hfin
              clear hs hsz hfin
              by_cases hbig : 4096 < s.size
              · go_wp2
                go_ret3
                exact ⟨by rw [HF.out, if_pos (by rw [← HSZ.out]; exact hbig)]; rfl, hb2⟩
              · go_wp2
                go_ret3
                exact ⟨by rw [HF.out, if_neg (by rw [← HSZ.out]; exact hbig), HS.out]; rfl, hb2⟩
  · go_enter Try.func74, Try.ntmps74
    go_wp2_with fail
    refine HT.out.mono ?_
    rintro e w1 ⟨rfl, rfl⟩
    go_wp2
    go_ret3
    exact ⟨by rw [takeT_err HV.out hz]; rfl, Below.refl _ _⟩
theorem rtake_full {A : Option Addr} {B n cap : Nat} {l : List UInt8} {w : World} (hr : Rd w B 1 A n (bvs l)) (hcap : n ≤ cap) (hm : cap ≤ maxLen) :
    Calls Try.prog 52 #[.slice A n cap, .int .i64 ((7 : Nat) : Int)] w fun e w' => e = .returned (tri (takeI 127 l)) ∧ w = w' := by
  have h := rtake_all (bits := ((7 : Nat) : Int)) hr hcap hm
  rw [takeV_in full7] at h
  exact h
set_option maxRecDepth 100000 in
set_option maxHeartbeats 2000000 in
theorem rtakeText_any {A : Option Addr} {n cap : Nat} {l : List UInt8} {w : World} (hr : Rd w w.heap.size 1 A n (bvs l)) (hcap : n ≤ cap) (hm : cap ≤ maxLen) (hn : n ≤ 1048576) :
    Calls Try.prog 63 #[.slice A n cap] w fun e w' => e = .returned (triT (takeT l)) ∧ Below w.heap.size w w' := by
  have HL := Lib.hid hr.blen
  have hcm := hm
  unfold maxLen at hcm
  obtain ⟨⟨m, a, z⟩, hv⟩ : ∃ r, takeI 127 l = r := ⟨_, rfl⟩
  have hbd := takeI_bd (F := 127) (by omega) l
  have hze := takeI_err 127 l
  rw [hv] at hbd hze
  simp only at hbd hze
  have HV := Lib.hid hv
  have ht := rtake_full (w := w) hr hcap hm
  rw [hv] at ht
  simp only [tri] at ht
  have HT := Lib.hid ht
  have HR := Lib.hid hr
  clear hv ht hr
  by_cases hz : z = 0
  · have hbd1 := hbd hz
    subst hz
    clear hbd hze
    obtain ⟨h31, ha1, han, ha6⟩ := hbd1
    rw [HL.out] at han
    by_cases hm4 : 4096 < m
    · go_enter Try.func63, Try.ntmps63
      go_wp2_with fail
      refine HT.out.mono ?_
      rintro e w1 ⟨rfl, rfl⟩
      go_wp2
      go_ret3
      exact ⟨by rw [takeT_long HV.out rfl hm4]; rfl, Below.refl _ _⟩
    · by_cases hl : n < a + m
      · go_enter Try.func63, Try.ntmps63
        go_wp2_with fail
        refine HT.out.mono ?_
        rintro e w1 ⟨rfl, rfl⟩
        go_wp2
        go_ret3
        exact ⟨by rw [takeT_short HV.out rfl (by omega) (by rw [HL.out]; exact hl)]; rfl, Below.refl _ _⟩
      · obtain ⟨-, b, o, rfl, hb, hc⟩ := HR.out.bas (by omega)
        have hc0 : w.cell? ⟨b, o, none⟩ = some (.int .u8 (ba l 0 : Int)) := hc 0 (by omega)
        clear hc
        by_cases hca : cap = a
        · obtain rfl : cap = n := by omega
          obtain rfl : a = cap := by omega
          obtain rfl : m = 0 := by omega
          have hp := Rd.end_ (w := w) (B := w.heap.size) (A := some ⟨b, o, none⟩) HL.out
          have e1 := run_str Try.underlying52 Try.underlying5 Try.underlying9 hp (a - a)
          simp only [Nat.sub_self] at e1
          have E1 := Lib.hid e1
          have HP := Lib.hid hp
          clear e1 hp
          by_cases hb0 : ba l 0 < 128
          · have e1 := E1.out
            go_enter Try.func63, Try.ntmps63
            go_wp2_with fail
            refine HT.out.mono ?_
            rintro e w1 ⟨rfl, rfl⟩
            go_wp2
            go_ret3
            exact ⟨by rw [takeT_raw HV.out rfl (by omega) (by rw [HL.out]; omega) hb0]; rfl, Below.refl _ _⟩
          · have hT := takeT_bits HV.out rfl (by omega) (by rw [HL.out]; omega) (by omega)
            have e1 := E1.out
            have hd := rdec_any HP.out (by omega) (cap := a - a)
            simp only [Nat.sub_self] at hd
            generalize decB ((l.drop a).take 0) = D at *
            have HD := Lib.hid hd
            have HTT := Lib.hid hT
            clear hd hT
            go_enter Try.func63, Try.ntmps63
            go_wp2_with fail
            refine HT.out.mono ?_
            rintro e w1 ⟨rfl, rfl⟩
            go_wp2_with fail
            refine HD.out.mono ?_
            rintro e w2 ⟨rfl, hb2⟩
            cases D with
            | none =>
              simp only [decV]
              go_wp2
              go_ret3
              exact ⟨by rw [HTT.out]; rfl, hb2⟩
            | some t =>
              simp only [decV]
              have hsz : (ByteArray.mk t.toArray).size = t.length := by simp [ByteArray.size]
              have hfin := HTT.out
              simp only at hfin
              obtain ⟨s, hs⟩ : ∃ s : ByteArray, s = ⟨t.toArray⟩ := ⟨_, rfl⟩
              rw [← hs] at hsz ⊢
              have HS := Lib.hid hs
              have HSZ := Lib.hid hsz
              have HF := Lib.hid hfin
              clear hs hsz hfin
              by_cases hbig : 4096 < s.size
              · go_wp2
                go_ret3
                exact ⟨by rw [HF.out, if_pos (by rw [← HSZ.out]; exact hbig)]; rfl, hb2⟩
              · go_wp2
                go_ret3
                exact ⟨by rw [HF.out, if_neg (by rw [← HSZ.out]; exact hbig), HS.out]; rfl, hb2⟩
        · have hp := Rd.cut (a := a) (m := m) HR.out (by omega)
          have e1 := run_str Try.underlying52 Try.underlying5 Try.underlying9 hp (cap - a)
          have E1 := Lib.hid e1
          have HP := Lib.hid hp
          clear e1 hp
          by_cases hb0 : ba l 0 < 128
          · have e1 := E1.out
            go_enter Try.func63, Try.ntmps63
            go_wp2_with fail
            refine HT.out.mono ?_
            rintro e w1 ⟨rfl, rfl⟩
            go_wp2
            go_ret3
            exact ⟨by rw [takeT_raw HV.out rfl (by omega) (by rw [HL.out]; omega) hb0]; rfl, Below.refl _ _⟩
          · have hT := takeT_bits HV.out rfl (by omega) (by rw [HL.out]; omega) (by omega)
            have e1 := E1.out
            have hd := rdec_any HP.out (by omega) (cap := cap - a)
            generalize decB ((l.drop a).take m) = D at *
            have HD := Lib.hid hd
            have HTT := Lib.hid hT
            clear hd hT
            go_enter Try.func63, Try.ntmps63
            go_wp2_with fail
            refine HT.out.mono ?_
            rintro e w1 ⟨rfl, rfl⟩
            go_wp2_with fail
            refine HD.out.mono ?_
            rintro e w2 ⟨rfl, hb2⟩
            cases D with
            | none =>
              simp only [decV]
              go_wp2
              go_ret3
              exact ⟨by rw [HTT.out]; rfl, hb2⟩
            | some t =>
              simp only [decV]
              have hsz : (ByteArray.mk t.toArray).size = t.length := by simp [ByteArray.size]
              have hfin := HTT.out
              simp only at hfin
              obtain ⟨s, hs⟩ : ∃ s : ByteArray, s = ⟨t.toArray⟩ := ⟨_, rfl⟩
              rw [← hs] at hsz ⊢
              have HS := Lib.hid hs
              have HSZ := Lib.hid hsz
              have HF := Lib.hid hfin
              clear hs hsz hfin
              by_cases hbig : 4096 < s.size
              · go_wp2
                go_ret3
                exact ⟨by rw [HF.out, if_pos (by rw [← HSZ.out]; exact hbig)]; rfl, hb2⟩
              · go_wp2
                go_ret3
                exact ⟨by rw [HF.out, if_neg (by rw [← HSZ.out]; exact hbig), HS.out]; rfl, hb2⟩
  · go_enter Try.func63, Try.ntmps63
    go_wp2_with fail
    refine HT.out.mono ?_
    rintro e w1 ⟨rfl, rfl⟩
    go_wp2
    go_ret3
    exact ⟨by rw [takeT_err HV.out hz]; rfl, Below.refl _ _⟩
end Go.Proofs.Ythpieiipddfpjaa

/- From a walk that returns true to the row: one end for every law; the opening of each kind of argument. -/
namespace Go.Proofs.Ythpieiipddfpjaa
open Go.ChangeShapes Go.WideShapes Go.ChangeAt Go.RowKit Go.WideMaps Go.ChangeMaps
set_option maxRecDepth 100000

theorem own : ownKnob Try.prog.godebug = none := by kernel_rfl
theorem laidOut : laidOutB Try.prog = true := by kernel_rfl

section
variable {H : Type} {enc : TypeId × Value → H} {P : Program}

theorem trodAll_below (hl : laidOutB P = true) {W W' : World} (hb : Below W.heap.size W W') : ∀ {ts : List TypeId} {vs : List Value} {ds : List (DataW H)} {ps : List MemPlace},
    (∀ t ∈ ts, P.readableRec t = true ∧ t < P.types.size) → DataW.TrodAll enc P W 0 (fun _ => true) true ts vs ds ps → (∀ x ∈ ps, x.block < W.heap.size) →
    DataW.TrodAll enc P W' 0 (fun b => decide (b < W.heap.size)) true ts vs ds ps
  | [], vs, ds, ps, _, h, _ => by
    obtain ⟨rfl, rfl, rfl⟩ := trodAll_nil h
    rfl
  | t :: ts, vs, ds, ps, hts, h, hlt => by
    obtain ⟨v, vs', d, ds', p, q, rfl, rfl, rfl, hd, hrest⟩ := trodAll_cons h
    have ht := hts t (by simp)
    exact ⟨p, q, Below.trod hl ht.1 ht.2 hd hb (fun x hx => hlt x (by simp [hx])), trodAll_below hl hb (fun t' h' => hts t' (by simp [h'])) hrest (fun x hx => hlt x (by simp [hx])), rfl⟩

/-- THE ONE END. -/
theorem law_fin (hl : laidOutB P = true) {fn : Func} {s : ChangeSpec} {W W' : World} {args : Array Value} {ds gs : List (DataW H)} {before : List MemPlace} {tb : TypeId} {e : Ending} {apart : Bool}
    (hts : ∀ t ∈ fn.params.toList, P.readableRec t = true ∧ t < P.types.size) (hres : fn.resultTypes = #[tb]) (htb : P.underlying tb = some .bool)
    (hW : DataW.Whole enc P fn.params.toList s.vars apart W args.toList ds gs before) (hv : s.vars = []) (hs : s.fn H ds = { results := [.lit (.bool true)], args := ds })
    (h : RetT W e W') : ∃ v, e = .returned v ∧ s.post enc P fn apart true false false W args v W' := by
  obtain ⟨rfl, hb⟩ := h
  have hW' := hW
  obtain ⟨p, q, hA, hV, rfl, _, _⟩ := hW
  rw [hv] at hV
  obtain ⟨rfl, rfl⟩ := trodVars_none hV
  simp only [List.append_nil] at hW' ⊢
  have hlt : ∀ x ∈ p, x.block < W.heap.size := fun x hx => by simpa using hW'.lt x hx
  refine ⟨_, rfl, ds, [], p, [], p, [], hW', ?_, ?_, ?_, hb.frame _, fun h => by cases h⟩
  · rw [List.append_nil, hs, hres]
    exact trodAll_mk1 (shut_bool htb _)
  · rw [List.append_nil, hs]
    exact trodAll_below hl hb hts hA hlt
  · rw [List.append_nil, hs, hv]
    rfl
end

/-- What a law's proof is asked: over arguments that read as data, that fit, within the form's reach. -/
theorem law_lift {f : FuncId} {fn : Func} {s : ChangeSpec} {tb : TypeId} {H : Type} {enc : TypeId × Value → H} {os : Os} (started : os.Started)
    (noInit : Try.prog.inits.idxOf? f = none) (hfn : Try.prog.funcs[f]? = some fn)
    (hts : ∀ t ∈ fn.params.toList, Try.prog.readableRec t = true ∧ t < Try.prog.types.size) (hres : fn.resultTypes = #[tb]) (htb : Try.prog.underlying tb = some .bool) (hv : s.vars = [])
    (witness : ∃ (w : World) (tape : Tape) (i : Input), w.os = os ∧ (w.forCall tape i).Shaped Try.checked.prog ∧ i.vars = [] ∧ Input.okWide Try.checked.prog (w.forCall tape i) .any w.heap.size f i ∧
      s.pre6 enc Try.checked.prog fn [] false (w.forCall tape i).memory i.args ∧ ({} : Assume).holds Try.checked.prog (lone (Frame.enter Try.checked.prog f i.args .normal) [] (w.forCall tape i)))
    (walk : ∀ (W : World) (base : Nat) (args : Array Value) (ds : List (DataW H)) (p : List MemPlace), (∀ (j : Nat) t v, fn.params[j]? = some t → args[j]? = some v → Value.okWide Try.prog W .any base t v) →
      DataW.TrodAll enc Try.prog W 0 (fun _ => true) true fn.params.toList args.toList ds p → (∀ x ∈ p, x.block < W.heap.size) →
      (DataW.weightsEach Try.prog fn.params.toList ds).all (· ≤ reachBytes) = true →
      s.fn H ds = { results := [.lit (.bool true)], args := ds } ∧ Calls Try.prog f args W (RetT W)) :
    ReturnsInHanded {} Try.checked os f .any (s.pre6 enc Try.prog fn [] false) (s.post enc Try.prog fn false true false false) := by
  refine returnsInHanded_of_change_sized (C := Try.checked) own started noInit hfn witness ?_
  intro W base args ds gs before hval hW _ hsz0 _
  have hW0 := hW
  obtain ⟨p, q, hA, hV, rfl, _, _⟩ := hW
  rw [hv] at hV
  obtain ⟨rfl, rfl⟩ := trodVars_none hV
  have hvt : s.plain.varTypes Try.checked.prog = [] := by
    simp [DataSpec.varTypes, ChangeSpec.plain, hv]
  rw [hvt] at hsz0
  simp only [List.append_nil] at hsz0 hW0
  have hlt : ∀ x ∈ p, x.block < W.heap.size := fun x hx => by simpa using hW0.lt x hx
  obtain ⟨hs, hc⟩ := walk W base args ds p hval hA hlt hsz0
  exact hc.mono fun e W' h => law_fin laidOut hts hres htb hW0 hv hs h

section
variable {H : Type} {enc : TypeId × Value → H} {W : World} {base : Nat}
theorem wf_u8 {n : Int} (h : (Lit.int .u8 n).wf = true) : 0 ≤ n ∧ n < 256 := by simp [Lit.wf, IntKind.min, IntKind.max, IntKind.bits, IntKind.signed] at h; omega
theorem wf_u32 {n : Int} (h : (Lit.int .u32 n).wf = true) : 0 ≤ n ∧ n < 4294967296 := by simp [Lit.wf, IntKind.min, IntKind.max, IntKind.bits, IntKind.signed] at h; omega
theorem wf_i64 {n : Int} (h : (Lit.int .i64 n).wf = true) : -9223372036854775808 ≤ n ∧ n ≤ 9223372036854775807 := by simp [Lit.wf, IntKind.min, IntKind.max, IntKind.bits, IntKind.signed] at h; omega
end

section
variable {H : Type} {enc : TypeId × Value → H} {W : World} {base : Nat}
/-- A []byte that came in: its bytes, nil or not. -/
theorem open_bts {v : Value} {d : DataW H} {p : List MemPlace} (hval : Value.okWide Try.prog W .any base 52 v) (h : DataW.Trod enc Try.prog W 0 (fun _ => true) true 52 v d p)
    (hlt : ∀ x ∈ p, x.block < W.heap.size) {ts : List TypeId} {ds : List (DataW H)} (hsz : (DataW.weightsEach Try.prog ts ds).all (· ≤ reachBytes) = true) {j : Nat} (ht : ts[j]? = some 52) (hd : ds[j]? = some d) :
    ∃ A n c l, v = .slice A n c ∧ n ≤ c ∧ c ≤ maxLen ∧ n ≤ 140737488351232 ∧ Rd W W.heap.size 1 A n (bvs l) := by
  obtain ⟨a1, len, cap, rfl⟩ := okWide_slice Try.underlying52 hval
  obtain ⟨fuel, hf⟩ := h
  rcases open_ints Try.underlying52 Try.underlying5 (by kernel_rfl) hf with ⟨hcs, hx⟩ | ⟨a, len', cap', zs, hcs, _, hl, hm, hz, hx, hcell, hwz⟩
  · simp [Value.cells] at hcs
    obtain ⟨rfl, rfl, rfl⟩ := hcs
    exact ⟨none, 0, 0, [], rfl, Nat.le_refl _, Nat.zero_le _, by omega, Rd.none_ _ _ _ _⟩
  · simp [Value.cells] at hcs
    obtain ⟨rfl, rfl, rfl⟩ := hcs
    simp only [Prod.mk.injEq] at hx
    obtain ⟨rfl, rfl⟩ := hx
    simp only [if_true] at hz
    have hreach : len ≤ 140737488351232 := by
      have := sized_slice hsz (e := 5) ht hd Try.underlying52
      rw [show Try.prog.bytesOf 5 = 1 by kernel_rfl] at this
      simp only [lits, List.length_map, List.length_take, reachBytes] at this
      omega
    refine ⟨_, len, cap, (zs.take len).map fun n => UInt8.ofNat n.toNat, rfl, hl, hm, hreach, by simp [bvs]; omega, fun hn => ?_⟩
    obtain ⟨ab, ao, spot⟩ := a
    have hspot : spot = none := by simpa [Addr.add] using World.cell?_spot (hcell 0 (by omega))
    subst hspot
    refine ⟨ab, ao, rfl, ?_, fun i hi => ?_⟩
    · have := hlt (.cell ab ao) (by simp only [MemPlace.row, List.mem_map, List.mem_range]; exact ⟨0, by omega, rfl⟩)
      exact this
    · have hcj := hcell i (by omega)
      rw [Addr.add_lit] at hcj
      have hb := range_u8 hwz i
      rw [hcj]
      show some (Value.int .u8 (zs[i]?.getD 0)) = _
      rw [bv_of hb.1 (by omega)]
      simp [bvs, show i < len by omega, List.getElem?_eq_getElem (show i < zs.length by omega)]
/-- A string that came in. -/
theorem open_str {v : Value} {d : DataW H} {p : List MemPlace} (hval : Value.okWide Try.prog W .any base 9 v) (h : DataW.Trod enc Try.prog W 0 (fun _ => true) true 9 v d p)
    {ts : List TypeId} {ds : List (DataW H)} (hsz : (DataW.weightsEach Try.prog ts ds).all (· ≤ reachBytes) = true) {j : Nat} (ht : ts[j]? = some 9) (hd : ds[j]? = some d) :
    ∃ s : ByteArray, v = .string s ∧ s.size ≤ 140737488351232 := by
  obtain ⟨s, rfl, rfl, rfl, -⟩ := open_string Try.underlying9 hval h
  exact ⟨s, rfl, by have := sized_string hsz ht hd; simp [reachBytes] at this; exact this⟩
end
end Go.Proofs.Ythpieiipddfpjaa

/- A []drawbridgelaw04.Do that came in: its steps, in memory; an api.Field that came in. -/
namespace Go.Proofs.Ythpieiipddfpjaa
open Go.ChangeShapes Go.WideShapes Go.ChangeAt Go.RowKit Go.WideMaps Go.ChangeMaps Go.Deep
set_option maxRecDepth 100000

/-- A step: its kind, its field, its number. -/
structure St where
  sk : Int
  sf : Rw
  sv : Bool
  sn : Int
def St.zero : St := ⟨0, (ByteArray.empty, ByteArray.empty), false, 0⟩
def StAt (w : World) (b o : Nat) (x : St) : Prop :=
  w.cell? ⟨b, o, none⟩ = some (.int .i64 x.sk) ∧ w.cell? ⟨b, o + 1, none⟩ = some (.string x.sf.1) ∧ w.cell? ⟨b, o + 2, none⟩ = some (.string x.sf.2) ∧ w.cell? ⟨b, o + 3, none⟩ = some (.bool x.sv) ∧ w.cell? ⟨b, o + 4, none⟩ = some (.int .i64 x.sn)
def StOk (x : St) : Prop := (Lit.int .i64 x.sk).wf = true ∧ x.sf.1.size ≤ maxLen ∧ x.sf.2.size ≤ maxLen ∧ (Lit.int .i64 x.sn).wf = true
/-- A row of steps in memory, in a block below B. -/
def Script (w : World) (B : Nat) (A : Option Addr) (n : Nat) (D : Nat → St) : Prop :=
  (∀ i, i < n → StOk (D i)) ∧ (0 < n → ∃ b o, A = some ⟨b, o, none⟩ ∧ b < B ∧ ∀ i, i < n → StAt w b (o + i * 5) (D i))
theorem Script.below {w w' : World} {B : Nat} {A : Option Addr} {n : Nat} {D : Nat → St} (h : Script w B A n D) (hb : Below B w w') : Script w' B A n D := by
  refine ⟨h.1, fun h0 => ?_⟩
  obtain ⟨b, o, hA, hlt, hc⟩ := h.2 h0
  refine ⟨b, o, hA, hlt, fun i hi => ?_⟩
  obtain ⟨h1, h2, h3, h4, h5⟩ := hc i hi
  have e : ∀ j, w'.cell? ⟨b, j, none⟩ = w.cell? ⟨b, j, none⟩ := fun j => hb.cell (p := ⟨b, j, none⟩) hlt
  exact ⟨(e _).trans h1, (e _).trans h2, (e _).trans h3, (e _).trans h4, (e _).trans h5⟩

section
variable {H : Type} {enc : TypeId × Value → H} {W : World} {base : Nat}
/-- A field's three cells. -/
theorem field_cells {cs : List Value} {x : DataW H × List MemPlace} {sp : Nat → Bool} {held : Bool} {n : Nat} (h : DataW.trod enc Try.prog W base sp held n 24 cs = some x) :
    ∃ (a b : ByteArray) (v : Bool), cs = [.string a, .string b, .bool v] ∧ a.size ≤ maxLen ∧ b.size ≤ maxLen := by
  obtain ⟨xs, m, _, _, hl, hx, hf⟩ := DataW.trod_struct Try.underlying24 h
  rw [show Try.prog.cellsOf 24 = 3 by kernel_rfl] at hl
  have cb : Try.prog.cellsOf 4 = 1 := by kernel_rfl
  have cs1 : Try.prog.cellsOf 9 = 1 := by kernel_rfl
  match cs, hl with
  | [c0, c1, c2], _ =>
    match xs, hx with
    | [x0, x1, x2], _ =>
      have f0 := hf 0 _ rfl
      have f1 := hf 1 _ rfl
      have f2 := hf 2 _ rfl
      change DataW.trod enc Try.prog W base sp held m 9 (List.take (Try.prog.cellsOf 9) (List.drop 0 [c0, c1, c2])) = some x0 at f0
      change DataW.trod enc Try.prog W base sp held m 9 (List.take (Try.prog.cellsOf 9) (List.drop 1 [c0, c1, c2])) = some x1 at f1
      change DataW.trod enc Try.prog W base sp held m 4 (List.take (Try.prog.cellsOf 4) (List.drop 2 [c0, c1, c2])) = some x2 at f2
      rw [cb] at f2
      rw [cs1] at f0 f1
      obtain ⟨a, e0, -, w0⟩ := DataW.trod_string Try.underlying9 f0
      obtain ⟨b, e1, -, w1⟩ := DataW.trod_string Try.underlying9 f1
      obtain ⟨v, e2, -⟩ := DataW.trod_bool Try.underlying4 f2
      simp at e0 e1 e2
      exact ⟨a, b, v, by rw [e0, e1, e2], w0, w1⟩
/-- One step's five cells. -/
theorem do_cells {cs : List Value} {x : DataW H × List MemPlace} {sp : Nat → Bool} {held : Bool} {n : Nat} (h : DataW.trod enc Try.prog W base sp held n 47 cs = some x) :
    ∃ s : St, cs = [.int .i64 s.sk, .string s.sf.1, .string s.sf.2, .bool s.sv, .int .i64 s.sn] ∧ StOk s := by
  obtain ⟨xs, m, _, _, hl, hx, hf⟩ := DataW.trod_struct Try.underlying47 h
  rw [show Try.prog.cellsOf 47 = 5 by kernel_rfl] at hl
  have cf : Try.prog.cellsOf 24 = 3 := by kernel_rfl
  have ci : Try.prog.cellsOf 3 = 1 := by kernel_rfl
  match cs, hl with
  | [c0, c1, c2, c3, c4], _ =>
    match xs, hx with
    | [x0, x1, x2], _ =>
      have f0 := hf 0 _ rfl
      have f1 := hf 1 _ rfl
      have f2 := hf 2 _ rfl
      change DataW.trod enc Try.prog W base sp held m 3 (List.take (Try.prog.cellsOf 3) (List.drop 0 [c0, c1, c2, c3, c4])) = some x0 at f0
      change DataW.trod enc Try.prog W base sp held m 24 (List.take (Try.prog.cellsOf 24) (List.drop 1 [c0, c1, c2, c3, c4])) = some x1 at f1
      change DataW.trod enc Try.prog W base sp held m 3 (List.take (Try.prog.cellsOf 3) (List.drop 4 [c0, c1, c2, c3, c4])) = some x2 at f2
      rw [cf] at f1
      rw [ci] at f0 f2
      obtain ⟨a, e0, -, w0⟩ := DataW.trod_int Try.underlying3 f0
      obtain ⟨s, t, v, e1, w1, w2⟩ := field_cells f1
      obtain ⟨k, e2, -, w3⟩ := DataW.trod_int Try.underlying3 f2
      simp at e0 e1 e2
      obtain ⟨rfl, rfl, rfl⟩ := e1
      exact ⟨⟨a, (s, t), v, k⟩, by rw [e0, e2], w0, w1, w2, w3⟩
theorem open_script {v : Value} {d : DataW H} {p : List MemPlace} (hval : Value.okWide Try.prog W .any base 22 v) (h : DataW.Trod enc Try.prog W 0 (fun _ => true) true 22 v d p)
    (hlt : ∀ x ∈ p, x.block < W.heap.size) {ts : List TypeId} {ds : List (DataW H)} (hsz : (DataW.weightsEach Try.prog ts ds).all (· ≤ reachBytes) = true) {j : Nat} (ht : ts[j]? = some 22) (hd : ds[j]? = some d) :
    ∃ A n c D, v = .slice A n c ∧ n ≤ c ∧ c ≤ maxLen ∧ n ≤ 140737488351232 ∧ Script W W.heap.size A n D := by
  obtain ⟨a1, len, cap, rfl⟩ := okWide_slice Try.underlying22 hval
  obtain ⟨fuel, hf⟩ := h
  rcases open_slice Try.underlying22 hf with ⟨hcs, hx⟩ | ⟨a, len', cap', m, n, D, Pl, hcs, _, hl, hm, hmm, hx, hi⟩
  · simp [Value.cells] at hcs
    obtain ⟨rfl, rfl, rfl⟩ := hcs
    exact ⟨none, 0, 0, fun _ => St.zero, rfl, Nat.le_refl _, Nat.zero_le _, by omega, fun i h => absurd h (by omega), fun h => absurd h (by omega)⟩
  · simp [Value.cells] at hcs
    obtain ⟨rfl, rfl, rfl⟩ := hcs
    simp only [Prod.mk.injEq] at hx
    obtain ⟨rfl, rfl⟩ := hx
    have hmc : m = cap := by simpa using hmm
    subst hmc
    have hC : Try.prog.cellsOf 47 = 5 := by kernel_rfl
    have hreach : len ≤ 140737488351232 := by
      have := sized_slice hsz (e := 47) ht hd Try.underlying22
      rw [show Try.prog.bytesOf 47 = 56 by kernel_rfl] at this
      simp [reachBytes] at this
      omega
    obtain ⟨ab, ao, spot⟩ := a
    have hall : ∀ i, i < len → ∃ x : St, (W.cell? ((⟨ab, ao, spot⟩ : Addr).add (i * 5 + 0)) = some (.int .i64 x.sk) ∧ W.cell? ((⟨ab, ao, spot⟩ : Addr).add (i * 5 + 1)) = some (.string x.sf.1) ∧
        W.cell? ((⟨ab, ao, spot⟩ : Addr).add (i * 5 + 2)) = some (.string x.sf.2) ∧ W.cell? ((⟨ab, ao, spot⟩ : Addr).add (i * 5 + 3)) = some (.bool x.sv) ∧ W.cell? ((⟨ab, ao, spot⟩ : Addr).add (i * 5 + 4)) = some (.int .i64 x.sn)) ∧ StOk x := by
      intro i hil
      obtain ⟨cs', hc, ht'⟩ := hi i (by omega)
      rw [hC] at hc
      obtain ⟨x, rfl, hok⟩ := do_cells ht'
      obtain ⟨_, _, hat⟩ := World.cells?_some hc
      refine ⟨x, ⟨?_, ?_, ?_, ?_, ?_⟩, hok⟩
      · rw [← Go.Deep.add_add]; exact hat 0 (by omega)
      · rw [← Go.Deep.add_add]; exact hat 1 (by omega)
      · rw [← Go.Deep.add_add]; exact hat 2 (by omega)
      · rw [← Go.Deep.add_add]; exact hat 3 (by omega)
      · rw [← Go.Deep.add_add]; exact hat 4 (by omega)
    rcases Nat.eq_zero_or_pos len with h0 | hpos
    · exact ⟨_, len, m, fun _ => St.zero, rfl, hl, hm, hreach, fun i h => absurd h (by omega), fun h => absurd h (by omega)⟩
    have hspot : spot = none := by
      obtain ⟨x, ⟨hx0, _⟩, _⟩ := hall 0 hpos
      simpa [Addr.add] using World.cell?_spot hx0
    subst hspot
    have hall2 : ∀ i, i < len → ∃ x : St, StAt W ab (ao + i * 5) x ∧ StOk x := by
      intro i hil
      obtain ⟨x, ⟨y0, y1, y2, y3, y4⟩, hw⟩ := hall i hil
      simp only [Addr.add_lit, ← Nat.add_assoc] at y0 y1 y2 y3 y4
      exact ⟨x, ⟨y0, y1, y2, y3, y4⟩, hw⟩
    refine ⟨_, len, m, fun i => if h : i < len then Classical.choose (hall2 i h) else St.zero, rfl, hl, hm, hreach, fun i hil => ?_, fun _ => ?_⟩
    · have := Classical.choose_spec (hall2 i hil)
      simp only [hil, dif_pos]
      exact this.2
    refine ⟨ab, ao, rfl, ?_, fun i hil => ?_⟩
    · exact hlt (.cell ab ao) (List.mem_append_left _ (by rw [hC]; simp only [MemPlace.row, List.mem_map, List.mem_range]; exact ⟨0, by omega, rfl⟩))
    · have := Classical.choose_spec (hall2 i hil)
      simp only [hil, dif_pos]
      exact this.1
/-- An api.Field that came in. -/
theorem open_field {v : Value} {d : DataW H} {p : List MemPlace} (hval : Value.okWide Try.prog W .any base 24 v) (h : DataW.Trod enc Try.prog W 0 (fun _ => true) true 24 v d p) :
    ∃ (f : Rw) (nv : Bool), v = .agg #[.string f.1, .string f.2, .bool nv] ∧ f.1.size ≤ maxLen ∧ f.2.size ≤ maxLen := by
  obtain ⟨cs, rfl, -⟩ := okWide_struct Try.underlying24 hval
  obtain ⟨fuel, hf⟩ := h
  obtain ⟨a, b, nv, hcs, hw⟩ := field_cells hf
  refine ⟨(a, b), nv, ?_, hw⟩
  congr 1
  apply Array.ext'
  simpa [Value.cells] using hcs
end
end Go.Proofs.Ythpieiipddfpjaa
