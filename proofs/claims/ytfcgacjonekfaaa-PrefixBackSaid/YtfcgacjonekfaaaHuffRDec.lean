/- The walk of drawbridgeref02.Decode: down the tree is reading the codes. -/
import Derived.Test.YtfcgacjonekfaaaHuffTree
import Derived.Test.YtfcgacjonekfaaaHuffDec
import Derived.Test.YtfcgacjonekfaaaLaws2d
namespace Go.Proofs.Ytfcgacjonekfaaa
open Go.RowKit

/-- The tree lies in block g. -/
def TC (w : World) (g : Nat) : Prop := ∀ i k, i < 513 → k < 3 → w.cell? ⟨g, i * 3 + k, none⟩ = (nodeV (treeT.getD i newN))[k]?
theorem and_one8 (x : Nat) (hx : x < 256) : Go.bits .and .u8 (x : Int) 1 = ((x % 2 : Nat) : Int) := by
  rw [show (1 : Int) = ((1 : Nat) : Int) from rfl, u8_and_nat _ _ (by omega) (by omega), nat_mask1]
/-- Behind i bits, at a node of the tree. -/
structure DSt (W w : World) (gt b0 : Nat) (l : List UInt8) (i at1 : Nat) (ones : Bool) (out : List UInt8) (v : Value) : Prop where
  lt : at1 < 513
  sym : (treeT.getD at1 newN).2.2 < 0
  mid : Mid (wayT at1).1 (wayT at1).2
  ol : out.length + (wayT at1).2 ≤ i
  dec : decB l = decGo (wayT at1).1 (wayT at1).2 ones out ((bitsB l).drop i)
  own : w.ownsRow b0 5 1 v out.length (bvs out)
  tc : TC w gt
  bel : Below W.heap.size W w
  hb : W.heap.size ≤ b0
  gt : gt < b0
  lb : b0 ≤ w.heap.size
def RDecRel (W : World) (gt b0 : Nat) (l : List UInt8) (v av lv nv iv : Value) (w : World) : Prop :=
  ∃ i at1 : Nat, ∃ ones : Bool, ∃ out : List UInt8, iv = .int .i64 i ∧ i ≤ l.length ∧ av = .int .i64 at1 ∧ lv = .int .i64 ((wayT at1).2 : Int) ∧ nv = .bool (!ones) ∧ DSt W w gt b0 l (8 * i) at1 ones out v
def RBitRel (W : World) (gt b0 : Nat) (l : List UInt8) (i : Nat) (v av lv nv jv : Value) (w : World) : Prop :=
  ∃ m at1 : Nat, ∃ ones : Bool, ∃ out : List UInt8, jv = .int .i64 ((7 : Int) - m) ∧ m ≤ 8 ∧ av = .int .i64 at1 ∧ lv = .int .i64 ((wayT at1).2 : Int) ∧ nv = .bool (!ones) ∧ DSt W w gt b0 l (8 * i + m) at1 ones out v

set_option maxRecDepth 100000 in
set_option maxHeartbeats 2000000 in
theorem rdec_any {A : Option Addr} {n cap : Nat} {l : List UInt8} {w : World} (hr : Rd w w.heap.size 1 A n (bvs l)) (hn : n ≤ 1048576) :
    Calls Try.prog 26 #[.slice A n cap] w fun e w' => e = .returned (decV (decB l)) ∧ Below w.heap.size w w' := by
  have hnl : n = l.length := hr.blen.symm
  have HN := Lib.hid hnl
  have HR := Lib.hid hr
  clear hnl hr
  go_enter Try.func26, Try.ntmps26
  go_wp2_with fail
  refine (rtree_any w).mono ?_
  rintro e w1 ⟨v, rfl, hown, hb1⟩
  obtain ⟨gt, ct, rfl, hg0, hg1, -, -⟩ := own3_form hown (by rw [tree_len]; decide)
  have htc : TC w1 gt := fun i k hi hk => by rw [World.ownsRow.cellAt hown _ (by rw [tree_len]; omega), rowV_get treeT i k (by rw [tree_len]; exact hi) hk]
  rw [tree_len]
  have hs1 := hb1.size
  have hD : DSt w (w1.alloc (.cells #[] 5)) gt w1.heap.size l 0 0 true [] (.slice (some ⟨w1.heap.size, 0, none⟩) 0 0) :=
    ⟨by decide, tree_root.1, by rw [tree_root.2]; exact Mid.zero, by rw [tree_root.2]; exact Nat.le_refl _, by rw [tree_root.2]; rfl, own_empty2 w1 (Nat.le_refl _),
      fun i k hi hk => (World.cell?_alloc_lt w1 _ ⟨gt, i * 3 + k, none⟩ hg1).trans (htc i k hi hk), hb1.alloc hs1 _, hs1, hg1, by simp⟩
  have HD := Lib.hid hD
  clear hown htc hD hb1
  go_wp2
  generalize w1.heap.size = b0 at *
  go_loopw [5, 6, 7, 8, 9] (RDecRel w gt b0 l) (fun _ _ _ _ i _ => n - (intOf i).toNat)
  case atStart => exact ⟨0, 0, true, [], rfl, by omega, rfl, by rw [tree_root.2]; rfl, rfl, HD.out⟩
  case round =>
    obtain ⟨i, at1, ones, out, rfl, hi, rfl, rfl, rfl, hd⟩ := hrel
    rw [← HN.out] at hi
    have hmid := hd.mid.le
    have hD := Lib.hid hd
    clear hd
    by_cases hlt : i < n
    · have elt : decide ((i : Int) < n) = true := decide_eq_true (by omega)
      go_wp2
      clear elt
      go_loopw [5, 6, 7, 8, 10] (RBitRel w gt b0 l i) (fun _ _ _ _ j _ => (intOf j + 1).toNat)
      case atStart => exact ⟨0, at1, ones, out, rfl, by omega, rfl, rfl, rfl, hD.out⟩
      case round =>
        clear hD hmid
        obtain ⟨m, at2, on2, out2, rfl, hm, rfl, rfl, rfl, hd⟩ := hrel
        by_cases hm8 : m < 8
        · obtain ⟨b, o, rfl, hb, hc⟩ : ∃ b o, A = some ⟨b, o, none⟩ ∧ b < w.heap.size ∧ ∀ j, j < n → w.cell? ⟨b, o + j, none⟩ = some (.int .u8 (ba l j : Int)) := (HR.out.bas (by omega)).2
          have hcell : wr.cell? ⟨b, o + i, none⟩ = some (.int .u8 (ba l i : Int)) := by rw [(bcell hd.bel).1 b _ hb]; exact hc i hlt
          have hx := ba_lt l i
          obtain ⟨q, hq⟩ : ∃ q, q = 7 - m := ⟨_, rfl⟩
          have eq1 : (7 : Int) - (m : Int) = (q : Int) := by omega
          have hq8 : q < 8 := by omega
          obtain ⟨y, hy⟩ : ∃ y, y = ba l i / 2 ^ q := ⟨_, rfl⟩
          have ey : (ba l i : Int) / 2 ^ q = (y : Int) := by rw [hy]; simp
          have hy256 : y < 256 := by rw [hy]; exact Nat.lt_of_le_of_lt (Nat.div_le_self _ _) hx
          have eb := and_one8 y hy256
          obtain ⟨bt, hbt⟩ : ∃ bt, bt = bitAt l (8 * i + m) := ⟨_, rfl⟩
          have hbt2 : bt < 2 := by rw [hbt]; exact bitAt_lt l _
          have hbty : y % 2 = bt := by rw [hbt, hy, bitAt, hq, show (8 * i + m) / 8 = i by omega, show (8 * i + m) % 8 = m by omega]
          rw [hbty] at eb
          have hbt2i : (bt : Int) < 2 := by omega
          have hat := hd.lt
          have hati : (at2 : Int) < 513 := by omega
          have hcn := hd.tc at2 bt hat (by omega)
          rw [node_next _ hbt2] at hcn
          obtain ⟨hx1, hx2, hx3⟩ := tree_down (by rw [tree_len]; exact hat) hd.sym hbt2
          rw [tree_len] at hx1
          have hstep := hd.dec
          rw [bitsB_drop (by have := HN.out; omega), ← hbt, decGo] at hstep
          have hnext := hd.mid.next hbt2
          have hhit := hd.mid.hit (b := bt)
          have hml := hd.mid.le
          have hol := hd.ol
          have hcs := hd.tc (nxt (treeT.getD at2 newN) bt) 2 hx1 (by omega)
          replace hcs : wr.cell? ⟨gt, nxt (treeT.getD at2 newN) bt * 3 + 2, none⟩ = some (.int .i64 (treeT.getD (nxt (treeT.getD at2 newN) bt) newN).2.2) := hcs
          obtain ⟨x, hxe⟩ : ∃ x, x = nxt (treeT.getD at2 newN) bt := ⟨_, rfl⟩
          rw [← hxe] at hcn hx1 hx2 hx3 hcs
          obtain ⟨sv, hsv⟩ : ∃ sv, sv = (treeT.getD x newN).2.2 := ⟨_, rfl⟩
          rw [← hsv] at hx3 hcs
          have hxi : (x : Int) < 513 := by omega
          have hbi : (((bt : Int) == 0) : Bool) = !(bt == 1) := by
            have : bt = 0 ∨ bt = 1 := by omega
            rcases this with rfl | rfl <;> rfl
          have HSV := Lib.hid hsv
          have HW := Lib.hid hx2
          have HD := Lib.hid hd
          generalize hlf : (wayT at2).2 = lf at *
          generalize hcc : (wayT at2).1 = cc at *
          have HST := Lib.hid (And.intro hstep (And.intro hnext hhit))
          clear hq hy hbt hbty hx2 hstep hnext hhit hxe hsv hd hc hcc hlf
          rcases hx3 with ⟨hneg, hno⟩ | ⟨hsym, hyes⟩
          · have e1 : decide (sv < 0) = true := decide_eq_true hneg
            have hst := HST.out.1
            rw [if_neg (by rw [hno]; decide)] at hst
            have hmm : manyT.getD (lf + 1) 0 ≤ 2 * cc + bt - firstT.getD (lf + 1) 0 := by
              have := HST.out.2.2
              rw [hno] at this
              have := of_decide_eq_false this.symm
              omega
            have hmid := HST.out.2.1 hmm
            have HX := Lib.hid (And.intro hst hmid)
            clear hst hmm hmid hno
            cases on2
            · go_wp2
              exact ⟨⟨m + 1, x, false, out2, by go_num, by omega, rfl, by rw [HW.out]; go_num, rfl,
                ⟨hx1, by rw [← HSV.out]; exact hneg, by rw [HW.out]; exact HX.out.2, by rw [HW.out]; show out2.length + (lf + 1) ≤ _; omega, by rw [HW.out]; exact HX.out.1, HD.out.own, HD.out.tc, HD.out.bel, HD.out.hb, HD.out.gt, HD.out.lb⟩⟩, by simp [intOf]; omega⟩
            · go_wp2
              exact ⟨⟨m + 1, x, bt == 1, out2, by go_num, by omega, rfl, by rw [HW.out]; go_num, rfl,
                ⟨hx1, by rw [← HSV.out]; exact hneg, by rw [HW.out]; exact HX.out.2, by rw [HW.out]; show out2.length + (lf + 1) ≤ _; omega, by rw [HW.out]; exact HX.out.1, HD.out.own, HD.out.tc, HD.out.bel, HD.out.hb, HD.out.gt, HD.out.lb⟩⟩, by simp [intOf]; omega⟩
          · have hns := sym_le (fromT.getD (lf + 1) 0 + (2 * cc + bt - firstT.getD (lf + 1) 0))
            have hst := HST.out.1
            rw [if_pos hyes] at hst
            rw [show symT.getD (fromT.getD (lf + 1) 0 + (2 * cc + bt - firstT.getD (lf + 1) 0)) 0 = symAt (2 * cc + bt) (lf + 1) from rfl] at hns
            generalize symAt (2 * cc + bt) (lf + 1) = ns at *
            subst hsym
            have HX := Lib.hid hst
            clear hst hyes
            by_cases hs : ns = 256
            · subst hs
              have hnone : decB l = none := by rw [HX.out, if_pos rfl]
              have HNO := Lib.hid hnone
              have hbel := HD.out.bel
              clear hnone
              cases on2 <;>
              · go_wp2
                go_ret2
                exact ⟨by rw [HNO.out]; rfl, hbel⟩
            · have e8 : ((ns : Int) == 256) = false := by rw [beq_eq_false_iff_ne]; omega
              have hs256 : ns < 256 := by omega
              rw [if_neg hs] at HX
              clear hs
              have hown := HD.out.own
              have HOWN := Lib.hid hown
              clear hown
              have hlb := HD.out.lb
              have hol2 : out2.length ≤ 8388616 := by have := HN.out; omega
              cases on2 <;>
              · go_wp2_with (first
                  | (at_builtin
                     refine wpList_app (.tmp 57) (.tmp 64) tBytes rfl rfl (World.ownsRow.alloc HOWN.out _) rfl (Rd.one _ _ _) rfl (oneInt _ _) (le_maxLen (by omega)) (by omega) (by simp; omega) ?_
                     intro v3 w3 hown3 hg3 _))
                refine ⟨⟨m + 1, 0, true, out2 ++ [UInt8.ofNat ns], by go_num, by omega, rfl, by rw [tree_root.2]; rfl, rfl, ?_⟩, by simp [intOf]; omega⟩
                refine ⟨by decide, tree_root.1, by rw [tree_root.2]; exact Mid.zero, by rw [tree_root.2, List.length_append]; show out2.length + 1 + 0 ≤ _; omega, by rw [tree_root.2]; exact HX.out, ?_, ?_, ?_, HD.out.hb, HD.out.gt, ?_⟩
                · exact OwnB.snoc hown3 (by rw [bv, toNat_ofNat hs256])
                · intro i' k hi' hk
                  have hgt := HD.out.gt
                  obtain ⟨u, hu⟩ : ∃ u, (nodeV (treeT.getD i' newN))[k]? = some u := ⟨_, List.getElem?_eq_getElem (show k < (nodeV (treeT.getD i' newN)).length from hk)⟩
                  rw [hu]
                  exact (hg3.cell ((World.cell?_alloc_lt wr _ ⟨gt, i' * 3 + k, none⟩ (by show gt < _; omega)).trans ((HD.out.tc i' k hi' hk).trans hu)) (fun e => by have := (World.ownsRow.lt HOWN.out gt e.symm).1; omega))
                · exact Below.app (HD.out.bel.alloc HD.out.bel.size _) (World.ownsRow.alloc HOWN.out _) hg3 HD.out.hb (by have := HD.out.bel.size; simp; omega)
                · exact Nat.le_trans hlb (Nat.le_trans (by simp) hg3.size)
        · obtain rfl : m = 8 := by omega
          have HD := Lib.hid hd
          clear hd
          rw [show (7 : Int) - ((8 : Nat) : Int) = -1 by rfl]
          go_wp2
          exact ⟨⟨i + 1, at2, on2, out2, by go_num, by have := HN.out; omega, rfl, rfl, rfl, HD.out⟩, by simp [intOf]; omega⟩
    · obtain rfl : i = n := by omega
      have hdec := hD.out.dec
      rw [List.drop_eq_nil_of_le (by rw [bitsB_length, HN.out]; exact Nat.le_refl _), decGo] at hdec
      obtain ⟨A2, cc, rfl, -, -, hrd, -⟩ := own_slice hD.out.own
      have hstr := run_str Try.underlying31 Try.underlying5 Try.underlying9 hrd cc
      have hbel := hD.out.bel
      generalize (wayT at1).2 = lf at *
      by_cases h7 : 7 < lf
      · rw [if_pos (Or.inl h7)] at hdec
        have HX := Lib.hid hdec
        clear hdec hrd hstr hD
        cases ones <;>
        · go_wp2
          go_ret2
          exact ⟨by rw [HX.out]; rfl, hbel⟩
      · cases ones
        · rw [if_pos (Or.inr rfl)] at hdec
          have HX := Lib.hid hdec
          clear hdec hrd hstr hD
          go_wp2
          go_ret2
          exact ⟨by rw [HX.out]; rfl, hbel⟩
        · rw [if_neg (by simp; omega)] at hdec
          have HX := Lib.hid hdec
          clear hdec hrd hD
          go_wp2
          go_ret2
          exact ⟨by rw [HX.out]; rfl, hbel⟩
end Go.Proofs.Ytfcgacjonekfaaa
