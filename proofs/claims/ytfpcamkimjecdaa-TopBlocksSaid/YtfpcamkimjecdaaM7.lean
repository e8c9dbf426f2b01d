/- 14 texts in one: HuffTreeWay, HuffTree, HuffDec, Laws2b, BytesEq, Laws2c, Laws2d, HuffRDec, TakeText, Lift, Script, Tab7, TabFew, Tab5. -/
import Derived.Test.YtfpcamkimjecdaaM6
import Derived.Test.YtfpcamkimjecdaaM5
import Derived.Test.YtfpcamkimjecdaaM2
import Derived.Test.YtfpcamkimjecdaaM1
import Derived.Test.YtfpcamkimjecdaaRows
import Derived.ProofKit
import Derived.OpenShut
import Derived.SizedLaws
import Derived.Test.YtfpcamkimjecdaaM3
import Derived.Deep.Slices
import Derived.Deep.Fields
import Derived.ChangeSame
import Derived.Test.YtfpcamkimjecdaaM4
import Derived.Deep.LoopGhost
import Derived.Deep.QuietTactic
import Derived.BigQuiet
import Derived.Lib.SlicesS
import Derived.Deep.RegionHeld3
/- Walking down the tree is reading the codes. No program in sight. -/
namespace Go.Proofs.Ytfpcamkimjecdaa
open Go.RowKit

theorem tree_root : (treeT.getD 0 newN).2.2 < 0 ∧ wayT 0 = (0, 0) := by
  have := tree_ok
  unfold okTree at this
  rw [Bool.and_eq_true, Bool.and_eq_true, decide_eq_true_eq, beq_iff_eq] at this
  exact ⟨this.1.2, this.2⟩
/-- One bit down the tree is one bit on in the codes. -/
theorem tree_down {i b : Nat} (hi : i < treeT.length) (hs : (treeT.getD i newN).2.2 < 0) (hb : b < 2) :
    nxt (treeT.getD i newN) b < treeT.length ∧ wayT (nxt (treeT.getD i newN) b) = (2 * (wayT i).1 + b, (wayT i).2 + 1) ∧
    (((treeT.getD (nxt (treeT.getD i newN) b) newN).2.2 < 0 ∧ hitB (2 * (wayT i).1 + b) ((wayT i).2 + 1) = false) ∨
      ((treeT.getD (nxt (treeT.getD i newN) b) newN).2.2 = (symAt (2 * (wayT i).1 + b) ((wayT i).2 + 1) : Int) ∧ hitB (2 * (wayT i).1 + b) ((wayT i).2 + 1) = true)) := by
  have h := tree_ok
  unfold okTree at h
  rw [Bool.and_eq_true, Bool.and_eq_true, List.all_eq_true] at h
  have h1 := h.1.1 i (List.mem_range.2 hi)
  rw [Bool.or_eq_true, decide_eq_true_eq, Bool.and_eq_true] at h1
  have h2 : okNode treeT wayTab i b = true := by
    rcases h1 with h1 | h1
    · exact absurd hs (Int.not_lt.2 h1)
    · have : b = 0 ∨ b = 1 := by omega
      rcases this with rfl | rfl
      · exact h1.1
      · exact h1.2
  unfold okNode at h2
  rw [Bool.and_eq_true, Bool.and_eq_true, decide_eq_true_eq, beq_iff_eq] at h2
  refine ⟨h2.1.1, h2.1.2, ?_⟩
  have h3 := h2.2
  split at h3
  · rename_i hn
    exact Or.inl ⟨hn, by simpa [wayT] using h3⟩
  · rw [Bool.and_eq_true, beq_iff_eq] at h3
    exact Or.inr ⟨h3.2, h3.1⟩
end Go.Proofs.Ytfpcamkimjecdaa

/- The walk of drawbridgeref02.Tree. -/
namespace Go.Proofs.Ytfpcamkimjecdaa
open Go.RowKit

end Go.Proofs.Ytfpcamkimjecdaa

/- The walk of huff.Decode. -/
namespace Go.Proofs.Ytfpcamkimjecdaa
open Go.RowKit

/-- What Decode hands back. -/
def decV : Option (List UInt8) → Value
  | none => .tuple #[.string ByteArray.empty, .int .i64 10]
  | some l => .tuple #[.string ⟨l.toArray⟩, .int .i64 0]
/-- Behind i bits. -/
def DecRel (W : World) (B : Nat) (l : List UInt8) (cv nv ov iv v : Value) (w : World) : Prop :=
  ∃ i c n : Nat, ∃ ones : Bool, ∃ out : List UInt8, iv = .int .i64 i ∧ i ≤ 8 * l.length ∧ cv = .int .u32 c ∧ nv = .int .i64 n ∧ ov = .bool ones ∧ Mid c n ∧ out.length + n ≤ i ∧
    decB l = decGo c n ones out ((bitsB l).drop i) ∧ w.ownsRow (B + 1) 5 1 v out.length (bvs out) ∧ Bk w B ∧ Below W.heap.size W w

set_option maxRecDepth 100000 in
set_option maxHeartbeats 2000000 in
theorem dec_some (b o n cap : Nat) (l : List UInt8) (w : World) (hn0 : 0 < n) (hn16 : n ≤ 1048576) (hn : n = l.length) (hb : b < w.heap.size) (hc : ∀ j, j < n → w.cell? ⟨b, o + j, none⟩ = some (.int .u8 (ba l j : Int))) :
    Calls Try.prog 78 #[.slice (some ⟨b, o, none⟩) n cap] w fun e w' => e = .returned (decV (decB l)) ∧ Below w.heap.size w w' := by
  have HN := Lib.hid hn
  have HC := Lib.hid hc
  clear hn hc
  go_enter Try.func78, Try.ntmps78
  go_wp2_with fail
  refine (open_any w).mono ?_
  rintro e w1 ⟨B, rfl, hbk, hB, hb1⟩
  have HBK := Lib.hid (show Bk w1 B from hbk)
  have hBlt := Book.lt hbk
  clear hbk
  go_wp2
  go_loopw [6, 7, 8, 16, 5] (DecRel w B l) (fun _ _ _ i _ _ => 8 * n - (intOf i).toNat)
  case atStart => exact ⟨0, 0, 0, true, [], rfl, by omega, rfl, rfl, rfl, Mid.zero, by simp, rfl, World.ownsRow_nil _ _ _ _, HBK.out, hb1⟩
  case round =>
    obtain ⟨i, c, d, ones, out, rfl, hi, rfl, rfl, rfl, hmid, hol, hdec, hown, hbk, hbel⟩ := hrel
    have hi' : i ≤ 8 * n := by have := HN.out; omega
    clear hi
    by_cases hlt : i < 8 * n
    · obtain ⟨q, hq⟩ : ∃ q, q = i / 8 := ⟨_, rfl⟩
      obtain ⟨r, hr⟩ : ∃ r, r = i % 8 := ⟨_, rfl⟩
      have eq1 : (i : Int) / 8 = (q : Int) := by omega
      have er1 : (i : Int) % 8 = (r : Int) := by omega
      have hqn : q < n := by omega
      have hr8 : r < 8 := by omega
      have hcell : wr.cell? ⟨b, o + q, none⟩ = some (.int .u8 (ba l q : Int)) := by rw [(bcell hbel).1 b _ hb]; exact HC.out q hqn
      have hx := ba_lt l q
      have hc30 := hmid.pow30
      have hd := hmid.le
      obtain ⟨y, hy⟩ : ∃ y, y = ba l q / 2 ^ (7 - r) := ⟨_, rfl⟩
      have ey : (ba l q : Int) / 2 ^ (7 - r) = (y : Int) := by rw [hy]; simp
      have hy256 : y < 256 := by rw [hy]; exact Nat.lt_of_le_of_lt (Nat.div_le_self _ _) hx
      obtain ⟨bt, hbt⟩ : ∃ bt, bt = bitAt l i := ⟨_, rfl⟩
      have hbt2 : bt < 2 := by rw [hbt]; exact bitAt_lt l i
      have hbty : y % 2 = bt := by rw [hbt, hy, bitAt, hq, hr]
      have eb := and_one y hy256
      rw [hbty] at eb
      have eo := or_bit hc30 hbt2
      have hlt30 := hmid.lt hbt2
      have hge := hmid.ge (b := bt)
      have hc2 : 2 * c + bt < 1073741824 := by omega
      have hstep := hdec
      rw [bitsB_drop (by have := HN.out; omega), ← hbt, decGo, hmid.hit] at hstep
      have hcf := Bk.first hbk (i := d + 1) (by omega)
      have hcm := Bk.many hbk (i := d + 1) (by omega)
      have hnx := hmid.next hbt2
      have hroom := hmid.room (b := bt)
      have hsa : symAt (2 * c + bt) (d + 1) = symT.getD (fromT.getD (d + 1) 0 + (2 * c + bt - firstT.getD (d + 1) 0)) 0 := rfl
      generalize hd1 : d + 1 = d1 at *
      have ed : (d : Int) + 1 = (d1 : Int) := by omega
      have hd31 : (d1 : Int) < 31 := by omega
      generalize firstT.getD d1 0 = f at *
      generalize manyT.getD d1 0 = m at *
      generalize 2 * c + bt = c2 at *
      have HD := Lib.hid hstep
      have HNX := Lib.hid hnx
      have HBK := Lib.hid hbk
      have HOWN := Lib.hid hown
      generalize hx : c2 - f = x at *
      have ew1 : IntKind.u32.wrap ((c2 : Int) - (f : Int)) = (x : Int) := by rw [IntWalk.u32_in _ ⟨by omega, by omega⟩]; omega
      have ew2 : IntKind.i64.wrap (x : Int) = (x : Int) := IntWalk.i64_in _ ⟨by omega, by omega⟩
      have e6 : decide (c2 < f) = false := by simp; omega
      have hcfr := Bk.from_ HBK.out (i := d1) (by omega)
      generalize fromT.getD d1 0 = fr at *
      have hbi : ((bt : Int) == 1) = (bt == 1) := by rw [Bool.eq_iff_iff, beq_iff_eq, beq_iff_eq]; omega
      have HBI := Lib.hid hbi
      clear hdec hstep hmid hbk hown hq hr hy hbt hbty hnx hlt30 hd1 hx hbi
      by_cases hhit : x < m
      · have e7 : decide (m ≤ x) = false := by simp; omega
        have hp := hroom hhit
        have ew3 : IntKind.i64.wrap ((fr : Int) + (x : Int)) = ((fr + x : Nat) : Int) := by rw [IntWalk.i64_in _ ⟨by omega, by omega⟩]; omega
        have hcs := Bk.sym HBK.out hp
        have hsv := sym_le (fr + x)
        have hst := HD.out
        rw [if_pos (decide_eq_true hhit), hsa] at hst
        generalize symT.getD (fr + x) 0 = sv at *
        generalize fr + x = p at *
        have hp257 : (p : Int) < 257 := by omega
        have HST := Lib.hid hst
        clear hst hsa hroom
        by_cases hs : sv = 256
        · subst hs
          have hnone : decB l = none := by rw [HST.out, if_pos rfl]
          have HNO := Lib.hid hnone
          clear hnone
          cases ones <;>
          · go_wp2
            go_quiet (fail)
            go_wp2
            go_quiet (fail)
            go_wp2
            go_ret2
            exact ⟨by rw [HNO.out]; rfl, hbel.drewN _⟩
        · have e8 : ((sv : Int) == 256) = false := by rw [beq_eq_false_iff_ne]; omega
          have hs256 : sv < 256 := by omega
          rw [if_neg hs] at HST
          clear hs
          cases ones <;>
          · go_wp2
            go_quiet (fail)
            go_wp2
            go_quiet (fail)
            clear ew1 ew2 ew3
            go_wp2_with (at_builtin; refine wpList_app (.tmp 90) (.tmp 93) tBytes rfl rfl (World.ownsRow.alloc HOWN.out _) rfl (Rd.one _ _ _) rfl (oneInt _ _) (le_maxLen (by omega)) (by omega) (by have := Book.lt HBK.out; simp; omega) ?_; intro v3 w3 hown3 hg3 _)
            refine ⟨⟨i + 1, 0, 0, true, out ++ [UInt8.ofNat sv], by go_num, by have := HN.out; omega, rfl, rfl, rfl, Mid.zero, by simp; omega, HST.out, ?_, ?_, ?_⟩, by simp [intOf]; omega⟩
            · exact OwnB.snoc hown3 (by rw [bv, toNat_ofNat hs256])
            · exact Bk.grown (Bk.alloc (Bk.drewN HBK.out _) _) hg3 (fun e => by have := (World.ownsRow.lt HOWN.out B e.symm).1; omega)
            · exact Below.app ((hbel.drewN _).alloc hbel.size _) (World.ownsRow.alloc HOWN.out _) hg3 (by omega) (by have := hbel.size; simp; omega)
      · have e7 : decide (m ≤ x) = true := by simp; omega
        have hst := HD.out
        rw [if_neg (by simp; omega)] at hst
        have HST := Lib.hid hst
        clear hst hsa hroom
        cases ones
        · go_wp2
          go_quiet (fail)
          go_wp2
          exact ⟨⟨i + 1, c2, d1, false, out, by go_num, by have := HN.out; omega, rfl, rfl, rfl, HNX.out (by omega), by omega, HST.out, HOWN.out, HBK.out, hbel.drewN _⟩, by simp [intOf]; omega⟩
        · go_wp2
          go_quiet (fail)
          go_wp2
          exact ⟨⟨i + 1, c2, d1, bt == 1, out, by go_num, by have := HN.out; omega, rfl, rfl, by rw [HBI.out], HNX.out (by omega), by omega, HST.out, HOWN.out, HBK.out, hbel.drewN _⟩, by simp [intOf]; omega⟩
    · obtain rfl : i = 8 * n := by omega
      have hnil : (bitsB l).drop (8 * n) = [] := List.drop_eq_nil_of_le (by rw [bitsB_length, HN.out]; exact Nat.le_refl _)
      rw [hnil, decGo] at hdec
      have hlen : (8 * (n : Int)) = ((8 * n : Nat) : Int) := by omega
      obtain ⟨A, cc, rfl, -, -, hrd, -⟩ := own_slice hown
      have hstr := run_str Try.underlying23 Try.underlying5 Try.underlying9 hrd cc
      by_cases h7 : 7 < d
      · rw [if_pos (Or.inl h7)] at hdec
        have HD := Lib.hid hdec
        clear hdec hnil hown hrd hstr hmid hbk hlen
        cases ones <;>
        · go_wp2
          go_ret2
          exact ⟨by rw [HD.out]; rfl, hbel⟩
      · cases ones
        · rw [if_pos (Or.inr rfl)] at hdec
          have HD := Lib.hid hdec
          clear hdec hnil hown hrd hstr hmid hbk hlen
          go_wp2
          go_ret2
          exact ⟨by rw [HD.out]; rfl, hbel⟩
        · rw [if_neg (by simp; omega)] at hdec
          have HD := Lib.hid hdec
          clear hdec hnil hown hrd hmid hbk hlen
          go_wp2
          go_ret2
          exact ⟨by rw [HD.out]; rfl, hbel⟩

set_option maxRecDepth 100000 in
set_option maxHeartbeats 1000000 in
theorem dec_none (A : Option Addr) (cap : Nat) (w : World) : Calls Try.prog 78 #[.slice A 0 cap] w fun e w' => e = .returned (decV (decB [])) ∧ Below w.heap.size w w' := by
  have hd : decB [] = some [] := by decide +kernel
  have HD := Lib.hid hd
  clear hd
  go_enter Try.func78, Try.ntmps78
  go_wp2_with fail
  refine (open_any w).mono ?_
  rintro e w1 ⟨B, rfl, hbk, hB, hb1⟩
  have hstr := run_str (P := Try.prog) (w := w1) Try.underlying23 Try.underlying5 Try.underlying9 (show Rd w1 0 1 none 0 (bvs []) from Rd.none_ w1 0 1 none) 0
  clear hbk
  go_wp2
  refine wp_loop_rounds 1 ?_
  rw [rounds_succ]
  go_wp2
  go_ret2
  exact ⟨by rw [HD.out]; rfl, hb1⟩

/-- Decode, whatever the bytes. -/
theorem dec_any {A : Option Addr} {n cap : Nat} {l : List UInt8} {w : World} (hr : Rd w w.heap.size 1 A n (bvs l)) (hn : n ≤ 1048576) :
    Calls Try.prog 78 #[.slice A n cap] w fun e w' => e = .returned (decV (decB l)) ∧ Below w.heap.size w w' := by
  rcases Nat.eq_zero_or_pos n with rfl | hn0
  · have hl0 : l = [] := List.eq_nil_of_length_eq_zero hr.blen
    subst hl0
    exact dec_none A cap w
  · obtain ⟨hl, b, o, rfl, hb, hc⟩ := hr.bas hn0
    exact dec_some b o n cap l w hn0 hn hl.symm hb hc
end Go.Proofs.Ytfpcamkimjecdaa

/- The walks of drawbridgelaw02.awake and HuffSums. -/
namespace Go.Proofs.Ytfpcamkimjecdaa
open Go.RowKit

theorem _root_.Go.RowKit.Below.tr {w w1 w2 : World} (h : Below w.heap.size w w1) (h2 : Below w1.heap.size w1 w2) : Below w.heap.size w w2 := h.trans (h2.mono h.size)

theorem str_app (a b : ByteArray) : (a ++ b).data.toList = a.data.toList ++ b.data.toList := by
  rw [ByteArray.data_append, Array.toList_append]

end Go.Proofs.Ytfpcamkimjecdaa

/- The walk of drawbridgeref01.Bytes at two rows of the same bytes. -/
namespace Go.Proofs.Ytfpcamkimjecdaa
open Go.RowKit
end Go.Proofs.Ytfpcamkimjecdaa

/- The walk of drawbridgelaw02.HuffEncodes. -/
namespace Go.Proofs.Ytfpcamkimjecdaa
open Go.RowKit

end Go.Proofs.Ytfpcamkimjecdaa

/- The walk of drawbridgelaw02.HuffBack. -/
namespace Go.Proofs.Ytfpcamkimjecdaa
open Go.RowKit

theorem own_empty2 {base size : Nat} {e : TypeId} (w : World) (h : base ≤ w.heap.size) : (w.alloc (.cells #[] e)).ownsRow base e size (.slice (some ⟨w.heap.size, 0, none⟩) 0 0) 0 [] :=
  World.ownsRow_lit w #[] 0 h (Nat.zero_le _) (by simp)
theorem decV_some (l : List UInt8) : decV (some l) = .tuple #[.string ⟨l.toArray⟩, .int .i64 0] := rfl
theorem decV_none : decV none = .tuple #[.string ⟨#[]⟩, .int .i64 10] := rfl
theorem str_back (s : ByteArray) : (⟨s.data.toList.toArray⟩ : ByteArray) = s := by rw [Array.toArray_toList]

end Go.Proofs.Ytfpcamkimjecdaa

/- The walk of drawbridgeref02.Decode: down the tree is reading the codes. -/
namespace Go.Proofs.Ytfpcamkimjecdaa
open Go.RowKit

/-- The tree lies in block g. -/
def TC (w : World) (g : Nat) : Prop := ∀ i k, i < 513 → k < 3 → w.cell? ⟨g, i * 3 + k, none⟩ = (nodeV (treeT.getD i newN))[k]?
theorem and_one8 (x : Nat) (hx : x < 256) : Go.bits .and .u8 (x : Int) 1 = ((x % 2 : Nat) : Int) := by
  rw [show (1 : Int) = ((1 : Nat) : Int) from rfl, u8_and_nat _ _ (by omega) (by omega), nat_mask1]
/-- Behind i bits, at a node of the tree. -/
structure DSt (W w : World) (gt b0 : Nat) (l : List UInt8) (i at1 : Nat) (ones : Bool) (out : List UInt8) (v : Value) : Prop where
  lt : at1 < 513
  sym : (treeT.getD at1 newN).2.2 < 0
  mid : Mid (wayT at1).1 (wayT at1).2
  ol : out.length + (wayT at1).2 ≤ i
  dec : decB l = decGo (wayT at1).1 (wayT at1).2 ones out ((bitsB l).drop i)
  own : w.ownsRow b0 5 1 v out.length (bvs out)
  tc : TC w gt
  bel : Below W.heap.size W w
  hb : W.heap.size ≤ b0
  gt : gt < b0
  lb : b0 ≤ w.heap.size
def RDecRel (W : World) (gt b0 : Nat) (l : List UInt8) (v av lv nv iv : Value) (w : World) : Prop :=
  ∃ i at1 : Nat, ∃ ones : Bool, ∃ out : List UInt8, iv = .int .i64 i ∧ i ≤ l.length ∧ av = .int .i64 at1 ∧ lv = .int .i64 ((wayT at1).2 : Int) ∧ nv = .bool (!ones) ∧ DSt W w gt b0 l (8 * i) at1 ones out v
def RBitRel (W : World) (gt b0 : Nat) (l : List UInt8) (i : Nat) (v av lv nv jv : Value) (w : World) : Prop :=
  ∃ m at1 : Nat, ∃ ones : Bool, ∃ out : List UInt8, jv = .int .i64 ((7 : Int) - m) ∧ m ≤ 8 ∧ av = .int .i64 at1 ∧ lv = .int .i64 ((wayT at1).2 : Int) ∧ nv = .bool (!ones) ∧ DSt W w gt b0 l (8 * i + m) at1 ones out v

end Go.Proofs.Ytfpcamkimjecdaa

/- The walks of prefix.TakeText and drawbridgeref03.TakeText. -/
namespace Go.Proofs.Ytfpcamkimjecdaa
open Go.RowKit

theorem Rd.cut {w : World} {B b o n a m : Nat} {l : List UInt8} (h : Rd w B 1 (some ⟨b, o, none⟩) n (bvs l)) (h1 : a + m ≤ n) : Rd w B 1 (some ⟨b, o + a, none⟩) m (bvs ((l.drop a).take m)) := by
  have hl := h.blen
  refine ⟨by simp [bvs]; omega, fun hm => ?_⟩
  obtain ⟨b', o', e, hb, hc⟩ := h.2 (by omega)
  injection e with e; injection e with e1 e2 e3; subst e1 e2
  refine ⟨_, _, rfl, hb, fun j hj => ?_⟩
  rw [Nat.add_assoc, hc (a + j) (by omega)]
  simp only [bvs, List.getElem?_map, List.getElem?_take, List.getElem?_drop]
  rw [if_pos (by omega)]
/-- 'own[at:end]' of a slice whose room ends there: nothing. -/
theorem Rd.end_ {w : World} {B n : Nat} {A : Option Addr} {l : List UInt8} (_hl : l.length = n) : Rd w B 1 A 0 (bvs ((l.drop n).take 0)) := by
  rw [List.take_zero]; exact Rd.none_ _ _ _ _

set_option maxRecDepth 100000 in
set_option maxHeartbeats 2000000 in
theorem takeText_any {A : Option Addr} {n cap : Nat} {l : List UInt8} {w : World} (hr : Rd w w.heap.size 1 A n (bvs l)) (hcap : n ≤ cap) (hm : cap ≤ maxLen) (hn : n ≤ 1048576) :
    Calls Try.prog 75 #[.slice A n cap] w fun e w' => e = .returned (triT (takeT l)) ∧ Below w.heap.size w w' := by
  have HL := Lib.hid hr.blen
  have hcm := hm
  unfold maxLen at hcm
  obtain ⟨⟨m, a, z⟩, hv⟩ : ∃ r, takeI 127 l = r := ⟨_, rfl⟩
  have hbd := takeI_bd (F := 127) (by omega) l
  have hze := takeI_err 127 l
  rw [hv] at hbd hze
  simp only at hbd hze
  have HV := Lib.hid hv
  have ht := take_any (w := w) full7 hr hcap hm
  rw [hv] at ht
  simp only [tri] at ht
  have HT := Lib.hid ht
  have HR := Lib.hid hr
  clear hv ht hr
  by_cases hz : z = 0
  · have hbd1 := hbd hz
    subst hz
    clear hbd hze
    obtain ⟨h31, ha1, han, ha6⟩ := hbd1
    rw [HL.out] at han
    by_cases hm4 : 4096 < m
    · go_enter Try.func75, Try.ntmps75
      go_wp2_with fail
      refine HT.out.mono ?_
      rintro e w1 ⟨rfl, rfl⟩
      go_wp2
      go_ret3
      exact ⟨by rw [takeT_long HV.out rfl hm4]; rfl, Below.refl _ _⟩
    · by_cases hl : n < a + m
      · go_enter Try.func75, Try.ntmps75
        go_wp2_with fail
        refine HT.out.mono ?_
        rintro e w1 ⟨rfl, rfl⟩
        go_wp2
        go_ret3
        exact ⟨by rw [takeT_short HV.out rfl (by omega) (by rw [HL.out]; exact hl)]; rfl, Below.refl _ _⟩
      · obtain ⟨-, b, o, rfl, hb, hc⟩ := HR.out.bas (by omega)
        have hc0 : w.cell? ⟨b, o, none⟩ = some (.int .u8 (ba l 0 : Int)) := hc 0 (by omega)
        clear hc
        by_cases hca : cap = a
        · obtain rfl : cap = n := by omega
          obtain rfl : a = cap := by omega
          obtain rfl : m = 0 := by omega
          have hp := Rd.end_ (w := w) (B := w.heap.size) (A := some ⟨b, o, none⟩) HL.out
          have e1 := run_str Try.underlying23 Try.underlying5 Try.underlying9 hp (a - a)
          simp only [Nat.sub_self] at e1
          have E1 := Lib.hid e1
          have HP := Lib.hid hp
          clear e1 hp
          by_cases hb0 : ba l 0 < 128
          · have e1 := E1.out
            go_enter Try.func75, Try.ntmps75
            go_wp2_with fail
            refine HT.out.mono ?_
            rintro e w1 ⟨rfl, rfl⟩
            go_wp2
            go_ret3
            exact ⟨by rw [takeT_raw HV.out rfl (by omega) (by rw [HL.out]; omega) hb0]; rfl, Below.refl _ _⟩
          · have hT := takeT_bits HV.out rfl (by omega) (by rw [HL.out]; omega) (by omega)
            have hd := dec_any HP.out (by omega) (cap := a - a)
            simp only [Nat.sub_self] at hd
            generalize decB ((l.drop a).take 0) = D at *
            have HD := Lib.hid hd
            have HTT := Lib.hid hT
            clear hd hT
            go_enter Try.func75, Try.ntmps75
            go_wp2_with fail
            refine HT.out.mono ?_
            rintro e w1 ⟨rfl, rfl⟩
            go_wp2_with fail
            refine HD.out.mono ?_
            rintro e w2 ⟨rfl, hb2⟩
            cases D with
            | none =>
              simp only [decV]
              go_wp2
              go_ret3
              exact ⟨by rw [HTT.out]; rfl, hb2⟩
            | some t =>
              simp only [decV]
              have hsz : (ByteArray.mk t.toArray).size = t.length := by simp [ByteArray.size]
              have hfin := HTT.out
              simp only at hfin
              obtain ⟨s, hs⟩ : ∃ s : ByteArray, s = ⟨t.toArray⟩ := ⟨_, rfl⟩
              rw [← hs] at hsz ⊢
              have HS := Lib.hid hs
              have HSZ := Lib.hid hsz
              have HF := Lib.hid hfin
              clear hs hsz hfin
              by_cases hbig : 4096 < s.size
              · go_wp2
                go_ret3
                exact ⟨by rw [HF.out, if_pos (by rw [← HSZ.out]; exact hbig)]; rfl, hb2⟩
              · go_wp2
                go_ret3
                exact ⟨by rw [HF.out, if_neg (by rw [← HSZ.out]; exact hbig), HS.out]; rfl, hb2⟩
        · have hp := Rd.cut (a := a) (m := m) HR.out (by omega)
          have e1 := run_str Try.underlying23 Try.underlying5 Try.underlying9 hp (cap - a)
          have E1 := Lib.hid e1
          have HP := Lib.hid hp
          clear e1 hp
          by_cases hb0 : ba l 0 < 128
          · have e1 := E1.out
            go_enter Try.func75, Try.ntmps75
            go_wp2_with fail
            refine HT.out.mono ?_
            rintro e w1 ⟨rfl, rfl⟩
            go_wp2
            go_ret3
            exact ⟨by rw [takeT_raw HV.out rfl (by omega) (by rw [HL.out]; omega) hb0]; rfl, Below.refl _ _⟩
          · have hT := takeT_bits HV.out rfl (by omega) (by rw [HL.out]; omega) (by omega)
            have hd := dec_any HP.out (by omega) (cap := cap - a)
            generalize decB ((l.drop a).take m) = D at *
            have HD := Lib.hid hd
            have HTT := Lib.hid hT
            clear hd hT
            go_enter Try.func75, Try.ntmps75
            go_wp2_with fail
            refine HT.out.mono ?_
            rintro e w1 ⟨rfl, rfl⟩
            go_wp2_with fail
            refine HD.out.mono ?_
            rintro e w2 ⟨rfl, hb2⟩
            cases D with
            | none =>
              simp only [decV]
              go_wp2
              go_ret3
              exact ⟨by rw [HTT.out]; rfl, hb2⟩
            | some t =>
              simp only [decV]
              have hsz : (ByteArray.mk t.toArray).size = t.length := by simp [ByteArray.size]
              have hfin := HTT.out
              simp only at hfin
              obtain ⟨s, hs⟩ : ∃ s : ByteArray, s = ⟨t.toArray⟩ := ⟨_, rfl⟩
              rw [← hs] at hsz ⊢
              have HS := Lib.hid hs
              have HSZ := Lib.hid hsz
              have HF := Lib.hid hfin
              clear hs hsz hfin
              by_cases hbig : 4096 < s.size
              · go_wp2
                go_ret3
                exact ⟨by rw [HF.out, if_pos (by rw [← HSZ.out]; exact hbig)]; rfl, hb2⟩
              · go_wp2
                go_ret3
                exact ⟨by rw [HF.out, if_neg (by rw [← HSZ.out]; exact hbig), HS.out]; rfl, hb2⟩
  · go_enter Try.func75, Try.ntmps75
    go_wp2_with fail
    refine HT.out.mono ?_
    rintro e w1 ⟨rfl, rfl⟩
    go_wp2
    go_ret3
    exact ⟨by rw [takeT_err HV.out hz]; rfl, Below.refl _ _⟩
end Go.Proofs.Ytfpcamkimjecdaa

/- From a walk that returns true to the row: one end for every law; the opening of each kind of argument. -/
namespace Go.Proofs.Ytfpcamkimjecdaa
open Go.ChangeShapes Go.WideShapes Go.ChangeAt Go.RowKit Go.WideMaps Go.ChangeMaps
set_option maxRecDepth 100000

theorem own : ownKnob Try.prog.godebug = none := by kernel_rfl
theorem laidOut : laidOutB Try.prog = true := by kernel_rfl

section
variable {H : Type} {enc : TypeId × Value → H} {P : Program}

theorem trodAll_below (hl : laidOutB P = true) {W W' : World} (hb : Below W.heap.size W W') : ∀ {ts : List TypeId} {vs : List Value} {ds : List (DataW H)} {ps : List MemPlace},
    (∀ t ∈ ts, P.readableRec t = true ∧ t < P.types.size) → DataW.TrodAll enc P W 0 (fun _ => true) true ts vs ds ps → (∀ x ∈ ps, x.block < W.heap.size) →
    DataW.TrodAll enc P W' 0 (fun b => decide (b < W.heap.size)) true ts vs ds ps
  | [], vs, ds, ps, _, h, _ => by
    obtain ⟨rfl, rfl, rfl⟩ := trodAll_nil h
    rfl
  | t :: ts, vs, ds, ps, hts, h, hlt => by
    obtain ⟨v, vs', d, ds', p, q, rfl, rfl, rfl, hd, hrest⟩ := trodAll_cons h
    have ht := hts t (by simp)
    exact ⟨p, q, Below.trod hl ht.1 ht.2 hd hb (fun x hx => hlt x (by simp [hx])), trodAll_below hl hb (fun t' h' => hts t' (by simp [h'])) hrest (fun x hx => hlt x (by simp [hx])), rfl⟩

/-- THE ONE END. -/
theorem law_fin (hl : laidOutB P = true) {fn : Func} {s : ChangeSpec} {W W' : World} {args : Array Value} {ds gs : List (DataW H)} {before : List MemPlace} {tb : TypeId} {e : Ending} {apart : Bool}
    (hts : ∀ t ∈ fn.params.toList, P.readableRec t = true ∧ t < P.types.size) (hres : fn.resultTypes = #[tb]) (htb : P.underlying tb = some .bool)
    (hW : DataW.Whole enc P fn.params.toList s.vars apart W args.toList ds gs before) (hv : s.vars = []) (hs : s.fn H ds = { results := [.lit (.bool true)], args := ds })
    (h : RetT W e W') : ∃ v, e = .returned v ∧ s.post enc P fn apart true false false W args v W' := by
  obtain ⟨rfl, hb⟩ := h
  have hW' := hW
  obtain ⟨p, q, hA, hV, rfl, _, _⟩ := hW
  rw [hv] at hV
  obtain ⟨rfl, rfl⟩ := trodVars_none hV
  simp only [List.append_nil] at hW' ⊢
  have hlt : ∀ x ∈ p, x.block < W.heap.size := fun x hx => by simpa using hW'.lt x hx
  refine ⟨_, rfl, ds, [], p, [], p, [], hW', ?_, ?_, ?_, hb.frame _, fun h => by cases h⟩
  · rw [List.append_nil, hs, hres]
    exact trodAll_mk1 (shut_bool htb _)
  · rw [List.append_nil, hs]
    exact trodAll_below hl hb hts hA hlt
  · rw [List.append_nil, hs, hv]
    rfl
end

/-- What a law's proof is asked: over arguments that read as data, that fit, within the form's reach. -/
theorem law_lift {f : FuncId} {fn : Func} {s : ChangeSpec} {tb : TypeId} {H : Type} {enc : TypeId × Value → H} {os : Os} (started : os.Started)
    (noInit : Try.prog.inits.idxOf? f = none) (hfn : Try.prog.funcs[f]? = some fn)
    (hts : ∀ t ∈ fn.params.toList, Try.prog.readableRec t = true ∧ t < Try.prog.types.size) (hres : fn.resultTypes = #[tb]) (htb : Try.prog.underlying tb = some .bool) (hv : s.vars = [])
    (witness : ∃ (w : World) (tape : Tape) (i : Input), w.os = os ∧ (w.forCall tape i).Shaped Try.checked.prog ∧ i.vars = [] ∧ Input.okWide Try.checked.prog (w.forCall tape i) .any w.heap.size f i ∧
      s.pre6 enc Try.checked.prog fn [] false (w.forCall tape i).memory i.args ∧ ({} : Assume).holds Try.checked.prog (lone (Frame.enter Try.checked.prog f i.args .normal) [] (w.forCall tape i)))
    (walk : ∀ (W : World) (base : Nat) (args : Array Value) (ds : List (DataW H)) (p : List MemPlace), (∀ (j : Nat) t v, fn.params[j]? = some t → args[j]? = some v → Value.okWide Try.prog W .any base t v) →
      DataW.TrodAll enc Try.prog W 0 (fun _ => true) true fn.params.toList args.toList ds p → (∀ x ∈ p, x.block < W.heap.size) →
      (DataW.weightsEach Try.prog fn.params.toList ds).all (· ≤ reachBytes) = true →
      s.fn H ds = { results := [.lit (.bool true)], args := ds } ∧ Calls Try.prog f args W (RetT W)) :
    ReturnsInHanded {} Try.checked os f .any (s.pre6 enc Try.prog fn [] false) (s.post enc Try.prog fn false true false false) := by
  refine returnsInHanded_of_change_sized (C := Try.checked) own started noInit hfn witness ?_
  intro W base args ds gs before hval hW _ hsz0 _
  have hW0 := hW
  obtain ⟨p, q, hA, hV, rfl, _, _⟩ := hW
  rw [hv] at hV
  obtain ⟨rfl, rfl⟩ := trodVars_none hV
  have hvt : s.plain.varTypes Try.checked.prog = [] := by
    simp [DataSpec.varTypes, ChangeSpec.plain, hv]
  rw [hvt] at hsz0
  simp only [List.append_nil] at hsz0 hW0
  have hlt : ∀ x ∈ p, x.block < W.heap.size := fun x hx => by simpa using hW0.lt x hx
  obtain ⟨hs, hc⟩ := walk W base args ds p hval hA hlt hsz0
  exact hc.mono fun e W' h => law_fin laidOut hts hres htb hW0 hv hs h

section
variable {H : Type} {enc : TypeId × Value → H} {W : World} {base : Nat}
theorem wf_u8 {n : Int} (h : (Lit.int .u8 n).wf = true) : 0 ≤ n ∧ n < 256 := by simp [Lit.wf, IntKind.min, IntKind.max, IntKind.bits, IntKind.signed] at h; omega
theorem wf_u32 {n : Int} (h : (Lit.int .u32 n).wf = true) : 0 ≤ n ∧ n < 4294967296 := by simp [Lit.wf, IntKind.min, IntKind.max, IntKind.bits, IntKind.signed] at h; omega
theorem wf_i64 {n : Int} (h : (Lit.int .i64 n).wf = true) : -9223372036854775808 ≤ n ∧ n ≤ 9223372036854775807 := by simp [Lit.wf, IntKind.min, IntKind.max, IntKind.bits, IntKind.signed] at h; omega
end

section
variable {H : Type} {enc : TypeId × Value → H} {W : World} {base : Nat}
/-- A []byte that came in: its bytes, nil or not. -/
theorem open_bts {v : Value} {d : DataW H} {p : List MemPlace} (hval : Value.okWide Try.prog W .any base 23 v) (h : DataW.Trod enc Try.prog W 0 (fun _ => true) true 23 v d p)
    (hlt : ∀ x ∈ p, x.block < W.heap.size) {ts : List TypeId} {ds : List (DataW H)} (hsz : (DataW.weightsEach Try.prog ts ds).all (· ≤ reachBytes) = true) {j : Nat} (ht : ts[j]? = some 23) (hd : ds[j]? = some d) :
    ∃ A n c l, v = .slice A n c ∧ n ≤ c ∧ c ≤ maxLen ∧ n ≤ 140737488351232 ∧ Rd W W.heap.size 1 A n (bvs l) := by
  obtain ⟨a1, len, cap, rfl⟩ := okWide_slice Try.underlying23 hval
  obtain ⟨fuel, hf⟩ := h
  rcases open_ints Try.underlying23 Try.underlying5 (by kernel_rfl) hf with ⟨hcs, hx⟩ | ⟨a, len', cap', zs, hcs, _, hl, hm, hz, hx, hcell, hwz⟩
  · simp [Value.cells] at hcs
    obtain ⟨rfl, rfl, rfl⟩ := hcs
    exact ⟨none, 0, 0, [], rfl, Nat.le_refl _, Nat.zero_le _, by omega, Rd.none_ _ _ _ _⟩
  · simp [Value.cells] at hcs
    obtain ⟨rfl, rfl, rfl⟩ := hcs
    simp only [Prod.mk.injEq] at hx
    obtain ⟨rfl, rfl⟩ := hx
    simp only [if_true] at hz
    have hreach : len ≤ 140737488351232 := by
      have := sized_slice hsz (e := 5) ht hd Try.underlying23
      rw [show Try.prog.bytesOf 5 = 1 by kernel_rfl] at this
      simp only [lits, List.length_map, List.length_take, reachBytes] at this
      omega
    refine ⟨_, len, cap, (zs.take len).map fun n => UInt8.ofNat n.toNat, rfl, hl, hm, hreach, by simp [bvs]; omega, fun hn => ?_⟩
    obtain ⟨ab, ao, spot⟩ := a
    have hspot : spot = none := by simpa [Addr.add] using World.cell?_spot (hcell 0 (by omega))
    subst hspot
    refine ⟨ab, ao, rfl, ?_, fun i hi => ?_⟩
    · have := hlt (.cell ab ao) (by simp only [MemPlace.row, List.mem_map, List.mem_range]; exact ⟨0, by omega, rfl⟩)
      exact this
    · have hcj := hcell i (by omega)
      rw [Addr.add_lit] at hcj
      have hb := range_u8 hwz i
      rw [hcj]
      show some (Value.int .u8 (zs[i]?.getD 0)) = _
      rw [bv_of hb.1 (by omega)]
      simp [bvs, show i < len by omega, List.getElem?_eq_getElem (show i < zs.length by omega)]
/-- A string that came in. -/
theorem open_str {v : Value} {d : DataW H} {p : List MemPlace} (hval : Value.okWide Try.prog W .any base 9 v) (h : DataW.Trod enc Try.prog W 0 (fun _ => true) true 9 v d p)
    {ts : List TypeId} {ds : List (DataW H)} (hsz : (DataW.weightsEach Try.prog ts ds).all (· ≤ reachBytes) = true) {j : Nat} (ht : ts[j]? = some 9) (hd : ds[j]? = some d) :
    ∃ s : ByteArray, v = .string s ∧ s.size ≤ 140737488351232 := by
  obtain ⟨s, rfl, rfl, rfl, -⟩ := open_string Try.underlying9 hval h
  exact ⟨s, rfl, by have := sized_string hsz ht hd; simp [reachBytes] at this; exact this⟩
end
end Go.Proofs.Ytfpcamkimjecdaa

/- A []drawbridgelaw04.Do that came in: its steps, in memory; an api.Field that came in. -/
namespace Go.Proofs.Ytfpcamkimjecdaa
open Go.ChangeShapes Go.WideShapes Go.ChangeAt Go.RowKit Go.WideMaps Go.ChangeMaps Go.Deep
set_option maxRecDepth 100000

/-- A step: its kind, its field, its number. -/
structure St where
  sk : Int
  sf : Rw
  sv : Bool
  sn : Int
def St.zero : St := ⟨0, (ByteArray.empty, ByteArray.empty), false, 0⟩
def StAt (w : World) (b o : Nat) (x : St) : Prop :=
  w.cell? ⟨b, o, none⟩ = some (.int .i64 x.sk) ∧ w.cell? ⟨b, o + 1, none⟩ = some (.string x.sf.1) ∧ w.cell? ⟨b, o + 2, none⟩ = some (.string x.sf.2) ∧ w.cell? ⟨b, o + 3, none⟩ = some (.bool x.sv) ∧ w.cell? ⟨b, o + 4, none⟩ = some (.int .i64 x.sn)
def StOk (x : St) : Prop := (Lit.int .i64 x.sk).wf = true ∧ x.sf.1.size ≤ maxLen ∧ x.sf.2.size ≤ maxLen ∧ (Lit.int .i64 x.sn).wf = true
/-- A row of steps in memory, in a block below B. -/
def Script (w : World) (B : Nat) (A : Option Addr) (n : Nat) (D : Nat → St) : Prop :=
  (∀ i, i < n → StOk (D i)) ∧ (0 < n → ∃ b o, A = some ⟨b, o, none⟩ ∧ b < B ∧ ∀ i, i < n → StAt w b (o + i * 5) (D i))
theorem Script.below {w w' : World} {B : Nat} {A : Option Addr} {n : Nat} {D : Nat → St} (h : Script w B A n D) (hb : Below B w w') : Script w' B A n D := by
  refine ⟨h.1, fun h0 => ?_⟩
  obtain ⟨b, o, hA, hlt, hc⟩ := h.2 h0
  refine ⟨b, o, hA, hlt, fun i hi => ?_⟩
  obtain ⟨h1, h2, h3, h4, h5⟩ := hc i hi
  have e : ∀ j, w'.cell? ⟨b, j, none⟩ = w.cell? ⟨b, j, none⟩ := fun j => hb.cell (p := ⟨b, j, none⟩) hlt
  exact ⟨(e _).trans h1, (e _).trans h2, (e _).trans h3, (e _).trans h4, (e _).trans h5⟩

section
variable {H : Type} {enc : TypeId × Value → H} {W : World} {base : Nat}
/-- A field's three cells. -/
theorem field_cells {cs : List Value} {x : DataW H × List MemPlace} {sp : Nat → Bool} {held : Bool} {n : Nat} (h : DataW.trod enc Try.prog W base sp held n 43 cs = some x) :
    ∃ (a b : ByteArray) (v : Bool), cs = [.string a, .string b, .bool v] ∧ a.size ≤ maxLen ∧ b.size ≤ maxLen := by
  obtain ⟨xs, m, _, _, hl, hx, hf⟩ := DataW.trod_struct Try.underlying43 h
  rw [show Try.prog.cellsOf 43 = 3 by kernel_rfl] at hl
  have cb : Try.prog.cellsOf 4 = 1 := by kernel_rfl
  have cs1 : Try.prog.cellsOf 9 = 1 := by kernel_rfl
  match cs, hl with
  | [c0, c1, c2], _ =>
    match xs, hx with
    | [x0, x1, x2], _ =>
      have f0 := hf 0 _ rfl
      have f1 := hf 1 _ rfl
      have f2 := hf 2 _ rfl
      change DataW.trod enc Try.prog W base sp held m 9 (List.take (Try.prog.cellsOf 9) (List.drop 0 [c0, c1, c2])) = some x0 at f0
      change DataW.trod enc Try.prog W base sp held m 9 (List.take (Try.prog.cellsOf 9) (List.drop 1 [c0, c1, c2])) = some x1 at f1
      change DataW.trod enc Try.prog W base sp held m 4 (List.take (Try.prog.cellsOf 4) (List.drop 2 [c0, c1, c2])) = some x2 at f2
      rw [cb] at f2
      rw [cs1] at f0 f1
      obtain ⟨a, e0, -, w0⟩ := DataW.trod_string Try.underlying9 f0
      obtain ⟨b, e1, -, w1⟩ := DataW.trod_string Try.underlying9 f1
      obtain ⟨v, e2, -⟩ := DataW.trod_bool Try.underlying4 f2
      simp at e0 e1 e2
      exact ⟨a, b, v, by rw [e0, e1, e2], w0, w1⟩
/-- An api.Field that came in. -/
theorem open_field {v : Value} {d : DataW H} {p : List MemPlace} (hval : Value.okWide Try.prog W .any base 43 v) (h : DataW.Trod enc Try.prog W 0 (fun _ => true) true 43 v d p) :
    ∃ (f : Rw) (nv : Bool), v = .agg #[.string f.1, .string f.2, .bool nv] ∧ f.1.size ≤ maxLen ∧ f.2.size ≤ maxLen := by
  obtain ⟨cs, rfl, -⟩ := okWide_struct Try.underlying43 hval
  obtain ⟨fuel, hf⟩ := h
  obtain ⟨a, b, nv, hcs, hw⟩ := field_cells hf
  refine ⟨(a, b), nv, ?_, hw⟩
  congr 1
  apply Array.ext'
  simpa [Value.cells] using hcs
end
end Go.Proofs.Ytfpcamkimjecdaa

/- The walk of table.Find. -/
namespace Go.Proofs.Ytfpcamkimjecdaa
open Go.RowKit Go.Maps

theorem run_index_rows {cs : List Value} {i : Nat} {a b : Value} (w : World) (hi : i < 61) (h0 : cs[i * 2]? = some a) (h1 : cs[i * 2 + 1]? = some b) :
    (Instr.index 110 (.agg cs.toArray) (.int .i64 (i : Int))).run Try.prog w = .ok (.agg #[a, b]) w := by
  have hsz : (Try.prog.info? 109).map (·.size) = some 2 := by kernel_rfl
  cases hq : Try.prog.info? 109 with
  | none => simp [hq] at hsz
  | some ie =>
    have hs : ie.size = 2 := by simpa [hq] using hsz
    simp [Instr.index, asIntOf, run_underlying Try.underlying110, sizeOf, typeInfo, hq, hs, part, hi]
    obtain ⟨l0, e0⟩ := List.getElem?_eq_some_iff.1 h0
    obtain ⟨l1, e1⟩ := List.getElem?_eq_some_iff.1 h1
    rw [List.drop_eq_getElem_cons l0, List.drop_eq_getElem_cons l1, e0, e1]
    rfl
def nearK (nm : ByteArray) (k : Nat) : Nat := match (statF.take k).findIdx? (fun r => r.1 = nm) with
  | some i => i + 1
  | none => 0
theorem nearK_succ {nm : ByteArray} {k : Nat} {r : Rw} (hr : statF[k]? = some r) : nearK nm (k + 1) = if nearK nm k = 0 then (if r.1 = nm then k + 1 else 0) else nearK nm k := by
  have hk : k < statF.length := (List.getElem?_eq_some_iff.1 hr).1
  unfold nearK
  rw [List.take_add_one, hr]
  simp only [Option.toList_some, List.findIdx?_append]
  cases hf : (statF.take k).findIdx? (fun r => r.1 = nm) with
  | some i => simp
  | none =>
    simp only [Option.none_or]
    by_cases h : r.1 = nm
    · simp [h, List.length_take]; omega
    · simp [h]
/-- Found: the number, and whether with its value. -/
def findT (rows : List Rw) (gone : Int) (f : Rw) : Int × Bool :=
  match statF.findIdx? (fun r => r = f) with
  | some i => (i + 1, true)
  | none => match pos rows gone f with
    | some x => (62 + gone + rows.length - x, true)
    | none => if nearK f.1 61 = 0 then (match pos (rows.map (·.1)) gone f.1 with
        | some x => (62 + gone + rows.length - x, false)
        | none => (0, false)) else ((nearK f.1 61 : Nat), false)
theorem findT_stat (rows : List Rw) (gone : Int) {f : Rw} {k : Nat} (hk : statF[k]? = some f) (hall : ∀ j r, j < k → statF[j]? = some r → r ≠ f) : findT rows gone f = ((k : Int) + 1, true) := by
  have hl : k < statF.length := (List.getElem?_eq_some_iff.1 hk).1
  have e : statF.findIdx? (fun r => r = f) = some k := by
    rw [List.findIdx?_eq_some_iff_getElem]
    refine ⟨hl, by have := (List.getElem?_eq_some_iff.1 hk).2; simp [this], fun j hj => ?_⟩
    have := hall j (statF[j]'(by omega)) hj (List.getElem?_eq_getElem (by omega))
    simpa using this
  unfold findT
  rw [e]
theorem findT_none {f : Rw} (hall : ∀ j r, j < 61 → statF[j]? = some r → r ≠ f) : statF.findIdx? (fun r => r = f) = none := by
  rw [List.findIdx?_eq_none_iff]
  intro r hr
  obtain ⟨j, hj, hq⟩ := List.getElem_of_mem hr
  simpa using hall j r (by rw [statF_length] at hj; exact hj) (by rw [List.getElem?_eq_getElem hj, hq])

set_option maxHeartbeats 1000000 in
theorem number_any {g N : Nat} {F : Nat → Prop} {T : Tb} {p : Nat} (x : Int) (w : World) (h : TabIs w g F N T) (hp : w.cell? ⟨p, 0, none⟩ = some (.pointer (some ⟨g, 0, none⟩))) (hx0 : 0 ≤ x) (hx1 : x ≤ 1099511627776) :
    Calls Try.prog 51 #[.int .i64 x, .pointer (some ⟨p, 0, none⟩)] w fun e w' => e = .returned (.int .i64 (62 + T.gone + T.rows.length - x)) ∧ ∃ n, w' = w.drewN n := by
  obtain ⟨h1, h2, h3, h4, h5, h6, h7⟩ := h.inv
  obtain ⟨mb, mn, A, c, rfl, ht⟩ := h
  obtain ⟨-, -, c2, c3, -⟩ := ht.raw.cells
  have s1 : IntKind.i64.wrap (62 + T.gone) = 62 + T.gone := by rw [IntWalk.i64_in _ ⟨by omega, by omega⟩]
  have s2 : IntKind.i64.wrap (62 + T.gone + T.rows.length) = 62 + T.gone + T.rows.length := by rw [IntWalk.i64_in _ ⟨by omega, by omega⟩]
  have s3 : IntKind.i64.wrap (62 + T.gone + T.rows.length - x) = 62 + T.gone + T.rows.length - x := by rw [IntWalk.i64_in _ ⟨by omega, by omega⟩]
  clear ht h1 h7
  go_enter Try.func51, Try.ntmps51
  go_wp2
  go_quiet (fail)
  go_wp2
  go_ret
  exact ⟨rfl, _, rfl⟩

/-- While the rows that never change are gone through. -/
def FndRel (W : World) (f : Rw) (nv iv : Value) (wr : World) : Prop :=
  ∃ k : Nat, iv = .int .i64 k ∧ nv = .int .i64 (nearK f.1 k : Nat) ∧ k ≤ 61 ∧ (∀ j r, j < k → statF[j]? = some r → r ≠ f) ∧ Below W.heap.size W wr

theorem below_dN {B : Nat} {w w' : World} (h : Below B w w') (n : Nat) : Below B w (w'.drewN n) := ⟨h.os, h.tape, h.output, h.size, h.block⟩
def FindPost (W : World) (r : Int × Bool) (e : Ending) (w' : World) : Prop := e = .returned (.tuple #[.int .i64 r.1, .bool r.2]) ∧ Below W.heap.size W w'
set_option maxRecDepth 100000 in
set_option maxHeartbeats 4000000 in
theorem find_any {g N : Nat} {F : Nat → Prop} {T : Tb} (f : Rw) (nv : Bool) (w : World) (h : TabIs w g F N T) (hf1 : f.1.size ≤ 9223372036854775807) (hf2 : f.2.size ≤ 9223372036854775807) :
    Calls Try.prog 34 #[.pointer (some ⟨g, 0, none⟩), .agg #[.string f.1, .string f.2, .bool nv]] w (FindPost w (findT T.rows T.gone f)) := by
  have hlt := h.lt
  obtain ⟨W0, hW0⟩ : ∃ W0, (w.alloc (.cells #[.pointer (some ⟨g, 0, none⟩)] 58)).alloc (.cells #[.string f.1, .string f.2, .bool nv] 43) = W0 := ⟨_, rfl⟩
  have b0 : Below w.heap.size w W0 := by rw [← hW0]; exact ((Below.refl _ _).alloc (Nat.le_refl _) _).alloc (by simp) _
  obtain ⟨p, hp⟩ : ∃ p, w.heap.size = p := ⟨_, rfl⟩
  have hsz0 : W0.heap.size = p + 2 := by rw [← hW0, ← hp]; simp
  have k0 : W0.heap[p]? = some (.cells #[.pointer (some ⟨g, 0, none⟩)] 58 (0, 0)) := by rw [← hW0, ← hp]; exact (Below.heap_alloc _ _ _ (by simp)).trans (heapNew _ _)
  have k1 : W0.heap[p + 1]? = some (.cells #[.string f.1, .string f.2, .bool nv] 43 (0, 0)) := by rw [← hW0, ← hp]; exact heapNew1 _ _ _
  have HW0 := Lib.hid hW0
  have HP := Lib.hid hp
  have HK := Lib.hid (And.intro k0 (And.intro k1 (And.intro b0 hsz0)))
  have H := Lib.hid h
  clear hW0 hp k0 k1 b0 hsz0 h hlt
  go_enter Try.func34, Try.ntmps34
  go_wp2_with fail
  rw [HW0.out, HP.out]
  refine (fixed_any W0).mono ?_
  rintro e w1 ⟨rfl, hb⟩
  have HB1 := Lib.hid hb
  have hs1 := hb.size
  clear hb
  go_wp2
  go_loopw [6, 15] (fun n i wr => FndRel w1 f n i wr) (fun _ i _ => 61 - (intOf i).toNat)
  case atStart => exact ⟨0, rfl, rfl, by omega, fun j r h => by omega, Below.refl _ _⟩
  case round =>
    obtain ⟨k, rfl, rfl, hk, hall, hbel⟩ := hrel
    have k1 : w1.heap[p + 1]? = some (.cells #[.string f.1, .string f.2, .bool nv] 43 (0, 0)) := (HB1.out.block (p + 1) (by have := HK.out.2.2.2; omega)).trans HK.out.2.1
    have k2 : wr.heap[p + 1]? = some (.cells #[.string f.1, .string f.2, .bool nv] 43 (0, 0)) := (hbel.block (p + 1) (by have := HK.out.2.2.2; omega)).trans k1
    have x0 : wr.cell? ⟨p + 1, 0, none⟩ = some (.string f.1) := by unfold World.cell?; rw [k2]; rfl
    have x1 : wr.cell? ⟨p + 1, 1, none⟩ = some (.string f.2) := by unfold World.cell?; rw [k2]; rfl
    have hpl : p + 1 < wr.heap.size := (Array.getElem?_eq_some_iff.1 k2).1
    have HB := Lib.hid hbel
    have HA := Lib.hid hall
    have hbw : Below w.heap.size w wr := (HK.out.2.2.1.trans (HB1.out.mono HK.out.2.2.1.size)).trans (hbel.mono (Nat.le_trans HK.out.2.2.1.size hs1))
    have HBW := Lib.hid hbw
    have hszw : w.heap.size ≤ wr.heap.size := hbw.size
    have hsz1 : w1.heap.size ≤ wr.heap.size := hbel.size
    clear hbw
    clear k1 k2 hbel hall
    by_cases hlt : k < 61
    · obtain ⟨r, hr⟩ : ∃ r, statF[k]? = some r := ⟨_, List.getElem?_eq_getElem (by rw [statF_length]; exact hlt)⟩
      obtain ⟨s0, s1⟩ := rcs_get hr
      have hix : ∀ w', (Instr.index 110 (.agg statV.toArray) (.int .i64 (k : Int))).run Try.prog w' = .ok (.agg #[.string r.1, .string r.2]) w' := fun w' => run_index_rows w' hlt s0 s1
      have HR := Lib.hid hr
      clear hr s0 s1
      by_cases hrf : r = f
      · subst hrf
        go_wp2
        go_ret2
        rw [findT_stat T.rows T.gone HR.out HA.out]
        exact ⟨rfl, HBW.out.alloc hszw _⟩
      · have HNE := Lib.hid hrf
        obtain ⟨ra, rb⟩ := r
        obtain ⟨fa, fb⟩ := f
        have HNS := Lib.hid (nearK_succ (nm := fa) HR.out)
        simp only at x0 x1 hix
        by_cases hn : ra = fa
        · subst hn
          have hv : rb ≠ fb := fun e => hrf (by rw [e])
          have ev : (rb.toList == fb.toList) = false := (Lib.bytes_beq_false_iff rb fb).2 hv
          clear hrf hv
          by_cases hz : nearK ra k = 0
          · have ez : (((nearK ra k : Nat) : Int) == 0) = true := by rw [hz]; rfl
            have HZ := Lib.hid hz
            clear hz
            go_wp2
            go_roundw
            case rel => exact ⟨k + 1, by go_num, by rw [HNS.out, if_pos HZ.out, if_pos rfl]; go_num, by omega, fun j r hj hr => by
                rcases Nat.lt_succ_iff_lt_or_eq.1 hj with h | h
                · exact HA.out j r h hr
                · subst h; rw [HR.out] at hr; injection hr with hr; rw [← hr]; exact HNE.out, HB.out.alloc hsz1 _⟩
            case measure => simp [intOf]; omega
          · have ez : (((nearK ra k : Nat) : Int) == 0) = false := by rw [beq_eq_false_iff_ne]; omega
            have HZ := Lib.hid hz
            clear hz
            go_wp2
            go_roundw
            case rel => exact ⟨k + 1, by go_num, by rw [HNS.out, if_neg HZ.out], by omega, fun j r hj hr => by
                rcases Nat.lt_succ_iff_lt_or_eq.1 hj with h | h
                · exact HA.out j r h hr
                · subst h; rw [HR.out] at hr; injection hr with hr; rw [← hr]; exact HNE.out, HB.out.alloc hsz1 _⟩
            case measure => simp [intOf]; omega
        · have en : (ra.toList == fa.toList) = false := (Lib.bytes_beq_false_iff ra fa).2 hn
          have HN := Lib.hid hn
          clear hrf hn
          go_wp2
          go_roundw
          case rel => exact ⟨k + 1, by go_num, by rw [HNS.out, if_neg HN.out]; split <;> simp_all, by omega, fun j r hj hr => by
              rcases Nat.lt_succ_iff_lt_or_eq.1 hj with h | h
              · exact HA.out j r h hr
              · subst h; rw [HR.out] at hr; injection hr with hr; rw [← hr]; exact HNE.out, HB.out.alloc hsz1 _⟩
          case measure => simp [intOf]; omega
    · obtain rfl : k = 61 := by omega
      have hno := findT_none HA.out
      have HNO := Lib.hid hno
      clear hno hlt hk
      have htw : TabIs wr g F N T := H.out.keep (fun k hk => HBW.out.block k (H.out.lt k hk))
      have hinv := htw.inv
      obtain ⟨i1, i2, i3, i4, i5, i6, i7⟩ := hinv
      obtain ⟨mb, mn, A, c, hF, ht⟩ := htw
      have HTW : Hid (TabIs wr g F N T) := Lib.hid ⟨mb, mn, A, c, hF, ht⟩
      obtain ⟨d0, d1, d2, d3, d4, d5⟩ := ht.raw.cells
      have k0 : wr.heap[p]? = some (.cells #[.pointer (some ⟨g, 0, none⟩)] 58 (0, 0)) :=
        ((HB.out.block p (by have := HK.out.2.2.2; omega)).trans (HB1.out.block p (by have := HK.out.2.2.2; omega))).trans HK.out.1
      have z0 : wr.cell? ⟨p, 0, none⟩ = some (.pointer (some ⟨g, 0, none⟩)) := by unfold World.cell?; rw [k0]; rfl
      have hokf : okR f := ⟨by unfold okS maxLen; omega, by unfold okS maxLen; omega⟩
      have hlkB := ht.raw.lookB2 hokf
      have hlkN := ht.raw.lookN2 hokf.1
      have HNUM : Hid (∀ x, 0 ≤ x → x ≤ 1099511627776 → ∀ n, Calls Try.prog 51 #[.int .i64 x, .pointer (some ⟨p, 0, none⟩)] (wr.drewN n) fun e w' => e = .returned (.int .i64 (62 + T.gone + T.rows.length - x)) ∧ ∃ n', w' = (wr.drewN n).drewN n') :=
        Lib.hid fun x h0 h1 n => number_any x _ (HTW.out.keep (w' := wr.drewN n) (fun _ _ => rfl)) z0 h0 h1
      have hF' := Lib.hid hF
      have HT := Lib.hid ht
      clear ht hF k0 i1 i7 d0 d1 hokf
      unfold rowV at hlkB
      cases hpB : pos T.rows T.gone f with
      | some x =>
        have hx := pos_range hpB
        rw [hpB] at hlkB
        simp only [okV] at hlkB
        have hl0 := hlkB 0
        simp only [World.drewN_zero] at hl0
        have HFT : Hid (findT T.rows T.gone f = (62 + T.gone + T.rows.length - x, true)) := Lib.hid (by unfold findT; rw [HNO.out, hpB])
        clear hpB hlkN
        go_wp2
        go_quiet (fail)
        go_wp2_with fail
        refine (HNUM.out x (by omega) (by omega) _).mono ?_
        rintro e w' ⟨rfl, n', rfl⟩
        go_wp2
        go_ret2
        rw [HFT.out]
        exact ⟨rfl, below_dN HBW.out _⟩
      | none =>
        rw [hpB] at hlkB
        simp only [okV] at hlkB
        have hl0 := hlkB 0
        simp only [World.drewN_zero] at hl0
        have HPB := Lib.hid hpB
        clear hpB
        cases hpN : pos (T.rows.map (·.1)) T.gone f.1 with
        | some y =>
          have hy := pos_range hpN
          rw [List.length_map] at hy
          rw [hpN] at hlkN
          simp only [okV] at hlkN
          have HPN := Lib.hid hpN
          clear hpN
          by_cases hz : nearK f.1 61 = 0
          · have ez : (((nearK f.1 61 : Nat) : Int) == 0) = true := by rw [hz]; rfl
            have HFT : Hid (findT T.rows T.gone f = (62 + T.gone + T.rows.length - y, false)) := Lib.hid (by unfold findT; rw [HNO.out, HPB.out]; simp only; rw [if_pos hz, HPN.out])
            clear hz
            go_wp2
            go_quiet (fail)
            go_wp2
            go_quiet (fail)
            go_wp2_with fail
            refine (HNUM.out y (by omega) (by omega) _).mono ?_
            rintro e w' ⟨rfl, n', rfl⟩
            go_wp2
            go_ret2
            rw [HFT.out]
            exact ⟨rfl, below_dN HBW.out _⟩
          · have ez : (((nearK f.1 61 : Nat) : Int) == 0) = false := by rw [beq_eq_false_iff_ne]; omega
            have HFT : Hid (findT T.rows T.gone f = (((nearK f.1 61 : Nat) : Int), false)) := Lib.hid (by unfold findT; rw [HNO.out, HPB.out]; simp only; rw [if_neg hz])
            clear hz
            go_wp2
            go_quiet (fail)
            go_wp2
            go_quiet (fail)
            go_wp2
            go_ret2
            rw [HFT.out]
            exact ⟨rfl, below_dN HBW.out _⟩
        | none =>
          rw [hpN] at hlkN
          simp only [okV] at hlkN
          have HFT : Hid (findT T.rows T.gone f = (((nearK f.1 61 : Nat) : Int), false)) := Lib.hid (by
            unfold findT; rw [HNO.out, HPB.out]; simp only; rw [hpN]
            split
            · rename_i h; rw [h]; rfl
            · rfl)
          clear hpN
          go_wp2
          go_quiet (fail)
          go_wp2
          go_quiet (fail)
          go_wp2
          go_ret2
          rw [HFT.out]
          exact ⟨rfl, below_dN HBW.out _⟩
end Go.Proofs.Ytfpcamkimjecdaa

/- The walk of drawbridgelaw04.few. -/
namespace Go.Proofs.Ytfpcamkimjecdaa
open Go.RowKit

/-- What is gone through is not too long. -/
def Few (n : Nat) (D : Nat → St) : Prop := ∀ i, i < n → i < 120 → (D i).sf.1.size ≤ 100000 ∧ (D i).sf.2.size ≤ 100000
def FewRel (W : World) (n : Nat) (D : Nat → St) (tv iv : Value) (wr : World) : Prop :=
  ∃ (k : Nat) (t : Int), iv = .int .i64 k ∧ tv = .int .i64 t ∧ 0 ≤ t ∧ t ≤ k * 200000 ∧ k ≤ n ∧ k ≤ 120 ∧ (∀ i, i < k → (D i).sf.1.size ≤ 100000 ∧ (D i).sf.2.size ≤ 100000) ∧ Below W.heap.size W wr
def FewPost (W : World) (n : Nat) (D : Nat → St) (e : Ending) (w' : World) : Prop := ∃ b, e = .returned (.bool b) ∧ Below W.heap.size W w' ∧ (b = true → Few n D)
end Go.Proofs.Ytfpcamkimjecdaa

/- The walk of table.Add. -/
namespace Go.Proofs.Ytfpcamkimjecdaa
open Go.RowKit Go.Maps

section
variable {P : Program} {w : World}
/-- append onto a slice that lies somewhere, as one step of a region that draws. -/
theorem step_app_lies {ops : Array Oper} {o : Oper} {a : Act} {K : Act → World → Prop} {Q : Exit → Act → World → Prop} {E : Prop} (s x : Operand) {t e : TypeId} {z : Value} {size bytes : Nat} (hT : SlT P t e z size bytes)
    (hgd : o.guard = none) (ho : o.op = .call { callee := .builtin .append, args := #[s, x], argTypes := #[t, t] })
    {v : Value} {n : Nat} {xs : List Value} (hl : Lies w e size v n xs) (hs : a.eval s = v)
    {B : Nat} {A : Option Addr} {m c : Nat} {news : List Value} (hr : Rd w B size A m news) (hm : 0 < m) (hx : a.eval x = .slice A m c) (h1 : ∀ u ∈ news, u.oneCell' = true)
    (h63 : n + m ≤ maxLen) (hbytes : (n + m) * bytes ≤ 140737488355328)
    (h : ∀ v' w', Lies w' e size v' (n + m) (xs ++ news) → w.grownBy w' v.ownBlock → (v'.ownBlock = v.ownBlock ∨ ∀ k, v'.ownBlock = some k → w.heap.size ≤ k) → K (a.put o.dst v') w') :
    if Region.wanted o (yielded ops a.tmps) = true then Oper.wp P o a w K Q else E := by
  have hw : Region.wanted o (yielded ops a.tmps) = true := by simp [Region.wanted, hgd]
  rw [if_pos hw]
  obtain ⟨v', w', hrun, h2, h3, h4⟩ := run_app_lies (P := P) o.type hT hl hr hm (c := c) h1 h63 hbytes
  unfold Oper.wp execOp
  simp only [ho, resolve, invoke, builtin, Sem.run_bind, Sem.run_pure, Result.andThen_ok, List.map_toArray, List.map_cons, List.map_nil, hs, hx, hrun]
  exact h v' w' h2 h3 h4
end
theorem Rd.pair (w : World) (x y : Value) (t : TypeId) : Rd (w.alloc (.cells #[x, y] t)) (w.heap.size + 1) 2 (some ⟨w.heap.size, 0, none⟩) 1 [x, y] := by
  refine ⟨rfl, fun _ => ⟨_, _, rfl, by omega, fun j hj => ?_⟩⟩
  rw [World.cell?_alloc_at _ _ _ _ rfl]
  simp

/-- The row's slice is the old one's block's or a new one's. -/
def SubN (W : World) (A A0 : Option Addr) : Prop := ∀ a, A = some a → (∃ a0, A0 = some a0 ∧ a0.block = a.block) ∨ W.heap.size ≤ a.block
theorem SubN.foot {W : World} {A A0 : Option Addr} (h : SubN W A A0) {g mb mn k : Nat} (hk : foot g mb mn A k) : foot g mb mn A0 k ∨ W.heap.size ≤ k := by
  rcases hk with h1 | h1 | h1 | ⟨a, ha, h1⟩
  · exact .inl (.inl h1)
  · exact .inl (.inr (.inl h1))
  · exact .inl (.inr (.inr (.inl h1)))
  · rcases h a ha with ⟨a0, h0, e⟩ | hle
    · exact .inl (.inr (.inr (.inr ⟨a0, h0, e.trans h1⟩)))
    · exact .inr (by omega)
/-- A row was appended: before its slice is stored, and behind it. -/
theorem Raw.app {w w4 : World} {g mb mn c N c4 : Nat} {A A4 : Option Addr} {most size gone : Int} {rows : List Rw} {fb : Rw → Option Int} {fn : ByteArray → Option Int} {r : Rw} (h : Raw w g mb mn A c N most size gone rows fb fn)
    (hl : Lies w4 109 2 (.slice A4 (rows.length + 1) c4) (rows.length + 1) (rcs rows ++ [.string r.1, .string r.2])) (hg : w.grownBy w4 (Value.ownBlock (.slice A rows.length c)))
    (hb : Value.ownBlock (.slice A4 (rows.length + 1) c4) = Value.ownBlock (.slice A rows.length c) ∨ ∀ k, Value.ownBlock (.slice A4 (rows.length + 1) c4) = some k → w.heap.size ≤ k) :
    w4.heap[g]? = w.heap[g]? ∧ Raw (w4.setCell ⟨g, 2, none⟩ (.slice A4 (rows.length + 1) c4)) g mb mn A4 c4 N most size gone (rows ++ [r]) fb fn ∧ SubN w A4 A := by
  have hsub : SubN w A4 A := by
    intro a ha
    subst ha
    rcases hb with e | hge
    · cases A with
      | none => simp [Value.ownBlock] at e
      | some a0 => simp [Value.ownBlock] at e; exact .inl ⟨a0, rfl, e.symm⟩
    · exact .inr (hge a.block rfl)
  have hlt := h.lt
  have hrow : ∀ k, k < w.heap.size → (∀ a, A = some a → a.block ≠ k) → w4.heap[k]? = w.heap[k]? := fun k hk hn => hg.block k hk (fun e => by
    cases A with
    | none => simp [Value.ownBlock] at e
    | some a => simp [Value.ownBlock] at e; exact hn a rfl e.symm)
  have hg4 := hrow g (hlt g (.inl rfl)) (fun a ha => (h.apart a ha).1)
  have hmb := hrow mb (hlt mb (.inr (.inl rfl))) (fun a ha => (h.apart a ha).2.1)
  have hmn := hrow mn (hlt mn (.inr (.inr (.inl rfl)))) (fun a ha => (h.apart a ha).2.2)
  have hap : ∀ a, A4 = some a → a.block ≠ g ∧ a.block ≠ mb ∧ a.block ≠ mn := by
    intro a ha
    rcases hsub a ha with ⟨a0, h0, e⟩ | hge
    · rw [← e]; exact h.apart a0 h0
    · have h1 := hlt g (.inl rfl)
      have h2 := hlt mb (.inr (.inl rfl))
      have h3 := hlt mn (.inr (.inr (.inl rfl)))
      exact ⟨by omega, by omega, by omega⟩
  have hk : ∀ k, k ≠ g → (w4.setCell ⟨g, 2, none⟩ (.slice A4 (rows.length + 1) c4)).heap[k]? = w4.heap[k]? := fun k hk => Below.heap_setCell _ _ _ _ (by simpa using hk)
  obtain ⟨D1, ⟨e1, l1, a1, b1⟩, v1⟩ := h.both
  obtain ⟨D2, ⟨e2, l2, a2, b2⟩, v2⟩ := h.name
  refine ⟨hg4, ⟨?_, ?_, ⟨D1, ⟨e1, l1, ((hk mb (Ne.symm h.ne.1)).trans hmb).trans a1, b1⟩, v1⟩, ⟨D2, ⟨e2, l2, ((hk mn (Ne.symm h.ne.2.1)).trans hmn).trans a2, b2⟩, v2⟩, h.ne, hap⟩, hsub⟩
  · simp only [World.setCell, Array.getElem?_modify, if_true]
    rw [hg4, h.book]
    simp
  · rw [List.length_append, rcs_app]
    refine Lies.keep hl fun q hq => hk q ?_
    cases A4 with
    | none => cases hq
    | some a => simp only [Value.ownBlock, Option.some.injEq] at hq; subst hq; exact (hap a rfl).1
theorem two_str (a b : ByteArray) : ∀ u ∈ [Value.string a, Value.string b], u.oneCell' = true := by simp [Value.oneCell']
theorem add_nil (n : Bool) (r : Rw) (w : World) : Calls Try.prog 52 #[.pointer none, .agg #[.string r.1, .string r.2, .bool n]] w fun e w' => e = .returned (.tuple #[]) ∧ Below w.heap.size w w' := by
  go_enter Try.func52, Try.ntmps52
  go_wp2
  exact bodyPost_ret (v := .tuple #[]) (by simp [results, Try.results52, go_sem]) rfl ⟨rfl, (Below.refl _ _).alloc (Nat.le_refl _) _⟩

def AddMid (W : World) (g mb mn : Nat) (A : Option Addr) (c N x : Nat) (T : Tb) (r : Rw) (b : Bool) (v : Value) (wx : World) : Prop :=
  v = .bool b ∧ TM wx g mb mn A c N T ∧ Below W.heap.size W wx ∧ wx.cell? ⟨x, 0, none⟩ = some (.string r.1) ∧ wx.cell? ⟨x, 1, none⟩ = some (.string r.2) ∧ x < wx.heap.size ∧ W.heap.size ≤ x

/-- Behind the shrinking. -/
def AddMid2 (W : World) (g mb mn : Nat) (A0 : Option Addr) (N x : Nat) (most gone : Int) (rows : List Rw) (r : Rw) (wx : World) : Prop :=
  ∃ A c, Tbl wx g mb mn A c N most gone rows ∧ Kept (foot g mb mn A0) W wx ∧ Sub A A0 ∧ wx.cell? ⟨x, 0, none⟩ = some (.string r.1) ∧ wx.cell? ⟨x, 1, none⟩ = some (.string r.2) ∧ x < wx.heap.size
/-- The row is there; not yet told in the maps. -/
def AddMid3 (W : World) (g mb mn : Nat) (A0 : Option Addr) (N x : Nat) (most size gone : Int) (rows : List Rw) (r : Rw) (wx : World) : Prop :=
  ∃ A c, Raw wx g mb mn A c N most size gone (rows ++ [r]) (pos rows gone) (pos (rows.map (·.1)) gone) ∧ Kept (foot g mb mn A0) W wx ∧ SubN W A A0 ∧ wx.cell? ⟨x, 0, none⟩ = some (.string r.1) ∧ wx.cell? ⟨x, 1, none⟩ = some (.string r.2) ∧ x < wx.heap.size
set_option maxRecDepth 100000 in
set_option maxHeartbeats 4000000 in
theorem add_any {g N : Nat} {F : Nat → Prop} {T : Tb} (r : Rw) (nv : Bool) (w : World) (h : TabIs w g F N T) (hr1 : r.1.size ≤ 1099511627776) (hr2 : r.2.size ≤ 1099511627776) (hN : N + 1 ≤ 1099511627776) :
    Calls Try.prog 52 #[.pointer (some ⟨g, 0, none⟩), .agg #[.string r.1, .string r.2, .bool nv]] w (TStep w g F (N + 1) (T.add r) (.tuple #[])) := by
  obtain ⟨mb, mn, A, c, rfl, ht⟩ := h
  have hlt := ht.raw.lt
  have hgl := hlt g (.inl rfl)
  have hcost : (cost r : Int) = r.1.size + r.2.size + 32 := by unfold cost; omega
  obtain ⟨cr, hcr⟩ : ∃ cr : Int, (cost r : Int) = cr := ⟨_, rfl⟩
  have hcr0 : 32 ≤ cr := by omega
  have hcr1 : cr ≤ 4398046511104 := by omega
  have HCR := Lib.hid hcr
  obtain ⟨c0, c1, c2, c3, c4, c5⟩ := ht.raw.cells
  have hm0 := ht.most0
  have hm1 := ht.most1
  have HT := Lib.hid ht
  have HLT := Lib.hid hlt
  have hg1 : g < w.heap.size + 1 := by omega
  have hg2 : g < w.heap.size + 1 + 1 := by omega
  clear ht hlt hcost hcr
  go_enter Try.func52, Try.ntmps52
  go_upto_region 3 with fail
  obtain ⟨wa, hwa⟩ : ∃ wa, (w.alloc (.cells #[.string r.1, .string r.2, .bool nv] 43)).alloc (.cells #[.string r.1, .string r.2] 109) = wa := ⟨_, rfl⟩
  obtain ⟨x, hx⟩ : ∃ x, w.heap.size + 1 = x := ⟨_, rfl⟩
  have hbw : Below w.heap.size w wa := by rw [← hwa]; exact ((Below.refl _ _).alloc (Nat.le_refl _) _).alloc (by simp) _
  have hsa : wa.heap.size = w.heap.size + 2 := by rw [← hwa]; simp
  have hxa : x < wa.heap.size := by omega
  have hga : g < wa.heap.size := by omega
  have y0 : wa.cell? ⟨x, 0, none⟩ = some (.string r.1) := by rw [← hwa]; exact World.cell?_alloc_at _ _ _ _ (by simp; omega)
  have y1 : wa.cell? ⟨x, 1, none⟩ = some (.string r.2) := by rw [← hwa]; exact World.cell?_alloc_at _ _ _ _ (by simp; omega)
  have hta : TM wa g mb mn A c N T := HT.out.keep (fun k hk => hbw.block k (HLT.out k hk))
  obtain ⟨a0, -⟩ := hta.raw.cells
  have HTA := Lib.hid hta
  have HBW := Lib.hid hbw
  rw [hwa, hx]
  have HX := Lib.hid hx
  have hxw : w.heap.size ≤ x := by omega
  clear hwa hx hsa hbw hta c0 c1 c2 c3 c4 c5
  go_cut [18] (fun v wx => AddMid w g mb mn A c N x T r (decide (T.most < cr)) v wx)
  case first =>
    go_region_held3 (fun w' => w'.cell? ⟨g, 0, none⟩ = some (.int .i64 T.most) ∧ w'.cell? ⟨x, 0, none⟩ = some (.string r.1) ∧ w'.cell? ⟨x, 1, none⟩ = some (.string r.2))
      (go_keep)
      (first
        | (go_at_call 66; refine (cost_any r _ (by omega) (by omega)).mono ?_; rintro e w2 ⟨rfl, rfl⟩; rw [HCR.out]))
    all_goals
      go_wp2_with fail
      go_meet
      refine ⟨rfl, HTA.out.keep (fun k hk => Below.heap_alloc wa _ k (HTA.out.raw.lt k hk)), (HBW.out.alloc (by have := HBW.out.size; omega) _).drew, (World.cell?_alloc_lt _ _ _ hxa).trans y0, (World.cell?_alloc_lt _ _ _ hxa).trans y1, by simp; omega, hxw⟩
  case rest =>
    obtain ⟨rfl, htm, hbw, x0, x1, hxl, hxw'⟩ := hcut
    have htb := htm.tbl
    have HTM := Lib.hid htm
    have HBC := Lib.hid hbw
    obtain ⟨c0, c1, c2, c3, c4, c5⟩ := htm.raw.cells
    have hgc := htm.raw.lt g (.inl rfl)
    have hfoot : ∀ k, foot g mb mn A k → k < w.heap.size := HLT.out
    have HLT2 := Lib.hid hfoot
    have hxf : ¬ foot g mb mn A x := fun hf => by have := hfoot x hf; omega
    have HXF := Lib.hid hxf
    clear hfoot hxf HTA HBW y0 y1 a0 hxa hga hbw htm HLT HT
    by_cases hbig : T.most < cr
    · have hadd : T.add r = T.shrink 0 := by unfold Tb.add; rw [if_pos (by rw [HCR.out]; exact hbig)]
      have hC := Lib.hid (shrink_any 0 wc htb)
      have eb : decide (T.most < cr) = true := by simpa using hbig
      have HADD := Lib.hid hadd
      clear hadd htb
      go_wp2_with fail
      refine hC.out.mono ?_
      rintro e w' ⟨rfl, A', c', htb, hk, hs⟩
      have H := Lib.hid (And.intro htb (And.intro hk hs))
      clear htb hk hs hC
      go_wp2
      refine bodyPost_ret (v := .tuple #[]) (by simp [results, Try.results52, go_sem]) rfl ?_
      rw [HADD.out]
      refine ⟨rfl, foot g mb mn A', ⟨mb, mn, A', c', rfl, ?_⟩, ?_, fun k hf => .inl (H.out.2.2.foot hf)⟩
      · obtain ⟨h1, h2, h3, h4, h5, h6⟩ := H.out.1
        exact TM.of ⟨h1.more (Nat.le_succ N), h2, h3, by omega, by omega, h6⟩ hm0 hm1 (by have := shrunk_fits (Int.le_refl 0) T.rows T.gone; omega)
      · exact (Kept.of_below HBC.out).same H.out.2.1
    · have hle : cr ≤ T.most := by omega
      have eb : decide (T.most < cr) = false := by simpa using hbig
      have hC : Hid (∀ w', w'.heap = wc.heap ∨ w' = wc.alloc (.cells #[.string r.1, .string r.2] 109) ∨ w' = (wc.alloc (.cells #[.string r.1, .string r.2] 109)).drew → Calls Try.prog 67 #[.pointer (some ⟨g, 0, none⟩), .int .i64 (T.most - cr)] w' (ShrPost w' g mb mn A N (T.most - cr) T.most T.gone T.rows)) := by
        refine Lib.hid fun w' hw' => shrink_any _ w' ⟨htb.1.keep fun k hk => ?_, htb.2⟩
        have hkl := HTM.out.raw.lt k hk
        rcases hw' with h | h | h
        · rw [h]
        · rw [h]; exact Below.heap_alloc _ _ _ hkl
        · rw [h]; exact Below.heap_alloc _ _ _ hkl
      clear hbig htb
      obtain ⟨g1, rows1, hsh⟩ : ∃ g1 rows1, shrunk (T.most - cr) T.gone T.rows = (g1, rows1) := ⟨_, _, rfl⟩
      have hfit : sumc rows1 ≤ T.most - cr := by have := shrunk_fits (show 0 ≤ T.most - cr by omega) T.rows T.gone; rw [hsh] at this; exact this
      have HADD : Hid (T.add r = ⟨T.most, g1, rows1 ++ [r]⟩) := Lib.hid (by
        unfold Tb.add Tb.shrink
        rw [if_neg (by rw [HCR.out]; omega)]
        simp only [HCR.out, hsh])
      have HSH := Lib.hid hsh
      clear hsh
      go_upto_region 5 with fail
      go_cut [25] (fun _ wx => AddMid2 w g mb mn A N x T.most g1 rows1 r wx)
      case first =>
        have es : IntKind.i64.wrap (T.most - cr) = T.most - cr := by rw [IntWalk.i64_in _ ⟨by omega, by omega⟩]
        have hxl1 : x < wc.heap.size + 1 := by omega
        go_region_held3 (fun w' => w'.cell? ⟨g, 0, none⟩ = some (.int .i64 T.most) ∧ w'.cell? ⟨x, 0, none⟩ = some (.string r.1) ∧ w'.cell? ⟨x, 1, none⟩ = some (.string r.2))
          (first | go_keep | exact ⟨k0, k1, k2⟩)
          (first
            | (go_at_call 66; refine (cost_any r _ (by omega) (by omega)).mono ?_; rintro e w2 ⟨rfl, rfl⟩; rw [HCR.out])
            | (go_at_call 67; refine (hC.out _ (by first | (exact .inr (.inl rfl)) | (exact .inr (.inr rfl)))).mono ?_; rintro e w4 ⟨rfl, A', c', htb, hk, hs⟩; rw [HSH.out] at htb; obtain ⟨k0, -⟩ := htb.1.cells; have k1 := (hk.cell (k := x) (by simp; omega) HXF.out 0).trans ((World.cell?_alloc_lt wc _ _ hxl).trans x0); have k2 := (hk.cell (k := x) (by simp; omega) HXF.out 1).trans ((World.cell?_alloc_lt wc _ _ hxl).trans x1); have H4 := Lib.hid (And.intro htb (And.intro hk (And.intro hs (And.intro k1 k2)))); have hs4 := hk.size; clear htb hk hs))
        all_goals
          go_wp2_with fail
          go_meet
          obtain ⟨htb, hk, hs, j1, j2⟩ := H4.out
          refine ⟨A', c', htb, ?_, hs, j1, j2, by simp at hs4; omega⟩
          first
            | exact (((Kept.of_below HBC.out).alloc _).drew).same hk
            | exact ((Kept.of_below HBC.out).alloc _).same hk
      case rest =>
        obtain ⟨A1, c1', htb, hkept, hsub, z0, z1, hxl3⟩ := hcut
        obtain ⟨d0, d1, d2, d3, d4, d5⟩ := htb.1.cells
        have hfz := htb.1.free 2
        have hmany := htb.2.2.2.1
        have hg10 := htb.2.2.1
        have hrl : rows1.length ≤ 1099511627776 := by omega
        have hgl3 := htb.1.lt g (.inl rfl)
        have HTB := Lib.hid (And.intro htb (And.intro hkept hsub))
        clear htb hkept hsub HTM hC x0 x1 hxl c0 c1 c2 c3 c4 c5 HBC
        go_upto_region 6 with fail
        have HFZ : Hid ((wc.alloc (.cells #[.string r.1, .string r.2] 109)).frozen? ⟨g, 2, none⟩ = false) := Lib.hid ((HTB.out.1.1.alloc _).free 2)
        go_cut [37] (fun _ wx => AddMid3 w g mb mn A N x T.most (sumc rows1) g1 rows1 r wx)
        case first =>
          go_region_law (first
            | (refine step_app_lies (.tmp 34) (.tmp 36) tRows rfl rfl (HTB.out.1.1.alloc _).row rfl (Rd.pair _ _ _ _) (by decide) rfl (two_str _ _) (le_maxLen (by omega)) (by omega) ?_; intro v4 w4 hl4 hg4 hb4; obtain ⟨A4, c4', rfl, -, -, -⟩ := hl4.form; obtain ⟨hg5, hr5, hs5⟩ := Raw.app (r := r) ((HTB.out.1.1.alloc _).keep (w' := (wc.alloc (.cells #[.string r.1, .string r.2] 109)).drew) (fun _ _ => rfl)) hl4 hg4 hb4; have m2 : w4.cell? ⟨g, 2, none⟩ = some (.slice A1 rows1.length c1') := (World.cell?_of_block (a := ⟨g, 2, none⟩) hg5).trans ((World.cell?_alloc_lt wc _ _ hgl3).trans d2); have mf : w4.frozen? ⟨g, 2, none⟩ = false := (World.frozen?_of_block (a := ⟨g, 2, none⟩) hg5).trans (HFZ.out); have H5 := Lib.hid (And.intro hr5 (And.intro hs5 hg4)); clear hl4 hg4 hb4 hg5 hr5 hs5))
          all_goals
            go_wp2_with fail
            go_meet
            obtain ⟨hr5, hs5, hg4⟩ := H5.out
            have hxg : x ≠ g := fun e => HXF.out (.inl e)
            have hx4 : w4.heap[x]? = wc.heap[x]? := (hg4.block x (by simp; omega) (fun e => by
              cases A1 with
              | none => simp [Value.ownBlock] at e
              | some a1 =>
                simp [Value.ownBlock] at e
                obtain ⟨a0, h0, e0⟩ := HTB.out.2.2 a1 rfl
                exact HXF.out (.inr (.inr (.inr ⟨a0, h0, e0.trans e.symm⟩))))).trans (Below.heap_alloc wc _ x hxl3)
            have hxs : ∀ o v, ((w4.setCell ⟨g, 2, none⟩ v).cell? ⟨x, o, none⟩) = wc.cell? ⟨x, o, none⟩ := fun o v =>
              (World.cell?_of_block (a := ⟨x, o, none⟩) (Below.heap_setCell _ _ _ _ (by simpa using hxg))).trans (World.cell?_of_block (a := ⟨x, o, none⟩) hx4)
            have hszw := hg4.size
            refine ⟨A4, c4', hr5, ?_, ?_, (hxs 0 _).trans z0, (hxs 1 _).trans z1, by simp at hszw; simp [World.setCell]; omega⟩
            · refine Kept.setCell ((HTB.out.2.1.alloc _).drew.grown hg4 (fun k hk => ?_)) (.inl rfl) _ _
              cases A1 with
              | none => simp [Value.ownBlock] at hk
              | some a1 =>
                simp [Value.ownBlock] at hk
                obtain ⟨a0, h0, e0⟩ := HTB.out.2.2 a1 rfl
                exact .inl (.inr (.inr (.inr ⟨a0, h0, e0.trans hk⟩)))
            · intro a ha
              have hsz0 := HTB.out.2.1.size
              rcases hs5 a ha with ⟨a1, h1, e1⟩ | hge
              · obtain ⟨a0, h0, e0⟩ := HTB.out.2.2 a1 h1
                exact .inl ⟨a0, h0, e0.trans e1⟩
              · exact .inr (by simp at hge; omega)
        case rest =>
          obtain ⟨A2, c2', hraw, hkept, hsub, x0, x1, hxl⟩ := hcut
          obtain ⟨c0, c1, c2, c3, c4, c5⟩ := hraw.cells
          have hf1 := hraw.free 1
          have hgl4 := hraw.lt g (.inl rfl)
          have hs1 := sumc_nonneg rows1
          have HR := Lib.hid (And.intro hraw (And.intro hkept hsub))
          clear hraw hkept hsub d0 d1 d2 d3 d4 d5 z0 z1 hxl3 hfz hgl3 HFZ
          go_upto_region 7 with fail
          go_cut [46] (fun _ wx => AddMid3 w g mb mn A N x T.most (sumc rows1 + cr) g1 rows1 r wx)
          case first =>
            have es : IntKind.i64.wrap (sumc rows1 + cr) = sumc rows1 + cr := by rw [IntWalk.i64_in _ ⟨by omega, by omega⟩]
            have hmid : Hid (AddMid3 w g mb mn A N x T.most (sumc rows1 + cr) g1 rows1 r (((wc.setCell ⟨g, 1, none⟩ (.int .i64 (sumc rows1 + cr))).alloc (.cells #[.string r.1, .string r.2] 109)).drew)) := by
              refine Lib.hid ⟨A2, c2', ?_, ?_, HR.out.2.2, ?_, ?_, ?_⟩
              · exact ((HR.out.1.setSize _).alloc _).keep (fun _ _ => rfl)
              · exact ((HR.out.2.1.setCell (.inl rfl) _ _).alloc _).drew
              · have hxg : x ≠ g := fun e => HXF.out (.inl e)
                exact ((World.cell?_alloc_lt _ _ _ (by simpa [World.setCell] using hxl)).trans (World.cell?_of_block (a := ⟨x, 0, none⟩) (Below.heap_setCell _ _ _ _ (by simpa using hxg)))).trans x0
              · have hxg : x ≠ g := fun e => HXF.out (.inl e)
                exact ((World.cell?_alloc_lt _ _ _ (by simpa [World.setCell] using hxl)).trans (World.cell?_of_block (a := ⟨x, 1, none⟩) (Below.heap_setCell _ _ _ _ (by simpa using hxg)))).trans x1
              · simp [World.setCell]; omega
            clear HR
            go_region_law (first
              | (go_simp; go_at_call 66; refine (cost_any r _ (by omega) (by omega)).mono ?_; rintro e w2 ⟨rfl, rfl⟩; rw [HCR.out]))
            all_goals
              go_wp2_with fail
              go_meet
              first
                | exact hmid.out
                | (rw [es]; exact hmid.out)
          case rest =>
            obtain ⟨A3, c3', hraw, hkept, hsub, x0, x1, hxl⟩ := hcut
            obtain ⟨c0, c1, c2, c3, c4, c5⟩ := hraw.cells
            obtain ⟨D1, o1, v1⟩ := hraw.both
            have HD := Lib.hid o1
            have HV := Lib.hid v1
            have hokr : okR r := ⟨by unfold okS maxLen; omega, by unfold okS maxLen; omega⟩
            have HOKR := Lib.hid hokr
            have HRW := Lib.hid (And.intro hraw (And.intro hkept hsub))
            have es1 : IntKind.i64.wrap (g1 + ((rows1.length : Int) + 1)) = g1 + rows1.length + 1 := by rw [IntWalk.i64_in _ ⟨by omega, by omega⟩]; omega
            clear hraw hkept hsub o1 v1 HR hokr
            go_wp2
            go_still_tail 15, (by kernel_rfl)
            change wpList _ _ _ _ _ wc.drew
            go_wp2_with (at_mapUpdate; refine wpList_mapUpdate_own _ rfl _ _ _ 83 rfl 109 3 lawRow Try.underlying83 _ mb _ D1 rfl HD.out (by unfold maxLen; omega) _ _ (rowKey r) rfl rfl (rowKey_ok HOKR.out) (num _) [] (plainElem_int Try.underlying3 (WalkArith.wf_i64 (by omega))) ?_; intro w1 hown1 hgrow1)
            obtain ⟨D2, o2, v2⟩ := HRW.out.1.name
            have hne := HRW.out.1.ne
            have hr8 := (HRW.out.1.keep (w' := wc.drew) (fun _ _ => rfl)).newBoth hgrow1 hown1 (HV.out.put (HD.out.tidy lawRow) rowKey_lit rowKey_ne HOKR.out (g1 + rows1.length + 1)) (Nat.le_succ N)
            have o2k := (World.ownsMap.drew o2).kept hgrow1 (by simpa using Ne.symm hne.2.2)
            have hxmb : x ≠ mb := fun e => HXF.out (.inr (.inl e))
            have hx1 : w1.heap[x]? = wc.heap[x]? := hgrow1.block x hxl (by simpa using hxmb)
            have z0 := (World.cell?_of_block (a := ⟨x, 0, none⟩) hx1).trans x0
            have z1 := (World.cell?_of_block (a := ⟨x, 1, none⟩) hx1).trans x1
            obtain ⟨b0, b1, b2, b3, b4, b5⟩ := hr8.cells
            have hk8 : Kept (foot g mb mn A) w w1 := HRW.out.2.1.drew.grown hgrow1 (fun k hk => by cases hk; exact .inl (.inr (.inl rfl)))
            have H8 := Lib.hid (And.intro hr8 hk8)
            have HD2 := Lib.hid o2k
            have HV2 := Lib.hid v2
            clear hr8 o2 o2k v2 hne hown1 hgrow1 hx1 hk8 c0 c1 c2 c3 c4 c5 x0 x1
            go_wp2
            go_still_tail 16, (by kernel_rfl)
            change wpList _ _ _ _ _ w1.drew
            go_wp2_with (at_mapUpdate; refine wpList_mapUpdate_own _ rfl _ _ _ 84 rfl 9 3 lawStr Try.underlying84 _ mn _ D2 rfl HD2.out (by unfold maxLen; omega) _ _ (strKey r.1) rfl rfl (strKey_ok HOKR.out.1) (num _) [] (plainElem_int Try.underlying3 (WalkArith.wf_i64 (by omega))) ?_; intro w2 hown2 hgrow2)
            go_end0
            rw [HADD.out]
            have hr9 := (H8.out.1.keep (w' := w1.drew) (fun _ _ => rfl)).newName hgrow2 hown2 (HV2.out.put (HD2.out.tidy lawStr) strKey_lit strKey_ne HOKR.out.1 (g1 + rows1.length + 1)) (Nat.le_refl _)
            have hsum : sumc (rows1 ++ [r]) = sumc rows1 + cr := by
              rw [← HCR.out]
              unfold sumc
              simp
            refine ⟨rfl, foot g mb mn A3, ⟨mb, mn, A3, c3', rfl, TM.of ⟨?_, ?_, hg10, ?_, hN, ?_⟩ hm0 hm1 (by omega)⟩, H8.out.2.drew.grown hgrow2 (fun k hk => by cases hk; exact .inl (.inr (.inr (.inl rfl)))), fun k hk => HRW.out.2.2.foot hk⟩
            · rw [hsum, List.map_append]
              refine hr9.congr (fun r' _ => ?_) (fun s _ => ?_)
              · rw [pos_snoc]
              · rw [show List.map (fun x => x.fst) [r] = [r.1] from rfl, pos_snoc, List.length_map]
            · intro r' hr'
              rcases List.mem_append.1 hr' with h | h
              · exact HTB.out.1.2.1 r' h
              · rw [List.mem_singleton.1 h]; exact HOKR.out
            · rw [List.length_append]; simp; omega
            · rw [hsum]; omega
end Go.Proofs.Ytfpcamkimjecdaa
