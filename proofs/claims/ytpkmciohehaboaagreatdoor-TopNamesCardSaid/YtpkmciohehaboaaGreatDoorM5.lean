/- 16 texts in one: HuffDec, Laws2b, BytesEq, Laws2c, Laws2d, HuffRDec, TakeText, Lift, Script, Tab7, TabFew, Tab5, RTab2, RTab3, TabPlay, HDec1. -/
import Derived.Test.YtpkmciohehaboaaGreatDoorM4
import Derived.Test.YtpkmciohehaboaaGreatDoorM2
import Derived.Test.YtpkmciohehaboaaGreatDoorM1
import Derived.Test.YtpkmciohehaboaaGreatDoorRows
import Derived.ProofKit
import Derived.OpenShut
import Derived.SizedLaws
import Derived.Deep.Slices
import Derived.Deep.Fields
import Derived.ChangeSame
import Derived.Test.YtpkmciohehaboaaGreatDoorM3
import Derived.Deep.LoopGhost
import Derived.Deep.QuietTactic
import Derived.BigQuiet
import Derived.Lib.SlicesS
import Derived.Deep.RegionHeld3
import Derived.IntWalk
import Derived.WalkLawsBesides
/- The walk of huff.Decode. -/
namespace Go.Proofs.YtpkmciohehaboaaGreatDoor
open Go.RowKit

/-- What Decode hands back. -/
def decV : Option (List UInt8) → Value
  | none => .tuple #[.string ByteArray.empty, .int .i64 10]
  | some l => .tuple #[.string ⟨l.toArray⟩, .int .i64 0]
/-- Behind i bits. -/
def DecRel (W : World) (B : Nat) (l : List UInt8) (cv nv ov iv v : Value) (w : World) : Prop :=
  ∃ i c n : Nat, ∃ ones : Bool, ∃ out : List UInt8, iv = .int .i64 i ∧ i ≤ 8 * l.length ∧ cv = .int .u32 c ∧ nv = .int .i64 n ∧ ov = .bool ones ∧ Mid c n ∧ out.length + n ≤ i ∧
    decB l = decGo c n ones out ((bitsB l).drop i) ∧ w.ownsRow (B + 1) 5 1 v out.length (bvs out) ∧ Bk w B ∧ Below W.heap.size W w

set_option maxRecDepth 100000 in
set_option maxHeartbeats 2000000 in
theorem dec_some (b o n cap : Nat) (l : List UInt8) (w : World) (hn0 : 0 < n) (hn16 : n ≤ 1048576) (hn : n = l.length) (hb : b < w.heap.size) (hc : ∀ j, j < n → w.cell? ⟨b, o + j, none⟩ = some (.int .u8 (ba l j : Int))) :
    Calls Tryz.prog 227 #[.slice (some ⟨b, o, none⟩) n cap] w fun e w' => e = .returned (decV (decB l)) ∧ Below w.heap.size w w' := by
  have HN := Lib.hid hn
  have HC := Lib.hid hc
  clear hn hc
  go_enter Tryz.func227, Tryz.ntmps227
  go_wp2_with fail
  refine (open_any w).mono ?_
  rintro e w1 ⟨B, rfl, hbk, hB, hb1⟩
  have HBK := Lib.hid (show Bk w1 B from hbk)
  have hBlt := Book.lt hbk
  clear hbk
  go_wp2
  go_loopw [6, 7, 8, 16, 5] (DecRel w B l) (fun _ _ _ i _ _ => 8 * n - (intOf i).toNat)
  case atStart => exact ⟨0, 0, 0, true, [], rfl, by omega, rfl, rfl, rfl, Mid.zero, by simp, rfl, World.ownsRow_nil _ _ _ _, HBK.out, hb1⟩
  case round =>
    obtain ⟨i, c, d, ones, out, rfl, hi, rfl, rfl, rfl, hmid, hol, hdec, hown, hbk, hbel⟩ := hrel
    have hi' : i ≤ 8 * n := by have := HN.out; omega
    clear hi
    by_cases hlt : i < 8 * n
    · obtain ⟨q, hq⟩ : ∃ q, q = i / 8 := ⟨_, rfl⟩
      obtain ⟨r, hr⟩ : ∃ r, r = i % 8 := ⟨_, rfl⟩
      have eq1 : (i : Int) / 8 = (q : Int) := by omega
      have er1 : (i : Int) % 8 = (r : Int) := by omega
      have hqn : q < n := by omega
      have hr8 : r < 8 := by omega
      have hcell : wr.cell? ⟨b, o + q, none⟩ = some (.int .u8 (ba l q : Int)) := by rw [(bcell hbel).1 b _ hb]; exact HC.out q hqn
      have hx := ba_lt l q
      have hc30 := hmid.pow30
      have hd := hmid.le
      obtain ⟨y, hy⟩ : ∃ y, y = ba l q / 2 ^ (7 - r) := ⟨_, rfl⟩
      have ey : (ba l q : Int) / 2 ^ (7 - r) = (y : Int) := by rw [hy]; simp
      have hy256 : y < 256 := by rw [hy]; exact Nat.lt_of_le_of_lt (Nat.div_le_self _ _) hx
      obtain ⟨bt, hbt⟩ : ∃ bt, bt = bitAt l i := ⟨_, rfl⟩
      have hbt2 : bt < 2 := by rw [hbt]; exact bitAt_lt l i
      have hbty : y % 2 = bt := by rw [hbt, hy, bitAt, hq, hr]
      have eb := and_one y hy256
      rw [hbty] at eb
      have eo := or_bit hc30 hbt2
      have hlt30 := hmid.lt hbt2
      have hge := hmid.ge (b := bt)
      have hc2 : 2 * c + bt < 1073741824 := by omega
      have hstep := hdec
      rw [bitsB_drop (by have := HN.out; omega), ← hbt, decGo, hmid.hit] at hstep
      have hcf := Bk.first hbk (i := d + 1) (by omega)
      have hcm := Bk.many hbk (i := d + 1) (by omega)
      have hnx := hmid.next hbt2
      have hroom := hmid.room (b := bt)
      have hsa : symAt (2 * c + bt) (d + 1) = symT.getD (fromT.getD (d + 1) 0 + (2 * c + bt - firstT.getD (d + 1) 0)) 0 := rfl
      generalize hd1 : d + 1 = d1 at *
      have ed : (d : Int) + 1 = (d1 : Int) := by omega
      have hd31 : (d1 : Int) < 31 := by omega
      generalize firstT.getD d1 0 = f at *
      generalize manyT.getD d1 0 = m at *
      generalize 2 * c + bt = c2 at *
      have HD := Lib.hid hstep
      have HNX := Lib.hid hnx
      have HBK := Lib.hid hbk
      have HOWN := Lib.hid hown
      generalize hx : c2 - f = x at *
      have ew1 : IntKind.u32.wrap ((c2 : Int) - (f : Int)) = (x : Int) := by rw [IntWalk.u32_in _ ⟨by omega, by omega⟩]; omega
      have ew2 : IntKind.i64.wrap (x : Int) = (x : Int) := IntWalk.i64_in _ ⟨by omega, by omega⟩
      have e6 : decide (c2 < f) = false := by simp; omega
      have hcfr := Bk.from_ HBK.out (i := d1) (by omega)
      generalize fromT.getD d1 0 = fr at *
      have hbi : ((bt : Int) == 1) = (bt == 1) := by rw [Bool.eq_iff_iff, beq_iff_eq, beq_iff_eq]; omega
      have HBI := Lib.hid hbi
      clear hdec hstep hmid hbk hown hq hr hy hbt hbty hnx hlt30 hd1 hx hbi
      by_cases hhit : x < m
      · have e7 : decide (m ≤ x) = false := by simp; omega
        have hp := hroom hhit
        have ew3 : IntKind.i64.wrap ((fr : Int) + (x : Int)) = ((fr + x : Nat) : Int) := by rw [IntWalk.i64_in _ ⟨by omega, by omega⟩]; omega
        have hcs := Bk.sym HBK.out hp
        have hsv := sym_le (fr + x)
        have hst := HD.out
        rw [if_pos (decide_eq_true hhit), hsa] at hst
        generalize symT.getD (fr + x) 0 = sv at *
        generalize fr + x = p at *
        have hp257 : (p : Int) < 257 := by omega
        have HST := Lib.hid hst
        clear hst hsa hroom
        by_cases hs : sv = 256
        · subst hs
          have hnone : decB l = none := by rw [HST.out, if_pos rfl]
          have HNO := Lib.hid hnone
          clear hnone
          cases ones <;>
          · go_wp2
            go_quiet (fail)
            go_wp2
            go_quiet (fail)
            go_wp2
            go_ret2
            exact ⟨by rw [HNO.out]; rfl, hbel.drewN _⟩
        · have e8 : ((sv : Int) == 256) = false := by rw [beq_eq_false_iff_ne]; omega
          have hs256 : sv < 256 := by omega
          rw [if_neg hs] at HST
          clear hs
          cases ones <;>
          · go_wp2
            go_quiet (fail)
            go_wp2
            go_quiet (fail)
            clear ew1 ew2 ew3
            go_wp2_with (at_builtin; refine wpList_app (.tmp 90) (.tmp 93) tBytes rfl rfl (World.ownsRow.alloc HOWN.out _) rfl (Rd.one _ _ _) rfl (oneInt _ _) (le_maxLen (by omega)) (by omega) (by have := Book.lt HBK.out; simp; omega) ?_; intro v3 w3 hown3 hg3 _)
            refine ⟨⟨i + 1, 0, 0, true, out ++ [UInt8.ofNat sv], by go_num, by have := HN.out; omega, rfl, rfl, rfl, Mid.zero, by simp; omega, HST.out, ?_, ?_, ?_⟩, by simp [intOf]; omega⟩
            · exact OwnB.snoc hown3 (by rw [bv, toNat_ofNat hs256])
            · exact Bk.grown (Bk.alloc (Bk.drewN HBK.out _) _) hg3 (fun e => by have := (World.ownsRow.lt HOWN.out B e.symm).1; omega)
            · exact Below.app ((hbel.drewN _).alloc hbel.size _) (World.ownsRow.alloc HOWN.out _) hg3 (by omega) (by have := hbel.size; simp; omega)
      · have e7 : decide (m ≤ x) = true := by simp; omega
        have hst := HD.out
        rw [if_neg (by simp; omega)] at hst
        have HST := Lib.hid hst
        clear hst hsa hroom
        cases ones
        · go_wp2
          go_quiet (fail)
          go_wp2
          exact ⟨⟨i + 1, c2, d1, false, out, by go_num, by have := HN.out; omega, rfl, rfl, rfl, HNX.out (by omega), by omega, HST.out, HOWN.out, HBK.out, hbel.drewN _⟩, by simp [intOf]; omega⟩
        · go_wp2
          go_quiet (fail)
          go_wp2
          exact ⟨⟨i + 1, c2, d1, bt == 1, out, by go_num, by have := HN.out; omega, rfl, rfl, by rw [HBI.out], HNX.out (by omega), by omega, HST.out, HOWN.out, HBK.out, hbel.drewN _⟩, by simp [intOf]; omega⟩
    · obtain rfl : i = 8 * n := by omega
      have hnil : (bitsB l).drop (8 * n) = [] := List.drop_eq_nil_of_le (by rw [bitsB_length, HN.out]; exact Nat.le_refl _)
      rw [hnil, decGo] at hdec
      have hlen : (8 * (n : Int)) = ((8 * n : Nat) : Int) := by omega
      obtain ⟨A, cc, rfl, -, -, hrd, -⟩ := own_slice hown
      have hstr := run_str Tryz.underlying48 Tryz.underlying5 Tryz.underlying9 hrd cc
      by_cases h7 : 7 < d
      · rw [if_pos (Or.inl h7)] at hdec
        have HD := Lib.hid hdec
        clear hdec hnil hown hrd hstr hmid hbk hlen
        cases ones <;>
        · go_wp2
          go_ret2
          exact ⟨by rw [HD.out]; rfl, hbel⟩
      · cases ones
        · rw [if_pos (Or.inr rfl)] at hdec
          have HD := Lib.hid hdec
          clear hdec hnil hown hrd hstr hmid hbk hlen
          go_wp2
          go_ret2
          exact ⟨by rw [HD.out]; rfl, hbel⟩
        · rw [if_neg (by simp; omega)] at hdec
          have HD := Lib.hid hdec
          clear hdec hnil hown hrd hmid hbk hlen
          go_wp2
          go_ret2
          exact ⟨by rw [HD.out]; rfl, hbel⟩

set_option maxRecDepth 100000 in
set_option maxHeartbeats 1000000 in
theorem dec_none (A : Option Addr) (cap : Nat) (w : World) : Calls Tryz.prog 227 #[.slice A 0 cap] w fun e w' => e = .returned (decV (decB [])) ∧ Below w.heap.size w w' := by
  have hd : decB [] = some [] := by decide +kernel
  have HD := Lib.hid hd
  clear hd
  go_enter Tryz.func227, Tryz.ntmps227
  go_wp2_with fail
  refine (open_any w).mono ?_
  rintro e w1 ⟨B, rfl, hbk, hB, hb1⟩
  have hstr := run_str (P := Tryz.prog) (w := w1) Tryz.underlying48 Tryz.underlying5 Tryz.underlying9 (show Rd w1 0 1 none 0 (bvs []) from Rd.none_ w1 0 1 none) 0
  clear hbk
  go_wp2
  refine wp_loop_rounds 1 ?_
  rw [rounds_succ]
  go_wp2
  go_ret2
  exact ⟨by rw [HD.out]; rfl, hb1⟩

/-- Decode, whatever the bytes. -/
theorem dec_any {A : Option Addr} {n cap : Nat} {l : List UInt8} {w : World} (hr : Rd w w.heap.size 1 A n (bvs l)) (hn : n ≤ 1048576) :
    Calls Tryz.prog 227 #[.slice A n cap] w fun e w' => e = .returned (decV (decB l)) ∧ Below w.heap.size w w' := by
  rcases Nat.eq_zero_or_pos n with rfl | hn0
  · have hl0 : l = [] := List.eq_nil_of_length_eq_zero hr.blen
    subst hl0
    exact dec_none A cap w
  · obtain ⟨hl, b, o, rfl, hb, hc⟩ := hr.bas hn0
    exact dec_some b o n cap l w hn0 hn hl.symm hb hc
end Go.Proofs.YtpkmciohehaboaaGreatDoor

/- The walks of drawbridgelaw02.awake and HuffSums. -/
namespace Go.Proofs.YtpkmciohehaboaaGreatDoor
open Go.RowKit

theorem _root_.Go.RowKit.Below.tr {w w1 w2 : World} (h : Below w.heap.size w w1) (h2 : Below w1.heap.size w1 w2) : Below w.heap.size w w2 := h.trans (h2.mono h.size)

end Go.Proofs.YtpkmciohehaboaaGreatDoor

/- The walk of drawbridgeref01.Bytes at two rows of the same bytes. -/
namespace Go.Proofs.YtpkmciohehaboaaGreatDoor
open Go.RowKit
end Go.Proofs.YtpkmciohehaboaaGreatDoor

/- The walk of drawbridgelaw02.HuffEncodes. -/
namespace Go.Proofs.YtpkmciohehaboaaGreatDoor
open Go.RowKit

end Go.Proofs.YtpkmciohehaboaaGreatDoor

/- The walk of drawbridgelaw02.HuffBack. -/
namespace Go.Proofs.YtpkmciohehaboaaGreatDoor
open Go.RowKit

end Go.Proofs.YtpkmciohehaboaaGreatDoor

/- The walk of drawbridgeref02.Decode: down the tree is reading the codes. -/
namespace Go.Proofs.YtpkmciohehaboaaGreatDoor
open Go.RowKit

end Go.Proofs.YtpkmciohehaboaaGreatDoor

/- The walks of prefix.TakeText and drawbridgeref03.TakeText. -/
namespace Go.Proofs.YtpkmciohehaboaaGreatDoor
open Go.RowKit

theorem Rd.cut {w : World} {B b o n a m : Nat} {l : List UInt8} (h : Rd w B 1 (some ⟨b, o, none⟩) n (bvs l)) (h1 : a + m ≤ n) : Rd w B 1 (some ⟨b, o + a, none⟩) m (bvs ((l.drop a).take m)) := by
  have hl := h.blen
  refine ⟨by simp [bvs]; omega, fun hm => ?_⟩
  obtain ⟨b', o', e, hb, hc⟩ := h.2 (by omega)
  injection e with e; injection e with e1 e2 e3; subst e1 e2
  refine ⟨_, _, rfl, hb, fun j hj => ?_⟩
  rw [Nat.add_assoc, hc (a + j) (by omega)]
  simp only [bvs, List.getElem?_map, List.getElem?_take, List.getElem?_drop]
  rw [if_pos (by omega)]
/-- 'own[at:end]' of a slice whose room ends there: nothing. -/
theorem Rd.end_ {w : World} {B n : Nat} {A : Option Addr} {l : List UInt8} (_hl : l.length = n) : Rd w B 1 A 0 (bvs ((l.drop n).take 0)) := by
  rw [List.take_zero]; exact Rd.none_ _ _ _ _

set_option maxRecDepth 100000 in
set_option maxHeartbeats 2000000 in
theorem takeText_any {A : Option Addr} {n cap : Nat} {l : List UInt8} {w : World} (hr : Rd w w.heap.size 1 A n (bvs l)) (hcap : n ≤ cap) (hm : cap ≤ maxLen) (hn : n ≤ 1048576) :
    Calls Tryz.prog 226 #[.slice A n cap] w fun e w' => e = .returned (triT (takeT l)) ∧ Below w.heap.size w w' := by
  have HL := Lib.hid hr.blen
  have hcm := hm
  unfold maxLen at hcm
  obtain ⟨⟨m, a, z⟩, hv⟩ : ∃ r, takeI 127 l = r := ⟨_, rfl⟩
  have hbd := takeI_bd (F := 127) (by omega) l
  have hze := takeI_err 127 l
  rw [hv] at hbd hze
  simp only at hbd hze
  have HV := Lib.hid hv
  have ht := take_any (w := w) full7 hr hcap hm
  rw [hv] at ht
  simp only [tri] at ht
  have HT := Lib.hid ht
  have HR := Lib.hid hr
  clear hv ht hr
  by_cases hz : z = 0
  · have hbd1 := hbd hz
    subst hz
    clear hbd hze
    obtain ⟨h31, ha1, han, ha6⟩ := hbd1
    rw [HL.out] at han
    by_cases hm4 : 4096 < m
    · go_enter Tryz.func226, Tryz.ntmps226
      go_wp2_with fail
      refine HT.out.mono ?_
      rintro e w1 ⟨rfl, rfl⟩
      go_wp2
      go_ret3
      exact ⟨by rw [takeT_long HV.out rfl hm4]; rfl, Below.refl _ _⟩
    · by_cases hl : n < a + m
      · go_enter Tryz.func226, Tryz.ntmps226
        go_wp2_with fail
        refine HT.out.mono ?_
        rintro e w1 ⟨rfl, rfl⟩
        go_wp2
        go_ret3
        exact ⟨by rw [takeT_short HV.out rfl (by omega) (by rw [HL.out]; exact hl)]; rfl, Below.refl _ _⟩
      · obtain ⟨-, b, o, rfl, hb, hc⟩ := HR.out.bas (by omega)
        have hc0 : w.cell? ⟨b, o, none⟩ = some (.int .u8 (ba l 0 : Int)) := hc 0 (by omega)
        clear hc
        by_cases hca : cap = a
        · obtain rfl : cap = n := by omega
          obtain rfl : a = cap := by omega
          obtain rfl : m = 0 := by omega
          have hp := Rd.end_ (w := w) (B := w.heap.size) (A := some ⟨b, o, none⟩) HL.out
          have e1 := run_str Tryz.underlying48 Tryz.underlying5 Tryz.underlying9 hp (a - a)
          simp only [Nat.sub_self] at e1
          have E1 := Lib.hid e1
          have HP := Lib.hid hp
          clear e1 hp
          by_cases hb0 : ba l 0 < 128
          · have e1 := E1.out
            go_enter Tryz.func226, Tryz.ntmps226
            go_wp2_with fail
            refine HT.out.mono ?_
            rintro e w1 ⟨rfl, rfl⟩
            go_wp2
            go_ret3
            exact ⟨by rw [takeT_raw HV.out rfl (by omega) (by rw [HL.out]; omega) hb0]; rfl, Below.refl _ _⟩
          · have hT := takeT_bits HV.out rfl (by omega) (by rw [HL.out]; omega) (by omega)
            have hd := dec_any HP.out (by omega) (cap := a - a)
            simp only [Nat.sub_self] at hd
            generalize decB ((l.drop a).take 0) = D at *
            have HD := Lib.hid hd
            have HTT := Lib.hid hT
            clear hd hT
            go_enter Tryz.func226, Tryz.ntmps226
            go_wp2_with fail
            refine HT.out.mono ?_
            rintro e w1 ⟨rfl, rfl⟩
            go_wp2_with fail
            refine HD.out.mono ?_
            rintro e w2 ⟨rfl, hb2⟩
            cases D with
            | none =>
              simp only [decV]
              go_wp2
              go_ret3
              exact ⟨by rw [HTT.out]; rfl, hb2⟩
            | some t =>
              simp only [decV]
              have hsz : (ByteArray.mk t.toArray).size = t.length := by simp [ByteArray.size]
              have hfin := HTT.out
              simp only at hfin
              obtain ⟨s, hs⟩ : ∃ s : ByteArray, s = ⟨t.toArray⟩ := ⟨_, rfl⟩
              rw [← hs] at hsz ⊢
              have HS := Lib.hid hs
              have HSZ := Lib.hid hsz
              have HF := Lib.hid hfin
              clear hs hsz hfin
              by_cases hbig : 4096 < s.size
              · go_wp2
                go_ret3
                exact ⟨by rw [HF.out, if_pos (by rw [← HSZ.out]; exact hbig)]; rfl, hb2⟩
              · go_wp2
                go_ret3
                exact ⟨by rw [HF.out, if_neg (by rw [← HSZ.out]; exact hbig), HS.out]; rfl, hb2⟩
        · have hp := Rd.cut (a := a) (m := m) HR.out (by omega)
          have e1 := run_str Tryz.underlying48 Tryz.underlying5 Tryz.underlying9 hp (cap - a)
          have E1 := Lib.hid e1
          have HP := Lib.hid hp
          clear e1 hp
          by_cases hb0 : ba l 0 < 128
          · have e1 := E1.out
            go_enter Tryz.func226, Tryz.ntmps226
            go_wp2_with fail
            refine HT.out.mono ?_
            rintro e w1 ⟨rfl, rfl⟩
            go_wp2
            go_ret3
            exact ⟨by rw [takeT_raw HV.out rfl (by omega) (by rw [HL.out]; omega) hb0]; rfl, Below.refl _ _⟩
          · have hT := takeT_bits HV.out rfl (by omega) (by rw [HL.out]; omega) (by omega)
            have hd := dec_any HP.out (by omega) (cap := cap - a)
            generalize decB ((l.drop a).take m) = D at *
            have HD := Lib.hid hd
            have HTT := Lib.hid hT
            clear hd hT
            go_enter Tryz.func226, Tryz.ntmps226
            go_wp2_with fail
            refine HT.out.mono ?_
            rintro e w1 ⟨rfl, rfl⟩
            go_wp2_with fail
            refine HD.out.mono ?_
            rintro e w2 ⟨rfl, hb2⟩
            cases D with
            | none =>
              simp only [decV]
              go_wp2
              go_ret3
              exact ⟨by rw [HTT.out]; rfl, hb2⟩
            | some t =>
              simp only [decV]
              have hsz : (ByteArray.mk t.toArray).size = t.length := by simp [ByteArray.size]
              have hfin := HTT.out
              simp only at hfin
              obtain ⟨s, hs⟩ : ∃ s : ByteArray, s = ⟨t.toArray⟩ := ⟨_, rfl⟩
              rw [← hs] at hsz ⊢
              have HS := Lib.hid hs
              have HSZ := Lib.hid hsz
              have HF := Lib.hid hfin
              clear hs hsz hfin
              by_cases hbig : 4096 < s.size
              · go_wp2
                go_ret3
                exact ⟨by rw [HF.out, if_pos (by rw [← HSZ.out]; exact hbig)]; rfl, hb2⟩
              · go_wp2
                go_ret3
                exact ⟨by rw [HF.out, if_neg (by rw [← HSZ.out]; exact hbig), HS.out]; rfl, hb2⟩
  · go_enter Tryz.func226, Tryz.ntmps226
    go_wp2_with fail
    refine HT.out.mono ?_
    rintro e w1 ⟨rfl, rfl⟩
    go_wp2
    go_ret3
    exact ⟨by rw [takeT_err HV.out hz]; rfl, Below.refl _ _⟩
end Go.Proofs.YtpkmciohehaboaaGreatDoor

/- From a walk that returns true to the row: one end for every law; the opening of each kind of argument. -/
namespace Go.Proofs.YtpkmciohehaboaaGreatDoor
open Go.ChangeShapes Go.WideShapes Go.ChangeAt Go.RowKit Go.WideMaps Go.ChangeMaps
set_option maxRecDepth 100000

theorem own : ownKnob Tryz.prog.godebug = none := by kernel_rfl
theorem laidOut : laidOutB Tryz.prog = true := by kernel_rfl

section
variable {H : Type} {enc : TypeId × Value → H} {P : Program}

theorem trodAll_below (hl : laidOutB P = true) {W W' : World} (hb : Below W.heap.size W W') : ∀ {ts : List TypeId} {vs : List Value} {ds : List (DataW H)} {ps : List MemPlace},
    (∀ t ∈ ts, P.readableRec t = true ∧ t < P.types.size) → DataW.TrodAll enc P W 0 (fun _ => true) true ts vs ds ps → (∀ x ∈ ps, x.block < W.heap.size) →
    DataW.TrodAll enc P W' 0 (fun b => decide (b < W.heap.size)) true ts vs ds ps
  | [], vs, ds, ps, _, h, _ => by
    obtain ⟨rfl, rfl, rfl⟩ := trodAll_nil h
    rfl
  | t :: ts, vs, ds, ps, hts, h, hlt => by
    obtain ⟨v, vs', d, ds', p, q, rfl, rfl, rfl, hd, hrest⟩ := trodAll_cons h
    have ht := hts t (by simp)
    exact ⟨p, q, Below.trod hl ht.1 ht.2 hd hb (fun x hx => hlt x (by simp [hx])), trodAll_below hl hb (fun t' h' => hts t' (by simp [h'])) hrest (fun x hx => hlt x (by simp [hx])), rfl⟩

/-- THE ONE END. -/
theorem law_fin (hl : laidOutB P = true) {fn : Func} {s : ChangeSpec} {W W' : World} {args : Array Value} {ds gs : List (DataW H)} {before : List MemPlace} {tb : TypeId} {e : Ending} {apart : Bool}
    (hts : ∀ t ∈ fn.params.toList, P.readableRec t = true ∧ t < P.types.size) (hres : fn.resultTypes = #[tb]) (htb : P.underlying tb = some .bool)
    (hW : DataW.Whole enc P fn.params.toList s.vars apart W args.toList ds gs before) (hv : s.vars = []) (hs : s.fn H ds = { results := [.lit (.bool true)], args := ds })
    (h : RetT W e W') : ∃ v, e = .returned v ∧ s.post enc P fn apart true false false W args v W' := by
  obtain ⟨rfl, hb⟩ := h
  have hW' := hW
  obtain ⟨p, q, hA, hV, rfl, _, _⟩ := hW
  rw [hv] at hV
  obtain ⟨rfl, rfl⟩ := trodVars_none hV
  simp only [List.append_nil] at hW' ⊢
  have hlt : ∀ x ∈ p, x.block < W.heap.size := fun x hx => by simpa using hW'.lt x hx
  refine ⟨_, rfl, ds, [], p, [], p, [], hW', ?_, ?_, ?_, hb.frame _, fun h => by cases h⟩
  · rw [List.append_nil, hs, hres]
    exact trodAll_mk1 (shut_bool htb _)
  · rw [List.append_nil, hs]
    exact trodAll_below hl hb hts hA hlt
  · rw [List.append_nil, hs, hv]
    rfl
end

section
variable {H : Type} {enc : TypeId × Value → H} {W : World} {base : Nat}
theorem wf_i64 {n : Int} (h : (Lit.int .i64 n).wf = true) : -9223372036854775808 ≤ n ∧ n ≤ 9223372036854775807 := by simp [Lit.wf, IntKind.min, IntKind.max, IntKind.bits, IntKind.signed] at h; omega
end

section
variable {H : Type} {enc : TypeId × Value → H} {W : World} {base : Nat}
end
end Go.Proofs.YtpkmciohehaboaaGreatDoor

/- A []drawbridgelaw04.Do that came in: its steps, in memory; an api.Field that came in. -/
namespace Go.Proofs.YtpkmciohehaboaaGreatDoor
open Go.ChangeShapes Go.WideShapes Go.ChangeAt Go.RowKit Go.WideMaps Go.ChangeMaps Go.Deep
set_option maxRecDepth 100000

/-- A step: its kind, its field, its number. -/
structure St where
  sk : Int
  sf : Rw
  sv : Bool
  sn : Int
def St.zero : St := ⟨0, (ByteArray.empty, ByteArray.empty), false, 0⟩
def StAt (w : World) (b o : Nat) (x : St) : Prop :=
  w.cell? ⟨b, o, none⟩ = some (.int .i64 x.sk) ∧ w.cell? ⟨b, o + 1, none⟩ = some (.string x.sf.1) ∧ w.cell? ⟨b, o + 2, none⟩ = some (.string x.sf.2) ∧ w.cell? ⟨b, o + 3, none⟩ = some (.bool x.sv) ∧ w.cell? ⟨b, o + 4, none⟩ = some (.int .i64 x.sn)
def StOk (x : St) : Prop := (Lit.int .i64 x.sk).wf = true ∧ x.sf.1.size ≤ maxLen ∧ x.sf.2.size ≤ maxLen ∧ (Lit.int .i64 x.sn).wf = true
/-- A row of steps in memory, in a block below B. -/
def Script (w : World) (B : Nat) (A : Option Addr) (n : Nat) (D : Nat → St) : Prop :=
  (∀ i, i < n → StOk (D i)) ∧ (0 < n → ∃ b o, A = some ⟨b, o, none⟩ ∧ b < B ∧ ∀ i, i < n → StAt w b (o + i * 5) (D i))
theorem Script.below {w w' : World} {B : Nat} {A : Option Addr} {n : Nat} {D : Nat → St} (h : Script w B A n D) (hb : Below B w w') : Script w' B A n D := by
  refine ⟨h.1, fun h0 => ?_⟩
  obtain ⟨b, o, hA, hlt, hc⟩ := h.2 h0
  refine ⟨b, o, hA, hlt, fun i hi => ?_⟩
  obtain ⟨h1, h2, h3, h4, h5⟩ := hc i hi
  have e : ∀ j, w'.cell? ⟨b, j, none⟩ = w.cell? ⟨b, j, none⟩ := fun j => hb.cell (p := ⟨b, j, none⟩) hlt
  exact ⟨(e _).trans h1, (e _).trans h2, (e _).trans h3, (e _).trans h4, (e _).trans h5⟩

section
variable {H : Type} {enc : TypeId × Value → H} {W : World} {base : Nat}
end
end Go.Proofs.YtpkmciohehaboaaGreatDoor

/- The walk of table.Find. -/
namespace Go.Proofs.YtpkmciohehaboaaGreatDoor
open Go.RowKit Go.Maps

theorem below_dN {B : Nat} {w w' : World} (h : Below B w w') (n : Nat) : Below B w (w'.drewN n) := ⟨h.os, h.tape, h.output, h.size, h.block⟩
def FindPost (W : World) (r : Int × Bool) (e : Ending) (w' : World) : Prop := e = .returned (.tuple #[.int .i64 r.1, .bool r.2]) ∧ Below W.heap.size W w'
end Go.Proofs.YtpkmciohehaboaaGreatDoor

/- The walk of drawbridgelaw04.few. -/
namespace Go.Proofs.YtpkmciohehaboaaGreatDoor
open Go.RowKit

end Go.Proofs.YtpkmciohehaboaaGreatDoor

/- The walk of table.Add. -/
namespace Go.Proofs.YtpkmciohehaboaaGreatDoor
open Go.RowKit Go.Maps

section
variable {P : Program} {w : World}
/-- append onto a slice that lies somewhere, as one step of a region that draws. -/
theorem step_app_lies {ops : Array Oper} {o : Oper} {a : Act} {K : Act → World → Prop} {Q : Exit → Act → World → Prop} {E : Prop} (s x : Operand) {t e : TypeId} {z : Value} {size bytes : Nat} (hT : SlT P t e z size bytes)
    (hgd : o.guard = none) (ho : o.op = .call { callee := .builtin .append, args := #[s, x], argTypes := #[t, t] })
    {v : Value} {n : Nat} {xs : List Value} (hl : Lies w e size v n xs) (hs : a.eval s = v)
    {B : Nat} {A : Option Addr} {m c : Nat} {news : List Value} (hr : Rd w B size A m news) (hm : 0 < m) (hx : a.eval x = .slice A m c) (h1 : ∀ u ∈ news, u.oneCell' = true)
    (h63 : n + m ≤ maxLen) (hbytes : (n + m) * bytes ≤ 140737488355328)
    (h : ∀ v' w', Lies w' e size v' (n + m) (xs ++ news) → w.grownBy w' v.ownBlock → (v'.ownBlock = v.ownBlock ∨ ∀ k, v'.ownBlock = some k → w.heap.size ≤ k) → K (a.put o.dst v') w') :
    if Region.wanted o (yielded ops a.tmps) = true then Oper.wp P o a w K Q else E := by
  have hw : Region.wanted o (yielded ops a.tmps) = true := by simp [Region.wanted, hgd]
  rw [if_pos hw]
  obtain ⟨v', w', hrun, h2, h3, h4⟩ := run_app_lies (P := P) o.type hT hl hr hm (c := c) h1 h63 hbytes
  unfold Oper.wp execOp
  simp only [ho, resolve, invoke, builtin, Sem.run_bind, Sem.run_pure, Result.andThen_ok, List.map_toArray, List.map_cons, List.map_nil, hs, hx, hrun]
  exact h v' w' h2 h3 h4
end
theorem Rd.pair (w : World) (x y : Value) (t : TypeId) : Rd (w.alloc (.cells #[x, y] t)) (w.heap.size + 1) 2 (some ⟨w.heap.size, 0, none⟩) 1 [x, y] := by
  refine ⟨rfl, fun _ => ⟨_, _, rfl, by omega, fun j hj => ?_⟩⟩
  rw [World.cell?_alloc_at _ _ _ _ rfl]
  simp

/-- The row's slice is the old one's block's or a new one's. -/
def SubN (W : World) (A A0 : Option Addr) : Prop := ∀ a, A = some a → (∃ a0, A0 = some a0 ∧ a0.block = a.block) ∨ W.heap.size ≤ a.block
theorem SubN.foot {W : World} {A A0 : Option Addr} (h : SubN W A A0) {g mb mn k : Nat} (hk : foot g mb mn A k) : foot g mb mn A0 k ∨ W.heap.size ≤ k := by
  rcases hk with h1 | h1 | h1 | ⟨a, ha, h1⟩
  · exact .inl (.inl h1)
  · exact .inl (.inr (.inl h1))
  · exact .inl (.inr (.inr (.inl h1)))
  · rcases h a ha with ⟨a0, h0, e⟩ | hle
    · exact .inl (.inr (.inr (.inr ⟨a0, h0, e.trans h1⟩)))
    · exact .inr (by omega)
/-- A row was appended: before its slice is stored, and behind it. -/
theorem Raw.app {w w4 : World} {g mb mn c N c4 : Nat} {A A4 : Option Addr} {most size gone : Int} {rows : List Rw} {fb : Rw → Option Int} {fn : ByteArray → Option Int} {r : Rw} (h : Raw w g mb mn A c N most size gone rows fb fn)
    (hl : Lies w4 276 2 (.slice A4 (rows.length + 1) c4) (rows.length + 1) (rcs rows ++ [.string r.1, .string r.2])) (hg : w.grownBy w4 (Value.ownBlock (.slice A rows.length c)))
    (hb : Value.ownBlock (.slice A4 (rows.length + 1) c4) = Value.ownBlock (.slice A rows.length c) ∨ ∀ k, Value.ownBlock (.slice A4 (rows.length + 1) c4) = some k → w.heap.size ≤ k) :
    w4.heap[g]? = w.heap[g]? ∧ Raw (w4.setCell ⟨g, 2, none⟩ (.slice A4 (rows.length + 1) c4)) g mb mn A4 c4 N most size gone (rows ++ [r]) fb fn ∧ SubN w A4 A := by
  have hsub : SubN w A4 A := by
    intro a ha
    subst ha
    rcases hb with e | hge
    · cases A with
      | none => simp [Value.ownBlock] at e
      | some a0 => simp [Value.ownBlock] at e; exact .inl ⟨a0, rfl, e.symm⟩
    · exact .inr (hge a.block rfl)
  have hlt := h.lt
  have hrow : ∀ k, k < w.heap.size → (∀ a, A = some a → a.block ≠ k) → w4.heap[k]? = w.heap[k]? := fun k hk hn => hg.block k hk (fun e => by
    cases A with
    | none => simp [Value.ownBlock] at e
    | some a => simp [Value.ownBlock] at e; exact hn a rfl e.symm)
  have hg4 := hrow g (hlt g (.inl rfl)) (fun a ha => (h.apart a ha).1)
  have hmb := hrow mb (hlt mb (.inr (.inl rfl))) (fun a ha => (h.apart a ha).2.1)
  have hmn := hrow mn (hlt mn (.inr (.inr (.inl rfl)))) (fun a ha => (h.apart a ha).2.2)
  have hap : ∀ a, A4 = some a → a.block ≠ g ∧ a.block ≠ mb ∧ a.block ≠ mn := by
    intro a ha
    rcases hsub a ha with ⟨a0, h0, e⟩ | hge
    · rw [← e]; exact h.apart a0 h0
    · have h1 := hlt g (.inl rfl)
      have h2 := hlt mb (.inr (.inl rfl))
      have h3 := hlt mn (.inr (.inr (.inl rfl)))
      exact ⟨by omega, by omega, by omega⟩
  have hk : ∀ k, k ≠ g → (w4.setCell ⟨g, 2, none⟩ (.slice A4 (rows.length + 1) c4)).heap[k]? = w4.heap[k]? := fun k hk => Below.heap_setCell _ _ _ _ (by simpa using hk)
  obtain ⟨D1, ⟨e1, l1, a1, b1⟩, v1⟩ := h.both
  obtain ⟨D2, ⟨e2, l2, a2, b2⟩, v2⟩ := h.name
  refine ⟨hg4, ⟨?_, ?_, ⟨D1, ⟨e1, l1, ((hk mb (Ne.symm h.ne.1)).trans hmb).trans a1, b1⟩, v1⟩, ⟨D2, ⟨e2, l2, ((hk mn (Ne.symm h.ne.2.1)).trans hmn).trans a2, b2⟩, v2⟩, h.ne, hap⟩, hsub⟩
  · simp only [World.setCell, Array.getElem?_modify, if_true]
    rw [hg4, h.book]
    simp
  · rw [List.length_append, rcs_app]
    refine Lies.keep hl fun q hq => hk q ?_
    cases A4 with
    | none => cases hq
    | some a => simp only [Value.ownBlock, Option.some.injEq] at hq; subst hq; exact (hap a rfl).1
theorem two_str (a b : ByteArray) : ∀ u ∈ [Value.string a, Value.string b], u.oneCell' = true := by simp [Value.oneCell']
def AddMid (W : World) (g mb mn : Nat) (A : Option Addr) (c N x : Nat) (T : Tb) (r : Rw) (b : Bool) (v : Value) (wx : World) : Prop :=
  v = .bool b ∧ TM wx g mb mn A c N T ∧ Below W.heap.size W wx ∧ wx.cell? ⟨x, 0, none⟩ = some (.string r.1) ∧ wx.cell? ⟨x, 1, none⟩ = some (.string r.2) ∧ x < wx.heap.size ∧ W.heap.size ≤ x

/-- Behind the shrinking. -/
def AddMid2 (W : World) (g mb mn : Nat) (A0 : Option Addr) (N x : Nat) (most gone : Int) (rows : List Rw) (r : Rw) (wx : World) : Prop :=
  ∃ A c, Tbl wx g mb mn A c N most gone rows ∧ Kept (foot g mb mn A0) W wx ∧ Sub A A0 ∧ wx.cell? ⟨x, 0, none⟩ = some (.string r.1) ∧ wx.cell? ⟨x, 1, none⟩ = some (.string r.2) ∧ x < wx.heap.size
/-- The row is there; not yet told in the maps. -/
def AddMid3 (W : World) (g mb mn : Nat) (A0 : Option Addr) (N x : Nat) (most size gone : Int) (rows : List Rw) (r : Rw) (wx : World) : Prop :=
  ∃ A c, Raw wx g mb mn A c N most size gone (rows ++ [r]) (pos rows gone) (pos (rows.map (·.1)) gone) ∧ Kept (foot g mb mn A0) W wx ∧ SubN W A A0 ∧ wx.cell? ⟨x, 0, none⟩ = some (.string r.1) ∧ wx.cell? ⟨x, 1, none⟩ = some (.string r.2) ∧ x < wx.heap.size
set_option maxRecDepth 100000 in
set_option maxHeartbeats 4000000 in
theorem add_any {g N : Nat} {F : Nat → Prop} {T : Tb} (r : Rw) (nv : Bool) (w : World) (h : TabIs w g F N T) (hr1 : r.1.size ≤ 1099511627776) (hr2 : r.2.size ≤ 1099511627776) (hN : N + 1 ≤ 1099511627776) :
    Calls Tryz.prog 205 #[.pointer (some ⟨g, 0, none⟩), .agg #[.string r.1, .string r.2, .bool nv]] w (TStep w g F (N + 1) (T.add r) (.tuple #[])) := by
  obtain ⟨mb, mn, A, c, rfl, ht⟩ := h
  have hlt := ht.raw.lt
  have hgl := hlt g (.inl rfl)
  have hcost : (cost r : Int) = r.1.size + r.2.size + 32 := by unfold cost; omega
  obtain ⟨cr, hcr⟩ : ∃ cr : Int, (cost r : Int) = cr := ⟨_, rfl⟩
  have hcr0 : 32 ≤ cr := by omega
  have hcr1 : cr ≤ 4398046511104 := by omega
  have HCR := Lib.hid hcr
  obtain ⟨c0, c1, c2, c3, c4, c5⟩ := ht.raw.cells
  have hm0 := ht.most0
  have hm1 := ht.most1
  have HT := Lib.hid ht
  have HLT := Lib.hid hlt
  have hg1 : g < w.heap.size + 1 := by omega
  have hg2 : g < w.heap.size + 1 + 1 := by omega
  clear ht hlt hcost hcr
  go_enter Tryz.func205, Tryz.ntmps205
  go_upto_region 3 with fail
  obtain ⟨wa, hwa⟩ : ∃ wa, (w.alloc (.cells #[.string r.1, .string r.2, .bool nv] 26)).alloc (.cells #[.string r.1, .string r.2] 276) = wa := ⟨_, rfl⟩
  obtain ⟨x, hx⟩ : ∃ x, w.heap.size + 1 = x := ⟨_, rfl⟩
  have hbw : Below w.heap.size w wa := by rw [← hwa]; exact ((Below.refl _ _).alloc (Nat.le_refl _) _).alloc (by simp) _
  have hsa : wa.heap.size = w.heap.size + 2 := by rw [← hwa]; simp
  have hxa : x < wa.heap.size := by omega
  have hga : g < wa.heap.size := by omega
  have y0 : wa.cell? ⟨x, 0, none⟩ = some (.string r.1) := by rw [← hwa]; exact World.cell?_alloc_at _ _ _ _ (by simp; omega)
  have y1 : wa.cell? ⟨x, 1, none⟩ = some (.string r.2) := by rw [← hwa]; exact World.cell?_alloc_at _ _ _ _ (by simp; omega)
  have hta : TM wa g mb mn A c N T := HT.out.keep (fun k hk => hbw.block k (HLT.out k hk))
  obtain ⟨a0, -⟩ := hta.raw.cells
  have HTA := Lib.hid hta
  have HBW := Lib.hid hbw
  rw [hwa, hx]
  have HX := Lib.hid hx
  have hxw : w.heap.size ≤ x := by omega
  clear hwa hx hsa hbw hta c0 c1 c2 c3 c4 c5
  go_cut [18] (fun v wx => AddMid w g mb mn A c N x T r (decide (T.most < cr)) v wx)
  case first =>
    go_region_held3 (fun w' => w'.cell? ⟨g, 0, none⟩ = some (.int .i64 T.most) ∧ w'.cell? ⟨x, 0, none⟩ = some (.string r.1) ∧ w'.cell? ⟨x, 1, none⟩ = some (.string r.2))
      (go_keep)
      (first
        | (go_at_call 215; refine (cost_any r _ (by omega) (by omega)).mono ?_; rintro e w2 ⟨rfl, rfl⟩; rw [HCR.out]))
    all_goals
      go_wp2_with fail
      go_meet
      refine ⟨rfl, HTA.out.keep (fun k hk => Below.heap_alloc wa _ k (HTA.out.raw.lt k hk)), (HBW.out.alloc (by have := HBW.out.size; omega) _).drew, (World.cell?_alloc_lt _ _ _ hxa).trans y0, (World.cell?_alloc_lt _ _ _ hxa).trans y1, by simp; omega, hxw⟩
  case rest =>
    obtain ⟨rfl, htm, hbw, x0, x1, hxl, hxw'⟩ := hcut
    have htb := htm.tbl
    have HTM := Lib.hid htm
    have HBC := Lib.hid hbw
    obtain ⟨c0, c1, c2, c3, c4, c5⟩ := htm.raw.cells
    have hgc := htm.raw.lt g (.inl rfl)
    have hfoot : ∀ k, foot g mb mn A k → k < w.heap.size := HLT.out
    have HLT2 := Lib.hid hfoot
    have hxf : ¬ foot g mb mn A x := fun hf => by have := hfoot x hf; omega
    have HXF := Lib.hid hxf
    clear hfoot hxf HTA HBW y0 y1 a0 hxa hga hbw htm HLT HT
    by_cases hbig : T.most < cr
    · have hadd : T.add r = T.shrink 0 := by unfold Tb.add; rw [if_pos (by rw [HCR.out]; exact hbig)]
      have hC := Lib.hid (shrink_any 0 wc htb)
      have eb : decide (T.most < cr) = true := by simpa using hbig
      have HADD := Lib.hid hadd
      clear hadd htb
      go_wp2_with fail
      refine hC.out.mono ?_
      rintro e w' ⟨rfl, A', c', htb, hk, hs⟩
      have H := Lib.hid (And.intro htb (And.intro hk hs))
      clear htb hk hs hC
      go_wp2
      refine bodyPost_ret (v := .tuple #[]) (by simp [results, Tryz.results205, go_sem]) rfl ?_
      rw [HADD.out]
      refine ⟨rfl, foot g mb mn A', ⟨mb, mn, A', c', rfl, ?_⟩, ?_, fun k hf => .inl (H.out.2.2.foot hf)⟩
      · obtain ⟨h1, h2, h3, h4, h5, h6⟩ := H.out.1
        exact TM.of ⟨h1.more (Nat.le_succ N), h2, h3, by omega, by omega, h6⟩ hm0 hm1 (by have := shrunk_fits (Int.le_refl 0) T.rows T.gone; omega)
      · exact (Kept.of_below HBC.out).same H.out.2.1
    · have hle : cr ≤ T.most := by omega
      have eb : decide (T.most < cr) = false := by simpa using hbig
      have hC : Hid (∀ w', w'.heap = wc.heap ∨ w' = wc.alloc (.cells #[.string r.1, .string r.2] 276) ∨ w' = (wc.alloc (.cells #[.string r.1, .string r.2] 276)).drew → Calls Tryz.prog 200 #[.pointer (some ⟨g, 0, none⟩), .int .i64 (T.most - cr)] w' (ShrPost w' g mb mn A N (T.most - cr) T.most T.gone T.rows)) := by
        refine Lib.hid fun w' hw' => shrink_any _ w' ⟨htb.1.keep fun k hk => ?_, htb.2⟩
        have hkl := HTM.out.raw.lt k hk
        rcases hw' with h | h | h
        · rw [h]
        · rw [h]; exact Below.heap_alloc _ _ _ hkl
        · rw [h]; exact Below.heap_alloc _ _ _ hkl
      clear hbig htb
      obtain ⟨g1, rows1, hsh⟩ : ∃ g1 rows1, shrunk (T.most - cr) T.gone T.rows = (g1, rows1) := ⟨_, _, rfl⟩
      have hfit : sumc rows1 ≤ T.most - cr := by have := shrunk_fits (show 0 ≤ T.most - cr by omega) T.rows T.gone; rw [hsh] at this; exact this
      have HADD : Hid (T.add r = ⟨T.most, g1, rows1 ++ [r]⟩) := Lib.hid (by
        unfold Tb.add Tb.shrink
        rw [if_neg (by rw [HCR.out]; omega)]
        simp only [HCR.out, hsh])
      have HSH := Lib.hid hsh
      clear hsh
      go_upto_region 5 with fail
      go_cut [25] (fun _ wx => AddMid2 w g mb mn A N x T.most g1 rows1 r wx)
      case first =>
        have es : IntKind.i64.wrap (T.most - cr) = T.most - cr := by rw [IntWalk.i64_in _ ⟨by omega, by omega⟩]
        have hxl1 : x < wc.heap.size + 1 := by omega
        go_region_held3 (fun w' => w'.cell? ⟨g, 0, none⟩ = some (.int .i64 T.most) ∧ w'.cell? ⟨x, 0, none⟩ = some (.string r.1) ∧ w'.cell? ⟨x, 1, none⟩ = some (.string r.2))
          (first | go_keep | exact ⟨k0, k1, k2⟩)
          (first
            | (go_at_call 215; refine (cost_any r _ (by omega) (by omega)).mono ?_; rintro e w2 ⟨rfl, rfl⟩; rw [HCR.out])
            | (go_at_call 200; refine (hC.out _ (by first | (exact .inr (.inl rfl)) | (exact .inr (.inr rfl)))).mono ?_; rintro e w4 ⟨rfl, A', c', htb, hk, hs⟩; rw [HSH.out] at htb; obtain ⟨k0, -⟩ := htb.1.cells; have k1 := (hk.cell (k := x) (by simp; omega) HXF.out 0).trans ((World.cell?_alloc_lt wc _ _ hxl).trans x0); have k2 := (hk.cell (k := x) (by simp; omega) HXF.out 1).trans ((World.cell?_alloc_lt wc _ _ hxl).trans x1); have H4 := Lib.hid (And.intro htb (And.intro hk (And.intro hs (And.intro k1 k2)))); have hs4 := hk.size; clear htb hk hs))
        all_goals
          go_wp2_with fail
          go_meet
          obtain ⟨htb, hk, hs, j1, j2⟩ := H4.out
          refine ⟨A', c', htb, ?_, hs, j1, j2, by simp at hs4; omega⟩
          first
            | exact (((Kept.of_below HBC.out).alloc _).drew).same hk
            | exact ((Kept.of_below HBC.out).alloc _).same hk
      case rest =>
        obtain ⟨A1, c1', htb, hkept, hsub, z0, z1, hxl3⟩ := hcut
        obtain ⟨d0, d1, d2, d3, d4, d5⟩ := htb.1.cells
        have hfz := htb.1.free 2
        have hmany := htb.2.2.2.1
        have hg10 := htb.2.2.1
        have hrl : rows1.length ≤ 1099511627776 := by omega
        have hgl3 := htb.1.lt g (.inl rfl)
        have HTB := Lib.hid (And.intro htb (And.intro hkept hsub))
        clear htb hkept hsub HTM hC x0 x1 hxl c0 c1 c2 c3 c4 c5 HBC
        go_upto_region 6 with fail
        have HFZ : Hid ((wc.alloc (.cells #[.string r.1, .string r.2] 276)).frozen? ⟨g, 2, none⟩ = false) := Lib.hid ((HTB.out.1.1.alloc _).free 2)
        go_cut [37] (fun _ wx => AddMid3 w g mb mn A N x T.most (sumc rows1) g1 rows1 r wx)
        case first =>
          go_region_law (first
            | (refine step_app_lies (.tmp 34) (.tmp 36) tRows rfl rfl (HTB.out.1.1.alloc _).row rfl (Rd.pair _ _ _ _) (by decide) rfl (two_str _ _) (le_maxLen (by omega)) (by omega) ?_; intro v4 w4 hl4 hg4 hb4; obtain ⟨A4, c4', rfl, -, -, -⟩ := hl4.form; obtain ⟨hg5, hr5, hs5⟩ := Raw.app (r := r) ((HTB.out.1.1.alloc _).keep (w' := (wc.alloc (.cells #[.string r.1, .string r.2] 276)).drew) (fun _ _ => rfl)) hl4 hg4 hb4; have m2 : w4.cell? ⟨g, 2, none⟩ = some (.slice A1 rows1.length c1') := (World.cell?_of_block (a := ⟨g, 2, none⟩) hg5).trans ((World.cell?_alloc_lt wc _ _ hgl3).trans d2); have mf : w4.frozen? ⟨g, 2, none⟩ = false := (World.frozen?_of_block (a := ⟨g, 2, none⟩) hg5).trans (HFZ.out); have H5 := Lib.hid (And.intro hr5 (And.intro hs5 hg4)); clear hl4 hg4 hb4 hg5 hr5 hs5))
          all_goals
            go_wp2_with fail
            go_meet
            obtain ⟨hr5, hs5, hg4⟩ := H5.out
            have hxg : x ≠ g := fun e => HXF.out (.inl e)
            have hx4 : w4.heap[x]? = wc.heap[x]? := (hg4.block x (by simp; omega) (fun e => by
              cases A1 with
              | none => simp [Value.ownBlock] at e
              | some a1 =>
                simp [Value.ownBlock] at e
                obtain ⟨a0, h0, e0⟩ := HTB.out.2.2 a1 rfl
                exact HXF.out (.inr (.inr (.inr ⟨a0, h0, e0.trans e.symm⟩))))).trans (Below.heap_alloc wc _ x hxl3)
            have hxs : ∀ o v, ((w4.setCell ⟨g, 2, none⟩ v).cell? ⟨x, o, none⟩) = wc.cell? ⟨x, o, none⟩ := fun o v =>
              (World.cell?_of_block (a := ⟨x, o, none⟩) (Below.heap_setCell _ _ _ _ (by simpa using hxg))).trans (World.cell?_of_block (a := ⟨x, o, none⟩) hx4)
            have hszw := hg4.size
            refine ⟨A4, c4', hr5, ?_, ?_, (hxs 0 _).trans z0, (hxs 1 _).trans z1, by simp at hszw; simp [World.setCell]; omega⟩
            · refine Kept.setCell ((HTB.out.2.1.alloc _).drew.grown hg4 (fun k hk => ?_)) (.inl rfl) _ _
              cases A1 with
              | none => simp [Value.ownBlock] at hk
              | some a1 =>
                simp [Value.ownBlock] at hk
                obtain ⟨a0, h0, e0⟩ := HTB.out.2.2 a1 rfl
                exact .inl (.inr (.inr (.inr ⟨a0, h0, e0.trans hk⟩)))
            · intro a ha
              have hsz0 := HTB.out.2.1.size
              rcases hs5 a ha with ⟨a1, h1, e1⟩ | hge
              · obtain ⟨a0, h0, e0⟩ := HTB.out.2.2 a1 h1
                exact .inl ⟨a0, h0, e0.trans e1⟩
              · exact .inr (by simp at hge; omega)
        case rest =>
          obtain ⟨A2, c2', hraw, hkept, hsub, x0, x1, hxl⟩ := hcut
          obtain ⟨c0, c1, c2, c3, c4, c5⟩ := hraw.cells
          have hf1 := hraw.free 1
          have hgl4 := hraw.lt g (.inl rfl)
          have hs1 := sumc_nonneg rows1
          have HR := Lib.hid (And.intro hraw (And.intro hkept hsub))
          clear hraw hkept hsub d0 d1 d2 d3 d4 d5 z0 z1 hxl3 hfz hgl3 HFZ
          go_upto_region 7 with fail
          go_cut [46] (fun _ wx => AddMid3 w g mb mn A N x T.most (sumc rows1 + cr) g1 rows1 r wx)
          case first =>
            have es : IntKind.i64.wrap (sumc rows1 + cr) = sumc rows1 + cr := by rw [IntWalk.i64_in _ ⟨by omega, by omega⟩]
            have hmid : Hid (AddMid3 w g mb mn A N x T.most (sumc rows1 + cr) g1 rows1 r (((wc.setCell ⟨g, 1, none⟩ (.int .i64 (sumc rows1 + cr))).alloc (.cells #[.string r.1, .string r.2] 276)).drew)) := by
              refine Lib.hid ⟨A2, c2', ?_, ?_, HR.out.2.2, ?_, ?_, ?_⟩
              · exact ((HR.out.1.setSize _).alloc _).keep (fun _ _ => rfl)
              · exact ((HR.out.2.1.setCell (.inl rfl) _ _).alloc _).drew
              · have hxg : x ≠ g := fun e => HXF.out (.inl e)
                exact ((World.cell?_alloc_lt _ _ _ (by simpa [World.setCell] using hxl)).trans (World.cell?_of_block (a := ⟨x, 0, none⟩) (Below.heap_setCell _ _ _ _ (by simpa using hxg)))).trans x0
              · have hxg : x ≠ g := fun e => HXF.out (.inl e)
                exact ((World.cell?_alloc_lt _ _ _ (by simpa [World.setCell] using hxl)).trans (World.cell?_of_block (a := ⟨x, 1, none⟩) (Below.heap_setCell _ _ _ _ (by simpa using hxg)))).trans x1
              · simp [World.setCell]; omega
            clear HR
            go_region_law (first
              | (go_simp; go_at_call 215; refine (cost_any r _ (by omega) (by omega)).mono ?_; rintro e w2 ⟨rfl, rfl⟩; rw [HCR.out]))
            all_goals
              go_wp2_with fail
              go_meet
              first
                | exact hmid.out
                | (rw [es]; exact hmid.out)
          case rest =>
            obtain ⟨A3, c3', hraw, hkept, hsub, x0, x1, hxl⟩ := hcut
            obtain ⟨c0, c1, c2, c3, c4, c5⟩ := hraw.cells
            obtain ⟨D1, o1, v1⟩ := hraw.both
            have HD := Lib.hid o1
            have HV := Lib.hid v1
            have hokr : okR r := ⟨by unfold okS maxLen; omega, by unfold okS maxLen; omega⟩
            have HOKR := Lib.hid hokr
            have HRW := Lib.hid (And.intro hraw (And.intro hkept hsub))
            have es1 : IntKind.i64.wrap (g1 + ((rows1.length : Int) + 1)) = g1 + rows1.length + 1 := by rw [IntWalk.i64_in _ ⟨by omega, by omega⟩]; omega
            clear hraw hkept hsub o1 v1 HR hokr
            go_wp2
            go_still_tail 15, (by kernel_rfl)
            change wpList _ _ _ _ _ wc.drew
            go_wp2_with (at_mapUpdate; refine wpList_mapUpdate_own _ rfl _ _ _ 202 rfl 276 3 lawRow Tryz.underlying202 _ mb _ D1 rfl HD.out (by unfold maxLen; omega) _ _ (rowKey r) rfl rfl (rowKey_ok HOKR.out) (num _) [] (plainElem_int Tryz.underlying3 (WalkArith.wf_i64 (by omega))) ?_; intro w1 hown1 hgrow1)
            obtain ⟨D2, o2, v2⟩ := HRW.out.1.name
            have hne := HRW.out.1.ne
            have hr8 := (HRW.out.1.keep (w' := wc.drew) (fun _ _ => rfl)).newBoth hgrow1 hown1 (HV.out.put (HD.out.tidy lawRow) rowKey_lit rowKey_ne HOKR.out (g1 + rows1.length + 1)) (Nat.le_succ N)
            have o2k := (World.ownsMap.drew o2).kept hgrow1 (by simpa using Ne.symm hne.2.2)
            have hxmb : x ≠ mb := fun e => HXF.out (.inr (.inl e))
            have hx1 : w1.heap[x]? = wc.heap[x]? := hgrow1.block x hxl (by simpa using hxmb)
            have z0 := (World.cell?_of_block (a := ⟨x, 0, none⟩) hx1).trans x0
            have z1 := (World.cell?_of_block (a := ⟨x, 1, none⟩) hx1).trans x1
            obtain ⟨b0, b1, b2, b3, b4, b5⟩ := hr8.cells
            have hk8 : Kept (foot g mb mn A) w w1 := HRW.out.2.1.drew.grown hgrow1 (fun k hk => by cases hk; exact .inl (.inr (.inl rfl)))
            have H8 := Lib.hid (And.intro hr8 hk8)
            have HD2 := Lib.hid o2k
            have HV2 := Lib.hid v2
            clear hr8 o2 o2k v2 hne hown1 hgrow1 hx1 hk8 c0 c1 c2 c3 c4 c5 x0 x1
            go_wp2
            go_still_tail 16, (by kernel_rfl)
            change wpList _ _ _ _ _ w1.drew
            go_wp2_with (at_mapUpdate; refine wpList_mapUpdate_own _ rfl _ _ _ 157 rfl 9 3 lawStr Tryz.underlying157 _ mn _ D2 rfl HD2.out (by unfold maxLen; omega) _ _ (strKey r.1) rfl rfl (strKey_ok HOKR.out.1) (num _) [] (plainElem_int Tryz.underlying3 (WalkArith.wf_i64 (by omega))) ?_; intro w2 hown2 hgrow2)
            go_end0
            rw [HADD.out]
            have hr9 := (H8.out.1.keep (w' := w1.drew) (fun _ _ => rfl)).newName hgrow2 hown2 (HV2.out.put (HD2.out.tidy lawStr) strKey_lit strKey_ne HOKR.out.1 (g1 + rows1.length + 1)) (Nat.le_refl _)
            have hsum : sumc (rows1 ++ [r]) = sumc rows1 + cr := by
              rw [← HCR.out]
              unfold sumc
              simp
            refine ⟨rfl, foot g mb mn A3, ⟨mb, mn, A3, c3', rfl, TM.of ⟨?_, ?_, hg10, ?_, hN, ?_⟩ hm0 hm1 (by omega)⟩, H8.out.2.drew.grown hgrow2 (fun k hk => by cases hk; exact .inl (.inr (.inr (.inl rfl)))), fun k hk => HRW.out.2.2.foot hk⟩
            · rw [hsum, List.map_append]
              refine hr9.congr (fun r' _ => ?_) (fun s _ => ?_)
              · rw [pos_snoc]
              · rw [show List.map (fun x => x.fst) [r] = [r.1] from rfl, pos_snoc, List.length_map]
            · intro r' hr'
              rcases List.mem_append.1 hr' with h | h
              · exact HTB.out.1.2.1 r' h
              · rw [List.mem_singleton.1 h]; exact HOKR.out
            · rw [List.length_append]; simp; omega
            · rw [hsum]; omega
end Go.Proofs.YtpkmciohehaboaaGreatDoor

/- The walk of drawbridgeref04.Resize. -/
namespace Go.Proofs.YtpkmciohehaboaaGreatDoor
open Go.RowKit

section
variable {P : Program} {w : World}
/-- append as one step of a region that draws. -/
theorem step_app {ops : Array Oper} {o : Oper} {a : Act} {K : Act → World → Prop} {Q : Exit → Act → World → Prop} {E : Prop} (s x : Operand) {t e : TypeId} {z : Value} {size bytes : Nat} (hT : SlT P t e z size bytes)
    (hgd : o.guard = none) (ho : o.op = .call { callee := .builtin .append, args := #[s, x], argTypes := #[t, t] })
    {base : Nat} {v : Value} {n : Nat} {xs : List Value} (hown : w.ownsRow base e size v n xs) (hs : a.eval s = v)
    {B : Nat} {A : Option Addr} {m c : Nat} {news : List Value} (hr : Rd w B size A m news) (hx : a.eval x = .slice A m c) (h1 : ∀ u ∈ news, u.oneCell' = true)
    (h63 : n + m ≤ maxLen) (hbytes : (n + m) * bytes ≤ 140737488355328) (hbase : base ≤ w.heap.size)
    (h : ∀ v' w', w'.ownsRow base e size v' (n + m) (xs ++ news) → w.grownBy w' v.ownBlock → (v'.ownBlock = v.ownBlock ∨ v'.ownBlock = some w.heap.size) → K (a.put o.dst v') w') :
    if Region.wanted o (yielded ops a.tmps) = true then Oper.wp P o a w K Q else E := by
  have hw : Region.wanted o (yielded ops a.tmps) = true := by simp [Region.wanted, hgd]
  rw [if_pos hw]
  obtain ⟨v', w', hrun, h2, h3, h4⟩ := run_app (P := P) o.type hT hown hr (c := c) h1 h63 hbytes hbase
  unfold Oper.wp execOp
  simp only [ho, resolve, invoke, builtin, Sem.run_bind, Sem.run_pure, Result.andThen_ok, List.map_toArray, List.map_cons, List.map_nil, hs, hx, hrun]
  exact h v' w' h2 h3 h4
end
/-- The first n of a row. -/
theorem Rd.pre {w : World} {B size n m : Nat} {A : Option Addr} {xs : List Value} (h : Rd w B size A n xs) (hm : m ≤ n) : Rd w B size A m (xs.take (m * size)) := by
  have hmm : m * size ≤ n * size := Nat.mul_le_mul_right _ hm
  refine ⟨by rw [List.length_take, h.1]; omega, fun h0 => ?_⟩
  obtain ⟨b, o, hA, hb, hc⟩ := h.2 (by omega)
  refine ⟨b, o, hA, hb, fun j hj => ?_⟩
  rw [hc j (by omega), List.getElem?_take, if_pos hj]
theorem Small.tail {r : Rw} {l : List Rw} (h : Small (r :: l)) : Small l := ⟨by have := h.1; rw [sumc_cons] at this; have := cost; unfold Small at h; omega, fun r' hr => h.2 r' (List.mem_cons_of_mem _ hr)⟩

end Go.Proofs.YtpkmciohehaboaaGreatDoor

/- The walk of drawbridgeref04.Add. -/
namespace Go.Proofs.YtpkmciohehaboaaGreatDoor
open Go.RowKit

theorem own_one (w : World) (B : Nat) (e : TypeId) (a b c : Value) (hB : B ≤ w.heap.size) : (w.alloc (.cells #[a, b, c] e)).ownsRow B e 3 (.slice (some ⟨w.heap.size, 0, none⟩) 1 1) 1 [a, b, c] :=
  ⟨by simp, .inr ⟨_, 1, #[a, b, c], rfl, hB, heapNew _ _, Nat.le_refl _, by unfold maxLen; omega, by simp, by simp⟩⟩
end Go.Proofs.YtpkmciohehaboaaGreatDoor

/- The walk of drawbridgelaw04.play: both tables have the same rows. -/
namespace Go.Proofs.YtpkmciohehaboaaGreatDoor
open Go.RowKit

theorem TM.more {w : World} {g mb mn c N N' : Nat} {A : Option Addr} {T : Tb} (h : TM w g mb mn A c N T) (hn : N ≤ N') (hN : N' ≤ 1099511627776) : TM w g mb mn A c N' T :=
  ⟨h.raw.more hn, h.ok, h.most0, h.most1, h.gone0, by have := h.many; omega, hN, h.fits⟩
theorem TabIs.more {w : World} {g N N' : Nat} {F : Nat → Prop} {T : Tb} (h : TabIs w g F N T) (hn : N ≤ N') (hN : N' ≤ 1099511627776) : TabIs w g F N' T := by
  obtain ⟨mb, mn, A, c, rfl, ht⟩ := h
  exact ⟨mb, mn, A, c, rfl, ht.more hn hN⟩
end Go.Proofs.YtpkmciohehaboaaGreatDoor

/- A decoder within a block, in memory; the walks of hpack.reader's number, text, row. -/
namespace Go.Proofs.YtpkmciohehaboaaGreatDoor
open Go.RowKit

def fds (l : List Fd) : List Value := l.flatMap fun f => [.string f.1.1, .string f.1.2, .bool f.2]
theorem fds_cons (f : Fd) (l : List Fd) : fds (f :: l) = .string f.1.1 :: .string f.1.2 :: .bool f.2 :: fds l := rfl
theorem fds_length (l : List Fd) : (fds l).length = l.length * 3 := by
  induction l with
  | nil => rfl
  | cons p l ih => rw [fds_cons]; simp only [List.length_cons, ih]; omega
theorem fds_app (l k : List Fd) : fds (l ++ k) = fds l ++ fds k := by simp [fds, List.flatMap_append]
theorem fds_one (l : List Fd) : ∀ u ∈ fds l, u.oneCell' = true := by
  induction l with
  | nil => intro u h; cases h
  | cons p L ih =>
    intro u h
    rw [fds_cons] at h
    simp only [List.mem_cons] at h
    rcases h with rfl | rfl | rfl | h
    · rfl
    · rfl
    · rfl
    · exact ih u h
theorem fds_get {l : List Fd} : ∀ {i : Nat} {f : Fd}, l[i]? = some f → (fds l)[i * 3]? = some (.string f.1.1) ∧ (fds l)[i * 3 + 1]? = some (.string f.1.2) ∧ (fds l)[i * 3 + 2]? = some (.bool f.2) := by
  induction l with
  | nil => intro i p h; simp at h
  | cons q L ih =>
    intro i p h
    rw [fds_cons]
    cases i with
    | zero => simp at h; subst h; exact ⟨rfl, rfl, rfl⟩
    | succ i =>
      have := ih (i := i) (f := p) (by simpa using h)
      rw [show (i + 1) * 3 = i * 3 + 1 + 1 + 1 by omega]
      simpa using this
/-- The panic that gives up with an error. -/
def errP (e : Nat) : Ending := .panicked [{ v := .iface 258 (.agg #[.int .i64 (e : Int)]), recovered := false }]
theorem Rd.kept {G : Nat → Prop} {w w' : World} {size n : Nat} {A : Option Addr} {xs : List Value} (h : Rd w w.heap.size size A n xs) (hk : Kept G w w') (hA : 0 < n → ∀ a, A = some a → ¬ G a.block) : Rd w' w'.heap.size size A n xs := by
  refine ⟨h.1, fun hn => ?_⟩
  by_cases h0 : 0 < n
  · obtain ⟨b, o, rfl, hb, hc⟩ := h.2 hn
    refine ⟨b, o, rfl, Nat.lt_of_lt_of_le hb hk.size, fun j hj => ?_⟩
    rw [← hc j hj]
    exact hk.cell hb (hA h0 _ rfl) _
  · exact absurd hn (by have : n = 0 := by omega
                        subst this; omega)
/-- The reader's cells. -/
def rdB (d : Nat) (AL : Option Addr) (n cl : Nat) (fv : Value) (co ch : Nat) : Obj := .cells #[.pointer (some ⟨d, 0, none⟩), .slice AL n cl, fv, .int .i64 (co : Int), .int .i64 (ch : Int)] 262 (0, 0)
def deB (mo li : Int) (g : Nat) (br : Bool) : Obj := .cells #[.int .i64 mo, .int .i64 li, .pointer (some ⟨g, 0, none⟩), .bool br] 168 (0, 0)
structure RdS (W w : World) (p d g N : Nat) (F0 F : Nat → Prop) (mo li : Int) (S : HSt) (AL : Option Addr) (cl : Nat) (fv : Value) : Prop where
  tab : TabIs w g F N S.T
  dec : w.heap[d]? = some (deB mo li g false)
  rdr : w.heap[p]? = some (rdB d AL S.left.length cl fv S.cost S.changes)
  left : Rd w w.heap.size 1 AL S.left.length (bvs S.left)
  lcap : S.left.length ≤ cl ∧ cl ≤ maxLen
  lF : 0 < S.left.length → ∀ a, AL = some a → ¬ F a.block ∧ a.block ≠ d ∧ a.block < W.heap.size
  fld : w.ownsRow W.heap.size 26 3 fv S.fields.length (fds S.fields)
  fF : ∀ k, fv.ownBlock = some k → ¬ F k ∧ k ≠ p
  grew : Grew W F0 F
  kept : Kept (fun k => k = d ∨ F0 k) W w
  dl : d < W.heap.size
  dF : ¬ F d
  pl : W.heap.size ≤ p
  pF : ¬ F p
section
variable {W w w' : World} {p d g N N' cl cl' : Nat} {F0 F F' : Nat → Prop} {mo li : Int} {S : HSt} {AL AL' : Option Addr} {fv fv' : Value}
theorem RdS.pw (h : RdS W w p d g N F0 F mo li S AL cl fv) : p < w.heap.size := (Array.getElem?_eq_some_iff.1 h.rdr).1
theorem RdS.dw (h : RdS W w p d g N F0 F mo li S AL cl fv) : d < w.heap.size := (Array.getElem?_eq_some_iff.1 h.dec).1
theorem RdS.cells (h : RdS W w p d g N F0 F mo li S AL cl fv) : w.cell? ⟨p, 0, none⟩ = some (.pointer (some ⟨d, 0, none⟩)) ∧ w.cell? ⟨p, 1, none⟩ = some (.slice AL S.left.length cl) ∧ w.cell? ⟨p, 2, none⟩ = some fv ∧ w.cell? ⟨p, 3, none⟩ = some (.int .i64 (S.cost : Int)) ∧ w.cell? ⟨p, 4, none⟩ = some (.int .i64 (S.changes : Int)) := by
  refine ⟨?_, ?_, ?_, ?_, ?_⟩ <;> (unfold World.cell?; rw [h.rdr]; rfl)
theorem RdS.dcells (h : RdS W w p d g N F0 F mo li S AL cl fv) : w.cell? ⟨d, 0, none⟩ = some (.int .i64 mo) ∧ w.cell? ⟨d, 1, none⟩ = some (.int .i64 li) ∧ w.cell? ⟨d, 2, none⟩ = some (.pointer (some ⟨g, 0, none⟩)) ∧ w.cell? ⟨d, 3, none⟩ = some (.bool false) := by
  refine ⟨?_, ?_, ?_, ?_⟩ <;> (unfold World.cell?; rw [h.dec]; rfl)
theorem RdS.free (h : RdS W w p d g N F0 F mo li S AL cl fv) (o : Nat) : w.frozen? ⟨p, o, none⟩ = false := by unfold World.frozen?; rw [h.rdr]; simp [rdB]
theorem RdS.more (h : RdS W w p d g N F0 F mo li S AL cl fv) (hn : N ≤ N') (hN : N' ≤ 1099511627776) : RdS W w p d g N' F0 F mo li S AL cl fv :=
  { h with tab := h.tab.more hn hN }
theorem own_kept4 {w w' : World} {v : Value} {base n : Nat} {e : TypeId} {size : Nat} {xs : List Value} {F : Nat → Prop} (h : w.ownsRow base e size v n xs) (hk : Kept F w w') (hF : ∀ q, v.ownBlock = some q → ¬ F q) : w'.ownsRow base e size v n xs := by
  rcases h with ⟨hl, ⟨rfl, h0⟩ | ⟨g, cap, cur, hv, hg, hb, h3⟩⟩
  · exact ⟨hl, .inl ⟨rfl, h0⟩⟩
  · exact ⟨hl, .inr ⟨g, cap, cur, hv, hg, (hk.block g (Array.getElem?_eq_some_iff.1 hb).1 (hF g (by rw [hv]; rfl))).trans hb, h3⟩⟩
/-- The table has turned; nothing else. -/
theorem RdS.tabStep (h : RdS W w p d g N F0 F mo li S AL cl fv) {T' : Tb} (ht : TabIs w' g F' N' T') (hk : Kept F w w') (hg : Grew w F F') : RdS W w' p d g N' F0 F' mo li { S with T := T' } AL cl fv :=
  { tab := ht
    dec := (hk.block d h.dw h.dF).trans h.dec
    rdr := (hk.block p h.pw h.pF).trans h.rdr
    left := h.left.kept hk (fun h0 a ha => (h.lF h0 a ha).1)
    lcap := h.lcap
    lF := fun h0 a ha => ⟨fun hf => (hg _ hf).elim (h.lF h0 a ha).1 (fun h2 => by have := (h.lF h0 a ha).2.2; have := h.kept.size; omega), (h.lF h0 a ha).2⟩
    fld := own_kept4 h.fld hk (fun q hq => (h.fF q hq).1)
    fF := fun k hk' => ⟨fun hf => (hg k hf).elim (h.fF k hk').1 (fun h2 => by have := (h.fld.lt k hk').2; omega), (h.fF k hk').2⟩
    grew := h.grew.trans hg h.kept.size
    kept := h.kept.trans (hk.mono (G := fun k => k = d ∨ F k) (fun k hk => .inr hk)) (fun k hk => hk.elim (fun e => .inl (.inl e)) (fun hf => (h.grew k hf).elim (fun a => .inl (.inr a)) .inr))
    dl := h.dl
    dF := fun hf => (hg _ hf).elim h.dF (fun h2 => by have := h.dw; omega)
    pl := h.pl
    pF := fun hf => (hg _ hf).elim h.pF (fun h2 => by have := h.pw; omega) }
theorem RdS.below (h : RdS W w p d g N F0 F mo li S AL cl fv) (hb : Below w.heap.size w w') : RdS W w' p d g N F0 F mo li S AL cl fv :=
  h.tabStep (T' := S.T) (h.tab.keep fun k hk => hb.block k (h.tab.lt k hk)) (Kept.of_below hb) (Grew.refl _ _)
/-- The reader's own cells have turned. -/
theorem RdS.turn (h : RdS W w p d g N F0 F mo li S AL cl fv) {S' : HSt} (hT : S'.T = S.T) (hk : Kept (fun k => k = p) w w') (hr : w'.heap[p]? = some (rdB d AL' S'.left.length cl' fv S'.cost S'.changes)) (hf : S'.fields = S.fields)
    (hl : Rd w' w'.heap.size 1 AL' S'.left.length (bvs S'.left)) (hc : S'.left.length ≤ cl' ∧ cl' ≤ maxLen) (hA : 0 < S'.left.length → ∀ a, AL' = some a → ∃ b, AL = some b ∧ a.block = b.block ∧ 0 < S.left.length) : RdS W w' p d g N F0 F mo li S' AL' cl' fv :=
  { tab := by rw [hT]; exact h.tab.keep fun k hk' => hk.block k (h.tab.lt k hk') (fun e => h.pF (e ▸ hk'))
    dec := (hk.block d h.dw (fun e => by have := h.dl; have := h.pl; omega)).trans h.dec
    rdr := hr
    left := hl
    lcap := hc
    lF := fun h0 a ha => by
      obtain ⟨b, hb, e, h1⟩ := hA h0 a ha
      rw [e]
      exact h.lF h1 b hb
    fld := by rw [hf]; exact own_kept4 h.fld hk (fun q hq e => (h.fF q hq).2 e)
    fF := h.fF
    grew := h.grew
    kept := ⟨hk.os.trans h.kept.os, hk.tape.trans h.kept.tape, hk.output.trans h.kept.output, Nat.le_trans h.kept.size hk.size, fun k hk1 hn => (hk.block k (Nat.lt_of_lt_of_le hk1 h.kept.size) (fun e => by have := h.pl; omega)).trans (h.kept.block k hk1 hn)⟩
    dl := h.dl
    dF := h.dF
    pl := h.pl
    pF := h.pF }
theorem set_b {w : World} {p o : Nat} {cs : Array Value} {t : TypeId} (v : Value) (h : w.heap[p]? = some (.cells cs t (0, 0))) : (w.setCell ⟨p, o, none⟩ v).heap[p]? = some (.cells (cs.setIfInBounds o v) t (0, 0)) := by
  simp only [World.setCell, Array.getElem?_modify, if_true]
  rw [h]; rfl
theorem add_block (b : Addr) (k : Nat) : (b.add k).block = b.block := by
  unfold Addr.add
  split <;> rfl
/-- What is left is the rest of it behind k bytes. -/
theorem RdS.advance (h : RdS W w p d g N F0 F mo li S AL cl fv) {k : Nat} (hk1 : 1 ≤ k) (hk : k ≤ S.left.length) {A' : Option Addr} (hA' : A' = if cl = k then AL else AL.map (·.add k)) :
    RdS W (w.setCell ⟨p, 1, none⟩ (.slice A' (S.left.length - k) (cl - k))) p d g N F0 F mo li { S with left := S.left.drop k } A' (cl - k) fv := by
  have hlen : (S.left.drop k).length = S.left.length - k := List.length_drop
  have hkw := (Kept.refl (fun q => q = p) w).setCell (g := p) rfl 1 (.slice A' (S.left.length - k) (cl - k))
  refine h.turn (S' := { S with left := S.left.drop k }) rfl hkw ?_ rfl ?_ ?_ ?_
  · rw [set_b _ h.rdr]
    simp only [hlen]
    rfl
  · have h1 := h.left.piece (lo := k) (hi := S.left.length) hk (Nat.le_refl _) h.lcap.1
    rw [Nat.mul_one, ← hA'] at h1
    have e : ((bvs S.left).drop k).take ((S.left.length - k) * 1) = bvs (S.left.drop k) := by
      unfold bvs
      rw [← List.map_drop, List.take_of_length_le (by simp)]
    rw [e] at h1
    simp only [hlen]
    refine h1.kept hkw (fun h0 a ha e => ?_)
    have hl := h.pl
    by_cases hc : cl = k
    · rw [if_pos hc] at hA'
      have := h.lcap.1
      omega
    · rw [if_neg hc] at hA'
      rw [hA'] at ha
      cases AL with
      | none => cases ha
      | some b =>
        injection ha with ha
        have := (h.lF (by omega) b rfl).2.2
        rw [← ha] at e
        change (b.add k).block = p at e
        rw [add_block] at e
        omega
  · simp only [hlen]
    have := h.lcap
    omega
  · intro h0 a ha
    simp only [hlen] at h0
    have hc : cl ≠ k := fun e => by have := h.lcap.1; omega
    rw [hA', if_neg hc] at ha
    cases AL with
    | none => cases ha
    | some b =>
      injection ha with ha
      exact ⟨b, rfl, by rw [← ha]; exact add_block b k, by omega⟩
end
/-- What a step of the reader may turn: its own block, the table's blocks, the fields' row; what these are afterwards. -/
structure Mv (w w' : World) (p : Nat) (F F' : Nat → Prop) (fv fv' : Value) : Prop where
  kept : Kept (fun k => k = p ∨ F k ∨ fv.ownBlock = some k) w w'
  grew : Grew w F F'
  own : ∀ k, fv'.ownBlock = some k → fv.ownBlock = some k ∨ w.heap.size ≤ k
theorem Mv.refl (w : World) (p : Nat) (F : Nat → Prop) (fv : Value) : Mv w w p F F fv fv := ⟨Kept.refl _ _, Grew.refl _ _, fun _ h => .inl h⟩
theorem Mv.trans {w w1 w2 : World} {p : Nat} {F F1 F2 : Nat → Prop} {fv fv1 fv2 : Value} (h : Mv w w1 p F F1 fv fv1) (h2 : Mv w1 w2 p F1 F2 fv1 fv2) : Mv w w2 p F F2 fv fv2 :=
  ⟨h.kept.trans h2.kept (fun k hk => by
    rcases hk with e | hf | e
    · exact .inl (.inl e)
    · exact (h.grew k hf).imp (fun h => .inr (.inl h)) id
    · exact (h.own k e).imp (fun h => .inr (.inr h)) id), h.grew.trans h2.grew h.kept.size, fun k hk => (h2.own k hk).elim (fun e => h.own k e) (fun e => .inr (Nat.le_trans h.kept.size e))⟩
theorem Mv.below {w w1 w2 : World} {p : Nat} {F F1 : Nat → Prop} {fv fv1 : Value} (h : Mv w w1 p F F1 fv fv1) (hb : Below w1.heap.size w1 w2) : Mv w w2 p F F1 fv fv1 :=
  h.trans ⟨Kept.of_below hb, Grew.refl _ _, fun _ h => .inl h⟩
theorem Mv.same (w : World) {p : Nat} {F : Nat → Prop} {fv : Value} {w' : World} (hk : Kept (fun k => k = p) w w') : Mv w w' p F F fv fv := ⟨hk.mono fun _ h => .inl h, Grew.refl _ _, fun _ h => .inl h⟩
theorem Mv.set (w : World) (p : Nat) (F : Nat → Prop) (fv : Value) (o : Nat) (v : Value) : Mv w (w.setCell ⟨p, o, none⟩ v) p F F fv fv := Mv.same w ((Kept.refl (fun k => k = p) w).setCell rfl o v)
/-- A block beside the reader. -/
structure By (w : World) (p : Nat) (F : Nat → Prop) (fv : Value) (b : Nat) (o : Option Obj) : Prop where
  lt : b < w.heap.size
  np : b ≠ p
  nF : ¬ F b
  nv : fv.ownBlock ≠ some b
  at_ : w.heap[b]? = o
theorem By.mv {w w' : World} {p b : Nat} {F F' : Nat → Prop} {fv fv' : Value} {o : Option Obj} (h : By w p F fv b o) (hm : Mv w w' p F F' fv fv') : By w' p F' fv' b o :=
  ⟨Nat.lt_of_lt_of_le h.lt hm.kept.size, h.np, fun hf => (hm.grew b hf).elim h.nF (fun hl => by have := h.lt; omega), fun hf => (hm.own b hf).elim h.nv (fun hl => by have := h.lt; omega),
    (hm.kept.block b h.lt (fun e => e.elim h.np (fun e => e.elim h.nF h.nv))).trans h.at_⟩
/-- A block that was just laid. -/
theorem By.new {W w : World} {p d g N cl : Nat} {F0 F : Nat → Prop} {mo li : Int} {S : HSt} {AL : Option Addr} {fv : Value} (h : RdS W w p d g N F0 F mo li S AL cl fv) (o : Obj) : By (w.alloc o) p F fv w.heap.size (some o) :=
  ⟨by simp, by have := h.pw; omega, fun hf => by have := h.tab.lt _ hf; omega, fun hf => by have := (h.fld.lt _ hf).2; omega, heapNew _ _⟩
def NumPost (W w : World) (p d g N : Nat) (F0 F : Nat → Prop) (mo li : Int) (S : HSt) (fv : Value) (r : Nat × Nat × Nat) (e : Ending) (w' : World) : Prop :=
  Mv w w' p F F fv fv ∧ ((r.2.2 ≠ 0 ∧ e = errP r.2.2 ∧ ∃ AL cl, RdS W w' p d g N F0 F mo li S AL cl fv) ∨ (r.2.2 = 0 ∧ e = .returned (.int .i64 (r.1 : Int)) ∧ ∃ AL cl, RdS W w' p d g N F0 F mo li { S with left := S.left.drop r.2.1 } AL cl fv))
set_option maxRecDepth 100000 in
set_option maxHeartbeats 2000000 in
theorem number_any2 {W w : World} {p d g N cl bits Fm : Nat} {F0 F : Nat → Prop} {mo li : Int} {S : HSt} {AL : Option Addr} {fv : Value} (hF : Full bits Fm) (h : RdS W w p d g N F0 F mo li S AL cl fv) :
    Calls Tryz.prog 203 #[.pointer (some ⟨p, 0, none⟩), .int .i64 bits] w (NumPost W w p d g N F0 F mo li S fv (takeI Fm S.left)) := by
  have ht := take_any (w := w) hF h.left h.lcap.1 h.lcap.2
  have hbd := takeI_bd hF.le.2 S.left
  obtain ⟨⟨m, a, z⟩, hv⟩ : ∃ r, takeI Fm S.left = r := ⟨_, rfl⟩
  rw [hv] at ht hbd ⊢
  simp only [tri] at ht hbd
  have HT := Lib.hid ht
  have HH := Lib.hid h
  obtain ⟨-, c1, -, -, -⟩ := h.cells
  have f1 := h.free 1
  have hcap := h.lcap
  obtain ⟨n, hn⟩ : ∃ n, S.left.length = n := ⟨_, rfl⟩
  have HN := Lib.hid hn
  rw [hn] at ht HT c1 hbd hcap
  obtain ⟨hc1, hc2⟩ := hcap
  unfold maxLen at hc2
  clear ht hv h hn
  by_cases hz : z = 0
  · subst hz
    obtain ⟨h31, ha1, han, -⟩ := hbd rfl
    obtain ⟨b, o, rfl⟩ : ∃ b o, AL = some ⟨b, o, none⟩ := by
      obtain ⟨b, o, e, -⟩ := HH.out.left.2 (by rw [HN.out]; omega)
      exact ⟨b, o, e⟩
    clear hbd
    by_cases hca : cl = a
    · obtain rfl : cl = n := by omega
      obtain rfl : a = cl := by omega
      have HE := Lib.hid (HH.out.advance (k := a) ha1 (by rw [HN.out]; exact han) (A' := some ⟨b, o, none⟩) (by rw [if_pos rfl]))
      go_enter Tryz.func203, Tryz.ntmps203
      go_wp2_with fail
      refine HT.out.mono ?_
      rintro e w1 ⟨rfl, rfl⟩
      go_wp2
      go_ret
      refine ⟨Mv.set _ _ _ _ _ _, .inr ⟨rfl, rfl, some ⟨b, o, none⟩, a - a, ?_⟩⟩
      have := HE.out
      rw [HN.out, Nat.sub_self] at this
      simpa using this
    · have HE := Lib.hid (HH.out.advance (k := a) ha1 (by rw [HN.out]; exact han) (A' := some ⟨b, o + a, none⟩) (by rw [if_neg hca]; simp [Addr.add_lit]))
      have hcn : a < cl := by omega
      go_enter Tryz.func203, Tryz.ntmps203
      go_wp2_with fail
      refine HT.out.mono ?_
      rintro e w1 ⟨rfl, rfl⟩
      go_wp2
      go_ret
      refine ⟨Mv.set _ _ _ _ _ _, .inr ⟨rfl, rfl, some ⟨b, o + a, none⟩, cl - a, ?_⟩⟩
      have := HE.out
      rw [HN.out] at this
      exact this
  · have hzn : ((z : Int) == 0) = false := by rw [beq_eq_false_iff_ne]; omega
    have hzn2 : ((z : Int) != 0) = true := by simpa using (show ¬ z = 0 by omega)
    have HZ := Lib.hid hz
    clear hbd hz
    go_enter Tryz.func203, Tryz.ntmps203
    go_wp2_with fail
    refine HT.out.mono ?_
    rintro e w1 ⟨rfl, rfl⟩
    go_wp2
    exact ⟨rfl, Mv.refl _ _ _ _, .inl ⟨HZ.out, rfl, _, _, HH.out⟩⟩
def TxtPost (W w : World) (p d g N : Nat) (F0 F : Nat → Prop) (mo li : Int) (S : HSt) (fv : Value) (r : Except Nat (ByteArray × List UInt8)) (e : Ending) (w' : World) : Prop :=
  Mv w w' p F F fv fv ∧ match r with
  | .error z => e = errP z ∧ ∃ AL cl, RdS W w' p d g N F0 F mo li S AL cl fv
  | .ok (s, l) => e = .returned (.string s) ∧ ∃ AL cl, RdS W w' p d g N F0 F mo li { S with left := l } AL cl fv
set_option maxRecDepth 100000 in
set_option maxHeartbeats 2000000 in
theorem text_any {W w : World} {p d g N cl : Nat} {F0 F : Nat → Prop} {mo li : Int} {S : HSt} {AL : Option Addr} {fv : Value} (h : RdS W w p d g N F0 F mo li S AL cl fv) (hl : S.left.length ≤ 1048576) :
    Calls Tryz.prog 218 #[.pointer (some ⟨p, 0, none⟩)] w (TxtPost W w p d g N F0 F mo li S fv (takeS S.left)) := by
  have ht := takeText_any (w := w) h.left h.lcap.1 h.lcap.2 hl
  have hbd := (takeT_bd2 S.left).1
  unfold takeS
  obtain ⟨⟨t, a, z⟩, hv⟩ : ∃ r, takeT S.left = r := ⟨_, rfl⟩
  rw [hv] at ht hbd ⊢
  simp only [triT] at ht hbd ⊢
  have HT := Lib.hid ht
  have HH := Lib.hid h
  have HB : Hid (∀ w', Below w.heap.size w w' → RdS W w' p d g N F0 F mo li S AL cl fv) := Lib.hid fun w' hb => h.below hb
  obtain ⟨-, c1, -, -, -⟩ := h.cells
  have hcap := h.lcap
  have hpw := h.pw
  obtain ⟨n, hn⟩ : ∃ n, S.left.length = n := ⟨_, rfl⟩
  have HN := Lib.hid hn
  rw [hn] at ht HT c1 hbd hcap hl
  obtain ⟨hc1, hc2⟩ := hcap
  unfold maxLen at hc2
  clear ht hv h hn
  by_cases hz : z = 0
  · subst hz
    obtain ⟨h31, ha1, han⟩ := hbd rfl
    rw [if_neg (by simp)]
    obtain ⟨b, o, rfl⟩ : ∃ b o, AL = some ⟨b, o, none⟩ := by
      obtain ⟨b, o, e, -⟩ := HH.out.left.2 (by rw [HN.out]; omega)
      exact ⟨b, o, e⟩
    clear hbd
    by_cases hca : cl = a
    · obtain rfl : cl = n := by omega
      obtain rfl : a = cl := by omega
      go_enter Tryz.func218, Tryz.ntmps218
      go_wp2_with fail
      refine HT.out.mono ?_
      rintro e w1 ⟨rfl, hb1⟩
      have H1 := Lib.hid (HB.out w1 hb1)
      have HM := Lib.hid ((Mv.refl w p F fv).below hb1)
      obtain ⟨-, d1, -, -, -⟩ := H1.out.cells
      rw [HN.out] at d1
      have f1 := H1.out.free 1
      clear hb1
      go_wp2
      go_ret
      refine ⟨HM.out.trans (Mv.set _ _ _ _ _ _), rfl, some ⟨b, o, none⟩, a - a, ?_⟩
      have := H1.out.advance (k := a) ha1 (by rw [HN.out]; exact han) (A' := some ⟨b, o, none⟩) (by rw [if_pos rfl])
      rw [HN.out, Nat.sub_self] at this
      simpa using this
    · have hcn : a < cl := by omega
      go_enter Tryz.func218, Tryz.ntmps218
      go_wp2_with fail
      refine HT.out.mono ?_
      rintro e w1 ⟨rfl, hb1⟩
      have H1 := Lib.hid (HB.out w1 hb1)
      have HM := Lib.hid ((Mv.refl w p F fv).below hb1)
      obtain ⟨-, d1, -, -, -⟩ := H1.out.cells
      rw [HN.out] at d1
      have f1 := H1.out.free 1
      clear hb1
      go_wp2
      go_ret
      refine ⟨HM.out.trans (Mv.set _ _ _ _ _ _), rfl, some ⟨b, o + a, none⟩, cl - a, ?_⟩
      have := H1.out.advance (k := a) ha1 (by rw [HN.out]; exact han) (A' := some ⟨b, o + a, none⟩) (by rw [if_neg hca]; simp [Addr.add_lit])
      rw [HN.out] at this
      exact this
  · have hzn : ((z : Int) == 0) = false := by rw [beq_eq_false_iff_ne]; omega
    have hzn2 : ((z : Int) != 0) = true := by simpa using (show ¬ z = 0 by omega)
    rw [if_pos hz]
    clear hbd hz
    go_enter Tryz.func218, Tryz.ntmps218
    go_wp2_with fail
    refine HT.out.mono ?_
    rintro e w1 ⟨rfl, hb1⟩
    have H1 := Lib.hid (HB.out w1 hb1)
    have HM := Lib.hid ((Mv.refl w p F fv).below hb1)
    clear hb1
    go_wp2
    exact ⟨rfl, HM.out, rfl, _, _, H1.out⟩
/-- The row with a number. -/
def RowPost (W w : World) (p d g N : Nat) (F0 F : Nat → Prop) (mo li : Int) (S : HSt) (AL : Option Addr) (cl : Nat) (fv : Value) (r : Option Rw) (e : Ending) (w' : World) : Prop :=
  Below w.heap.size w w' ∧ RdS W w' p d g N F0 F mo li S AL cl fv ∧ e = match r with
  | none => errP 40
  | some r => .returned (fieldV r false)
set_option maxRecDepth 100000 in
set_option maxHeartbeats 2000000 in
theorem row_any {W w : World} {p d g N cl : Nat} {F0 F : Nat → Prop} {mo li : Int} {S : HSt} {AL : Option Addr} {fv : Value} (n : Int) (h : RdS W w p d g N F0 F mo li S AL cl fv) (hnb : n ≤ 9223372036854775807) :
    Calls Tryz.prog 202 #[.pointer (some ⟨p, 0, none⟩), .int .i64 n] w (RowPost W w p d g N F0 F mo li S AL cl fv (atRows S.T.rows n)) := by
  obtain ⟨W0, hW0⟩ : ∃ W0, w.alloc (.cells #[.string emptyB, .string emptyB, .bool false] 26) = W0 := ⟨_, rfl⟩
  obtain ⟨q, hq⟩ : ∃ q, w.heap.size = q := ⟨_, rfl⟩
  have b0 : Below w.heap.size w W0 := by rw [← hW0]; exact (Below.refl _ _).alloc (Nat.le_refl _) _
  have h0 := h.below b0
  have k0 : W0.heap[q]? = some (.cells #[.string emptyB, .string emptyB, .bool false] 26 (0, 0)) := by rw [← hW0, ← hq]; exact heapNew _ _
  have hql : q < W0.heap.size := by rw [← hW0, ← hq]; simp
  obtain ⟨c0, -, -, -, -⟩ := h0.cells
  obtain ⟨-, -, d2, -⟩ := h0.dcells
  have HA := Lib.hid (at_any n W0 h0.tab hnb)
  have HW0 := Lib.hid hW0
  have HQ := Lib.hid hq
  have HH := Lib.hid h
  have HB0 := Lib.hid b0
  have HK := Lib.hid k0
  clear hW0 hq b0 h0 k0 h
  go_enter Tryz.func202, Tryz.ntmps202
  go_upto_region 1 with fail
  rw [show (w.alloc (.cells #[.string ⟨#[]⟩, .string ⟨#[]⟩, .bool false] 26)) = W0 from HW0.out, HQ.out]
  go_wp2_with fail
  refine HA.out.mono ?_
  rintro e w1 ⟨rfl, hb1⟩
  have H1 := Lib.hid (HH.out.below (HB0.out.trans (hb1.mono HB0.out.size)))
  have k1 : w1.heap[q]? = some (.cells #[.string emptyB, .string emptyB, .bool false] 26 (0, 0)) := (hb1.block q hql).trans HK.out
  have HBB := Lib.hid (HB0.out.trans (hb1.mono HB0.out.size))
  have hqs : w.heap.size = q := HQ.out
  have HQE : Hid (w.heap.size ≤ q) := Lib.hid (Nat.le_of_eq hqs)
  have hq1 : q < w1.heap.size := Nat.lt_of_lt_of_le hql hb1.size
  have g0 : w1.cell? ⟨q, 0, none⟩ = some (.string emptyB) := by unfold World.cell?; rw [k1]; rfl
  have g1 : w1.cell? ⟨q, 1, none⟩ = some (.string emptyB) := by unfold World.cell?; rw [k1]; rfl
  have g2 : w1.cell? ⟨q, 2, none⟩ = some (.bool false) := by unfold World.cell?; rw [k1]; rfl
  have fz : ∀ o, w1.frozen? ⟨q, o, none⟩ = false := fun o => by unfold World.frozen?; rw [k1]; simp
  cases hat : atRows S.T.rows n with
  | none =>
    have HAT := Lib.hid hat
    clear hb1 hat hqs k1
    simp only [atV, fieldV]
    go_wp2
    have hle := HBB.out.size
    refine ⟨rfl, HBB.out.alloc (by omega) _, H1.out.below ((Below.refl _ _).alloc (Nat.le_refl _) _), ?_⟩
    rw [HAT.out]; rfl
  | some r =>
    have HAT := Lib.hid hat
    clear hb1 hqs k1 hat
    simp only [atV, fieldV]
    go_wp2
    refine bodyPost_ret (v := fieldV r false) (by simp [results, Tryz.results202, go_sem, fieldV, g0, g1, g2, hq1]) rfl ?_
    have hle := HQE.out
    have hbb := (((HBB.out.setCell (p := ⟨q, 0, none⟩) (by simp only; omega) (.string r.1)).setCell (p := ⟨q, 1, none⟩) (by simp only; omega) (.string r.2)).setCell (p := ⟨q, 2, none⟩) (by simp only; omega) (.bool false)).alloc (by have := HBB.out.size; simp [World.setCell]; omega) (.cells #[.string r.1, .string r.2, .bool false] 26)
    exact ⟨hbb, HH.out.below hbb, by rw [HAT.out]⟩
end Go.Proofs.YtpkmciohehaboaaGreatDoor
