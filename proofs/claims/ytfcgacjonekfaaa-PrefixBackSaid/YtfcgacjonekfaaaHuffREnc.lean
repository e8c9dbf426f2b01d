/- The walk of drawbridgeref02.Encode: it makes what huff.Encode makes. -/
import Derived.Test.YtfcgacjonekfaaaHuffEnc
import Derived.Test.YtfcgacjonekfaaaHuffSize
namespace Go.Proofs.Ytfcgacjonekfaaa
open Go.RowKit

theorem bvs_put (l : List UInt8) (j : Nat) (c : UInt8) : (bvs l).set j (bv c) = bvs (l.set j c) := by simp [bvs, List.map_set]
/-- The codes lie in block gc. -/
def CC (w : World) (gc : Nat) : Prop := ∀ i, i < 257 → w.cell? ⟨gc, i, none⟩ = some (.int .u32 ((codeT.getD i 0 : Nat) : Int))
theorem CC.set_ {w : World} {gc g : Nat} (h : CC w gc) (hne : gc ≠ g) (j : Nat) (v : Value) : CC (w.setCell ⟨g, j, none⟩ v) gc :=
  fun i hi => (World.cell?_setCell_other w ⟨g, j, none⟩ ⟨gc, i, none⟩ v (fun e => by injection e with e; exact hne e.symm)).trans (h i hi)
/-- The row that fills up. -/
structure Row (W w : World) (gl gc g N T V : Nat) : Prop where
  own : w.ownsRow W.heap.size 5 1 (.slice (some ⟨g, 0, none⟩) N N) N (bvs (fill N T V))
  lc : LC w gl
  cc : CC w gc
  bel : Below W.heap.size W w
theorem Row.bit {W w : World} {gl gc g N T V b : Nat} (h : Row W w gl gc g N T V) (hb : b < 2) (hr : T % 8 < 7) : Row W w gl gc g N (T + 1) (2 * V + b) :=
  ⟨by rw [(fill_bit hb hr).1]; exact h.own, h.lc, h.cc, h.bel⟩
theorem Row.byte {W w : World} {gl gc g N T V b : Nat} (h : Row W w gl gc g N T V) (hb : b < 2) (hr : T % 8 = 7) (hN : T / 8 < N) (h1 : gl ≠ g) (h2 : gc ≠ g) (hg : W.heap.size ≤ g) :
    Row W (w.setCell ⟨g, T / 8, none⟩ (.int .u8 ((V % 2 ^ (T % 8) * 2 + b : Nat) : Int))) gl gc g N (T + 1) (2 * V + b) := by
  obtain ⟨f1, -, f3⟩ := fill_byte (N := N) (V := V) hb hr hN
  have hst := (World.ownsRow.stored h.own (T / 8) (bv (UInt8.ofNat (V % 2 ^ (T % 8) * 2 + b)))).1
  rw [bvs_put, ← f1] at hst
  rw [bv, toNat_ofNat f3] at hst
  exact ⟨hst, h.lc.set_ h1 _ _, h.cc.set_ h2 _ _, h.bel.setCell (p := ⟨g, _, none⟩) hg _⟩
theorem Row.cell {W w : World} {gl gc g N T V : Nat} (h : Row W w gl gc g N T V) {j : Nat} (hj : j < N) (hT : T / 8 ≤ N) : ∃ x : Nat, w.cell? ⟨g, j, none⟩ = some (.int .u8 (x : Int)) := by
  refine ⟨ba (fill N T V) j, ?_⟩
  rw [World.ownsRow.cellAt h.own j (by omega), bvs, List.getElem?_map, List.getElem?_eq_getElem (by rw [fill_length V hT]; exact hj)]
  simp [bv, ba, List.getD, List.getElem?_eq_getElem (show j < (fill N T V).length by rw [fill_length V hT]; exact hj)]
theorem Row.frozen {W w : World} {gl gc g N T V : Nat} (h : Row W w gl gc g N T V) (j : Nat) : w.frozen? ⟨g, j, none⟩ = false := World.ownsRow.frozenAt h.own j

/-- Behind k bytes of the text. -/
def REncRel (W : World) (gl gc g N : Nat) (l : List UInt8) (av pv iv : Value) (w : World) : Prop :=
  ∃ k T V p : Nat, iv = .int .i64 k ∧ k ≤ l.length ∧ av = .int .i64 T ∧ pv = .int .u8 p ∧ T = nbits (l.take k) ∧ V = vbits (l.take k) ∧ p = V % 2 ^ (T % 8) ∧ Row W w gl gc g N T V
/-- j bits of a code are to come. -/
def BitRel (W : World) (gl gc g N T0 V0 n c : Nat) (av pv jv : Value) (w : World) : Prop :=
  ∃ j T V p : Nat, jv = .int .i64 ((j : Int) - 1) ∧ j ≤ n ∧ av = .int .i64 T ∧ pv = .int .u8 p ∧ T = T0 + (n - j) ∧ V = V0 * 2 ^ (n - j) + c / 2 ^ j ∧ p = V % 2 ^ (T % 8) ∧ Row W w gl gc g N T V
/-- q ones are added. -/
def PadRel (W : World) (gl gc g N T0 V0 : Nat) (av pv : Value) (w : World) : Prop :=
  ∃ q T V p : Nat, av = .int .i64 T ∧ pv = .int .u8 p ∧ T = T0 + q ∧ V = V0 * 2 ^ q + (2 ^ q - 1) ∧ T ≤ 8 * N ∧ (T % 8 = 0 ∨ p = V % 2 ^ (T % 8)) ∧ Row W w gl gc g N T V

set_option maxRecDepth 100000 in
set_option maxHeartbeats 2000000 in
theorem renc_any (s : ByteArray) (w : World) (hs : s.size ≤ 1048576) : Calls Try.prog 29 #[.string s] w (RetB w (encB s.data.toList)) := by
  have hget := get_ba s
  have hlen := str_len s
  have HL := Lib.hid hlen
  have hnb := (nbits_le s.data.toList).2
  rw [hlen] at hnb
  clear hlen
  obtain ⟨i0, hi0, hz0, hz1, hz2⟩ := info_parts tBytes.info
  go_enter Try.func29, Try.ntmps29
  go_wp2_with fail
  refine (rlengths_any w).mono ?_
  rintro e w1 ⟨gl, rfl, hownl, hb1⟩
  have hlc : LC w1 gl := fun i hi => by rw [World.ownsRow.cellAt hownl i (by omega), i64s_get (by rw [tab_lengths.1]; exact hi)]
  have hgl := (hownl.lt gl rfl).2
  have HLC := Lib.hid hlc
  clear hownl hlc
  go_wp2_with fail
  refine (rcodes_any w1).mono ?_
  rintro e w2 ⟨gc, rfl, hownc, hb2⟩
  have hcc : CC w2 gc := fun i hi => by rw [World.ownsRow.cellAt hownc i (by omega), u32s_get (by rw [tab_lengths.2.1]; exact hi)]
  have hgc := (hownc.lt gc rfl).2
  have HCC := Lib.hid hcc
  clear hownc hcc
  go_wp2_with fail
  refine (rsize_any s w2 hs).mono ?_
  rintro e w3 ⟨rfl, hb3⟩
  obtain ⟨N, hN⟩ : ∃ N, N = nbytes s.data.toList := ⟨_, rfl⟩
  rw [← hN]
  have hNb : nbits s.data.toList ≤ 8 * N := by rw [hN]; unfold nbytes; omega
  have hN4 : N ≤ 4194304 := by rw [hN]; unfold nbytes; omega
  have HN := Lib.hid hN
  have hs1 := hb1.size
  have hs2 := hb2.size
  have hs3 := hb3.size
  have hbel3 : Below w.heap.size w w3 := (hb1.trans (hb2.mono hs1)).trans (hb3.mono (by omega))
  clear hN
  go_wp2_with (at_make; refine wpList_make_full _ rfl _ _ 31 rfl w.heap.size 5 i0 (.int .u8 0) 1 Try.underlying31 hi0 hz0 hz1 _ _ _ _ N rfl rfl rfl rfl (by rw [hz2]; omega) (by unfold maxLen; omega) (by omega) ?_; intro w4 hown4 hg4)
  have hz : (madeCells (Value.int .u8 0).cells (N * 1)).toList = bvs (fill N 0 0) := by
    rw [show (Value.int .u8 0).cells = #[Value.int .u8 0] from rfl, toList_madeCells_one, fill_zero]; simp [bvs, bv]
  rw [hz] at hown4
  have hlc3 : LC w3 gl := fun i hi => ((hb2.mono (show gl + 1 ≤ w1.heap.size by omega)).trans (hb3.mono (show gl + 1 ≤ w2.heap.size by omega))).cell (p := ⟨gl, i, none⟩) (Nat.lt_succ_self _) |>.trans (HLC.out i hi)
  have hcc3 : CC w3 gc := fun i hi => hb3.cell (p := ⟨gc, i, none⟩) hgc |>.trans (HCC.out i hi)
  have hrow : Row w w4 gl gc w3.heap.size N 0 0 := ⟨hown4, fun i hi => hg4.cell (hlc3 i hi) (by simp), fun i hi => hg4.cell (hcc3 i hi) (by simp), hbel3.grown hg4 (by omega) (fun k hk => by cases hk)⟩
  have hne1 : gl ≠ w3.heap.size := by omega
  have hne2 : gc ≠ w3.heap.size := by omega
  have hge : w.heap.size ≤ w3.heap.size := by omega
  generalize w3.heap.size = g at *
  have HR := Lib.hid hrow
  clear hrow hz hown4 hg4 hlc3 hcc3 hi0 hz0 hz1 hz2 HLC HCC hb1 hb2 hb3 hbel3
  go_loopw [6, 7, 8] (REncRel w gl gc g N s.data.toList) (fun _ _ i _ => s.size - (intOf i).toNat)
  case atStart => exact ⟨0, 0, 0, 0, rfl, by omega, rfl, rfl, rfl, rfl, rfl, HR.out⟩
  case round =>
    obtain ⟨k, T, V, p, rfl, hk, rfl, rfl, hT, hV, hp, hrow⟩ := hrel
    rw [HL.out] at hk
    have HTV := Lib.hid (And.intro hT (And.intro hV hp))
    have HR := Lib.hid hrow
    by_cases hlt : k < s.size
    · have hb := ba_lt s.data.toList k
      have hb257 : (ba s.data.toList k : Int) < 257 := by omega
      have hcl := hrow.lc (ba s.data.toList k) (by omega)
      have hn30 := lens_le (ba s.data.toList k)
      have hc32 := code_lt (ba s.data.toList k)
      have hfit := code_fits (ba s.data.toList k) (by omega)
      have hvn := vbits_take (l := s.data.toList) (k := k) (by rw [HL.out]; exact hlt)
      have hnn := nbits_take (l := s.data.toList) (k := k) (by rw [HL.out]; exact hlt)
      have htot := nbits_take_le s.data.toList (k + 1)
      rw [hnn, ← hT] at htot
      obtain ⟨n, hn⟩ : ∃ n, n = lensN.getD (ba s.data.toList k) 0 := ⟨_, rfl⟩
      obtain ⟨c, hc⟩ : ∃ c, c = codeT.getD (ba s.data.toList k) 0 := ⟨_, rfl⟩
      rw [← hn] at hcl hn30 hfit hvn hnn htot
      rw [← hc] at hc32 hfit hvn
      have HC := Lib.hid hc
      have HVN := Lib.hid (And.intro hvn (And.intro hnn hfit))
      clear hrow hT hV hp hvn hnn hfit hn hc
      go_wp2
      go_loopw [6, 7, 9] (BitRel w gl gc g N T V n c) (fun _ _ j _ => (intOf j + 1).toNat)
      case atStart => exact ⟨n, T, V, p, by go_num, Nat.le_refl _, rfl, rfl, by omega, by rw [Nat.sub_self, Nat.pow_zero, Nat.mul_one, Nat.div_eq_of_lt HVN.out.2.2, Nat.add_zero], HTV.out.2.2, HR.out⟩
      case round =>
        clear hcl
        obtain ⟨j, T1, V1, p1, rfl, hj, rfl, rfl, hT1, hV1, hp1, hrow⟩ := hrel
        cases j with
        | zero =>
          have HR := Lib.hid hrow
          have HTV1 := Lib.hid (And.intro hT1 (And.intro hV1 hp1))
          clear hrow hT1 hV1 hp1
          go_wp2
          refine ⟨⟨k + 1, T1, V1, p1, by go_num, by rw [HL.out]; omega, rfl, rfl, ?_, ?_, HTV1.out.2.2, HR.out⟩, by simp [intOf]; omega⟩
          · rw [HVN.out.2.1, HTV1.out.1, HTV.out.1]; rfl
          · rw [HVN.out.1, HTV1.out.2.1, HTV.out.2.1]; simp
        | succ j' =>
          have hcx := hrow.cc (ba s.data.toList k) (by omega)
          rw [← HC.out] at hcx
          obtain ⟨y, hy⟩ : ∃ y, y = c / 2 ^ j' := ⟨_, rfl⟩
          have ey : (c : Int) / 2 ^ j' = (y : Int) := by rw [hy]; simp
          have hy32 : y < 4294967296 := by rw [hy]; exact Nat.lt_of_le_of_lt (Nat.div_le_self _ _) (by omega)
          have eb := and_one32 y hy32
          obtain ⟨b, hbt⟩ : ∃ b, b = y % 2 := ⟨_, rfl⟩
          rw [← hbt] at eb
          have hb2 : b < 2 := by omega
          have ej : ((j' + 1 : Nat) : Int) - 1 = (j' : Int) := by omega
          have hT1b : T1 + 1 ≤ 8 * N := by omega
          have hvx := bit_next V n c j' (by omega)
          rw [← hV1, ← hy, ← hbt] at hvx
          have hp128 : p1 < 128 := by
            rw [hp1]
            exact Nat.lt_of_lt_of_le (Nat.mod_lt _ (Nat.pow_pos (by decide))) (Nat.pow_le_pow_right (by omega) (show T1 % 8 ≤ 7 by omega) : 2 ^ (T1 % 8) ≤ 2 ^ 7)
          by_cases h7 : T1 % 8 < 7
          · have hfb := (fill_bit (N := N) (V := V1) hb2 h7).2
            have hrow2 := hrow.bit hb2 h7
            have e8 : ((T1 : Int) + 1) % 8 = ((T1 % 8 + 1 : Nat) : Int) := by omega
            have e9 : (((T1 % 8 + 1 : Nat) : Int) == 0) = false := by rw [beq_eq_false_iff_ne]; omega
            generalize T1 % 8 + 1 = u at e8 e9
            rw [hvx] at hfb hrow2
            rw [← hp1] at hfb
            have HR := Lib.hid hrow2
            have HX := Lib.hid (And.intro hfb (And.intro hT1 hy))
            clear hrow hrow2 hT1 hV1 hp1 hvx hfb hy hbt h7
            rw [ej]
            go_wp2
            obtain ⟨hfb, hT1, hy⟩ := HX.out
            exact ⟨⟨j', T1 + 1, V * 2 ^ (n - j') + c / 2 ^ j', p1 * 2 + b, rfl, by omega, by go_num, by go_num, by omega, rfl, by rw [← hy]; exact hfb.symm, by rw [← hy]; exact HR.out⟩, by simp [intOf] <;> omega⟩
          · have h7' : T1 % 8 = 7 := by omega
            have hq : T1 / 8 < N := by omega
            obtain ⟨hx0, hx256⟩ := (fill_byte (N := N) (V := V1) hb2 h7' hq).2
            have hrow2 := hrow.byte hb2 h7' hq hne1 hne2 hge
            obtain ⟨cx, hcell⟩ := hrow.cell hq (by omega)
            have hfro := hrow.frozen (T1 / 8)
            have e9 : (((T1 : Int) + 1) % 8 == 0) = true := by rw [beq_iff_eq]; omega
            obtain ⟨q, hq'⟩ : ∃ q, q = T1 / 8 := ⟨_, rfl⟩
            have e10 : ((T1 : Int) + 1) / 8 = (q : Int) + 1 := by omega
            rw [← hq'] at hq hrow2 hcell hfro
            rw [hvx] at hx0 hrow2
            rw [← hp1] at hrow2 hx256
            have hval : ((p1 * 2 + b : Nat) : Int) = (p1 : Int) * 2 + (b : Int) := by omega
            rw [hval] at hrow2
            have HR := Lib.hid hrow2
            have HX := Lib.hid (And.intro hx0 (And.intro hT1 hy))
            clear hrow hrow2 hT1 hV1 hp1 hvx hy hbt h7 h7' hq' hx0 hval
            rw [ej]
            go_wp2
            obtain ⟨hx0, hT1, hy⟩ := HX.out
            exact ⟨⟨j', T1 + 1, V * 2 ^ (n - j') + c / 2 ^ j', 0, rfl, by omega, by go_num, rfl, by omega, rfl, by rw [← hy]; exact hx0.symm, by rw [← hy]; exact HR.out⟩, by simp [intOf] <;> omega⟩
    · obtain rfl : k = s.size := by omega
      have hall : s.data.toList.take s.size = s.data.toList := List.take_of_length_le (by rw [HL.out]; exact Nat.le_refl _)
      have hTN : T ≤ 8 * N := by rw [hT, hall]; exact hNb
      clear hrow hT hV hp hall
      go_wp2
      go_loopw [6, 7] (PadRel w gl gc g N T V) (fun a _ _ => (8 * N - (intOf a).toNat))
      case atStart => exact ⟨0, T, V, p, rfl, rfl, rfl, by simp, hTN, Or.inr HTV.out.2.2, HR.out⟩
      case round =>
        obtain ⟨q, T1, V1, p1, rfl, rfl, hT1, hV1, hT1N, hp1, hrow⟩ := hrel
        by_cases h0 : T1 % 8 = 0
        · have e1 : ((T1 : Int) % 8 != 0) = false := by rw [bne_eq_false_iff_eq]; omega
          have hTN2 := HTV.out.1
          have hVN2 := HTV.out.2.1
          have hall : s.data.toList.take s.size = s.data.toList := List.take_of_length_le (by rw [HL.out]; exact Nat.le_refl _)
          rw [hall] at hTN2 hVN2
          have hq8 : q < 8 := by have := HN.out; unfold nbytes at this; omega
          have hfe := fill_end s.data.toList q (by rw [← hTN2, ← hT1]; exact h0) hq8
          rw [← HN.out, ← hTN2, ← hVN2, ← hT1, ← hV1] at hfe
          have hown := hrow.own
          rw [hfe] at hown
          have hle : (encB s.data.toList).length = N := by rw [encB_length, HN.out]
          have HO := Lib.hid hown
          have HLE := Lib.hid hle
          have hbf := hrow.bel
          clear hown hle hfe hrow hTN2 hVN2 hall hT1 hV1 hp1 h0
          go_wp2
          go_ret
          exact ⟨_, rfl, by unfold OwnB; rw [HLE.out]; exact HO.out, hbf⟩
        · have hp1' := hp1.resolve_left h0
          have hp128 : p1 < 128 := by
            rw [hp1']
            exact Nat.lt_of_lt_of_le (Nat.mod_lt _ (Nat.pow_pos (by decide))) (Nat.pow_le_pow_right (by omega) (show T1 % 8 ≤ 7 by omega) : 2 ^ (T1 % 8) ≤ 2 ^ 7)
          have e1 : ((T1 : Int) % 8 != 0) = true := by rw [bne_iff_ne]; omega
          have hvx : 2 * V1 + 1 = V * 2 ^ (q + 1) + (2 ^ (q + 1) - 1) := by
            rw [hV1, Nat.pow_succ, ← Nat.mul_assoc]
            have : 0 < 2 ^ q := Nat.pow_pos (by decide)
            omega
          by_cases h7 : T1 % 8 < 7
          · have hfb := (fill_bit (N := N) (V := V1) (b := 1) (by omega) h7).2
            have hrow2 := hrow.bit (b := 1) (by omega) h7
            have e9 : (((T1 : Int) + 1) % 8 == 0) = false := by rw [beq_eq_false_iff_ne]; omega
            have hlt2 : T1 + 1 ≤ 8 * N := by omega
            rw [hvx] at hfb hrow2
            rw [← hp1'] at hfb
            have HR := Lib.hid hrow2
            have HX := Lib.hid (And.intro hfb hT1)
            clear hrow hrow2 hT1 hV1 hp1 hp1' hvx hfb h7 h0
            go_wp2
            obtain ⟨hfb, hT1⟩ := HX.out
            exact ⟨⟨q + 1, T1 + 1, V * 2 ^ (q + 1) + (2 ^ (q + 1) - 1), p1 * 2 + 1, by go_num, by go_num, by omega, rfl, hlt2, Or.inr hfb.symm, HR.out⟩, by simp [intOf]; omega⟩
          · have h7' : T1 % 8 = 7 := by omega
            have hq : T1 / 8 < N := by omega
            have hrow2 := hrow.byte (b := 1) (by omega) h7' hq hne1 hne2 hge
            obtain ⟨cx, hcell⟩ := hrow.cell hq (by omega)
            have hfro := hrow.frozen (T1 / 8)
            have e9 : (((T1 : Int) + 1) % 8 == 0) = true := by rw [beq_iff_eq]; omega
            obtain ⟨u, hu⟩ : ∃ u, u = T1 / 8 := ⟨_, rfl⟩
            have e10 : ((T1 : Int) + 1) / 8 = (u : Int) + 1 := by omega
            have hlt2 : T1 + 1 ≤ 8 * N := by omega
            have h08 : (T1 + 1) % 8 = 0 := by omega
            rw [← hu] at hq hrow2 hcell hfro
            rw [hvx] at hrow2
            rw [← hp1'] at hrow2
            have hval : ((p1 * 2 + 1 : Nat) : Int) = (p1 : Int) * 2 + 1 := by omega
            rw [hval] at hrow2
            have HR := Lib.hid hrow2
            have HX := Lib.hid (And.intro h08 hT1)
            clear hrow hrow2 hT1 hV1 hp1 hp1' hvx h7 h7' h0 hu hval h08
            go_wp2
            obtain ⟨h08, hT1⟩ := HX.out
            exact ⟨⟨q + 1, T1 + 1, V * 2 ^ (q + 1) + (2 ^ (q + 1) - 1), p1 * 2 + 1, by go_num, by go_num, by omega, rfl, hlt2, Or.inl h08, HR.out⟩, by simp [intOf]; omega⟩
end Go.Proofs.Ytfcgacjonekfaaa
