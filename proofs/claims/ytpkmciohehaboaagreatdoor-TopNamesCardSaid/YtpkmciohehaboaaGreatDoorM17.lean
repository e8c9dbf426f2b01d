/- 7 texts in one: Rq1, Rq2, Rq3, Rq4, Re2, Re3, Rp1. -/
import Derived.Test.YtpkmciohehaboaaGreatDoorM7
import Derived.Test.YtpkmciohehaboaaGreatDoorM4
import Derived.Test.YtpkmciohehaboaaGreatDoorM16
import Derived.Test.YtpkmciohehaboaaGreatDoorM9
import Derived.BigQuiet
import Derived.Deep.RegionHeld3
import Derived.BigGuard
/- The walk of ref03.PutInt (printed by gen_rq.py). -/
namespace Go.Proofs.YtpkmciohehaboaaGreatDoor
open Go.RowKit

set_option maxRecDepth 100000 in
set_option maxHeartbeats 1000000 in
theorem rput_any (f bits n F : Nat) (w : World) (hF : Full bits F) (hf : f < 256) (hfl : f % (F + 1) = 0) (hn32 : n < 4294967296) :
    Calls Tryz.prog 50 #[.int .u8 f, .int .i64 bits, .int .u32 n] w (RetB w (putB f F n)) := by
  have h8 := hF.hi
  have hF' := hF.le
  have hlt : f + F < 256 := (hF.or8 hf hfl (n := F) (by omega)).2
  have HE := Lib.hid hF.eq
  have HFL := Lib.hid hfl
  clear hF hfl
  go_enter Tryz.func50, Tryz.ntmps50
  go_wp2
  go_loop [7, 8] (DblRel .u32 bits) (fun _ i => bits - (intOf i).toNat)
  case atStart => exact ⟨0, 1, rfl, rfl, by omega, rfl, by omega⟩
  case round =>
    obtain ⟨k, p, rfl, rfl, hk, hp, hp256⟩ := hrel
    have HP := Lib.hid hp
    clear hp
    by_cases hlt : k < bits
    · have hp128 := (DblRel.next HP.out hlt h8).2
      go_wp2
      go_round
      case rel => exact ⟨k + 1, p * 2, by go_num, by go_num, by omega, (DblRel.next HP.out hlt h8).1, by omega⟩
      case measure => simp [intOf]; omega
    · obtain rfl : p = F + 1 := by rw [HP.out, HE.out]; congr 1; omega
      by_cases hs : n < F
      · go_wp2
        go_ret
        have hp : putB f F n = [UInt8.ofNat (f + n)] := by simp [putB, hs]
        rw [hp]
        have hv : bvs [UInt8.ofNat (f + n)] = [.int .u8 ((f : Int) + n)] := by simp only [bvs, bv, List.map_cons, List.map_nil, toNat_ofNat (show f + n < 256 by omega)]; congr 1
        refine ⟨_, rfl, ?_, (Below.refl _ _).alloc (Nat.le_refl _) _⟩
        unfold OwnB
        rw [hv]
        exact World.ownsRow_lit (base := w.heap.size) (e := 5) (size := 1) w #[_] 1 (Nat.le_refl _) (by unfold maxLen; omega) rfl
      · have hT : putB f F n = UInt8.ofNat (f + F) :: tailF 5 (n - F) := by simp only [putB]; rw [if_neg (by omega)]
        have HT := Lib.hid hT
        have e4 : decide (n < F) = false := by simpa using hs
        have e7 : decide (k < bits) = false := by simpa using hlt
        clear hT
        go_wp2
        clear e4 e7
        go_loopw [9, 2] (PutRel w (putB f F n)) (fun _ m _ => (intOf m).toNat)
        case atStart =>
          refine ⟨[UInt8.ofNat (f + F)], 5, n - F, HT.out, by omega, by simp, by omega, by congr 1; omega, ?_, (Below.refl _ _).alloc (Nat.le_refl _) _⟩
          unfold OwnB
          have hv : bvs [UInt8.ofNat (f + F)] = [.int .u8 ((f : Int) + F)] := by simp only [bvs, bv, List.map_cons, List.map_nil, toNat_ofNat (show f + F < 256 by omega)]; congr 1
          rw [hv]
          exact World.ownsRow_lit (base := w.heap.size) (e := 5) (size := 1) w #[_] 1 (Nat.le_refl _) (by unfold maxLen; omega) rfl
        case round =>
          obtain ⟨d, k, x, hd, hx, hdk, hx32, rfl, hown, hbel⟩ := hrel
          have HD := Lib.hid hd
          have HX := Lib.hid hx
          clear hd hx
          by_cases hlt : 128 ≤ x
          · go_wp2_with (at_builtin; refine wpList_app (.tmp 37) (.tmp 42) tBytes rfl rfl (World.ownsRow.alloc hown _) rfl (Rd.one _ _ _) rfl (oneInt _ _) (le_maxLen (by omega)) (by omega) (by have := hbel.size; simp; omega) ?_; intro v1 w1 hown1 hg1 _)
            go_roundw
            case rel =>
              obtain ⟨k', rfl⟩ : ∃ k', k = k' + 1 := ⟨k - 1, by have := HX.out; cases k with | zero => simp at this; omega | succ k => rfl⟩
              refine ⟨d ++ [UInt8.ofNat (x % 128 + 128)], k', x / 128, ?_, ?_, by simp; omega, by omega, ?_, ?_, ?_⟩
              · rw [HD.out, tailF_big _ _ hlt, List.append_assoc]; rfl
              · exact Nat.div_lt_of_lt_mul (by have := HX.out; rw [Nat.pow_succ, Nat.mul_comm] at this; exact this)
              · go_num
              · exact OwnB.snoc hown1 (by rw [bv, toNat_ofNat (by omega)]; congr 1)
              · exact Below.app (hbel.alloc hbel.size _) (World.ownsRow.alloc hown _) hg1 (Nat.le_refl _) (by have := hbel.size; simp; omega)
            case measure => simp [intOf]; omega
          · go_wp2_with (at_builtin; refine wpList_app (.tmp 46) (.tmp 49) tBytes rfl rfl (World.ownsRow.alloc hown _) rfl (Rd.one _ _ _) rfl (oneInt _ _) (le_maxLen (by omega)) (by omega) (by have := hbel.size; simp; omega) ?_; intro v1 w1 hown1 hg1 _)
            go_ret
            refine ⟨v1, rfl, ?_, ?_⟩
            · rw [HD.out, tailF_small _ _ (by omega)]
              exact OwnB.snoc hown1 (by rw [bv, toNat_ofNat (by omega)])
            · exact Below.app (hbel.alloc hbel.size _) (World.ownsRow.alloc hown _) hg1 (Nat.le_refl _) (by have := hbel.size; simp; omega)
end Go.Proofs.YtpkmciohehaboaaGreatDoor

/- The walk of ref02.Size (printed by gen_rq.py). -/
namespace Go.Proofs.YtpkmciohehaboaaGreatDoor
open Go.RowKit

set_option maxRecDepth 100000 in
set_option maxHeartbeats 1000000 in
theorem rhsize_any (s : ByteArray) (w : World) (hs : s.size ≤ 1048576) : Calls Tryz.prog 88 #[.string s] w fun e w' => e = .returned (.int .i64 (nbytes s.data.toList : Int)) ∧ Below w.heap.size w w' := by
  have hget := get_ba s
  have hlen := str_len s
  have HL := Lib.hid hlen
  clear hlen
  go_enter Tryz.func88, Tryz.ntmps88
  go_wp2_with fail
  refine (rlengths_any w).mono ?_
  rintro e w1 ⟨g, rfl, hown, hb1⟩
  have hcell : ∀ i, i < 257 → w1.cell? ⟨g, i, none⟩ = some (.int .i64 ((lensN.getD i 0 : Nat) : Int)) := fun i hi => by
    rw [World.ownsRow.cellAt hown i (by omega), i64s_get (by rw [tab_lengths.1]; exact hi)]
  have HC := Lib.hid hcell
  clear hcell hown
  go_wp2
  go_loop [4, 5] (SizeRel s.data.toList) (fun _ i => s.size - (intOf i).toNat)
  case atStart => exact ⟨0, 0, rfl, rfl, by omega, rfl, by omega⟩
  case round =>
    obtain ⟨k, t, rfl, rfl, hk, ht, ht30⟩ := hrel
    have HT := Lib.hid ht
    rw [HL.out] at hk
    clear ht
    by_cases hlt : k < s.size
    · have hb := ba_lt s.data.toList k
      have hcl := HC.out (ba s.data.toList k) (by omega)
      have hn := lens_le (ba s.data.toList k)
      have hnext := nbits_take (l := s.data.toList) (k := k) (by rw [HL.out]; exact hlt)
      generalize lensN.getD (ba s.data.toList k) 0 = n at *
      have HN := Lib.hid hnext
      have hb257 : (ba s.data.toList k : Int) < 257 := by omega
      clear hnext
      go_wp2
      go_round
      case rel => exact ⟨k + 1, t + n, by go_num, by go_num, by rw [HL.out]; omega, by rw [HN.out, HT.out], by omega⟩
      case measure => simp [intOf]; omega
    · obtain rfl : k = s.size := by omega
      have e1 : decide (s.size < s.size) = false := by simp
      go_wp2
      clear e1
      go_loop [4] (UpRel t) (fun i => t + 7 - (intOf i).toNat)
      case atStart => exact ⟨t, rfl, by omega, by omega, by omega, rfl⟩
      case round =>
        obtain ⟨x, rfl, hx1, hx2, hx3, hx4⟩ := hrel
        have HX := Lib.hid hx4
        have HX2 := Lib.hid hx2
        clear hx4 hx2
        by_cases h8 : x % 8 = 0
        · have e2 : ((x : Int) % 8 != 0) = false := by simp; omega
          have H8 := Lib.hid h8
          clear h8
          go_wp2
          go_ret
          have ht : t = nbits s.data.toList := by rw [HT.out, List.take_of_length_le (by rw [HL.out]; exact Nat.le_refl _)]
          have hr : ((x : Int) / 8) = ((nbytes s.data.toList : Nat) : Int) := by
            unfold nbytes
            rw [← ht, HX.out]
            have := H8.out
            omega
          exact ⟨ret_v (congrArg (Value.int .i64) hr), hb1⟩
        · have e2 : ((x : Int) % 8 != 0) = true := by simp; omega
          have h7 : x < t + 7 := by have := HX2.out; have := HX.out; omega
          have hn1 : (t + 7) / 8 = (x + 1 + 7) / 8 := by have := HX.out; omega
          have hn2 : (x + 1 - 1) / 8 ≤ (t - 1) / 8 := by have := HX2.out; have := HX.out; omega
          have HN := Lib.hid (And.intro hn1 hn2)
          clear h8 hn1 hn2
          go_wp2
          go_round
          case rel => exact ⟨x + 1, by go_num, by omega, HN.out.2, by omega, HN.out.1⟩
          case measure => simp [intOf]; omega
end Go.Proofs.YtpkmciohehaboaaGreatDoor

/- The walk of ref02.Encode (printed by gen_rq.py). -/
namespace Go.Proofs.YtpkmciohehaboaaGreatDoor
open Go.RowKit

set_option maxRecDepth 100000 in
set_option maxHeartbeats 2000000 in
theorem renc_any (s : ByteArray) (w : World) (hs : s.size ≤ 1048576) : Calls Tryz.prog 89 #[.string s] w (RetB w (encB s.data.toList)) := by
  have hget := get_ba s
  have hlen := str_len s
  have HL := Lib.hid hlen
  have hnb := (nbits_le s.data.toList).2
  rw [hlen] at hnb
  clear hlen
  obtain ⟨i0, hi0, hz0, hz1, hz2⟩ := info_parts tBytes.info
  go_enter Tryz.func89, Tryz.ntmps89
  go_wp2_with fail
  refine (rlengths_any w).mono ?_
  rintro e w1 ⟨gl, rfl, hownl, hb1⟩
  have hlc : LC w1 gl := fun i hi => by rw [World.ownsRow.cellAt hownl i (by omega), i64s_get (by rw [tab_lengths.1]; exact hi)]
  have hgl := (hownl.lt gl rfl).2
  have HLC := Lib.hid hlc
  clear hownl hlc
  go_wp2_with fail
  refine (rcodes_any w1).mono ?_
  rintro e w2 ⟨gc, rfl, hownc, hb2⟩
  have hcc : CC w2 gc := fun i hi => by rw [World.ownsRow.cellAt hownc i (by omega), u32s_get (by rw [tab_lengths.2.1]; exact hi)]
  have hgc := (hownc.lt gc rfl).2
  have HCC := Lib.hid hcc
  clear hownc hcc
  go_wp2_with fail
  refine (rhsize_any s w2 hs).mono ?_
  rintro e w3 ⟨rfl, hb3⟩
  obtain ⟨N, hN⟩ : ∃ N, N = nbytes s.data.toList := ⟨_, rfl⟩
  rw [← hN]
  have hNb : nbits s.data.toList ≤ 8 * N := by rw [hN]; unfold nbytes; omega
  have hN4 : N ≤ 4194304 := by rw [hN]; unfold nbytes; omega
  have HN := Lib.hid hN
  have hs1 := hb1.size
  have hs2 := hb2.size
  have hs3 := hb3.size
  have hbel3 : Below w.heap.size w w3 := (hb1.trans (hb2.mono hs1)).trans (hb3.mono (by omega))
  clear hN
  go_wp2_with (at_make; refine wpList_make_full _ rfl _ _ 48 rfl w.heap.size 5 i0 (.int .u8 0) 1 Tryz.underlying48 hi0 hz0 hz1 _ _ _ _ N rfl rfl rfl rfl (by rw [hz2]; omega) (by unfold maxLen; omega) (by omega) ?_; intro w4 hown4 hg4)
  have hz : (madeCells (Value.int .u8 0).cells (N * 1)).toList = bvs (fill N 0 0) := by
    rw [show (Value.int .u8 0).cells = #[Value.int .u8 0] from rfl, toList_madeCells_one, fill_zero]; simp [bvs, bv]
  rw [hz] at hown4
  have hlc3 : LC w3 gl := fun i hi => ((hb2.mono (show gl + 1 ≤ w1.heap.size by omega)).trans (hb3.mono (show gl + 1 ≤ w2.heap.size by omega))).cell (p := ⟨gl, i, none⟩) (Nat.lt_succ_self _) |>.trans (HLC.out i hi)
  have hcc3 : CC w3 gc := fun i hi => hb3.cell (p := ⟨gc, i, none⟩) hgc |>.trans (HCC.out i hi)
  have hrow : Row w w4 gl gc w3.heap.size N 0 0 := ⟨hown4, fun i hi => hg4.cell (hlc3 i hi) (by simp), fun i hi => hg4.cell (hcc3 i hi) (by simp), hbel3.grown hg4 (by omega) (fun k hk => by cases hk)⟩
  have hne1 : gl ≠ w3.heap.size := by omega
  have hne2 : gc ≠ w3.heap.size := by omega
  have hge : w.heap.size ≤ w3.heap.size := by omega
  generalize w3.heap.size = g at *
  have HR := Lib.hid hrow
  clear hrow hz hown4 hg4 hlc3 hcc3 hi0 hz0 hz1 hz2 HLC HCC hb1 hb2 hb3 hbel3
  go_loopw [6, 7, 8] (REncRel w gl gc g N s.data.toList) (fun _ _ i _ => s.size - (intOf i).toNat)
  case atStart => exact ⟨0, 0, 0, 0, rfl, by omega, rfl, rfl, rfl, rfl, rfl, HR.out⟩
  case round =>
    obtain ⟨k, T, V, p, rfl, hk, rfl, rfl, hT, hV, hp, hrow⟩ := hrel
    rw [HL.out] at hk
    have HTV := Lib.hid (And.intro hT (And.intro hV hp))
    have HR := Lib.hid hrow
    by_cases hlt : k < s.size
    · have hb := ba_lt s.data.toList k
      have hb257 : (ba s.data.toList k : Int) < 257 := by omega
      have hcl := hrow.lc (ba s.data.toList k) (by omega)
      have hn30 := lens_le (ba s.data.toList k)
      have hc32 := code_lt (ba s.data.toList k)
      have hfit := code_fits (ba s.data.toList k) (by omega)
      have hvn := vbits_take (l := s.data.toList) (k := k) (by rw [HL.out]; exact hlt)
      have hnn := nbits_take (l := s.data.toList) (k := k) (by rw [HL.out]; exact hlt)
      have htot := nbits_take_le s.data.toList (k + 1)
      rw [hnn, ← hT] at htot
      obtain ⟨n, hn⟩ : ∃ n, n = lensN.getD (ba s.data.toList k) 0 := ⟨_, rfl⟩
      obtain ⟨c, hc⟩ : ∃ c, c = codeT.getD (ba s.data.toList k) 0 := ⟨_, rfl⟩
      rw [← hn] at hcl hn30 hfit hvn hnn htot
      rw [← hc] at hc32 hfit hvn
      have HC := Lib.hid hc
      have HVN := Lib.hid (And.intro hvn (And.intro hnn hfit))
      clear hrow hT hV hp hvn hnn hfit hn hc
      go_wp2
      go_loopw [6, 7, 9] (BitRel w gl gc g N T V n c) (fun _ _ j _ => (intOf j + 1).toNat)
      case atStart => exact ⟨n, T, V, p, by go_num, Nat.le_refl _, rfl, rfl, by omega, by rw [Nat.sub_self, Nat.pow_zero, Nat.mul_one, Nat.div_eq_of_lt HVN.out.2.2, Nat.add_zero], HTV.out.2.2, HR.out⟩
      case round =>
        clear hcl
        obtain ⟨j, T1, V1, p1, rfl, hj, rfl, rfl, hT1, hV1, hp1, hrow⟩ := hrel
        cases j with
        | zero =>
          have HR := Lib.hid hrow
          have HTV1 := Lib.hid (And.intro hT1 (And.intro hV1 hp1))
          clear hrow hT1 hV1 hp1
          go_wp2
          refine ⟨⟨k + 1, T1, V1, p1, by go_num, by rw [HL.out]; omega, rfl, rfl, ?_, ?_, HTV1.out.2.2, HR.out⟩, by simp [intOf]; omega⟩
          · rw [HVN.out.2.1, HTV1.out.1, HTV.out.1]; rfl
          · rw [HVN.out.1, HTV1.out.2.1, HTV.out.2.1]; simp
        | succ j' =>
          have hcx := hrow.cc (ba s.data.toList k) (by omega)
          rw [← HC.out] at hcx
          obtain ⟨y, hy⟩ : ∃ y, y = c / 2 ^ j' := ⟨_, rfl⟩
          have ey : (c : Int) / 2 ^ j' = (y : Int) := by rw [hy]; simp
          have hy32 : y < 4294967296 := by rw [hy]; exact Nat.lt_of_le_of_lt (Nat.div_le_self _ _) (by omega)
          have eb := and_one32 y hy32
          obtain ⟨b, hbt⟩ : ∃ b, b = y % 2 := ⟨_, rfl⟩
          rw [← hbt] at eb
          have hb2 : b < 2 := by omega
          have ej : ((j' + 1 : Nat) : Int) - 1 = (j' : Int) := by omega
          have hT1b : T1 + 1 ≤ 8 * N := by omega
          have hvx := bit_next V n c j' (by omega)
          rw [← hV1, ← hy, ← hbt] at hvx
          have hp128 : p1 < 128 := by
            rw [hp1]
            exact Nat.lt_of_lt_of_le (Nat.mod_lt _ (Nat.pow_pos (by decide))) (Nat.pow_le_pow_right (by omega) (show T1 % 8 ≤ 7 by omega) : 2 ^ (T1 % 8) ≤ 2 ^ 7)
          by_cases h7 : T1 % 8 < 7
          · have hfb := (fill_bit (N := N) (V := V1) hb2 h7).2
            have hrow2 := hrow.bit hb2 h7
            have e8 : ((T1 : Int) + 1) % 8 = ((T1 % 8 + 1 : Nat) : Int) := by omega
            have e9 : (((T1 % 8 + 1 : Nat) : Int) == 0) = false := by rw [beq_eq_false_iff_ne]; omega
            generalize T1 % 8 + 1 = u at e8 e9
            rw [hvx] at hfb hrow2
            rw [← hp1] at hfb
            have HR := Lib.hid hrow2
            have HX := Lib.hid (And.intro hfb (And.intro hT1 hy))
            clear hrow hrow2 hT1 hV1 hp1 hvx hfb hy hbt h7
            rw [ej]
            go_wp2
            obtain ⟨hfb, hT1, hy⟩ := HX.out
            exact ⟨⟨j', T1 + 1, V * 2 ^ (n - j') + c / 2 ^ j', p1 * 2 + b, rfl, by omega, by go_num, by go_num, by omega, rfl, by rw [← hy]; exact hfb.symm, by rw [← hy]; exact HR.out⟩, by simp [intOf] <;> omega⟩
          · have h7' : T1 % 8 = 7 := by omega
            have hq : T1 / 8 < N := by omega
            obtain ⟨hx0, hx256⟩ := (fill_byte (N := N) (V := V1) hb2 h7' hq).2
            have hrow2 := hrow.byte hb2 h7' hq hne1 hne2 hge
            obtain ⟨cx, hcell⟩ := hrow.cell hq (by omega)
            have hfro := hrow.frozen (T1 / 8)
            have e9 : (((T1 : Int) + 1) % 8 == 0) = true := by rw [beq_iff_eq]; omega
            obtain ⟨q, hq'⟩ : ∃ q, q = T1 / 8 := ⟨_, rfl⟩
            have e10 : ((T1 : Int) + 1) / 8 = (q : Int) + 1 := by omega
            rw [← hq'] at hq hrow2 hcell hfro
            rw [hvx] at hx0 hrow2
            rw [← hp1] at hrow2 hx256
            have hval : ((p1 * 2 + b : Nat) : Int) = (p1 : Int) * 2 + (b : Int) := by omega
            rw [hval] at hrow2
            have HR := Lib.hid hrow2
            have HX := Lib.hid (And.intro hx0 (And.intro hT1 hy))
            clear hrow hrow2 hT1 hV1 hp1 hvx hy hbt h7 h7' hq' hx0 hval
            rw [ej]
            go_wp2
            obtain ⟨hx0, hT1, hy⟩ := HX.out
            exact ⟨⟨j', T1 + 1, V * 2 ^ (n - j') + c / 2 ^ j', 0, rfl, by omega, by go_num, rfl, by omega, rfl, by rw [← hy]; exact hx0.symm, by rw [← hy]; exact HR.out⟩, by simp [intOf] <;> omega⟩
    · obtain rfl : k = s.size := by omega
      have hall : s.data.toList.take s.size = s.data.toList := List.take_of_length_le (by rw [HL.out]; exact Nat.le_refl _)
      have hTN : T ≤ 8 * N := by rw [hT, hall]; exact hNb
      clear hrow hT hV hp hall
      go_wp2
      go_loopw [6, 7] (PadRel w gl gc g N T V) (fun a _ _ => (8 * N - (intOf a).toNat))
      case atStart => exact ⟨0, T, V, p, rfl, rfl, rfl, by simp, hTN, Or.inr HTV.out.2.2, HR.out⟩
      case round =>
        obtain ⟨q, T1, V1, p1, rfl, rfl, hT1, hV1, hT1N, hp1, hrow⟩ := hrel
        by_cases h0 : T1 % 8 = 0
        · have e1 : ((T1 : Int) % 8 != 0) = false := by rw [bne_eq_false_iff_eq]; omega
          have hTN2 := HTV.out.1
          have hVN2 := HTV.out.2.1
          have hall : s.data.toList.take s.size = s.data.toList := List.take_of_length_le (by rw [HL.out]; exact Nat.le_refl _)
          rw [hall] at hTN2 hVN2
          have hq8 : q < 8 := by have := HN.out; unfold nbytes at this; omega
          have hfe := fill_end s.data.toList q (by rw [← hTN2, ← hT1]; exact h0) hq8
          rw [← HN.out, ← hTN2, ← hVN2, ← hT1, ← hV1] at hfe
          have hown := hrow.own
          rw [hfe] at hown
          have hle : (encB s.data.toList).length = N := by rw [encB_length, HN.out]
          have HO := Lib.hid hown
          have HLE := Lib.hid hle
          have hbf := hrow.bel
          clear hown hle hfe hrow hTN2 hVN2 hall hT1 hV1 hp1 h0
          go_wp2
          go_ret
          exact ⟨_, rfl, by unfold OwnB; rw [HLE.out]; exact HO.out, hbf⟩
        · have hp1' := hp1.resolve_left h0
          have hp128 : p1 < 128 := by
            rw [hp1']
            exact Nat.lt_of_lt_of_le (Nat.mod_lt _ (Nat.pow_pos (by decide))) (Nat.pow_le_pow_right (by omega) (show T1 % 8 ≤ 7 by omega) : 2 ^ (T1 % 8) ≤ 2 ^ 7)
          have e1 : ((T1 : Int) % 8 != 0) = true := by rw [bne_iff_ne]; omega
          have hvx : 2 * V1 + 1 = V * 2 ^ (q + 1) + (2 ^ (q + 1) - 1) := by
            rw [hV1, Nat.pow_succ, ← Nat.mul_assoc]
            have : 0 < 2 ^ q := Nat.pow_pos (by decide)
            omega
          by_cases h7 : T1 % 8 < 7
          · have hfb := (fill_bit (N := N) (V := V1) (b := 1) (by omega) h7).2
            have hrow2 := hrow.bit (b := 1) (by omega) h7
            have e9 : (((T1 : Int) + 1) % 8 == 0) = false := by rw [beq_eq_false_iff_ne]; omega
            have hlt2 : T1 + 1 ≤ 8 * N := by omega
            rw [hvx] at hfb hrow2
            rw [← hp1'] at hfb
            have HR := Lib.hid hrow2
            have HX := Lib.hid (And.intro hfb hT1)
            clear hrow hrow2 hT1 hV1 hp1 hp1' hvx hfb h7 h0
            go_wp2
            obtain ⟨hfb, hT1⟩ := HX.out
            exact ⟨⟨q + 1, T1 + 1, V * 2 ^ (q + 1) + (2 ^ (q + 1) - 1), p1 * 2 + 1, by go_num, by go_num, by omega, rfl, hlt2, Or.inr hfb.symm, HR.out⟩, by simp [intOf]; omega⟩
          · have h7' : T1 % 8 = 7 := by omega
            have hq : T1 / 8 < N := by omega
            have hrow2 := hrow.byte (b := 1) (by omega) h7' hq hne1 hne2 hge
            obtain ⟨cx, hcell⟩ := hrow.cell hq (by omega)
            have hfro := hrow.frozen (T1 / 8)
            have e9 : (((T1 : Int) + 1) % 8 == 0) = true := by rw [beq_iff_eq]; omega
            obtain ⟨u, hu⟩ : ∃ u, u = T1 / 8 := ⟨_, rfl⟩
            have e10 : ((T1 : Int) + 1) / 8 = (u : Int) + 1 := by omega
            have hlt2 : T1 + 1 ≤ 8 * N := by omega
            have h08 : (T1 + 1) % 8 = 0 := by omega
            rw [← hu] at hq hrow2 hcell hfro
            rw [hvx] at hrow2
            rw [← hp1'] at hrow2
            have hval : ((p1 * 2 + 1 : Nat) : Int) = (p1 : Int) * 2 + 1 := by omega
            rw [hval] at hrow2
            have HR := Lib.hid hrow2
            have HX := Lib.hid (And.intro h08 hT1)
            clear hrow hrow2 hT1 hV1 hp1 hp1' hvx h7 h7' h0 hu hval h08
            go_wp2
            obtain ⟨h08, hT1⟩ := HX.out
            exact ⟨⟨q + 1, T1 + 1, V * 2 ^ (q + 1) + (2 ^ (q + 1) - 1), p1 * 2 + 1, by go_num, by go_num, by omega, rfl, hlt2, Or.inl h08, HR.out⟩, by simp [intOf]; omega⟩
end Go.Proofs.YtpkmciohehaboaaGreatDoor

/- The walk of ref03.PutText (printed by gen_rq.py). -/
namespace Go.Proofs.YtpkmciohehaboaaGreatDoor
open Go.RowKit

set_option maxRecDepth 100000 in
set_option maxHeartbeats 1000000 in
theorem rputText_bits (s : ByteArray) (w : World) (hs : s.size ≤ 1048576) (hlt : nbytes s.data.toList < s.size) :
    Calls Tryz.prog 53 #[.string s] w (RetB w (textB s.data.toList)) := by
  have hE := encB_length s.data.toList
  have hT := textB_bits (l := s.data.toList) (by rw [str_len]; exact hlt)
  have HT := Lib.hid hT
  clear hT
  go_enter Tryz.func53, Tryz.ntmps53
  go_wp2_with fail
  refine (rhsize_any s w hs).mono ?_
  rintro e w2 ⟨rfl, hb2⟩
  go_wp2_with fail
  refine (renc_any s w2 hs).mono ?_
  rintro e w3 ⟨v3, rfl, hown3, hb3⟩
  obtain ⟨A, c, rfl, -, -, hrd, -⟩ := own_slice hown3
  rw [hE] at hrd ⊢
  have HRD := Lib.hid hrd
  have HE := Lib.hid hE
  have hb13 := hb2.tr2 hb3
  have hs3 := hb13.size
  clear hown3 hrd hE
  generalize nbytes s.data.toList = n at *
  go_wp2_with fail
  refine (rput_any 128 7 n 127 w3 full7 (by omega) rfl (by omega)).mono ?_
  rintro e w4 ⟨v4, rfl, hown4, hb4⟩
  have HO4 := Lib.hid hown4
  have hp7 := (putB_length 128 127 n).1
  have hw4 := hb13.tr2 hb4
  have hs4 := hw4.size
  have hs34 := hb4.size
  clear hown4
  go_wp2_with (at_builtin; refine wpList_app (.tmp 14) (.tmp 15) tBytes rfl rfl HO4.out rfl (HRD.out.below hb4 (Nat.le_refl _)) rfl (bvs_one _) (le_maxLen (by omega)) (by omega) hs34 ?_; intro v5 w5 hown5 hg5 _)
  go_ret
  refine ⟨v5, rfl, ?_, Below.app hw4 HO4.out hg5 hs3 hs4⟩
  rw [HT.out]
  exact own_app (by rw [HE.out]; exact hown5) hs3

set_option maxRecDepth 100000 in
set_option maxHeartbeats 1000000 in
theorem rputText_raw (s : ByteArray) (w : World) (hs : s.size ≤ 1048576) (hlt : s.size ≤ nbytes s.data.toList) :
    Calls Tryz.prog 53 #[.string s] w (RetB w (textB s.data.toList)) := by
  have hT := textB_raw (l := s.data.toList) (by rw [str_len]; exact hlt)
  rw [str_len] at hT
  have HT := Lib.hid hT
  clear hT
  have HL := Lib.hid (str_len s)
  obtain ⟨i0, hi, hz0, hz1, hz2⟩ := info_parts infoU8
  go_enter Tryz.func53, Tryz.ntmps53
  go_wp2_with fail
  refine (rhsize_any s w hs).mono ?_
  rintro e w2 ⟨rfl, hb2⟩
  have hs2 := hb2.size
  go_wp2_with fail
  refine (rput_any 0 7 s.size 127 w2 full7 (by omega) rfl (by omega)).mono ?_
  rintro e w4 ⟨v4, rfl, hown4, hb4⟩
  have HO4 := Lib.hid hown4
  have hp7 := (putB_length 0 127 s.size).1
  have hw4 := hb2.tr2 hb4
  have hs4 := hw4.size
  have hs34 := hb4.size
  clear hown4
  go_wp2_with (at_builtin; refine Lib.wpList_append_own_string _ rfl (.tmp 20) (.tmp 21) 48 9 rfl w2.heap.size 5 i0 Tryz.underlying48 Tryz.underlying9 hi hz0 hz1 hz2 _ _ _ rfl HO4.out s rfl (le_maxLen (by omega)) (by omega) hs34 ?_; intro v5 w5 hown5 hg5 _)
  go_ret
  refine ⟨v5, rfl, ?_, Below.app hw4 HO4.out hg5 hs2 hs4⟩
  rw [HT.out]
  exact own_app (by rw [HL.out]; exact hown5) hs2

theorem rputText_any (s : ByteArray) (w : World) (hs : s.size ≤ 1048576) : Calls Tryz.prog 53 #[.string s] w (RetB w (textB s.data.toList)) := by
  by_cases h : nbytes s.data.toList < s.size
  · exact rputText_bits s w hs h
  · exact rputText_raw s w hs (by omega)
end Go.Proofs.YtpkmciohehaboaaGreatDoor

/- The walks of ref05.NewEncoder, Encode, with a table that holds nothing. -/
namespace Go.Proofs.YtpkmciohehaboaaGreatDoor
open Go.RowKit

/-- The document's encoder with an empty table that may hold nothing. -/
def REnc (w : World) (e : Nat) (told : Int) : Prop := w.heap[e]? = some (.cells #[.int .i64 0, .int .i64 told, .int .i64 0, .int .i64 0, .slice none 0 0] 113 (0, 0))
def T0 : Tb := ⟨0, 0, []⟩
def E0 : Enc := ⟨0, 4096, 0, T0⟩
theorem renew_any (w : World) : Calls Tryz.prog 16 #[.int .i64 0] w fun e w' => e = .returned (.pointer (some ⟨w.heap.size, 0, none⟩)) ∧ REnc w' w.heap.size 4096 ∧ Below w.heap.size w w' := by
  have hn := heapNew w (.cells #[.int .i64 0, .int .i64 4096, .int .i64 0, .int .i64 0, .slice none 0 0] 113)
  have HN := Lib.hid hn
  clear hn
  go_enter Tryz.func16, Tryz.ntmps16
  go_wp2_with fail
  go_ret
  exact ⟨rfl, HN.out, (Below.refl _ _).alloc (Nat.le_refl _) _⟩
/-- The state of Encode's loop. -/
def ReRel (w : World) (e n : Nat) (l : List Fd) (ov iv : Value) (wr : World) : Prop :=
  ∃ k : Nat, iv = .int .i64 (k : Nat) ∧ k ≤ n ∧ OwnB wr w.heap.size ov (32 :: (encL T0 (l.take k)).1) ∧ REnc wr e 0 ∧ Kept (fun b => b = e) w wr
theorem encL_T0 : ∀ (l : List Fd), (encL T0 l).2 = T0 ∧ ∀ r, (encL T0 (l ++ r)).1 = (encL T0 l).1 ++ (encL T0 r).1
  | [] => ⟨rfl, fun r => rfl⟩
  | f :: l => by
    have h0 : (encOne T0 f).2 = T0 := by
      unfold encOne
      split
      · rfl
      · split
        · rfl
        · rw [if_pos]
          · show (0 : Int) < (cost f.1 : Int)
            unfold cost; omega
    obtain ⟨h1, h2⟩ := encL_T0 l
    refine ⟨?_, fun r => ?_⟩
    · show (encL (encOne T0 f).2 l).2 = T0
      rw [h0, h1]
    · show (encOne T0 f).1 ++ (encL (encOne T0 f).2 (l ++ r)).1 = ((encOne T0 f).1 ++ (encL (encOne T0 f).2 l).1) ++ (encL T0 r).1
      rw [h0, h2, List.append_assoc]
theorem encL_take {l : List Fd} {k : Nat} {f : Fd} (h : l[k]? = some f) : (encL T0 (l.take (k + 1))).1 = (encL T0 (l.take k)).1 ++ (encOne T0 f).1 := by
  rw [List.take_add_one, h, Option.toList_some, (encL_T0 _).2]
  show _ ++ ((encOne T0 f).1 ++ []) = _
  rw [List.append_nil]
end Go.Proofs.YtpkmciohehaboaaGreatDoor

/- The walk of ref05.Encode (its regions printed by gen_re3.py). -/
namespace Go.Proofs.YtpkmciohehaboaaGreatDoor
open Go.RowKit

/-- Within a round: what was written; the encoder; the field's box in block q. -/
structure RQ (W : World) (e q : Nat) (f : Fd) (v : Value) (L : List UInt8) (w : World) : Prop where
  own : OwnB w W.heap.size v L
  enc : REnc w e 0
  kp : Kept (fun b => b = e) W w
  el : e < W.heap.size
  wq : W.heap.size ≤ q
  box : w.heap[q]? = some (.cells #[.string f.1.1, .string f.1.2, .bool f.2] 26 (0, 0))
  ne : v.ownBlock ≠ some q
section
variable {W w w' : World} {e q : Nat} {f : Fd} {v v3 : Value} {L k : List UInt8}
theorem RQ.ql (h : RQ W e q f v L w) : q < w.heap.size := (Array.getElem?_eq_some_iff.1 h.box).1
theorem RQ.esz (h : RQ W e q f v L w) : e < w.heap.size := Nat.lt_of_lt_of_le h.el h.kp.size
theorem RQ.below (h : RQ W e q f v L w) (hb : Below w.heap.size w w') : RQ W e q f v L w' where
  own := own_kept4 h.own (Kept.of_below (F := fun _ => False) hb) (fun _ _ h => h)
  enc := (hb.block e h.esz).trans h.enc
  kp := h.kp.same (Kept.of_below hb)
  el := h.el
  wq := h.wq
  box := (hb.block q h.ql).trans h.box
  ne := h.ne
theorem RQ.app (h : RQ W e q f v L w) (hown : w'.ownsRow W.heap.size 5 1 v3 (L.length + k.length) (bvs L ++ bvs k)) (hg : w.grownBy w' v.ownBlock) (hb : v3.ownBlock = v.ownBlock ∨ v3.ownBlock = some w.heap.size) : RQ W e q f v3 (L ++ k) w' where
  own := by unfold OwnB; rw [List.length_append, bvs_append]; exact hown
  enc := (hg.block e h.esz (fun e1 => by have := (World.ownsRow.lt h.own e e1.symm).1; have := h.el; omega)).trans h.enc
  kp := h.kp.grown hg (fun b hb => .inr (World.ownsRow.lt h.own b hb).1)
  el := h.el
  wq := h.wq
  box := (hg.block q h.ql (fun e1 => h.ne e1.symm)).trans h.box
  ne := by
    rcases hb with hb | hb
    · rw [hb]; exact h.ne
    · rw [hb]; intro e1; injection e1 with e1; have := h.ql; omega
theorem RQ.cells (h : RQ W e q f v L w) : w.cell? ⟨q, 0, none⟩ = some (.string f.1.1) ∧ w.cell? ⟨q, 1, none⟩ = some (.string f.1.2) ∧ w.cell? ⟨q, 2, none⟩ = some (.bool f.2) ∧ w.cell? ⟨e, 4, none⟩ = some (.slice none 0 0) ∧ w.cell? ⟨e, 3, none⟩ = some (.int .i64 0) := by
  refine ⟨?_, ?_, ?_, ?_, ?_⟩
  · unfold World.cell?; rw [h.box]; rfl
  · unfold World.cell?; rw [h.box]; rfl
  · unfold World.cell?; rw [h.box]; rfl
  · unfold World.cell?; rw [h.enc]; rfl
  · unfold World.cell?; rw [h.enc]; rfl
end
theorem one_T0 (f : Fd) : ∃ (m : Nat) (wh : Bool), findA statF f.1 = (((m : Nat) : Int), wh) ∧ m ≤ 61 ∧
    (encOne T0 f).1 = (if neverF f = true then putB 16 15 m ++ (if m = 0 then textB f.1.1.data.toList else []) ++ textB f.1.2.data.toList else if wh = true then putB 128 127 m else putB 0 15 m ++ (if m = 0 then textB f.1.1.data.toList else []) ++ textB f.1.2.data.toList) := by
  have hex : ∃ (m : Nat) (wh : Bool), findA statF f.1 = (((m : Nat) : Int), wh) ∧ m ≤ 61 := by
    unfold findA
    split
    · rename_i i hi
      refine ⟨i + 1, true, by simp, ?_⟩
      have := (List.findIdx?_eq_some_iff_getElem.1 hi).1
      rw [statF_length] at this
      omega
    · have := nearA_le statF f.1.1
      rw [statF_length] at this
      exact ⟨nearA statF f.1.1, false, rfl, this⟩
  obtain ⟨m, wh, h1, h2⟩ := hex
  refine ⟨m, wh, h1, h2, ?_⟩
  have hf : fnd T0 f.1 = (((m : Nat) : Int), wh) := by
    unfold fnd
    rw [show statF ++ T0.rows.reverse = statF from by simp [T0], h1]
  have hn : numT T0 f.1 = m := by unfold numT; rw [hf]; simp
  have hc : T0.most < (cost f.1 : Int) := by show (0 : Int) < (cost f.1 : Int); unfold cost; omega
  unfold encOne namedB
  rw [hf, hn]
  by_cases h3 : neverF f = true
  · simp [h3]
  · by_cases h4 : wh = true
    · simp [h3, h4]
    · simp [h3, h4, hc]
theorem rq_start {W w : World} {e : Nat} {f : Fd} {v : Value} {L : List UInt8} (hown : OwnB w W.heap.size v L) (henc : REnc w e 0) (hkp : Kept (fun b => b = e) W w) (hel : e < W.heap.size) :
    RQ W e w.heap.size f v L (w.alloc (.cells #[.string f.1.1, .string f.1.2, .bool f.2] 26)) where
  own := own_kept4 hown ((Kept.refl (fun _ => False) w).alloc _) (fun _ _ h => h)
  enc := (Below.heap_alloc _ _ _ (Nat.lt_of_lt_of_le hel hkp.size)).trans henc
  kp := hkp.alloc _
  el := hel
  wq := hkp.size
  box := heapNew _ _
  ne := fun e1 => by have := (World.ownsRow.lt hown _ e1).2; omega
set_option maxRecDepth 100000 in
set_option maxHeartbeats 8000000 in
theorem rencode_any {e n c : Nat} {A : Option Addr} (l : List Fd) (w : World) (h : REnc w e 4096) (hr : Rd w w.heap.size 3 A n (fds l)) (hne : 0 < n → ∀ a, A = some a → a.block ≠ e) (hn : n ≤ 65536) (hf : ∀ f ∈ l, f.1.1.size ≤ 1048576 ∧ f.1.2.size ≤ 1048576) :
    Calls Tryz.prog 17 #[.pointer (some ⟨e, 0, none⟩), .slice A n c] w (fun ev w' => ∃ v, ev = .returned v ∧ OwnB w' w.heap.size v (E0.run l).1 ∧ Kept (fun b => b = e) w w') := by
  have hll : l.length = n := by have := hr.1; rw [fds_length] at this; omega
  have hel : e < w.heap.size := (Array.getElem?_eq_some_iff.1 h).1
  have c1 : w.cell? ⟨e, 1, none⟩ = some (.int .i64 4096) := by unfold World.cell?; rw [h]; rfl
  have c2 : w.cell? ⟨e, 2, none⟩ = some (.int .i64 0) := by unfold World.cell?; rw [h]; rfl
  have c3 : w.cell? ⟨e, 3, none⟩ = some (.int .i64 0) := by unfold World.cell?; rw [h]; rfl
  have H := Lib.hid h
  have HR := Lib.hid (And.intro hr hne)
  have HF := Lib.hid hf
  have HLL := Lib.hid hll
  have HP0 := Lib.hid (fun w => rput_any 32 5 0 31 w full5 (by omega) (by omega) (by omega))
  have hrun : (E0.run l).1 = 32 :: (encL T0 l).1 := by
    show encSz E0 ++ (encL T0 l).1 = _
    rw [show encSz E0 = [32] from by decide +kernel]
    rfl
  rw [hrun]
  have hlenL := encL_le T0
  clear h hr hne hf hll hrun
  go_enter Tryz.func17, Tryz.ntmps17
  go_wp2_with fail
  go_region
  all_goals go_wp2_with fail
  refine (HP0.out _).mono ?_
  rintro ev w1 ⟨v1, rfl, ho1, hb1⟩
  rw [show putB 32 31 0 = [32] from by decide +kernel] at ho1
  have hb1' : Below w.heap.size w w1 := ⟨hb1.os, hb1.tape, hb1.output, hb1.size, hb1.block⟩
  obtain ⟨A1, c1', rfl, hr1⟩ := ho1.rd
  clear c1 c2 c3 hb1 HP0
  go_wp2_with (at_builtin; refine of_stop ?_)
  unfold Stop
  refine wpList_app (.tmp 54) (.tmp 57) tBytes rfl rfl (World.ownsRow_nil w1 w.heap.size 5 1) rfl hr1 rfl (bvs_one _) (le_maxLen (by simp)) (by simp) hb1'.size ?_
  intro v2 w2 hown2 hg2 _
  have hb2 := Below.app hb1' (World.ownsRow_nil w1 w.heap.size 5 1) hg2 (Nat.le_refl _) hb1'.size
  have ho2 : OwnB w2 w.heap.size v2 [32] := by
    unfold OwnB
    simpa using hown2
  have he2 : w2.heap[e]? = some (.cells #[.int .i64 0, .int .i64 4096, .int .i64 0, .int .i64 0, .slice none 0 0] 113 (0, 0)) := (hb2.block e hel).trans H.out
  have hfz : ∀ o, w2.frozen? ⟨e, o, none⟩ = false := fun o => by unfold World.frozen?; rw [he2]; rfl
  have hf1 := hfz 1
  have hf2 := hfz 2
  have d1 : w2.cell? ⟨e, 1, none⟩ = some (.int .i64 4096) := by unfold World.cell?; rw [he2]; rfl
  have d2 : w2.cell? ⟨e, 2, none⟩ = some (.int .i64 0) := by unfold World.cell?; rw [he2]; rfl
  have HS : Hid (OwnB ((w2.setCell ⟨e, 1, none⟩ (.int .i64 0)).setCell ⟨e, 2, none⟩ (.int .i64 0)) w.heap.size v2 (32 :: (encL T0 (l.take 0)).1) ∧ REnc ((w2.setCell ⟨e, 1, none⟩ (.int .i64 0)).setCell ⟨e, 2, none⟩ (.int .i64 0)) e 0 ∧ Kept (fun b => b = e) w ((w2.setCell ⟨e, 1, none⟩ (.int .i64 0)).setCell ⟨e, 2, none⟩ (.int .i64 0))) := Lib.hid (by
    have hk : Kept (fun b => b = e) w2 ((w2.setCell ⟨e, 1, none⟩ (.int .i64 0)).setCell ⟨e, 2, none⟩ (.int .i64 0)) := ((Kept.refl (fun b => b = e) w2).setCell (g := e) rfl 1 _).setCell (g := e) rfl 2 _
    refine ⟨own_kept4 ho2 hk (fun b hb e1 => by have := (World.ownsRow.lt ho2 b hb).1; omega), ?_, (Kept.of_below hb2).same hk⟩
    unfold REnc
    rw [set_b7 _ (set_b7 _ he2)]
    rfl)
  obtain ⟨A2, c2, hv2, -, -, -, -⟩ := own_slice ho2
  subst hv2
  clear hown2 hg2 ho1 hb1' hr1 ho2 hb2 he2 hfz
  go_wp2_with fail
  generalize ((w2.setCell ⟨e, 1, none⟩ (.int .i64 0)).setCell ⟨e, 2, none⟩ (.int .i64 0)) = w3 at *
  clear hf1 hf2 d1 d2
  go_loopw [5, 7] (fun ov iv wr => ReRel w e n l ov iv wr) (fun _ iv _ => n - (intOf iv).toNat)
  case atStart => exact ⟨0, rfl, Nat.zero_le _, HS.out⟩
  case round =>
    obtain ⟨k, rfl, hk, ho, henc, hkp⟩ := hrel
    have HO := Lib.hid (And.intro ho (And.intro henc hkp))
    have hsr := hkp.size
    clear ho henc hkp
    by_cases hlt : k < n
    · obtain ⟨hl3, b, o, rfl, hbl, hc⟩ := fd_at HR.out.1 (by omega)
      obtain ⟨f, hfk⟩ : ∃ f, l[k]? = some f := ⟨_, List.getElem?_eq_getElem (by omega)⟩
      obtain ⟨z0, z1, z2⟩ := hc k f hfk
      have hbe : b ≠ e := HR.out.2 (by omega) _ rfl
      have hcc : ∀ o', wr.cell? ⟨b, o', none⟩ = w.cell? ⟨b, o', none⟩ := fun o' => HO.out.2.2.cell hbl hbe o'
      rw [← hcc] at z0 z1 z2
      have n0 : (k : Int) < n := by omega
      have hbw : b < wr.heap.size := by omega
      have HQ := Lib.hid (rq_start (f := f) HO.out.1 HO.out.2.1 HO.out.2.2 hel)
      have HK := Lib.hid (encL_take hfk)
      have hbd := encOne_le T0 f (HF.out f (List.mem_of_getElem? hfk)).1 (HF.out f (List.mem_of_getElem? hfk)).2
      have hsz1 := (HF.out f (List.mem_of_getElem? hfk)).1
      have hsz2 := (HF.out f (List.mem_of_getElem? hfk)).2
      have hLk : (32 :: (encL T0 (l.take k)).1).length ≤ 137443147777 := by
        have h1 := hlenL (l.take k) (fun f hf => HF.out f (List.mem_of_mem_take hf))
        rw [List.length_take] at h1
        have h2 : min k l.length * 2097200 ≤ 65536 * 2097200 := Nat.mul_le_mul_right _ (by omega)
        simp only [List.length_cons]; omega
      obtain ⟨L, hL⟩ : ∃ L, 32 :: (encL T0 (l.take k)).1 = L := ⟨_, rfl⟩
      have HN : Hid (∀ v' w', RQ w e wr.heap.size f v' (L ++ (encOne T0 f).1) w' → ReRel w e n l v' (.int .i64 (k + 1 : Nat)) w') := Lib.hid (fun v' w' h => ⟨k + 1, rfl, hlt, (by rw [HK.out, ← List.cons_append, hL]; exact h.own), h.enc, h.kp⟩)
      rw [hL] at hLk HQ
      have HFI := Lib.hid (fun w h => rfinde_any (g := e) f.1 f.2 w h)
      clear hc hfk hl3 hcc hL HK HO
      obtain ⟨⟨nm, vl⟩, nv⟩ := f
      simp only at z0 z1 z2 hsz1 hsz2
      go_wp2_with fail
      --REGION14
      obtain ⟨q, hq⟩ : ∃ q, wr.heap.size = q := ⟨_, rfl⟩
      rw [hq] at HQ HN ⊢
      generalize (wr.alloc (.cells #[.string nm, .string vl, .bool nv] 26)) = wq at *
      have HQD : Hid (RQ w e q ((nm, vl), nv) u5 L wq.drew) := Lib.hid (HQ.out.below (by exact ⟨rfl, rfl, rfl, Nat.le_refl _, fun _ _ => rfl⟩))
      obtain ⟨m, wh, hfind, hm, hone⟩ := one_T0 ((nm, vl), nv)
      have HONE := Lib.hid hone
      dsimp only at hfind
      clear hone z0 z1 z2 hq
      refine wp_region_held_drew (S := fun w' => w'.cell? ⟨q, 0, none⟩ = some (.string nm) ∧ w'.cell? ⟨q, 1, none⟩ = some (.string vl) ∧ w'.cell? ⟨q, 2, none⟩ = some (.bool nv) ∧ w'.cell? ⟨e, 4, none⟩ = some (.slice none 0 0) ∧ w'.cell? ⟨e, 3, none⟩ = some (.int .i64 0)) (by kernel_rfl) (HQD.out.cells) (fun hHeld => ?_)
      refine wpAnyH_take (i := 0) (oi := ⟨some 78, _, _, _, _, _⟩) (v := ?_) rfl (by kernel_rfl) (by kernel_rfl) (by kernel_rfl) (fun _ _ _ h => h) (Or.inl ⟨by kernel_rfl, ?_⟩) hHeld ?_
      rotate_left
      · intro w hSw
        obtain ⟨h0, h1, h2, h3, h4⟩ := hSw
        go_simp
        all_goals with_reducible rfl
      try simp only [Act.put, List.setIfInBounds_toArray, List.set_cons_zero, List.set_cons_succ]
      refine wpAnyH_take (i := 1) (oi := ⟨some 79, _, _, _, _, _⟩) (v := ?_) rfl (by kernel_rfl) (by kernel_rfl) (by kernel_rfl) (fun _ _ _ h => h) (Or.inl ⟨by kernel_rfl, ?_⟩) hHeld ?_
      rotate_left
      · intro w hSw
        obtain ⟨h0, h1, h2, h3, h4⟩ := hSw
        go_simp
        all_goals with_reducible rfl
      try simp only [Act.put, List.setIfInBounds_toArray, List.set_cons_zero, List.set_cons_succ]
      refine wpAnyH_take (i := 2) (oi := ⟨some 80, _, _, _, _, _⟩) (v := ?_) rfl (by kernel_rfl) (by kernel_rfl) (by kernel_rfl) (fun _ _ _ h => h) (Or.inl ⟨by kernel_rfl, ?_⟩) hHeld ?_
      rotate_left
      · intro w hSw
        obtain ⟨h0, h1, h2, h3, h4⟩ := hSw
        go_simp
        all_goals with_reducible rfl
      try simp only [Act.put, List.setIfInBounds_toArray, List.set_cons_zero, List.set_cons_succ]
      refine wpAnyH_take (i := 3) (oi := ⟨some 81, _, _, _, _, _⟩) (v := ?_) rfl (by kernel_rfl) (by kernel_rfl) (by kernel_rfl) (fun _ _ _ h => h) (Or.inl ⟨by kernel_rfl, ?_⟩) hHeld ?_
      rotate_left
      · intro w hSw
        obtain ⟨h0, h1, h2, h3, h4⟩ := hSw
        go_simp
        all_goals with_reducible rfl
      try simp only [Act.put, List.setIfInBounds_toArray, List.set_cons_zero, List.set_cons_succ]
      refine wpAnyH_ready (rs := [4]) (by kernel_rfl) (by simp) ?_
      refine AllReadyH.cons (o := ⟨some 82, _, _, _, _, _⟩) rfl (fun K hK => ?_) AllReadyH.nil
      go_simp
      refine (HFI.out _ hHeld.2.2.2.1).mono ?_
      rintro ev w4 ⟨rfl, hb4⟩
      rw [hfind]
      have HQ4 := Lib.hid (HQD.out.below hb4)
      clear hb4
      refine hK.out _ _ (HQ4.out.cells) (fun hHeld => ?_)
      clear hK K
      refine wpAnyH_take (i := 5) (oi := ⟨some 77, _, _, _, _, _⟩) (v := ?_) rfl (by kernel_rfl) (by kernel_rfl) (by kernel_rfl) (fun _ _ _ h => h) (Or.inl ⟨by kernel_rfl, ?_⟩) hHeld ?_
      rotate_left
      · intro w hSw
        obtain ⟨h0, h1, h2, h3, h4⟩ := hSw
        go_simp
        all_goals with_reducible rfl
      try simp only [Act.put, List.setIfInBounds_toArray, List.set_cons_zero, List.set_cons_succ]
      refine wpAnyH_take (i := 6) (oi := ⟨some 83, _, _, _, _, _⟩) (v := ?_) rfl (by kernel_rfl) (by kernel_rfl) (by kernel_rfl) (fun _ _ _ h => h) (Or.inl ⟨by kernel_rfl, ?_⟩) hHeld ?_
      rotate_left
      · intro w hSw
        obtain ⟨h0, h1, h2, h3, h4⟩ := hSw
        go_simp
        all_goals with_reducible rfl
      try simp only [Act.put, List.setIfInBounds_toArray, List.set_cons_zero, List.set_cons_succ]
      refine wpAnyH_take (i := 7) (oi := ⟨some 84, _, _, _, _, _⟩) (v := ?_) rfl (by kernel_rfl) (by kernel_rfl) (by kernel_rfl) (fun _ _ _ h => h) (Or.inl ⟨by kernel_rfl, ?_⟩) hHeld ?_
      rotate_left
      · intro w hSw
        obtain ⟨h0, h1, h2, h3, h4⟩ := hSw
        go_simp
        all_goals with_reducible rfl
      try simp only [Act.put, List.setIfInBounds_toArray, List.set_cons_zero, List.set_cons_succ]
      refine wpAnyH_take (i := 8) (oi := ⟨some 9, _, _, _, _, _⟩) (v := ?_) rfl (by kernel_rfl) (by kernel_rfl) (by kernel_rfl) (fun _ _ _ h => h) (Or.inl ⟨by kernel_rfl, ?_⟩) hHeld ?_
      rotate_left
      · intro w hSw
        obtain ⟨h0, h1, h2, h3, h4⟩ := hSw
        go_simp
        all_goals with_reducible rfl
      try simp only [Act.put, List.setIfInBounds_toArray, List.set_cons_zero, List.set_cons_succ]
      refine wpAnyH_take (i := 9) (oi := ⟨some 10, _, _, _, _, _⟩) (v := ?_) rfl (by kernel_rfl) (by kernel_rfl) (by kernel_rfl) (fun _ _ _ h => h) (Or.inl ⟨by kernel_rfl, ?_⟩) hHeld ?_
      rotate_left
      · intro w hSw
        obtain ⟨h0, h1, h2, h3, h4⟩ := hSw
        go_simp
        all_goals with_reducible rfl
      try simp only [Act.put, List.setIfInBounds_toArray, List.set_cons_zero, List.set_cons_succ]
      refine wpAnyH_done (by kernel_rfl) ?_ _
      obtain ⟨k0, k1, k2, -, -⟩ := HQ4.out.cells
      clear HQ HQD HFI hfind
      go_upto_region 15 with fail
      go_cut [11] (fun y wx => y = .bool (neverF ((nm, vl), nv)) ∧ wx = w4)
      case first =>
        cases nv with
        | true =>
          go_wp2_with fail
          go_meet
          exact ⟨rfl, rfl⟩
        | false =>
          by_cases ha : nm = authB
          · have e1 : (nm.toList == [97, 117, 116, 104, 111, 114, 105, 122, 97, 116, 105, 111, 110]) = true := by rw [ha]; decide +kernel
            have e3 : neverF ((nm, vl), false) = true := by unfold neverF; simp [ha]
            clear ha
            go_wp2_with fail
            go_meet
            exact ⟨by rw [e3], rfl⟩
          · have e1 := (Lib.bytes_beq_false_iff nm authB).2 ha
            rw [show authB.toList = [97, 117, 116, 104, 111, 114, 105, 122, 97, 116, 105, 111, 110] from by decide +kernel] at e1
            by_cases hb : nm = cookB
            · have e2 : (nm.toList == [115, 101, 116, 45, 99, 111, 111, 107, 105, 101]) = true := by rw [hb]; decide +kernel
              have e3 : neverF ((nm, vl), false) = true := by unfold neverF; simp [hb]
              clear hb ha
              go_wp2_with fail
              go_meet
              exact ⟨by rw [e3], rfl⟩
            · have e2 := (Lib.bytes_beq_false_iff nm cookB).2 hb
              rw [show cookB.toList = [115, 101, 116, 45, 99, 111, 111, 107, 105, 101] from by decide +kernel] at e2
              have e3 : neverF ((nm, vl), false) = false := by unfold neverF; simp [ha, hb]
              clear ha hb
              go_wp2_with fail
              go_meet
              exact ⟨by rw [e3], rfl⟩
      case rest =>
      obtain ⟨rfl, rfl⟩ := hcut
      obtain ⟨N, hN⟩ : ∃ N, neverF ((nm, vl), nv) = N := ⟨_, rfl⟩
      rw [hN] at HONE ⊢
      clear hN k0 k1 k2
      have HQE : Hid (RQ w e q ((nm, vl), nv) u5 L wc.drew) := Lib.hid (HQ4.out.below (by exact ⟨rfl, rfl, rfl, Nat.le_refl _, fun _ _ => rfl⟩))
      cases N with
      | true =>
        dsimp only [if_true] at HONE
        simp only [if_true] at HONE
        cases wh
        all_goals
          go_wp2_with fail
          refine wp_region_held_drew (S := fun w' => w'.cell? ⟨q, 0, none⟩ = some (.string nm) ∧ w'.cell? ⟨q, 1, none⟩ = some (.string vl) ∧ w'.cell? ⟨q, 2, none⟩ = some (.bool nv) ∧ w'.cell? ⟨e, 4, none⟩ = some (.slice none 0 0) ∧ w'.cell? ⟨e, 3, none⟩ = some (.int .i64 0)) (by kernel_rfl) (HQE.out.cells) (fun hHeld => ?_)
          refine wpAnyH_take (i := 0) (oi := ⟨some 107, _, _, _, _, _⟩) (v := ?_) rfl (by kernel_rfl) (by kernel_rfl) (by kernel_rfl) (fun _ _ _ h => h) (Or.inl ⟨by kernel_rfl, ?_⟩) hHeld ?_
          rotate_left
          · intro w hSw
            obtain ⟨h0, h1, h2, h3, h4⟩ := hSw
            go_simp
            all_goals with_reducible rfl
          try simp only [Act.put, List.setIfInBounds_toArray, List.set_cons_zero, List.set_cons_succ]
          refine wpAnyH_take (i := 1) (oi := ⟨some 108, _, _, _, _, _⟩) (v := ?_) rfl (by kernel_rfl) (by kernel_rfl) (by kernel_rfl) (fun _ _ _ h => h) (Or.inl ⟨by kernel_rfl, ?_⟩) hHeld ?_
          rotate_left
          · intro w hSw
            obtain ⟨h0, h1, h2, h3, h4⟩ := hSw
            go_simp
            all_goals with_reducible rfl
          try simp only [Act.put, List.setIfInBounds_toArray, List.set_cons_zero, List.set_cons_succ]
          refine wpAnyH_take (i := 2) (oi := ⟨some 109, _, _, _, _, _⟩) (v := ?_) rfl (by kernel_rfl) (by kernel_rfl) (by kernel_rfl) (fun _ _ _ h => h) (Or.inl ⟨by kernel_rfl, ?_⟩) hHeld ?_
          rotate_left
          · intro w hSw
            obtain ⟨h0, h1, h2, h3, h4⟩ := hSw
            go_simp
            all_goals with_reducible rfl
          try simp only [Act.put, List.setIfInBounds_toArray, List.set_cons_zero, List.set_cons_succ]
          refine wpAnyH_take (i := 3) (oi := ⟨some 110, _, _, _, _, _⟩) (v := undef) rfl (by kernel_rfl) (by kernel_rfl) (by kernel_rfl) (fun _ _ _ h => h) (Or.inr ⟨by kernel_rfl, rfl⟩) hHeld ?_
          try simp only [Act.put, List.setIfInBounds_toArray, List.set_cons_zero, List.set_cons_succ]
          refine wpAnyH_take (i := 5) (oi := ⟨some 112, _, _, _, _, _⟩) (v := undef) rfl (by kernel_rfl) (by kernel_rfl) (by kernel_rfl) (fun _ _ _ h => h) (Or.inr ⟨by kernel_rfl, rfl⟩) hHeld ?_
          try simp only [Act.put, List.setIfInBounds_toArray, List.set_cons_zero, List.set_cons_succ]
          refine wpAnyH_take (i := 6) (oi := ⟨some 113, _, _, _, _, _⟩) (v := undef) rfl (by kernel_rfl) (by kernel_rfl) (by kernel_rfl) (fun _ _ _ h => h) (Or.inr ⟨by kernel_rfl, rfl⟩) hHeld ?_
          try simp only [Act.put, List.setIfInBounds_toArray, List.set_cons_zero, List.set_cons_succ]
          refine wpAnyH_take (i := 7) (oi := ⟨some 114, _, _, _, _, _⟩) (v := undef) rfl (by kernel_rfl) (by kernel_rfl) (by kernel_rfl) (fun _ _ _ h => h) (Or.inr ⟨by kernel_rfl, rfl⟩) hHeld ?_
          try simp only [Act.put, List.setIfInBounds_toArray, List.set_cons_zero, List.set_cons_succ]
          refine wpAnyH_take (i := 8) (oi := ⟨some 115, _, _, _, _, _⟩) (v := undef) rfl (by kernel_rfl) (by kernel_rfl) (by kernel_rfl) (fun _ _ _ h => h) (Or.inr ⟨by kernel_rfl, rfl⟩) hHeld ?_
          try simp only [Act.put, List.setIfInBounds_toArray, List.set_cons_zero, List.set_cons_succ]
          refine wpAnyH_take (i := 9) (oi := ⟨some 116, _, _, _, _, _⟩) (v := undef) rfl (by kernel_rfl) (by kernel_rfl) (by kernel_rfl) (fun _ _ _ h => h) (Or.inr ⟨by kernel_rfl, rfl⟩) hHeld ?_
          try simp only [Act.put, List.setIfInBounds_toArray, List.set_cons_zero, List.set_cons_succ]
          refine wpAnyH_ready (rs := [4]) (by kernel_rfl) (by simp) ?_
          refine AllReadyH.cons (o := ⟨some 111, _, _, _, _, _⟩) rfl (fun K hK => ?_) AllReadyH.nil
          go_simp
          refine hK.out _ _ hHeld (fun hHeld => ?_)
          clear hK K
          try simp only [Act.put, List.setIfInBounds_toArray, List.set_cons_zero, List.set_cons_succ]
          refine wpAnyH_take (i := 10) (oi := ⟨some 117, _, _, _, _, _⟩) (v := undef) rfl (by kernel_rfl) (by kernel_rfl) (by kernel_rfl) (fun _ _ _ h => h) (Or.inr ⟨by kernel_rfl, rfl⟩) hHeld ?_
          try simp only [Act.put, List.setIfInBounds_toArray, List.set_cons_zero, List.set_cons_succ]
          refine wpAnyH_take (i := 11) (oi := ⟨some 118, _, _, _, _, _⟩) (v := ?_) rfl (by kernel_rfl) (by kernel_rfl) (by kernel_rfl) (fun _ _ _ h => h) (Or.inl ⟨by kernel_rfl, ?_⟩) hHeld ?_
          rotate_left
          · intro w hSw
            obtain ⟨h0, h1, h2, h3, h4⟩ := hSw
            go_simp
            all_goals with_reducible rfl
          try simp only [Act.put, List.setIfInBounds_toArray, List.set_cons_zero, List.set_cons_succ]
          refine wpAnyH_take (i := 12) (oi := ⟨some 12, _, _, _, _, _⟩) (v := ?_) rfl (by kernel_rfl) (by kernel_rfl) (by kernel_rfl) (fun _ _ _ h => h) (Or.inl ⟨by kernel_rfl, ?_⟩) hHeld ?_
          rotate_left
          · intro w hSw
            obtain ⟨h0, h1, h2, h3, h4⟩ := hSw
            go_simp
            all_goals with_reducible rfl
          try simp only [Act.put, List.setIfInBounds_toArray, List.set_cons_zero, List.set_cons_succ]
          refine wpAnyH_done (by kernel_rfl) ?_ _
          go_wp2_with fail
          refine (rput_any 16 4 m 15 _ full4 (by omega) (by omega) (by omega)).mono ?_
          rintro ev wp1 ⟨vp1, rfl, hop1, hbp1⟩
          have HP1 := Lib.hid (HQE.out.below hbp1)
          obtain ⟨Ap1, cp1, rfl, hrp1⟩ := hop1.rd
          have HRP1 := Lib.hid hrp1
          have hpl1 := (putB_length 16 15 m).1
          obtain ⟨P1, hP1⟩ : ∃ P1, putB 16 15 m = P1 := ⟨_, rfl⟩
          rw [hP1] at HRP1 hpl1 ⊢
          have HPE1 := Lib.hid hP1
          clear hop1 hbp1 hrp1 hP1
          go_wp2_with (at_builtin; refine of_stop ?_)
          unfold Stop
          refine wpList_app (.tmp 126) (.tmp 129) tBytes rfl rfl HP1.out.own rfl HRP1.out rfl (bvs_one _) (le_maxLen (by omega)) (by omega) HP1.out.kp.size ?_
          intro va1 wa1 hown1 hg1 hb1
          obtain ⟨L1, hL1⟩ : ∃ L1, L ++ P1 = L1 := ⟨_, rfl⟩
          have HA1 := Lib.hid (HP1.out.app hown1 hg1 hb1)
          have hl1 := congrArg List.length hL1
          simp only [List.length_append] at hl1
          rw [hL1] at HA1
          obtain ⟨Ax1, cx1, hv1, -, -, -, -⟩ := own_slice HA1.out.own
          subst hv1
          have HL1 := Lib.hid hL1
          clear hown1 hg1 hb1 hL1
          by_cases hm0 : m = 0
          · have em : ((m : Int) == 0) = true := by rw [hm0]; rfl
            have cc2 := HA1.out.cells
            obtain ⟨k0, k1, k2, -, -⟩ := cc2
            go_wp2_with fail
            refine (rputText_any nm _ (by omega)).mono ?_
            rintro ev wp2 ⟨vp2, rfl, hop2, hbp2⟩
            have HP2 := Lib.hid (HA1.out.below hbp2)
            obtain ⟨Ap2, cp2, rfl, hrp2⟩ := hop2.rd
            have HRP2 := Lib.hid hrp2
            have hpl2 := textB_le (s := nm) (by omega)
            obtain ⟨P2, hP2⟩ : ∃ P2, textB nm.data.toList = P2 := ⟨_, rfl⟩
            rw [hP2] at HRP2 hpl2 ⊢
            have HPE2 := Lib.hid hP2
            clear hop2 hbp2 hrp2 hP2 k0 k1 k2
            go_wp2_with (at_builtin; refine of_stop ?_)
            unfold Stop
            refine wpList_app (.tmp 138) (.tmp 141) tBytes rfl rfl HP2.out.own rfl HRP2.out rfl (bvs_one _) (le_maxLen (by omega)) (by omega) HP2.out.kp.size ?_
            intro va2 wa2 hown2 hg2 hb2
            obtain ⟨L2, hL2⟩ : ∃ L2, L1 ++ P2 = L2 := ⟨_, rfl⟩
            have HA2 := Lib.hid (HP2.out.app hown2 hg2 hb2)
            have hl2 := congrArg List.length hL2
            simp only [List.length_append] at hl2
            rw [hL2] at HA2
            obtain ⟨Ax2, cx2, hv2, -, -, -, -⟩ := own_slice HA2.out.own
            subst hv2
            have HL2 := Lib.hid hL2
            clear hown2 hg2 hb2 hL2
            have cc3 := HA2.out.cells
            obtain ⟨k0, k1, k2, -, -⟩ := cc3
            go_wp2_with fail
            refine (rputText_any vl _ (by omega)).mono ?_
            rintro ev wp3 ⟨vp3, rfl, hop3, hbp3⟩
            have HP3 := Lib.hid (HA2.out.below hbp3)
            obtain ⟨Ap3, cp3, rfl, hrp3⟩ := hop3.rd
            have HRP3 := Lib.hid hrp3
            have hpl3 := textB_le (s := vl) (by omega)
            obtain ⟨P3, hP3⟩ : ∃ P3, textB vl.data.toList = P3 := ⟨_, rfl⟩
            rw [hP3] at HRP3 hpl3 ⊢
            have HPE3 := Lib.hid hP3
            clear hop3 hbp3 hrp3 hP3 k0 k1 k2
            go_wp2_with (at_builtin; refine of_stop ?_)
            unfold Stop
            refine wpList_app (.tmp 143) (.tmp 146) tBytes rfl rfl HP3.out.own rfl HRP3.out rfl (bvs_one _) (le_maxLen (by omega)) (by omega) HP3.out.kp.size ?_
            intro va3 wa3 hown3 hg3 hb3
            obtain ⟨L3, hL3⟩ : ∃ L3, L2 ++ P3 = L3 := ⟨_, rfl⟩
            have HA3 := Lib.hid (HP3.out.app hown3 hg3 hb3)
            have hl3 := congrArg List.length hL3
            simp only [List.length_append] at hl3
            rw [hL3] at HA3
            obtain ⟨Ax3, cx3, hv3, -, -, -, -⟩ := own_slice HA3.out.own
            subst hv3
            have HL3 := Lib.hid hL3
            clear hown3 hg3 hb3 hL3
            have HEND := Lib.hid (HN.out _ _ (by rw [HONE.out, ← List.append_assoc, ← List.append_assoc, HPE1.out, HL1.out, if_pos hm0, HPE2.out, HL2.out, HPE3.out, HL3.out]; exact HA3.out))
            go_wp2_with fail
            go_roundw
            case rel => exact HEND.out
            case measure => simp [intOf]; omega
          · have em : ((m : Int) == 0) = false := by simp; omega
            have cc3 := HA1.out.cells
            obtain ⟨k0, k1, k2, -, -⟩ := cc3
            go_wp2_with fail
            refine (rputText_any vl _ (by omega)).mono ?_
            rintro ev wp3 ⟨vp3, rfl, hop3, hbp3⟩
            have HP3 := Lib.hid (HA1.out.below hbp3)
            obtain ⟨Ap3, cp3, rfl, hrp3⟩ := hop3.rd
            have HRP3 := Lib.hid hrp3
            have hpl3 := textB_le (s := vl) (by omega)
            obtain ⟨P3, hP3⟩ : ∃ P3, textB vl.data.toList = P3 := ⟨_, rfl⟩
            rw [hP3] at HRP3 hpl3 ⊢
            have HPE3 := Lib.hid hP3
            clear hop3 hbp3 hrp3 hP3 k0 k1 k2
            go_wp2_with (at_builtin; refine of_stop ?_)
            unfold Stop
            refine wpList_app (.tmp 143) (.tmp 146) tBytes rfl rfl HP3.out.own rfl HRP3.out rfl (bvs_one _) (le_maxLen (by omega)) (by omega) HP3.out.kp.size ?_
            intro va3 wa3 hown3 hg3 hb3
            obtain ⟨L3, hL3⟩ : ∃ L3, L1 ++ P3 = L3 := ⟨_, rfl⟩
            have HA3 := Lib.hid (HP3.out.app hown3 hg3 hb3)
            have hl3 := congrArg List.length hL3
            simp only [List.length_append] at hl3
            rw [hL3] at HA3
            obtain ⟨Ax3, cx3, hv3, -, -, -, -⟩ := own_slice HA3.out.own
            subst hv3
            have HL3 := Lib.hid hL3
            clear hown3 hg3 hb3 hL3
            have HEND := Lib.hid (HN.out _ _ (by rw [HONE.out, if_neg hm0, List.append_nil, ← List.append_assoc, HPE1.out, HL1.out, HPE3.out, HL3.out]; exact HA3.out))
            go_wp2_with fail
            go_roundw
            case rel => exact HEND.out
            case measure => simp [intOf]; omega
      | false =>
        cases wh with
        | true =>
          simp only [Bool.false_eq_true, if_false, if_true] at HONE
          go_wp2_with fail
          refine (rput_any 128 7 m 127 _ full7 (by omega) (by omega) (by omega)).mono ?_
          rintro ev wp1 ⟨vp1, rfl, hop1, hbp1⟩
          have HP1 := Lib.hid (HQ4.out.below hbp1)
          obtain ⟨Ap1, cp1, rfl, hrp1⟩ := hop1.rd
          have HRP1 := Lib.hid hrp1
          have hpl1 := (putB_length 128 127 m).1
          obtain ⟨P1, hP1⟩ : ∃ P1, putB 128 127 m = P1 := ⟨_, rfl⟩
          rw [hP1] at HRP1 hpl1 ⊢
          have HPE1 := Lib.hid hP1
          clear hop1 hbp1 hrp1 hP1
          go_wp2_with (at_builtin; refine of_stop ?_)
          unfold Stop
          refine wpList_app (.tmp 102) (.tmp 105) tBytes rfl rfl HP1.out.own rfl HRP1.out rfl (bvs_one _) (le_maxLen (by omega)) (by omega) HP1.out.kp.size ?_
          intro va1 wa1 hown1 hg1 hb1
          obtain ⟨L1, hL1⟩ : ∃ L1, L ++ P1 = L1 := ⟨_, rfl⟩
          have HA1 := Lib.hid (HP1.out.app hown1 hg1 hb1)
          have hl1 := congrArg List.length hL1
          simp only [List.length_append] at hl1
          rw [hL1] at HA1
          obtain ⟨Ax1, cx1, hv1, -, -, -, -⟩ := own_slice HA1.out.own
          subst hv1
          have HL1 := Lib.hid hL1
          clear hown1 hg1 hb1 hL1
          have HEND := Lib.hid (HN.out _ _ (by rw [HONE.out, HPE1.out, HL1.out]; exact HA1.out))
          go_wp2_with fail
          go_roundw
          case rel => exact HEND.out
          case measure => simp [intOf]; omega
        | false =>
          simp only [Bool.false_eq_true, if_false] at HONE
          go_wp2_with fail
          refine wp_region_held_drew (S := fun w' => w'.cell? ⟨q, 0, none⟩ = some (.string nm) ∧ w'.cell? ⟨q, 1, none⟩ = some (.string vl) ∧ w'.cell? ⟨q, 2, none⟩ = some (.bool nv) ∧ w'.cell? ⟨e, 4, none⟩ = some (.slice none 0 0) ∧ w'.cell? ⟨e, 3, none⟩ = some (.int .i64 0)) (by kernel_rfl) (HQE.out.cells) (fun hHeld => ?_)
          refine wpAnyH_take (i := 0) (oi := ⟨some 107, _, _, _, _, _⟩) (v := ?_) rfl (by kernel_rfl) (by kernel_rfl) (by kernel_rfl) (fun _ _ _ h => h) (Or.inl ⟨by kernel_rfl, ?_⟩) hHeld ?_
          rotate_left
          · intro w hSw
            obtain ⟨h0, h1, h2, h3, h4⟩ := hSw
            go_simp
            all_goals with_reducible rfl
          try simp only [Act.put, List.setIfInBounds_toArray, List.set_cons_zero, List.set_cons_succ]
          refine wpAnyH_take (i := 1) (oi := ⟨some 108, _, _, _, _, _⟩) (v := ?_) rfl (by kernel_rfl) (by kernel_rfl) (by kernel_rfl) (fun _ _ _ h => h) (Or.inl ⟨by kernel_rfl, ?_⟩) hHeld ?_
          rotate_left
          · intro w hSw
            obtain ⟨h0, h1, h2, h3, h4⟩ := hSw
            go_simp
            all_goals with_reducible rfl
          try simp only [Act.put, List.setIfInBounds_toArray, List.set_cons_zero, List.set_cons_succ]
          refine wpAnyH_take (i := 2) (oi := ⟨some 109, _, _, _, _, _⟩) (v := ?_) rfl (by kernel_rfl) (by kernel_rfl) (by kernel_rfl) (fun _ _ _ h => h) (Or.inl ⟨by kernel_rfl, ?_⟩) hHeld ?_
          rotate_left
          · intro w hSw
            obtain ⟨h0, h1, h2, h3, h4⟩ := hSw
            go_simp
            all_goals with_reducible rfl
          try simp only [Act.put, List.setIfInBounds_toArray, List.set_cons_zero, List.set_cons_succ]
          refine wpAnyH_take (i := 3) (oi := ⟨some 110, _, _, _, _, _⟩) (v := ?_) rfl (by kernel_rfl) (by kernel_rfl) (by kernel_rfl) (fun _ _ _ h => h) (Or.inl ⟨by kernel_rfl, ?_⟩) hHeld ?_
          rotate_left
          · intro w hSw
            obtain ⟨h0, h1, h2, h3, h4⟩ := hSw
            go_simp
            all_goals with_reducible rfl
          try simp only [Act.put, List.setIfInBounds_toArray, List.set_cons_zero, List.set_cons_succ]
          refine wpAnyH_take (i := 5) (oi := ⟨some 112, _, _, _, _, _⟩) (v := ?_) rfl (by kernel_rfl) (by kernel_rfl) (by kernel_rfl) (fun _ _ _ h => h) (Or.inl ⟨by kernel_rfl, ?_⟩) hHeld ?_
          rotate_left
          · intro w hSw
            obtain ⟨h0, h1, h2, h3, h4⟩ := hSw
            go_simp
            all_goals with_reducible rfl
          try simp only [Act.put, List.setIfInBounds_toArray, List.set_cons_zero, List.set_cons_succ]
          refine wpAnyH_take (i := 6) (oi := ⟨some 113, _, _, _, _, _⟩) (v := ?_) rfl (by kernel_rfl) (by kernel_rfl) (by kernel_rfl) (fun _ _ _ h => h) (Or.inl ⟨by kernel_rfl, ?_⟩) hHeld ?_
          rotate_left
          · intro w hSw
            obtain ⟨h0, h1, h2, h3, h4⟩ := hSw
            go_simp
            all_goals with_reducible rfl
          try simp only [Act.put, List.setIfInBounds_toArray, List.set_cons_zero, List.set_cons_succ]
          refine wpAnyH_take (i := 7) (oi := ⟨some 114, _, _, _, _, _⟩) (v := ?_) rfl (by kernel_rfl) (by kernel_rfl) (by kernel_rfl) (fun _ _ _ h => h) (Or.inl ⟨by kernel_rfl, ?_⟩) hHeld ?_
          rotate_left
          · intro w hSw
            obtain ⟨h0, h1, h2, h3, h4⟩ := hSw
            go_simp
            all_goals with_reducible rfl
          try simp only [Act.put, List.setIfInBounds_toArray, List.set_cons_zero, List.set_cons_succ]
          refine wpAnyH_take (i := 8) (oi := ⟨some 115, _, _, _, _, _⟩) (v := ?_) rfl (by kernel_rfl) (by kernel_rfl) (by kernel_rfl) (fun _ _ _ h => h) (Or.inl ⟨by kernel_rfl, ?_⟩) hHeld ?_
          rotate_left
          · intro w hSw
            obtain ⟨h0, h1, h2, h3, h4⟩ := hSw
            go_simp
            all_goals with_reducible rfl
          try simp only [Act.put, List.setIfInBounds_toArray, List.set_cons_zero, List.set_cons_succ]
          refine wpAnyH_take (i := 9) (oi := ⟨some 116, _, _, _, _, _⟩) (v := ?_) rfl (by kernel_rfl) (by kernel_rfl) (by kernel_rfl) (fun _ _ _ h => h) (Or.inl ⟨by kernel_rfl, ?_⟩) hHeld ?_
          rotate_left
          · intro w hSw
            obtain ⟨h0, h1, h2, h3, h4⟩ := hSw
            go_simp
            all_goals with_reducible rfl
          try simp only [Act.put, List.setIfInBounds_toArray, List.set_cons_zero, List.set_cons_succ]
          refine wpAnyH_ready (rs := [4]) (by kernel_rfl) (by simp) ?_
          refine AllReadyH.cons (o := ⟨some 111, _, _, _, _, _⟩) rfl (fun K hK => ?_) AllReadyH.nil
          go_simp
          refine (cost_ref (nm, vl) nv _ (by dsimp only; omega) (by dsimp only; omega)).mono ?_
          rintro ev w5 ⟨rfl, rfl⟩
          have HQ5 := Lib.hid (HQE.out.below ((Below.refl _ _).alloc (Nat.le_refl _) (.cells #[.string nm, .string vl, .bool nv] 26)))
          refine hK.out _ _ (HQ5.out.cells) (fun hHeld => ?_)
          clear hK K
          refine wpAnyH_take (i := 10) (oi := ⟨some 117, _, _, _, _, _⟩) (v := ?_) rfl (by kernel_rfl) (by kernel_rfl) (by kernel_rfl) (fun _ _ _ h => h) (Or.inl ⟨by kernel_rfl, ?_⟩) hHeld ?_
          rotate_left
          · intro w hSw
            obtain ⟨h0, h1, h2, h3, h4⟩ := hSw
            go_simp
            all_goals with_reducible rfl
          try simp only [Act.put, List.setIfInBounds_toArray, List.set_cons_zero, List.set_cons_succ]
          refine wpAnyH_take (i := 11) (oi := ⟨some 118, _, _, _, _, _⟩) (v := ?_) rfl (by kernel_rfl) (by kernel_rfl) (by kernel_rfl) (fun _ _ _ h => h) (Or.inl ⟨by kernel_rfl, ?_⟩) hHeld ?_
          rotate_left
          · intro w hSw
            obtain ⟨h0, h1, h2, h3, h4⟩ := hSw
            go_simp
            all_goals with_reducible rfl
          try simp only [Act.put, List.setIfInBounds_toArray, List.set_cons_zero, List.set_cons_succ]
          refine wpAnyH_take (i := 12) (oi := ⟨some 12, _, _, _, _, _⟩) (v := ?_) rfl (by kernel_rfl) (by kernel_rfl) (by kernel_rfl) (fun _ _ _ h => h) (Or.inl ⟨by kernel_rfl, ?_⟩) hHeld ?_
          rotate_left
          · intro w hSw
            obtain ⟨h0, h1, h2, h3, h4⟩ := hSw
            go_simp
            all_goals with_reducible rfl
          try simp only [Act.put, List.setIfInBounds_toArray, List.set_cons_zero, List.set_cons_succ]
          refine wpAnyH_done (by kernel_rfl) ?_ _
          go_wp2_with fail
          refine (rput_any 0 4 m 15 _ full4 (by omega) (by omega) (by omega)).mono ?_
          rintro ev wp1 ⟨vp1, rfl, hop1, hbp1⟩
          have HP1 := Lib.hid (HQ5.out.below hbp1)
          obtain ⟨Ap1, cp1, rfl, hrp1⟩ := hop1.rd
          have HRP1 := Lib.hid hrp1
          have hpl1 := (putB_length 0 15 m).1
          obtain ⟨P1, hP1⟩ : ∃ P1, putB 0 15 m = P1 := ⟨_, rfl⟩
          rw [hP1] at HRP1 hpl1 ⊢
          have HPE1 := Lib.hid hP1
          clear hop1 hbp1 hrp1 hP1
          go_wp2_with (at_builtin; refine of_stop ?_)
          unfold Stop
          refine wpList_app (.tmp 131) (.tmp 134) tBytes rfl rfl HP1.out.own rfl HRP1.out rfl (bvs_one _) (le_maxLen (by omega)) (by omega) HP1.out.kp.size ?_
          intro va1 wa1 hown1 hg1 hb1
          obtain ⟨L1, hL1⟩ : ∃ L1, L ++ P1 = L1 := ⟨_, rfl⟩
          have HA1 := Lib.hid (HP1.out.app hown1 hg1 hb1)
          have hl1 := congrArg List.length hL1
          simp only [List.length_append] at hl1
          rw [hL1] at HA1
          obtain ⟨Ax1, cx1, hv1, -, -, -, -⟩ := own_slice HA1.out.own
          subst hv1
          have HL1 := Lib.hid hL1
          clear hown1 hg1 hb1 hL1
          by_cases hm0 : m = 0
          · have em : ((m : Int) == 0) = true := by rw [hm0]; rfl
            have cc2 := HA1.out.cells
            obtain ⟨k0, k1, k2, -, -⟩ := cc2
            go_wp2_with fail
            refine (rputText_any nm _ (by omega)).mono ?_
            rintro ev wp2 ⟨vp2, rfl, hop2, hbp2⟩
            have HP2 := Lib.hid (HA1.out.below hbp2)
            obtain ⟨Ap2, cp2, rfl, hrp2⟩ := hop2.rd
            have HRP2 := Lib.hid hrp2
            have hpl2 := textB_le (s := nm) (by omega)
            obtain ⟨P2, hP2⟩ : ∃ P2, textB nm.data.toList = P2 := ⟨_, rfl⟩
            rw [hP2] at HRP2 hpl2 ⊢
            have HPE2 := Lib.hid hP2
            clear hop2 hbp2 hrp2 hP2 k0 k1 k2
            go_wp2_with (at_builtin; refine of_stop ?_)
            unfold Stop
            refine wpList_app (.tmp 138) (.tmp 141) tBytes rfl rfl HP2.out.own rfl HRP2.out rfl (bvs_one _) (le_maxLen (by omega)) (by omega) HP2.out.kp.size ?_
            intro va2 wa2 hown2 hg2 hb2
            obtain ⟨L2, hL2⟩ : ∃ L2, L1 ++ P2 = L2 := ⟨_, rfl⟩
            have HA2 := Lib.hid (HP2.out.app hown2 hg2 hb2)
            have hl2 := congrArg List.length hL2
            simp only [List.length_append] at hl2
            rw [hL2] at HA2
            obtain ⟨Ax2, cx2, hv2, -, -, -, -⟩ := own_slice HA2.out.own
            subst hv2
            have HL2 := Lib.hid hL2
            clear hown2 hg2 hb2 hL2
            have cc3 := HA2.out.cells
            obtain ⟨k0, k1, k2, -, -⟩ := cc3
            go_wp2_with fail
            refine (rputText_any vl _ (by omega)).mono ?_
            rintro ev wp3 ⟨vp3, rfl, hop3, hbp3⟩
            have HP3 := Lib.hid (HA2.out.below hbp3)
            obtain ⟨Ap3, cp3, rfl, hrp3⟩ := hop3.rd
            have HRP3 := Lib.hid hrp3
            have hpl3 := textB_le (s := vl) (by omega)
            obtain ⟨P3, hP3⟩ : ∃ P3, textB vl.data.toList = P3 := ⟨_, rfl⟩
            rw [hP3] at HRP3 hpl3 ⊢
            have HPE3 := Lib.hid hP3
            clear hop3 hbp3 hrp3 hP3 k0 k1 k2
            go_wp2_with (at_builtin; refine of_stop ?_)
            unfold Stop
            refine wpList_app (.tmp 143) (.tmp 146) tBytes rfl rfl HP3.out.own rfl HRP3.out rfl (bvs_one _) (le_maxLen (by omega)) (by omega) HP3.out.kp.size ?_
            intro va3 wa3 hown3 hg3 hb3
            obtain ⟨L3, hL3⟩ : ∃ L3, L2 ++ P3 = L3 := ⟨_, rfl⟩
            have HA3 := Lib.hid (HP3.out.app hown3 hg3 hb3)
            have hl3 := congrArg List.length hL3
            simp only [List.length_append] at hl3
            rw [hL3] at HA3
            obtain ⟨Ax3, cx3, hv3, -, -, -, -⟩ := own_slice HA3.out.own
            subst hv3
            have HL3 := Lib.hid hL3
            clear hown3 hg3 hb3 hL3
            have HEND := Lib.hid (HN.out _ _ (by rw [HONE.out, ← List.append_assoc, ← List.append_assoc, HPE1.out, HL1.out, if_pos hm0, HPE2.out, HL2.out, HPE3.out, HL3.out]; exact HA3.out))
            go_wp2_with fail
            go_roundw
            case rel => exact HEND.out
            case measure => simp [intOf]; omega
          · have em : ((m : Int) == 0) = false := by simp; omega
            have cc3 := HA1.out.cells
            obtain ⟨k0, k1, k2, -, -⟩ := cc3
            go_wp2_with fail
            refine (rputText_any vl _ (by omega)).mono ?_
            rintro ev wp3 ⟨vp3, rfl, hop3, hbp3⟩
            have HP3 := Lib.hid (HA1.out.below hbp3)
            obtain ⟨Ap3, cp3, rfl, hrp3⟩ := hop3.rd
            have HRP3 := Lib.hid hrp3
            have hpl3 := textB_le (s := vl) (by omega)
            obtain ⟨P3, hP3⟩ : ∃ P3, textB vl.data.toList = P3 := ⟨_, rfl⟩
            rw [hP3] at HRP3 hpl3 ⊢
            have HPE3 := Lib.hid hP3
            clear hop3 hbp3 hrp3 hP3 k0 k1 k2
            go_wp2_with (at_builtin; refine of_stop ?_)
            unfold Stop
            refine wpList_app (.tmp 143) (.tmp 146) tBytes rfl rfl HP3.out.own rfl HRP3.out rfl (bvs_one _) (le_maxLen (by omega)) (by omega) HP3.out.kp.size ?_
            intro va3 wa3 hown3 hg3 hb3
            obtain ⟨L3, hL3⟩ : ∃ L3, L1 ++ P3 = L3 := ⟨_, rfl⟩
            have HA3 := Lib.hid (HP3.out.app hown3 hg3 hb3)
            have hl3 := congrArg List.length hL3
            simp only [List.length_append] at hl3
            rw [hL3] at HA3
            obtain ⟨Ax3, cx3, hv3, -, -, -, -⟩ := own_slice HA3.out.own
            subst hv3
            have HL3 := Lib.hid hL3
            clear hown3 hg3 hb3 hL3
            have HEND := Lib.hid (HN.out _ _ (by rw [HONE.out, if_neg hm0, List.append_nil, ← List.append_assoc, HPE1.out, HL1.out, HPE3.out, HL3.out]; exact HA3.out))
            go_wp2_with fail
            go_roundw
            case rel => exact HEND.out
            case measure => simp [intOf]; omega
    · have hkn : k = n := by omega
      have HE : Hid (∃ v, Ending.returned u5 = .returned v ∧ OwnB wr w.heap.size v (32 :: (encL T0 l).1) ∧ Kept (fun b => b = e) w wr) := Lib.hid (by
        have h1 := HO.out.1
        rw [List.take_of_length_le (by have := HLL.out; omega)] at h1
        exact ⟨_, rfl, h1, HO.out.2.2⟩)
      obtain ⟨A9, c9, hv9, -, -, -, -⟩ := own_slice HO.out.1
      subst hv9
      go_wp2
      go_ret
      exact HE.out
end Go.Proofs.YtpkmciohehaboaaGreatDoor

/- The walks of ref01.Put, ref06.four. -/
namespace Go.Proofs.YtpkmciohehaboaaGreatDoor
open Go.RowKit

theorem be3v (n : Nat) : bvs (be 3 n) = [.int .u8 ((n / 65536 % 256 : Nat) : Int), .int .u8 ((n / 256 % 256 : Nat) : Int), .int .u8 ((n % 256 : Nat) : Int)] := by
  rw [be3, bv_of (by omega) (by omega), bv_of (by omega) (by omega), bv_of (by omega) (by omega)]; rfl
theorem be4v (n : Nat) : bvs (be 4 n) = [.int .u8 ((n / 16777216 % 256 : Nat) : Int), .int .u8 ((n / 65536 % 256 : Nat) : Int), .int .u8 ((n / 256 % 256 : Nat) : Int), .int .u8 ((n % 256 : Nat) : Int)] := by
  rw [be4, bv_of (by omega) (by omega), bv_of (by omega) (by omega), bv_of (by omega) (by omega), bv_of (by omega) (by omega)]; rfl
/-- The end of a row of four, as a row. -/
theorem rd_tail (w : World) (a b c d : Value) (t t2 : TypeId) (j : Nat) : Rd ((w.alloc (.cells #[a, b, c, d] t)).alloc (.cells #[] t2)) (w.heap.size + 1) 1 (some ⟨w.heap.size, j, none⟩) (4 - j) ([a, b, c, d].drop j) := by
  refine ⟨by simp, fun _ => ⟨_, _, rfl, by omega, fun i hi => ?_⟩⟩
  have h1 : ((w.alloc (.cells #[a, b, c, d] t)).alloc (.cells #[] t2)).heap[w.heap.size]? = some (.cells #[a, b, c, d] t (0, 0)) := (Below.heap_alloc _ _ _ (by simp)).trans (heapNew _ _)
  unfold World.cell?
  rw [h1]
  simp
theorem own_none0 (w : World) (B : Nat) (e : TypeId) (size : Nat) (hB : B ≤ w.heap.size) : (w.alloc (.cells #[] e)).ownsRow B e size (.slice (some ⟨w.heap.size, 0, none⟩) 0 0) 0 [] :=
  ⟨by simp, .inr ⟨_, 0, #[], rfl, hB, heapNew _ _, Nat.le_refl _, by unfold maxLen; omega, by simp, by simp⟩⟩
theorem own_none1 (w : World) (o : Obj) (B : Nat) (e : TypeId) (size : Nat) (hB : B ≤ w.heap.size) : ((w.alloc o).alloc (.cells #[] e)).ownsRow B e size (.slice (some ⟨w.heap.size + 1, 0, none⟩) 0 0) 0 [] := by
  have h := own_none0 (w.alloc o) B e size (by simp; omega)
  rwa [World.size_alloc] at h
set_option maxRecDepth 100000 in
set_option maxHeartbeats 4000000 in
theorem r1put_any (n size : Nat) (w : World) (hn : n < 4294967296) (hs : size = 3 ∨ size = 4) :
    Calls Tryz.prog 57 #[.int .u32 n, .int .i64 size] w (RetB w (be size n)) := by
  have hA : ∀ (a b c d : Value), Below w.heap.size w ((w.alloc (.cells #[a, b, c, d] 5)).alloc (.cells #[] 5)) := fun a b c d => ((Below.refl _ _).alloc (Nat.le_refl _) _).alloc (by simp) _
  have HA := Lib.hid hA
  clear hA
  go_enter Tryz.func57, Tryz.ntmps57
  rcases hs with rfl | rfl
  · go_wp2_with (at_builtin; refine of_stop ?_)
    unfold Stop
    refine wpList_app (.tmp 27) (.tmp 31) tBytes rfl rfl (own_none1 w _ w.heap.size _ _ (Nat.le_refl _)) rfl (rd_tail _ _ _ _ _ _ _ 1) rfl (by simp [Value.oneCell']) (le_maxLen (by omega)) (by omega) (by simp; omega) ?_
    intro v5 w5 hown5 hg5 _
    have hb5 := Below.app (HA.out _ _ _ _) (own_none1 w _ w.heap.size _ 1 (Nat.le_refl _)) hg5 (Nat.le_refl _) (by simp; omega)
    have HE : Hid (RetB w (be 3 n) (.returned v5) w5) := Lib.hid ⟨v5, rfl, (by
      unfold OwnB
      rw [be_length, be3v]
      exact hown5), hb5⟩
    obtain ⟨A5, c5, hv5, -, -, -, -⟩ := own_slice hown5
    rw [hv5] at HE ⊢
    clear hown5 hg5 hv5 hb5
    go_wp2
    go_ret
    exact HE.out
  · go_wp2_with (at_builtin; refine of_stop ?_)
    unfold Stop
    refine wpList_app (.tmp 27) (.tmp 31) tBytes rfl rfl (own_none1 w _ w.heap.size _ _ (Nat.le_refl _)) rfl (rd_tail _ _ _ _ _ _ _ 0) rfl (by simp [Value.oneCell']) (le_maxLen (by omega)) (by omega) (by simp; omega) ?_
    intro v5 w5 hown5 hg5 _
    have hb5 := Below.app (HA.out _ _ _ _) (own_none1 w _ w.heap.size _ 1 (Nat.le_refl _)) hg5 (Nat.le_refl _) (by simp; omega)
    have HE : Hid (RetB w (be 4 n) (.returned v5) w5) := Lib.hid ⟨v5, rfl, (by
      unfold OwnB
      rw [be_length, be4v, Nat.mod_eq_of_lt (show n / 16777216 < 256 by omega)]
      exact hown5), hb5⟩
    obtain ⟨A5, c5, hv5, -, -, -, -⟩ := own_slice hown5
    rw [hv5] at HE ⊢
    clear hown5 hg5 hv5 hb5
    go_wp2
    go_ret
    exact HE.out
set_option maxRecDepth 100000 in
theorem r4_any (n : Nat) (w : World) (hn : n < 4294967296) : Calls Tryz.prog 58 #[.int .i64 n] w (RetB w (be 4 n)) := by
  have HP := Lib.hid (r1put_any n 4 w hn (.inr rfl))
  have ew : IntKind.u32.wrap (n : Int) = n := by rw [IntKind.wrap_u32]; omega
  go_enter Tryz.func58, Tryz.ntmps58
  go_wp2_with fail
  refine HP.out.mono ?_
  rintro e w1 ⟨v, rfl, h⟩
  obtain ⟨A5, c5, hv5, -, -, -, -⟩ := own_slice h.1
  have HH := Lib.hid h
  subst hv5
  clear h
  go_wp2
  go_ret
  exact ⟨_, rfl, HH.out⟩
end Go.Proofs.YtpkmciohehaboaaGreatDoor
