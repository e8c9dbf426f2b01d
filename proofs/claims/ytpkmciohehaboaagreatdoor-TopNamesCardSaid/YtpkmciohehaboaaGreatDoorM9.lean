/- 6 texts in one: Ox8, Ox9, BackPlain, HBackPlain, HFew, Hd1. -/
import Derived.Test.YtpkmciohehaboaaGreatDoorM8
import Derived.Test.YtpkmciohehaboaaGreatDoorM2
import Derived.Test.YtpkmciohehaboaaGreatDoorM7
/- The walks of the document's number, Decimal. -/
namespace Go.Proofs.YtpkmciohehaboaaGreatDoor
open Go.RowKit

theorem decVal_step {l : List UInt8} (j k : Nat) (h : j ≤ k) : decVal (l.take j) ≤ decVal (l.take k) := by
  have := decVal_mono (l.take k) j
  rwa [List.take_take, Nat.min_eq_left h] at this
def RnRel (l : List UInt8) (n : Nat) (mv iv : Value) : Prop := ∃ k m : Nat, iv = .int .i64 k ∧ mv = .int .i64 m ∧ k ≤ n ∧ (l.take k).all dgtB = true ∧ m ≤ 10995116277770 ∧ ((m ≤ 1099511627776 ∧ m = decVal (l.take k)) ∨ (1099511627776 < m ∧ 1099511627776 < decVal (l.take k)))
set_option maxRecDepth 100000 in
set_option maxHeartbeats 4000000 in
theorem rnumber_any (s : ByteArray) (w : World) (hs : s.size ≤ 140737488355328) : Calls Tryz.prog 84 #[.string s, .int .i64 10] w fun e w' => e = .returned (.tuple #[.int .i64 (decRes s.data.toList).1, .int .i64 (decRes s.data.toList).2]) ∧ w = w' := by
  have hget := get_ba s
  have hlen := str_len s
  obtain ⟨l, hl⟩ : ∃ l, s.data.toList = l := ⟨_, rfl⟩
  rw [hl] at hget hlen ⊢
  obtain ⟨V, hV⟩ : ∃ V, (decRes l).1 = V := ⟨_, rfl⟩
  obtain ⟨E, hE⟩ : ∃ E, (decRes l).2 = E := ⟨_, rfl⟩
  rw [hV, hE]
  have HR : Hid (decRes l = (V, E)) := Lib.hid (by rw [← hV, ← hE])
  have HL := Lib.hid hlen
  clear hV hE hlen hl
  go_enter Tryz.func84, Tryz.ntmps84
  go_wp2_with fail
  go_loop [6, 7] (fun mv iv => RnRel l s.size mv iv) (fun _ iv => s.size - (intOf iv).toNat)
  case atStart => exact ⟨0, 0, rfl, rfl, Nat.zero_le _, rfl, by omega, .inl ⟨by omega, rfl⟩⟩
  case round =>
    obtain ⟨k, m, rfl, rfl, hk, hall, hm13, hor⟩ := hrel
    have HALL := Lib.hid (And.intro hall hor)
    clear hall hor
    by_cases hlt : k < s.size
    · have hkl : k < l.length := by rw [HL.out]; exact hlt
      have k1 : (k : Int) < s.size := by omega
      have hb := ba_get hkl
      have hv := ba_lt l k
      have hgk := hget k hlt
      obtain ⟨v, hv2⟩ : ∃ v, ba l k = v := ⟨_, rfl⟩
      rw [hv2] at hgk hv hb
      have HT := Lib.hid (rworth_any v w hv)
      have hdb : dgtB (l[k]) = decide (digN v < 10) := by rw [hb]; exact dgtB_digN
      have hwd := wth_dig (c := v)
      have hsn := decVal_snoc hkl
      rw [← hb] at hsn
      have hst := decVal_step (l := l) k (k + 1) (by omega)
      obtain ⟨d, hd⟩ : ∃ d, wthN v = d := ⟨_, rfl⟩
      rw [hd] at HT hwd
      have HH := Lib.hid (And.intro hdb (And.intro hwd (And.intro hsn hst)))
      clear hv2 hb hdb hwd hsn hst hd hget
      go_wp2_with fail
      refine HT.out.mono ?_
      rintro e w1 ⟨rfl, rfl⟩
      by_cases h10 : d < 10
      · have hd10 : digN v < 10 := HH.out.2.1.1.1 h10
        have hdd : d = digN v := HH.out.2.1.2 hd10
        have hall2 : (l.take (k + 1)).all dgtB = true := all_take_succ HALL.out.1 hkl (HH.out.1.trans (decide_eq_true hd10))
        have hs2 := HH.out.2.2.1
        rw [← hdd] at hs2
        have h11 : (d : Int) < 10 := by omega
        by_cases hsm : m ≤ 1099511627776
        · have hmv : m = decVal (l.take k) := by rcases HALL.out.2 with h | h <;> omega
          have HN : Hid (RnRel l s.size (.int .i64 (m * 10 + d : Nat)) (.int .i64 (k + 1 : Nat))) := Lib.hid (by
            refine ⟨k + 1, m * 10 + d, rfl, rfl, hlt, hall2, by omega, ?_⟩
            rw [hs2, ← hmv]
            by_cases hb2 : m * 10 + d ≤ 1099511627776
            · exact .inl ⟨hb2, rfl⟩
            · exact .inr ⟨by omega, by omega⟩)
          have hsm2 : (m : Int) ≤ 1099511627776 := by omega
          clear hdd hs2 hall2 hmv
          go_wp2
          go_round
          case rel => exact HN.out
          case measure => simp [intOf]; omega
        · have HN : Hid (RnRel l s.size (.int .i64 m) (.int .i64 (k + 1 : Nat))) := Lib.hid (by
            refine ⟨k + 1, m, rfl, rfl, hlt, hall2, by omega, .inr ⟨by omega, ?_⟩⟩
            have := HH.out.2.2.2
            rcases HALL.out.2 with h | h <;> omega)
          have hsm2 : (1099511627776 : Int) < m := by omega
          clear hdd hs2 hall2
          go_wp2
          go_round
          case rel => exact HN.out
          case measure => simp [intOf]; omega
      · have h1 : (V, E) = (0, 10) := by
          rw [← HR.out]
          unfold decRes
          have hne : l ≠ [] := fun e => by rw [e] at hkl; simp at hkl
          rw [if_neg hne, if_pos (all_not hkl (HH.out.1.trans (decide_eq_false (fun h => h10 (HH.out.2.1.1.2 h)))))]
        injection h1 with h1 h2
        subst h1 h2
        have h11 : (10 : Int) ≤ d := by omega
        go_wp2
        go_ret2
        exact ⟨rfl, rfl⟩
    · have hkn : k = s.size := by omega
      have hall : l.all dgtB = true := by
        have h1 := HALL.out.1
        rwa [List.take_of_length_le (by rw [HL.out]; omega)] at h1
      have hor := HALL.out.2
      rw [List.take_of_length_le (by rw [HL.out]; omega)] at hor
      have hr := HR.out
      unfold decRes at hr
      rw [hall] at hr
      subst hkn
      by_cases he : l = []
      · have h1 : (V, E) = (0, 10) := by rw [← hr, if_pos he]
        injection h1 with h1 h2
        subst h1 h2
        have hz : s.size = 0 := by rw [← HL.out, he]; rfl
        have e0 : ((s.size : Int) == 0) = true := by rw [beq_iff_eq]; omega
        clear hz he hr hor hall
        go_wp2
        go_ret2
        exact ⟨rfl, rfl⟩
      · rw [if_neg he, if_neg (by simp)] at hr
        have hpos : 0 < l.length := List.length_pos_iff.2 he
        have e0 : ((s.size : Int) == 0) = false := by rw [beq_eq_false_iff_ne]; have := HL.out; omega
        by_cases hbig : 1099511627776 < m
        · have h1 : (V, E) = (0, 11) := by rw [← hr, if_pos (by rcases hor with h | h <;> omega)]
          injection h1 with h1 h2
          subst h1 h2
          have hb2 : (1099511627776 : Int) < m := by omega
          clear he hr hor hall hpos
          go_wp2
          go_ret2
          exact ⟨rfl, rfl⟩
        · have h1 : (V, E) = (m, 0) := by
            have hmv : m = decVal l := by rcases hor with h | h <;> omega
            rw [← hr, if_neg (by omega), hmv]
          injection h1 with h1 h2
          subst h1 h2
          clear he hr hor hall hpos
          go_wp2
          go_ret2
          exact ⟨rfl, rfl⟩
set_option maxRecDepth 100000 in
theorem rdecimal_any (s : ByteArray) (w : World) (hs : s.size ≤ 140737488355328) : Calls Tryz.prog 43 #[.string s] w fun e w' => e = .returned (.tuple #[.int .i64 (decRes s.data.toList).1, .int .i64 (decRes s.data.toList).2]) ∧ w = w' := by
  have HT := Lib.hid (rnumber_any s w hs)
  obtain ⟨V, hV⟩ : ∃ V, (decRes s.data.toList).1 = V := ⟨_, rfl⟩
  obtain ⟨E, hE⟩ : ∃ E, (decRes s.data.toList).2 = E := ⟨_, rfl⟩
  rw [hV, hE] at HT ⊢
  clear hV hE
  go_enter Tryz.func43, Tryz.ntmps43
  go_wp2_with fail
  refine HT.out.mono ?_
  rintro e w1 ⟨rfl, rfl⟩
  go_wp2
  go_ret2
  exact ⟨rfl, rfl⟩
end Go.Proofs.YtpkmciohehaboaaGreatDoor

/- The walks of octet.digits, Digits. -/
namespace Go.Proofs.YtpkmciohehaboaaGreatDoor
open Go.RowKit

/-- A number's digits. -/
def decS (n : Nat) : List UInt8 := if n < 10 then [UInt8.ofNat (48 + n)] else decS (n / 10) ++ [UInt8.ofNat (48 + n % 10)]
termination_by n
decreasing_by omega
theorem decS_small {n : Nat} (h : n < 10) : decS n = [UInt8.ofNat (48 + n)] := by rw [decS, if_pos h]
theorem decS_big {n : Nat} (h : ¬ n < 10) : decS n = decS (n / 10) ++ [UInt8.ofNat (48 + n % 10)] := by rw [decS, if_neg h]
def hexL : List UInt8 := [48, 49, 50, 51, 52, 53, 54, 55, 56, 57, 97, 98, 99, 100, 101, 102]
theorem hex_get : ∀ d : Nat, d < 10 → ba hexL d = 48 + d := by decide
theorem sa_from (g b : Nat) (hb : b < 64) : ∀ w, (Instr.sliceAt 199 (.pointer (some ⟨g, 0, none⟩)) (some (.int .i64 (b : Int))) none none).run Tryz.prog w = .ok (.slice (some ⟨g, b, none⟩) (64 - b) (64 - b)) w := by
  intro w
  have hl : Tryz.prog.arrayLen 199 = 64 := by kernel_rfl
  have hs : ∀ w, (sizeOf (Tryz.prog.elem 199)).run Tryz.prog w = .ok 1 w := fun _ => by kernel_rfl
  rw [run_sliceAt_array_l (P := Tryz.prog) (w := w) 199 ⟨g, 0, none⟩ (by kernel_rfl) .i64 (b : Int) (by omega) (by rw [hl]; omega), hs, hl]
  rw [Int.toNat_natCast, Result.andThen_ok]
  unfold slicedAt
  rw [if_neg (by omega), Nat.mul_one, Addr.add_lit, Nat.zero_add]
def DgRel (w : World) (N g : Nat) (nv av : Value) (wr : World) : Prop := ∃ (a n : Nat) (sfx : List UInt8) (cur : Array Value), nv = .int .i64 n ∧ av = .int .i64 a ∧ a + sfx.length = 64 ∧ n * 10 ^ sfx.length ≤ N ∧ (0 < n ∨ sfx = []) ∧ cur.size = 64 ∧ (∀ i, i < 64 → ∃ z : Int, cur[i]? = some (.int .u8 z)) ∧ cur.toList.drop a = bvs sfx ∧ decS N = decS n ++ sfx ∧ wr.heap[g]? = some (.cells cur 199 (0, 0)) ∧ Below w.heap.size w wr
set_option maxRecDepth 100000 in
set_option maxHeartbeats 8000000 in
theorem digits_any (N : Nat) (w : World) (hN : N ≤ 1000000) : Calls Tryz.prog 75 #[.int .i64 (N : Int), .int .i64 10] w fun e w' => e = .returned (.string (mkS (decS N))) ∧ Below w.heap.size w w' := by
  have hhex := get_ba (⟨#[48, 49, 50, 51, 52, 53, 54, 55, 56, 57, 97, 98, 99, 100, 101, 102]⟩ : ByteArray)
  have hhl : (⟨#[48, 49, 50, 51, 52, 53, 54, 55, 56, 57, 97, 98, 99, 100, 101, 102]⟩ : ByteArray).data.toList = hexL := rfl
  rw [hhl] at hhex
  obtain ⟨R, hR⟩ : ∃ R, mkS (decS N) = R := ⟨_, rfl⟩
  rw [hR]
  have HR := Lib.hid hR
  obtain ⟨g, hg⟩ : ∃ g, w.heap.size = g := ⟨_, rfl⟩
  have HG := Lib.hid hg
  clear hR hhl hg
  go_enter Tryz.func75, Tryz.ntmps75
  go_wp2_with fail
  rw [HG.out]
  go_loopw [0, 6] (fun nv av wr => DgRel w N g nv av wr) (fun nv _ _ => (intOf nv).toNat)
  case atStart =>
    refine ⟨64, N, [], Array.replicate 64 (.int .u8 0), rfl, rfl, rfl, by simp, .inr rfl, by simp, fun i hi => ⟨0, by simp [hi]⟩, by simp [bvs], by simp, ?_, (Below.refl _ _).alloc (Nat.le_refl _) _⟩
    rw [← HG.out]
    exact heapNew _ _
  case round =>
    obtain ⟨a, n, sfx, cur, rfl, rfl, ha, hn10, hn0, hcs, hci, hdr, hdec, hblk, hbel⟩ := hrel
    have hl6 : sfx.length ≤ 6 := by
      rcases hn0 with h | h
      · have h1 : 10 ^ sfx.length ≤ N := Nat.le_trans (by have := Nat.mul_le_mul_right (10 ^ sfx.length) h; omega) hn10
        rcases Nat.lt_or_ge 6 sfx.length with h2 | h2
        · have h3 : 10 ^ 7 ≤ 10 ^ sfx.length := Nat.pow_le_pow_right (by omega) h2
          omega
        · exact h2
      · rw [h]; simp
    have hnN : n ≤ N := Nat.le_trans (Nat.le_mul_of_pos_right n (Nat.pow_pos (by omega))) hn10
    obtain ⟨b, rfl⟩ : ∃ b, a = b + 1 := ⟨a - 1, by omega⟩
    obtain ⟨z, hz⟩ := hci b (by omega)
    have zc : wr.cell? ⟨g, b, none⟩ = some (.int .u8 z) := by unfold World.cell?; rw [hblk]; exact hz
    have hfz := fz_of hblk
    obtain ⟨d, hd⟩ : ∃ d, n % 10 = d := ⟨_, rfl⟩
    obtain ⟨q, hq⟩ : ∃ q, n / 10 = q := ⟨_, rfl⟩
    have hd10 : d < 10 := by omega
    have hdi : (n : Int) % 10 = (d : Int) := by omega
    have hqi : (n : Int) / 10 = (q : Int) := by omega
    have hhx := hex_get d hd10
    have hgk := hhex d (by show d < 16; omega)
    obtain ⟨v, hv⟩ : ∃ v, ba hexL d = v := ⟨_, rfl⟩
    rw [hv] at hgk hhx
    have hgk' : ∀ h, (((⟨#[48, 49, 50, 51, 52, 53, 54, 55, 56, 57, 97, 98, 99, 100, 101, 102]⟩ : ByteArray)[d]'h).toNat : Int) = (v : Int) := fun _ => hgk
    have HN : Hid (∀ W', W' = wr.setCell ⟨g, b, none⟩ (.int .u8 (v : Int)) → decS n = (if n < 10 then [] else decS q) ++ [UInt8.ofNat v] ∧ (∀ i, i < 64 → ∃ z : Int, (cur.setIfInBounds b (.int .u8 (v : Int)))[i]? = some (.int .u8 z)) ∧ (cur.setIfInBounds b (.int .u8 (v : Int))).toList.drop b = bvs (UInt8.ofNat v :: sfx) ∧ W'.heap[g]? = some (.cells (cur.setIfInBounds b (.int .u8 (v : Int))) 199 (0, 0)) ∧ Below w.heap.size w W') := Lib.hid (fun W' hW' => by
      subst hW'
      refine ⟨?_, fun i hi => ?_, ?_, set_b7 _ hblk, hbel.setCell (by rw [HG.out]; exact Nat.le_refl _) _⟩
      · by_cases h10 : n < 10
        · rw [decS_small h10, if_pos h10, hhx, ← hd, Nat.mod_eq_of_lt h10]; rfl
        · rw [decS_big h10, if_neg h10, hq, hhx, ← hd]
      · by_cases hib : i = b
        · subst hib
          exact ⟨v, by rw [Array.getElem?_setIfInBounds_self_of_lt (by omega)]⟩
        · obtain ⟨z2, hz2⟩ := hci i hi
          exact ⟨z2, by rw [Array.getElem?_setIfInBounds_ne (by omega)]; exact hz2⟩
      · rw [Array.toList_setIfInBounds, List.drop_set, if_neg (by omega), Nat.sub_self]
        have hc : cur.toList.drop b = (.int .u8 z) :: cur.toList.drop (b + 1) := by
          have hbl : b < cur.toList.length := by rw [Array.length_toList]; omega
          rw [List.drop_eq_getElem_cons hbl]
          congr 1
          have h1 : cur[b]? = some (cur.toList[b]) := by rw [← Array.getElem?_toList, List.getElem?_eq_getElem hbl]
          rw [hz] at h1
          injection h1 with h1
          exact h1.symm
        rw [hc, List.set_cons_zero, hdr]
        show _ = bv (UInt8.ofNat v) :: bvs sfx
        congr 1
        unfold bv
        rw [UInt8.toNat_ofNat', Nat.mod_eq_of_lt (by omega)])
    have HA := Lib.hid (And.intro hcs (And.intro hdec (And.intro hd (And.intro hq (And.intro ha hhx)))))
    have hv2 : v < 256 := by omega
    clear hhex hhx hgk hv hblk hbel hdr hci hdec hcs hz hn0 hd hq
    by_cases h10 : n < 10
    · have hq0 : q = 0 := by have := HA.out.2.2.2.1; omega
      subst hq0
      obtain ⟨W', hW'⟩ : ∃ W', wr.setCell ⟨g, b, none⟩ (.int .u8 (v : Int)) = W' := ⟨_, rfl⟩
      obtain ⟨h1, h2, h3, h4, h5⟩ := HN.out W' hW'.symm
      have hrd : Rd W' W'.heap.size 1 (some ⟨g, b, none⟩) (64 - b) (bvs (decS N)) := by
        have e : decS N = UInt8.ofNat v :: sfx := by rw [HA.out.2.1, h1, if_pos h10]; rfl
        have hln : (bvs (UInt8.ofNat v :: sfx)).length = 64 - b := by rw [bvs_length, List.length_cons]; omega
        rw [e]
        refine ⟨by rw [hln]; omega, fun _ => ⟨g, b, rfl, (Array.getElem?_eq_some_iff.1 h4).1, fun j hj => ?_⟩⟩
        rw [← h3, List.getElem?_drop, Array.getElem?_toList]
        unfold World.cell?
        rw [h4]
        rfl
      have hst := run_str Tryz.underlying48 Tryz.underlying5 Tryz.underlying9 hrd (64 - b)
      have hrr : (⟨(decS N).toArray⟩ : ByteArray) = R := HR.out
      rw [hrr] at hst
      rw [← hW'] at hst
      have HB5 : Hid (Below w.heap.size w (wr.setCell ⟨g, b, none⟩ (.int .u8 (v : Int)))) := Lib.hid (by rw [hW']; exact h5)
      have hsa := sa_from g b (by omega)
      clear h1 h2 h3 h4 h5 hrd hrr hW' HN
      go_wp2
      go_ret
      exact ⟨rfl, HB5.out⟩
    · have hq1 : ((q : Int) == 0) = false := by rw [beq_eq_false_iff_ne]; have := HA.out.2.2.2.1; omega
      have HE : Hid (DgRel w N g (.int .i64 q) (.int .i64 b) (wr.setCell ⟨g, b, none⟩ (.int .u8 (v : Int)))) := Lib.hid (by
        obtain ⟨h1, h2, h3, h4, h5⟩ := HN.out _ rfl
        have hqn := HA.out.2.2.2.1
        refine ⟨b, q, UInt8.ofNat v :: sfx, _, rfl, rfl, by rw [List.length_cons]; omega, ?_, .inl (by omega), by rw [Array.size_setIfInBounds]; exact HA.out.1, h2, h3, ?_, h4, h5⟩
        · rw [List.length_cons, Nat.pow_succ, Nat.mul_comm (10 ^ sfx.length) 10, ← Nat.mul_assoc]
          exact Nat.le_trans (Nat.mul_le_mul_right _ (by omega)) hn10
        · rw [HA.out.2.1, h1, if_neg h10, List.append_assoc]
          rfl)
      have HM : Hid (q < n) := Lib.hid (by have := HA.out.2.2.2.1; omega)
      clear HN
      go_wp2
      go_roundw
      case rel => exact HE.out
      case measure => have := HM.out; simp [intOf]; omega
set_option maxRecDepth 100000 in
theorem odigits_any (N : Nat) (w : World) (hN : N ≤ 1000000) : Calls Tryz.prog 35 #[.int .i64 (N : Int)] w fun e w' => e = .returned (.string (mkS (decS N))) ∧ Below w.heap.size w w' := by
  have HT := Lib.hid (digits_any N w hN)
  obtain ⟨R, hR⟩ : ∃ R, mkS (decS N) = R := ⟨_, rfl⟩
  rw [hR] at HT ⊢
  clear hR
  go_enter Tryz.func35, Tryz.ntmps35
  go_wp2_with fail
  refine HT.out.mono ?_
  rintro e w1 ⟨rfl, hb⟩
  have HB := Lib.hid hb
  clear hb
  go_wp2
  go_ret
  exact ⟨rfl, HB.out⟩
end Go.Proofs.YtpkmciohehaboaaGreatDoor

/- A text that is written is read as it was; without its last byte it is short. In plain Lean. No program in sight. -/
namespace Go.Proofs.YtpkmciohehaboaaGreatDoor
open Go.RowKit

section
variable {f : Nat} {body rest : List UInt8} (hf : f = 0 ∨ f = 128) (hb : body.length ≤ 4096)
include hf hb
end

end Go.Proofs.YtpkmciohehaboaaGreatDoor

/- What an encoder of header blocks writes a decoder reads as it was, and both tables are alike: in plain Lean. No program in sight. -/
namespace Go.Proofs.YtpkmciohehaboaaGreatDoor
open Go.RowKit

/-- A field as it is told. -/
def told (f : Fd) : Fd := (f.1, neverF f)
def sumF (l : List Fd) : Nat := (l.map fun f => cost f.1).sum
/-- What holds between an encoder and its decoder, behind a block and any limits. -/
structure Pair (E : Enc) (T : Tb) : Prop where
  tok : TOk T
  etok : TOk E.T
  tol : T.most = E.told
  l0 : 0 ≤ E.least
  l1 : E.least ≤ E.T.most
  same : (E.T.gone, E.T.rows) = shrunk E.least T.gone T.rows
theorem Pair.new {own mo : Int} (h0 : 0 ≤ own) (h1 : own ≤ 65536) (hmo : 4096 ≤ mo) : Pair (Enc.mk own 4096 (min own 4096) ⟨min own 4096, 0, []⟩) ⟨min mo 4096, 0, []⟩ := by
  refine ⟨⟨by simp only; omega, by simp only; omega, by simp only; show sumc [] ≤ _; simp [sumc]; omega, fun r hr => by cases hr⟩, ⟨by simp only; omega, by simp only; omega, by simp only; show sumc [] ≤ _; simp [sumc]; omega, fun r hr => by cases hr⟩, by simp only; omega, by simp only; omega, by simp only; omega, rfl⟩
theorem Tb.ext' {T U : Tb} (h1 : T.most = U.most) (h2 : (T.gone, T.rows) = (U.gone, U.rows)) : T = U := by
  cases T; cases U
  simp at h1 h2
  simp [h1, h2]
end Go.Proofs.YtpkmciohehaboaaGreatDoor

/- The walks of the document's Bytes, of law05.short; how long a block is. -/
namespace Go.Proofs.YtpkmciohehaboaaGreatDoor
open Go.RowKit

def bytesA : Nat → List Fd → Nat
  | n, [] => n
  | n, f :: l => bytesA (if n < 1073741824 then n + cost f.1 else n) l
/-- Of a list, together, up to a bound. -/
def bytesV (l : List Fd) : Nat := bytesA 0 l
theorem bytesA_snoc (l : List Fd) (f : Fd) : ∀ n, bytesA n (l ++ [f]) = if bytesA n l < 1073741824 then bytesA n l + cost f.1 else bytesA n l := by
  induction l with
  | nil => intro n; rfl
  | cons g l ih => intro n; exact ih _
theorem bytesA_ge (l : List Fd) : ∀ n, n ≤ bytesA n l := by
  induction l with
  | nil => intro n; exact Nat.le_refl _
  | cons g l ih => intro n; show n ≤ bytesA _ l; have := ih (if n < 1073741824 then n + cost g.1 else n); split at this <;> simp only [*, if_true, if_false] <;> omega
theorem bytesA_sum (l : List Fd) : ∀ n, bytesA n l < 1073741824 → bytesA n l = n + sumF l := by
  induction l with
  | nil => intro n _; rfl
  | cons g l ih =>
    intro n h
    have h' : bytesA (if n < 1073741824 then n + cost g.1 else n) l < 1073741824 := h
    have hg := bytesA_ge l (if n < 1073741824 then n + cost g.1 else n)
    have e := ih _ h'
    show bytesA (if n < 1073741824 then n + cost g.1 else n) l = n + ((g :: l).map fun f => cost f.1).sum
    rw [e]
    by_cases hn : n < 1073741824
    · rw [if_pos hn]; simp only [List.map_cons, List.sum_cons, sumF]; omega
    · rw [if_neg hn] at hg h'; omega
theorem bytesV_sum {l : List Fd} (h : bytesV l < 1073741824) : bytesV l = sumF l := by have := bytesA_sum l 0 h; unfold bytesV; omega
theorem bytesA_le (l : List Fd) (hz : ∀ f ∈ l, f.1.1.size ≤ 140737488351232 ∧ f.1.2.size ≤ 140737488351232) : ∀ n, n ≤ 281476050452000 → bytesA n l ≤ 281476050452000 := by
  induction l with
  | nil => intro n h; exact h
  | cons g l ih =>
    intro n h
    have hg := hz g (by simp)
    refine ih (fun f hf => hz f (by simp [hf])) _ ?_
    have : cost g.1 = g.1.1.size + g.1.2.size + 32 := rfl
    split <;> omega
theorem bytesV_le {l : List Fd} (hz : ∀ f ∈ l, f.1.1.size ≤ 140737488351232 ∧ f.1.2.size ≤ 140737488351232) : bytesV l ≤ 281476050452000 := bytesA_le l hz 0 (by omega)
def BRel (w : World) (n : Nat) (l : List Fd) (sv jv : Value) (wr : World) : Prop := ∃ k d : Nat, jv = .int .i64 k ∧ sv = .int .i64 (bytesV (l.take k) : Nat) ∧ k ≤ n ∧ wr = w.drewN d
set_option maxRecDepth 100000 in
set_option maxHeartbeats 2000000 in
theorem bytes_any {A : Option Addr} {B n c : Nat} {l : List Fd} (w : World) (hr : Rd w B 3 A n (fds l)) (hn : n ≤ 140737488351232) (hz : ∀ f ∈ l, f.1.1.size ≤ 140737488351232 ∧ f.1.2.size ≤ 140737488351232) :
    Calls Tryz.prog 6 #[.slice A n c] w fun e w' => e = .returned (.int .i64 (bytesV l : Nat)) ∧ ∃ d, w' = w.drewN d := by
  have H1 := Lib.hid hr
  have HZ := Lib.hid hz
  clear hr hz
  go_enter Tryz.func6, Tryz.ntmps6
  go_wp2
  go_loopw [3, 4] (fun sv jv wr => BRel w n l sv jv wr) (fun _ jv _ => n - (intOf jv).toNat)
  case atStart => exact ⟨0, 0, rfl, rfl, Nat.zero_le _, rfl⟩
  case round =>
    obtain ⟨k, d, rfl, rfl, hk, rfl⟩ := hrel
    obtain ⟨v, hv⟩ : ∃ v, bytesV (l.take k) = v := ⟨_, rfl⟩
    have hvle : (v : Int) ≤ 281476050452000 := by have : v ≤ 281476050452000 := by { rw [← hv]; exact bytesV_le fun f hf => HZ.out f (List.mem_of_mem_take hf) }
                                                  omega
    have HV := Lib.hid hv
    rw [hv]
    clear hv
    by_cases hlt : k < n
    · obtain ⟨hl, b, o, rfl, hb, hc⟩ := fd_at H1.out (by omega)
      obtain ⟨f, hf⟩ : ∃ f, l[k]? = some f := ⟨_, List.getElem?_eq_getElem (by omega)⟩
      obtain ⟨q0, q1, q2⟩ := hc k f hf
      have z0 : ∀ d, (w.drewN d).cell? ⟨b, o + k * 3, none⟩ = some (.string f.1.1) := fun _ => q0
      have z1 : ∀ d, (w.drewN d).cell? ⟨b, o + k * 3 + 1, none⟩ = some (.string f.1.2) := fun _ => q1
      obtain ⟨s1, s2⟩ := HZ.out f (List.mem_of_getElem? hf)
      have n1 : (k : Int) < n := by omega
      have HS : Hid (bytesV (l.take (k + 1)) = if v < 1073741824 then v + cost f.1 else v) := Lib.hid (by rw [List.take_add_one, hf, Option.toList_some]; unfold bytesV at HV ⊢; rw [bytesA_snoc, HV.out])
      clear hc hf hl
      obtain ⟨a, ha⟩ : ∃ a, f.1.1.size = a := ⟨_, rfl⟩
      obtain ⟨a', ha'⟩ : ∃ a', f.1.2.size = a' := ⟨_, rfl⟩
      have HC : Hid (cost f.1 = a + a' + 32) := Lib.hid (by rw [← ha, ← ha']; rfl)
      by_cases hv30 : (v : Int) < 1073741824
      · go_wp2
        go_quiet (fail)
        go_wp2
        go_roundw
        case rel => exact ⟨k + 1, _, by go_num, by rw [HS.out, if_pos (by omega), HC.out]; congr 1; omega, by omega, rfl⟩
        case measure => simp [intOf]; omega
      · go_wp2
        go_roundw
        case rel => exact ⟨k + 1, _, by go_num, by rw [HS.out, if_neg (by omega)], by omega, rfl⟩
        case measure => simp [intOf]; omega
    · obtain rfl : k = n := by omega
      have hl := H1.out.1
      rw [fds_length] at hl
      have HT : Hid (l.take k = l) := Lib.hid (List.take_of_length_le (by omega))
      clear hl
      go_wp2
      go_ret
      exact ⟨by rw [← HV.out, HT.out]; rfl, _, rfl⟩
end Go.Proofs.YtpkmciohehaboaaGreatDoor

/- Lists of fields: the values of a name; what the lengths say: the walks of ref10.Values, ref10.Length, head.Length. -/
namespace Go.Proofs.YtpkmciohehaboaaGreatDoor
open Go.RowKit

def strs (l : List ByteArray) : List Value := l.map Value.string
theorem strs_length (l : List ByteArray) : (strs l).length = l.length := by simp [strs]
theorem strs_snoc (l : List ByteArray) (s : ByteArray) : strs (l ++ [s]) = strs l ++ [.string s] := by simp [strs]
theorem strs_get {l : List ByteArray} {i : Nat} {s : ByteArray} (h : l[i]? = some s) : (strs l)[i]? = some (.string s) := by simp [strs, h]
theorem tStrs : SlT Tryz.prog 80 9 (.string ByteArray.empty) 1 16 := ⟨Tryz.underlying80, by kernel_rfl, rfl, by decide⟩
/-- The values of all fields of a name. -/
def valsF (l : List Fd) (name : ByteArray) : List ByteArray := (l.filter fun f => decide (f.1.1 = name)).map fun f => f.1.2
theorem valsF_snoc {l : List Fd} {k : Nat} {f : Fd} (h : l[k]? = some f) (name : ByteArray) : valsF (l.take (k + 1)) name = valsF (l.take k) name ++ (if f.1.1 = name then [f.1.2] else []) := by
  rw [List.take_add_one, h, Option.toList_some]
  unfold valsF
  rw [List.filter_append, List.map_append]
  congr 1
  by_cases hn : f.1.1 = name <;> simp [hn]
theorem valsF_le (l : List Fd) (name : ByteArray) : (valsF l name).length ≤ l.length := by
  unfold valsF
  rw [List.length_map]
  exact List.length_filter_le _ _
theorem valsF_mem {l : List Fd} {name s : ByteArray} (h : s ∈ valsF l name) : ∃ f ∈ l, f.1.2 = s := by
  unfold valsF at h
  obtain ⟨f, hf, rfl⟩ := List.mem_map.1 h
  exact ⟨f, (List.mem_filter.1 hf).1, rfl⟩
/-- What was said so far, or an error. -/
def lenStep (o : Option (Option Nat)) (s : ByteArray) : Option (Option Nat) := match o with
  | none => none
  | some t => if (decRes s.data.toList).2 ≠ 0 ∨ (∃ k, t = some k ∧ (decRes s.data.toList).1 ≠ k) then none else some (some (decRes s.data.toList).1)
def clB : ByteArray := ⟨#[99, 111, 110, 116, 101, 110, 116, 45, 108, 101, 110, 103, 116, 104]⟩
def lenF (l : List Fd) : Option (Option Nat) := (valsF l clB).foldl lenStep (some none)
/-- The length, whether it is told, the error. -/
def lenR (o : Option (Option Nat)) : Nat × Bool × Nat := match o with
  | none => (0, false, 102)
  | some none => (0, false, 0)
  | some (some n) => (n, true, 0)
/-- Texts and lists that a walk may carry. -/
def Tx (l : List Fd) : Prop := ∀ f ∈ l, f.1.1.size ≤ 140737488351232 ∧ f.1.2.size ≤ 140737488351232
def VsRel (w : World) (n : Nat) (l : List Fd) (name : ByteArray) (ov iv : Value) (wr : World) : Prop := ∃ k : Nat, iv = .int .i64 k ∧ k ≤ n ∧ wr.ownsRow w.heap.size 9 1 ov (valsF (l.take k) name).length (strs (valsF (l.take k) name)) ∧ Below w.heap.size w wr
def OwnStr (w : World) (vs : List ByteArray) (e : Ending) (w' : World) : Prop := ∃ v, e = .returned v ∧ w'.ownsRow w.heap.size 9 1 v vs.length (strs vs) ∧ Below w.heap.size w w'
set_option maxRecDepth 100000 in
set_option maxHeartbeats 4000000 in
theorem rvalues_any {A : Option Addr} {n c : Nat} {l : List Fd} (name : ByteArray) (w : World) (hr : Rd w w.heap.size 3 A n (fds l)) (hn : n ≤ 1048576) :
    Calls Tryz.prog 42 #[.slice A n c, .string name] w (OwnStr w (valsF l name)) := by
  have H1 := Lib.hid hr
  clear hr
  go_enter Tryz.func42, Tryz.ntmps42
  go_wp2_with fail
  go_loopw [5, 6] (fun ov iv wr => VsRel w n l name ov iv wr) (fun _ iv _ => n - (intOf iv).toNat)
  case atStart => exact ⟨0, rfl, Nat.zero_le _, World.ownsRow_nil _ _ _ _, Below.refl _ _⟩
  case round =>
    obtain ⟨k, rfl, hk, hown, hb⟩ := hrel
    have HO := Lib.hid (And.intro hown hb)
    have hsr := hb.size
    clear hown hb
    by_cases hlt : k < n
    · obtain ⟨hl, b, o, rfl, hbl, hc⟩ := fd_at (H1.out.below HO.out.2 (Nat.le_refl _)) (by omega)
      obtain ⟨f, hf⟩ : ∃ f, l[k]? = some f := ⟨_, List.getElem?_eq_getElem (by omega)⟩
      obtain ⟨z0, z1, -⟩ := hc k f hf
      have n1 : (k : Int) < n := by omega
      have hsn := valsF_snoc hf name
      have hvl := valsF_le (l.take k) name
      rw [List.length_take] at hvl
      have HS := Lib.hid hsn
      have hbw : b < wr.heap.size := by omega
      have HAL : Hid (∀ ob, (wr.alloc ob).ownsRow w.heap.size 9 1 u5 (valsF (l.take k) name).length (strs (valsF (l.take k) name))) := Lib.hid (fun ob => own_kept4 HO.out.1 ((Kept.refl (fun _ => False) wr).alloc ob) (fun _ _ h => h))
      clear hc hsn hf
      obtain ⟨⟨nm, vl⟩, nv⟩ := f
      simp only at z0 z1
      by_cases hnm : nm = name
      · subst hnm
        have h16 : ((valsF (l.take k) nm).length + 1) * 16 ≤ 140737488355328 := by omega
        go_wp2_with (at_builtin; refine of_stop ?_)
        unfold Stop
        refine wpList_app (.tmp 20) (.tmp 26) tStrs rfl rfl (HAL.out _) rfl (Rd.one _ _ _) rfl (by simp [Value.oneCell']) (le_maxLen (by omega)) (by omega) (by simp; omega) ?_
        intro v6 w6 hown6 hg6 _
        obtain ⟨A6, c6, hv6, -, -, -, -⟩ := own_slice hown6
        have HN : Hid (VsRel w n l nm v6 (.int .i64 (k + 1 : Nat)) w6) := Lib.hid (by
          refine ⟨k + 1, rfl, hlt, ?_, Below.app (HO.out.2.alloc hsr _) (HAL.out _) hg6 (Nat.le_refl _) (by simp; omega)⟩
          rw [HS.out]
          simp only [if_true]
          rw [List.length_append, strs_snoc]
          exact hown6)
        rw [hv6] at HN ⊢
        clear hown6 hg6 hv6
        go_wp2
        go_roundw
        case rel => exact HN.out
        case measure => simp [intOf]; omega
      · have e1 : (nm.toList == name.toList) = false := (Lib.bytes_beq_false_iff nm name).2 hnm
        have HN : Hid (VsRel w n l name u5 (.int .i64 (k + 1 : Nat)) wr) := Lib.hid (by
          refine ⟨k + 1, rfl, hlt, ?_, HO.out.2⟩
          rw [HS.out, if_neg hnm, List.append_nil]
          exact HO.out.1)
        clear hnm
        go_wp2
        go_roundw
        case rel => exact HN.out
        case measure => simp [intOf]; omega
    · have hkn : k = n := by omega
      have hll : l.length = n := by have := H1.out.1; rw [fds_length] at this; omega
      have HE : Hid (OwnStr w (valsF l name) (.returned u5) wr) := Lib.hid (by
        have h1 := HO.out.1
        rw [List.take_of_length_le (by omega)] at h1
        exact ⟨_, rfl, h1, HO.out.2⟩)
      subst hkn
      clear hll
      go_wp2
      go_ret
      exact HE.out
theorem str_at {w : World} {B n : Nat} {A : Option Addr} {vs : List ByteArray} (h : Rd w B 1 A n (strs vs)) (hn : 0 < n) : vs.length = n ∧ ∃ b o, A = some ⟨b, o, none⟩ ∧ b < B ∧ ∀ j s, vs[j]? = some s → w.cell? ⟨b, o + j, none⟩ = some (.string s) := by
  have hl := h.1
  rw [strs_length] at hl
  obtain ⟨b, o, hA, hb, hc⟩ := h.at_ hn
  refine ⟨by omega, b, o, hA, hb, fun j s hs => ?_⟩
  rw [hc j (by have := (List.getElem?_eq_some_iff.1 hs).1; omega), strs_get hs]
/-- The state of the document's loop: k values were read. -/
def RlnRel (vs : List ByteArray) (n : Nat) (mv iv : Value) : Prop := ∃ (k m : Nat), iv = .int .i64 k ∧ mv = .int .i64 m ∧ k ≤ n ∧ m ≤ 1099511627776 ∧ ((k = 0 ∧ m = 0) ∨ (0 < k ∧ (vs.take k).foldl lenStep (some none) = some (some m)))
theorem lenStep_none : ∀ vs : List ByteArray, vs.foldl lenStep none = none
  | [] => rfl
  | _ :: vs => lenStep_none vs
theorem lenF_take {vs : List ByteArray} {k : Nat} {s : ByteArray} (h : vs[k]? = some s) : (vs.take (k + 1)).foldl lenStep (some none) = lenStep ((vs.take k).foldl lenStep (some none)) s := by
  rw [List.take_add_one, h, Option.toList_some, List.foldl_append]
  rfl
theorem lenF_stop {vs : List ByteArray} {k : Nat} (h : (vs.take k).foldl lenStep (some none) = none) : vs.foldl lenStep (some none) = none := by
  rw [← List.take_append_drop k vs, List.foldl_append, h, lenStep_none]
theorem decRes_le (l : List UInt8) : (decRes l).1 ≤ 1099511627776 := by
  unfold decRes
  split
  · simp
  · split
    · simp
    · split
      · simp
      · simp only; omega
set_option maxRecDepth 100000 in
set_option maxHeartbeats 8000000 in
theorem rlength_any {A : Option Addr} {n c : Nat} {l : List Fd} (w : World) (hr : Rd w w.heap.size 3 A n (fds l)) (hn : n ≤ 1048576) (hz : Tx l) :
    Calls Tryz.prog 12 #[.slice A n c] w fun e w' => e = .returned (.tuple #[.int .i64 (lenR (lenF l)).1, .bool (lenR (lenF l)).2.1, .int .i64 (lenR (lenF l)).2.2]) ∧ Below w.heap.size w w' := by
  have HV := Lib.hid (rvalues_any (c := c) clB w hr hn)
  have hvm : ∀ s ∈ valsF l clB, s.size ≤ 140737488351232 := fun s hs => by
    obtain ⟨f, hf, rfl⟩ := valsF_mem hs
    exact (hz f hf).2
  have hvl := valsF_le l clB
  have hll : l.length = n := by have := hr.1; rw [fds_length] at this; omega
  obtain ⟨vs, hvs⟩ : ∃ vs, valsF l clB = vs := ⟨_, rfl⟩
  have hlf : lenF l = vs.foldl lenStep (some none) := by unfold lenF; rw [hvs]
  rw [hvs] at HV hvm hvl
  obtain ⟨R1, h1⟩ : ∃ R, (lenR (lenF l)).1 = R := ⟨_, rfl⟩
  obtain ⟨R2, h2⟩ : ∃ R, (lenR (lenF l)).2.1 = R := ⟨_, rfl⟩
  obtain ⟨R3, h3⟩ : ∃ R, (lenR (lenF l)).2.2 = R := ⟨_, rfl⟩
  rw [h1, h2, h3]
  have HR : Hid (lenR (vs.foldl lenStep (some none)) = (R1, R2, R3)) := Lib.hid (by rw [← hlf, ← h1, ← h2, ← h3])
  have HM := Lib.hid hvm
  obtain ⟨m, hm⟩ : ∃ m, vs.length = m := ⟨_, rfl⟩
  rw [hm] at hvl
  have HL := Lib.hid hm
  have hm6 : m ≤ 1048576 := by omega
  clear hr hz hvs hlf h1 h2 h3 hvm hll hvl hm
  unfold clB at HV
  go_enter Tryz.func12, Tryz.ntmps12
  go_wp2_with fail
  refine HV.out.mono ?_
  rintro e w1 ⟨v, rfl, hown, hb⟩
  rw [HL.out] at hown
  obtain ⟨Av, cv, rfl, -, -, hrv, -⟩ := own_slice hown
  have H1 := Lib.hid (And.intro hrv hb)
  clear hown hrv hb HV
  go_wp2_with fail
  go_loop [6, 7] (fun mv iv => RlnRel vs m mv iv) (fun _ iv => m - (intOf iv).toNat)
  case atStart => exact ⟨0, 0, rfl, rfl, Nat.zero_le _, by omega, .inl ⟨rfl, rfl⟩⟩
  case round =>
    obtain ⟨k, t, rfl, rfl, hk, ht, hor⟩ := hrel
    have HO := Lib.hid hor
    clear hor
    by_cases hlt : k < m
    · obtain ⟨hl2, b, o, rfl, hbl, hc⟩ := str_at H1.out.1 (by omega)
      obtain ⟨s, hs⟩ : ∃ s, vs[k]? = some s := ⟨_, List.getElem?_eq_getElem (by omega)⟩
      have z0 := hc k s hs
      have k1 : (k : Int) < m := by omega
      have HD := Lib.hid (rdecimal_any s w1 (by have := HM.out s (List.mem_of_getElem? hs); omega))
      have htk := lenF_take hs
      have hdl := decRes_le s.data.toList
      obtain ⟨V, hV⟩ : ∃ V, (decRes s.data.toList).1 = V := ⟨_, rfl⟩
      obtain ⟨E, hE⟩ : ∃ E, (decRes s.data.toList).2 = E := ⟨_, rfl⟩
      rw [hV, hE] at HD
      rw [hV] at hdl
      have hst : ∀ o, lenStep (some o) s = if E ≠ 0 ∨ (∃ k, o = some k ∧ V ≠ k) then none else some (some V) := fun o => by
        show (if (decRes s.data.toList).2 ≠ 0 ∨ (∃ k, o = some k ∧ (decRes s.data.toList).1 ≠ k) then none else some (some (decRes s.data.toList).1)) = _
        rw [hV, hE]
      have HT := Lib.hid (And.intro htk hst)
      clear hc hs htk hV hE hst
      have HBAD : Hid ((vs.take (k + 1)).foldl lenStep (some none) = none → (R1, R2, R3) = (0, false, 102)) := Lib.hid (fun h => by rw [← HR.out, lenF_stop h]; rfl)
      by_cases he0 : E = 0
      · subst he0
        by_cases hk0 : k = 0
        · have HN : Hid (RlnRel vs m (.int .i64 V) (.int .i64 (k + 1 : Nat))) := Lib.hid (by
            refine ⟨k + 1, V, rfl, rfl, hlt, hdl, .inr ⟨by omega, ?_⟩⟩
            rw [HT.out.1, hk0, List.take_zero]
            show lenStep (some none) s = _
            rw [HT.out.2, if_neg (by rintro (h | ⟨k, h, _⟩); exact h rfl; cases h)])
          have hkz : ¬ (0 : Int) < k := by omega
          clear HBAD HT hk0
          go_wp2_with fail
          refine HD.out.mono ?_
          rintro e w2 ⟨rfl, rfl⟩
          go_wp2
          go_round
          case rel => exact HN.out
          case measure => simp [intOf]; omega
        · have hf := (HO.out.resolve_left (fun h => hk0 h.1)).2
          have kp : (0 : Int) < k := by omega
          by_cases hvt : V = t
          · subst hvt
            have HN : Hid (RlnRel vs m (.int .i64 V) (.int .i64 (k + 1 : Nat))) := Lib.hid (by
              refine ⟨k + 1, V, rfl, rfl, hlt, hdl, .inr ⟨by omega, ?_⟩⟩
              rw [HT.out.1, hf, HT.out.2, if_neg (by rintro (h | ⟨k, h, h2⟩); exact h rfl; injection h with h; exact h2 h)])
            have e2 : ((V : Int) != V) = false := by simp
            clear HBAD HT hf hk0
            go_wp2_with fail
            refine HD.out.mono ?_
            rintro e w2 ⟨rfl, rfl⟩
            go_wp2
            go_round
            case rel => exact HN.out
            case measure => simp [intOf]; omega
          · have hr := HBAD.out (by rw [HT.out.1, hf, HT.out.2, if_pos (.inr ⟨t, rfl, hvt⟩)])
            injection hr with r1 r2
            injection r2 with r2 r3
            subst r1 r2 r3
            have e2 : ((V : Int) != t) = true := by rw [bne_iff_ne]; omega
            clear HBAD HT hf hk0 hvt
            go_wp2_with fail
            refine HD.out.mono ?_
            rintro e w2 ⟨rfl, rfl⟩
            go_wp2
            exact bodyPost_ret (v := .tuple #[.int .i64 0, .bool false, .int .i64 102]) (by simp [results, Tryz.results12, go_sem]) rfl ⟨rfl, H1.out.2⟩
      · have hbad : (vs.take (k + 1)).foldl lenStep (some none) = none := by
          rw [HT.out.1]
          by_cases hk0 : k = 0
          · rw [hk0, List.take_zero]
            show lenStep (some none) s = _
            rw [HT.out.2, if_pos (.inl he0)]
          · rw [(HO.out.resolve_left (fun h => hk0 h.1)).2, HT.out.2, if_pos (.inl he0)]
        have hr := HBAD.out hbad
        injection hr with r1 r2
        injection r2 with r2 r3
        subst r1 r2 r3
        have e2 : ((E : Int) != 0) = true := by rw [bne_iff_ne]; omega
        clear HBAD HT he0 hbad
        go_wp2_with fail
        refine HD.out.mono ?_
        rintro e w2 ⟨rfl, rfl⟩
        go_wp2
        exact bodyPost_ret (v := .tuple #[.int .i64 0, .bool false, .int .i64 102]) (by simp [results, Tryz.results12, go_sem]) rfl ⟨rfl, H1.out.2⟩
    · have hkn : k = m := by omega
      subst hkn
      have hta : vs.take k = vs := List.take_of_length_le (by rw [HL.out]; exact Nat.le_refl _)
      have hor := HO.out
      rw [hta] at hor
      have hr := HR.out
      by_cases hk0 : k = 0
      · have hv0 : vs = [] := List.eq_nil_of_length_eq_zero (by rw [HL.out]; exact hk0)
        have ht0 : t = 0 := by rcases hor with h | h <;> omega
        rw [hv0] at hr
        injection hr with r1 r2
        injection r2 with r2 r3
        subst r1 r2 r3
        subst ht0
        have hkz : ¬ (0 : Int) < k := by omega
        have hkd : decide ((0 : Int) < k) = false := decide_eq_false hkz
        clear hor hta hk0 hv0
        go_wp2
        exact bodyPost_ret (v := .tuple #[.int .i64 0, .bool false, .int .i64 0]) (by simp [results, Tryz.results12, go_sem]; omega) rfl ⟨rfl, H1.out.2⟩
      · have hf := (hor.resolve_left (fun h => hk0 h.1)).2
        rw [hf] at hr
        injection hr with r1 r2
        injection r2 with r2 r3
        subst r1 r2 r3
        have kp : (0 : Int) < k := by omega
        clear hor hta hk0 hf
        go_wp2
        exact bodyPost_ret (v := .tuple #[.int .i64 t, .bool true, .int .i64 0]) (by simp [results, Tryz.results12, go_sem]; omega) rfl ⟨rfl, H1.out.2⟩
theorem vals_len_take {l : List Fd} {k : Nat} {f : Fd} (h : l[k]? = some f) : (valsF (l.take (k + 1)) clB).foldl lenStep (some none) = if f.1.1 = clB then lenStep ((valsF (l.take k) clB).foldl lenStep (some none)) f.1.2 else (valsF (l.take k) clB).foldl lenStep (some none) := by
  rw [valsF_snoc h, List.foldl_append]
  by_cases hn : f.1.1 = clB
  · rw [if_pos hn, if_pos hn]; rfl
  · rw [if_neg hn, if_neg hn]; rfl
theorem lenF_stop2 {l : List Fd} {k : Nat} (h : (valsF (l.take k) clB).foldl lenStep (some none) = none) : lenF l = none := by
  have e : valsF l clB = valsF (l.take k) clB ++ valsF (l.drop k) clB := by
    unfold valsF
    rw [← List.map_append, ← List.filter_append, List.take_append_drop]
  unfold lenF
  rw [e, List.foldl_append, h, lenStep_none]
/-- The number of the loop's state: below 0, where none is told. -/
def lenI (o : Option Nat) : Int := match o with
  | none => -1
  | some n => n
def LnRel (w : World) (l : List Fd) (n : Nat) (mv iv : Value) (wr : World) : Prop := ∃ (k : Nat) (o : Option Nat), iv = .int .i64 k ∧ mv = .int .i64 (lenI o) ∧ k ≤ n ∧ (∀ t, o = some t → t ≤ 1099511627776) ∧ (valsF (l.take k) clB).foldl lenStep (some none) = some o ∧ Below w.heap.size w wr
set_option maxRecDepth 100000 in
set_option maxHeartbeats 8000000 in
theorem length_any {A : Option Addr} {n c : Nat} {l : List Fd} (w : World) (hr : Rd w w.heap.size 3 A n (fds l)) (hn : n ≤ 1048576) (hz : Tx l) :
    Calls Tryz.prog 41 #[.slice A n c] w fun e w' => e = .returned (.tuple #[.int .i64 (lenR (lenF l)).1, .bool (lenR (lenF l)).2.1, .int .i64 (lenR (lenF l)).2.2]) ∧ Below w.heap.size w w' := by
  have hll : l.length = n := by have := hr.1; rw [fds_length] at this; omega
  obtain ⟨R1, h1⟩ : ∃ R, (lenR (lenF l)).1 = R := ⟨_, rfl⟩
  obtain ⟨R2, h2⟩ : ∃ R, (lenR (lenF l)).2.1 = R := ⟨_, rfl⟩
  obtain ⟨R3, h3⟩ : ∃ R, (lenR (lenF l)).2.2 = R := ⟨_, rfl⟩
  rw [h1, h2, h3]
  have HR : Hid (lenR (lenF l) = (R1, R2, R3)) := Lib.hid (by rw [← h1, ← h2, ← h3])
  have H1 := Lib.hid (And.intro hr (And.intro hz hll))
  clear hr hz hll h1 h2 h3
  go_enter Tryz.func41, Tryz.ntmps41
  go_wp2_with fail
  go_loopw [5, 12] (fun mv iv wr => LnRel w l n mv iv wr) (fun _ iv _ => n - (intOf iv).toNat)
  case atStart => exact ⟨0, none, rfl, rfl, Nat.zero_le _, (fun t h => by cases h), rfl, Below.refl _ _⟩
  case round =>
    obtain ⟨k, o, rfl, rfl, hk, ho40, hfo, hb⟩ := hrel
    have HO := Lib.hid (And.intro hfo (And.intro hb ho40))
    have hsr := hb.size
    clear hfo hb ho40
    by_cases hlt : k < n
    · obtain ⟨hl, b, o2, rfl, hbl, hc⟩ := fd_at (H1.out.1.below HO.out.2.1 (Nat.le_refl _)) (by omega)
      obtain ⟨f, hf⟩ : ∃ f, l[k]? = some f := ⟨_, List.getElem?_eq_getElem (by omega)⟩
      obtain ⟨z0, z1, z2⟩ := hc k f hf
      have n1 : (k : Int) < n := by omega
      have HTK := Lib.hid (vals_len_take hf)
      have htx := H1.out.2.1 f (List.mem_of_getElem? hf)
      obtain ⟨⟨nm, vl⟩, nv⟩ := f
      simp only at z0 z1 z2 htx
      have hbA : Below w.heap.size w (wr.alloc (.cells #[.string nm, .string vl, .bool nv] 26)) := HO.out.2.1.alloc hsr _
      have HBA := Lib.hid hbA
      clear hc hf hbA
      by_cases hnm : nm = clB
      · subst hnm
        have HD := Lib.hid (fun w => decimal_any vl w (by omega))
        have hdl := decRes_le vl.data.toList
        obtain ⟨V, hV⟩ : ∃ V, (decRes vl.data.toList).1 = V := ⟨_, rfl⟩
        obtain ⟨E, hE⟩ : ∃ E, (decRes vl.data.toList).2 = E := ⟨_, rfl⟩
        rw [hV, hE] at HD
        rw [hV] at hdl
        have hst : lenStep (some o) vl = if E ≠ 0 ∨ (∃ k, o = some k ∧ V ≠ k) then none else some (some V) := by
          show (if (decRes vl.data.toList).2 ≠ 0 ∨ (∃ k, o = some k ∧ (decRes vl.data.toList).1 ≠ k) then none else some (some (decRes vl.data.toList).1)) = _
          rw [hV, hE]
        have HT : Hid ((valsF (l.take (k + 1)) clB).foldl lenStep (some none) = if E ≠ 0 ∨ (∃ k, o = some k ∧ V ≠ k) then none else some (some V)) := Lib.hid (by
          rw [HTK.out]
          simp only [if_true]
          rw [HO.out.1, hst])
        have HD2 := Lib.hid (HD.out (wr.alloc (.cells #[.string clB, .string vl, .bool nv] 26)))
        clear hV hE hst HD HTK
        unfold clB at z0 HD2 HBA
        by_cases hbad : E ≠ 0 ∨ (∃ k, o = some k ∧ V ≠ k)
        · have hr : lenR (lenF l) = (0, false, 102) := by
            rw [lenF_stop2 (k := k + 1) (by rw [HT.out, if_pos hbad])]
            rfl
          rw [HR.out] at hr
          injection hr with r1 r2
          injection r2 with r2 r3
          subst r1 r2 r3
          by_cases he0 : E = 0
          · subst he0
            obtain ⟨t, hto, hvt⟩ := hbad.resolve_left (fun h => h rfl)
            subst hto
            have e2 : ((V : Int) != t) = true := by rw [bne_iff_ne]; omega
            clear HT hvt hbad
            unfold lenI
            go_wp2_with fail
            refine HD2.out.mono ?_
            rintro e w2 ⟨rfl, rfl⟩
            go_wp2
            exact bodyPost_ret (v := .tuple #[.int .i64 0, .bool false, .int .i64 102]) (by simp [results, Tryz.results41, go_sem]) rfl ⟨rfl, HBA.out⟩
          · have e2 : ((E : Int) != 0) = true := by rw [bne_iff_ne]; omega
            clear HT hbad he0
            go_wp2_with fail
            refine HD2.out.mono ?_
            rintro e w2 ⟨rfl, rfl⟩
            go_wp2
            exact bodyPost_ret (v := .tuple #[.int .i64 0, .bool false, .int .i64 102]) (by simp [results, Tryz.results41, go_sem]) rfl ⟨rfl, HBA.out⟩
        · have he0 : E = 0 := by
            rcases Nat.eq_zero_or_pos E with h | h
            · exact h
            · exact absurd (.inl (by omega)) hbad
          have HN : Hid (LnRel w l n (.int .i64 V) (.int .i64 (k + 1 : Nat)) (wr.alloc (.cells #[.string ⟨#[99, 111, 110, 116, 101, 110, 116, 45, 108, 101, 110, 103, 116, 104]⟩, .string vl, .bool nv] 26))) := Lib.hid ⟨k + 1, some V, rfl, rfl, hlt, (fun t h => by injection h with h; omega), by rw [HT.out, if_neg hbad], HBA.out⟩
          have hvo : ∀ t, o = some t → V = t := fun t ht => by
            rcases Nat.lt_or_ge V t with h | h
            · exact absurd (.inr ⟨t, ht, by omega⟩) hbad
            · rcases Nat.lt_or_ge t V with h2 | h2
              · exact absurd (.inr ⟨t, ht, by omega⟩) hbad
              · omega
          subst he0
          clear hbad HT
          cases o with
          | none =>
            unfold lenI
            clear hvo
            go_wp2_with fail
            refine HD2.out.mono ?_
            rintro e w2 ⟨rfl, rfl⟩
            go_wp2
            go_roundw
            case rel => exact HN.out
            case measure => simp [intOf]; omega
          | some t =>
            obtain rfl := hvo t rfl
            clear hvo
            have e2 : ((V : Int) != V) = false := by simp
            unfold lenI
            go_wp2_with fail
            refine HD2.out.mono ?_
            rintro e w2 ⟨rfl, rfl⟩
            go_wp2
            go_roundw
            case rel => exact HN.out
            case measure => simp [intOf]; omega
      · have e1 : (nm.toList == (⟨#[99, 111, 110, 116, 101, 110, 116, 45, 108, 101, 110, 103, 116, 104]⟩ : ByteArray).toList) = false := (Lib.bytes_beq_false_iff nm _).2 hnm
        rw [show (⟨#[99, 111, 110, 116, 101, 110, 116, 45, 108, 101, 110, 103, 116, 104]⟩ : ByteArray).toList = [99, 111, 110, 116, 101, 110, 116, 45, 108, 101, 110, 103, 116, 104] from by decide +kernel] at e1
        have HN : Hid (LnRel w l n (.int .i64 (lenI o)) (.int .i64 (k + 1 : Nat)) (wr.alloc (.cells #[.string nm, .string vl, .bool nv] 26))) := Lib.hid ⟨k + 1, o, rfl, rfl, hlt, HO.out.2.2, by rw [HTK.out, if_neg hnm]; exact HO.out.1, HBA.out⟩
        clear hnm HTK
        go_wp2
        go_roundw
        case rel => exact HN.out
        case measure => simp [intOf]; omega
    · have hta : l.take k = l := List.take_of_length_le (by rw [H1.out.2.2]; omega)
      have hr : lenR (lenF l) = lenR (some o) := by
        have := HO.out.1
        rw [hta] at this
        unfold lenF
        rw [this]
      rw [HR.out] at hr
      clear hta
      cases o with
      | none =>
        injection hr with r1 r2
        injection r2 with r2 r3
        subst r1 r2 r3
        unfold lenI
        go_wp2
        exact bodyPost_ret (v := .tuple #[.int .i64 0, .bool false, .int .i64 0]) (by simp [results, Tryz.results41, go_sem]; omega) rfl ⟨rfl, HO.out.2.1⟩
      | some t =>
        have ht := HO.out.2.2 t rfl
        injection hr with r1 r2
        injection r2 with r2 r3
        subst r1 r2 r3
        have hm : max (R1 : Int) 0 = R1 := by omega
        unfold lenI
        go_wp2
        exact bodyPost_ret (v := .tuple #[.int .i64 R1, .bool true, .int .i64 0]) (by simp [results, Tryz.results41, go_sem]) rfl ⟨rfl, HO.out.2.1⟩
end Go.Proofs.YtpkmciohehaboaaGreatDoor
