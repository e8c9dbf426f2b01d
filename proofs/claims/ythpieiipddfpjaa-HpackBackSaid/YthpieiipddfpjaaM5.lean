/- 5 texts in one: HuffREnc, Text, RefTake, Laws3b, HuffTreePlain. -/
import Derived.Test.YthpieiipddfpjaaM4
import Derived.Test.YthpieiipddfpjaaM2
import Derived.Laws.IdiomStrings
import Derived.Lib.AppendStr
import Derived.Test.YthpieiipddfpjaaM1
/- The walk of drawbridgeref02.Encode: it makes what huff.Encode makes. -/
namespace Go.Proofs.Ythpieiipddfpjaa
open Go.RowKit

theorem bvs_put (l : List UInt8) (j : Nat) (c : UInt8) : (bvs l).set j (bv c) = bvs (l.set j c) := by simp [bvs, List.map_set]
/-- The codes lie in block gc. -/
def CC (w : World) (gc : Nat) : Prop := ∀ i, i < 257 → w.cell? ⟨gc, i, none⟩ = some (.int .u32 ((codeT.getD i 0 : Nat) : Int))
theorem CC.set_ {w : World} {gc g : Nat} (h : CC w gc) (hne : gc ≠ g) (j : Nat) (v : Value) : CC (w.setCell ⟨g, j, none⟩ v) gc :=
  fun i hi => (World.cell?_setCell_other w ⟨g, j, none⟩ ⟨gc, i, none⟩ v (fun e => by injection e with e; exact hne e.symm)).trans (h i hi)
/-- The row that fills up. -/
structure Row (W w : World) (gl gc g N T V : Nat) : Prop where
  own : w.ownsRow W.heap.size 5 1 (.slice (some ⟨g, 0, none⟩) N N) N (bvs (fill N T V))
  lc : LC w gl
  cc : CC w gc
  bel : Below W.heap.size W w
theorem Row.bit {W w : World} {gl gc g N T V b : Nat} (h : Row W w gl gc g N T V) (hb : b < 2) (hr : T % 8 < 7) : Row W w gl gc g N (T + 1) (2 * V + b) :=
  ⟨by rw [(fill_bit hb hr).1]; exact h.own, h.lc, h.cc, h.bel⟩
theorem Row.byte {W w : World} {gl gc g N T V b : Nat} (h : Row W w gl gc g N T V) (hb : b < 2) (hr : T % 8 = 7) (hN : T / 8 < N) (h1 : gl ≠ g) (h2 : gc ≠ g) (hg : W.heap.size ≤ g) :
    Row W (w.setCell ⟨g, T / 8, none⟩ (.int .u8 ((V % 2 ^ (T % 8) * 2 + b : Nat) : Int))) gl gc g N (T + 1) (2 * V + b) := by
  obtain ⟨f1, -, f3⟩ := fill_byte (N := N) (V := V) hb hr hN
  have hst := (World.ownsRow.stored h.own (T / 8) (bv (UInt8.ofNat (V % 2 ^ (T % 8) * 2 + b)))).1
  rw [bvs_put, ← f1] at hst
  rw [bv, toNat_ofNat f3] at hst
  exact ⟨hst, h.lc.set_ h1 _ _, h.cc.set_ h2 _ _, h.bel.setCell (p := ⟨g, _, none⟩) hg _⟩
theorem Row.cell {W w : World} {gl gc g N T V : Nat} (h : Row W w gl gc g N T V) {j : Nat} (hj : j < N) (hT : T / 8 ≤ N) : ∃ x : Nat, w.cell? ⟨g, j, none⟩ = some (.int .u8 (x : Int)) := by
  refine ⟨ba (fill N T V) j, ?_⟩
  rw [World.ownsRow.cellAt h.own j (by omega), bvs, List.getElem?_map, List.getElem?_eq_getElem (by rw [fill_length V hT]; exact hj)]
  simp [bv, ba, List.getD, List.getElem?_eq_getElem (show j < (fill N T V).length by rw [fill_length V hT]; exact hj)]
theorem Row.frozen {W w : World} {gl gc g N T V : Nat} (h : Row W w gl gc g N T V) (j : Nat) : w.frozen? ⟨g, j, none⟩ = false := World.ownsRow.frozenAt h.own j

/-- Behind k bytes of the text. -/
def REncRel (W : World) (gl gc g N : Nat) (l : List UInt8) (av pv iv : Value) (w : World) : Prop :=
  ∃ k T V p : Nat, iv = .int .i64 k ∧ k ≤ l.length ∧ av = .int .i64 T ∧ pv = .int .u8 p ∧ T = nbits (l.take k) ∧ V = vbits (l.take k) ∧ p = V % 2 ^ (T % 8) ∧ Row W w gl gc g N T V
/-- j bits of a code are to come. -/
def BitRel (W : World) (gl gc g N T0 V0 n c : Nat) (av pv jv : Value) (w : World) : Prop :=
  ∃ j T V p : Nat, jv = .int .i64 ((j : Int) - 1) ∧ j ≤ n ∧ av = .int .i64 T ∧ pv = .int .u8 p ∧ T = T0 + (n - j) ∧ V = V0 * 2 ^ (n - j) + c / 2 ^ j ∧ p = V % 2 ^ (T % 8) ∧ Row W w gl gc g N T V
/-- q ones are added. -/
def PadRel (W : World) (gl gc g N T0 V0 : Nat) (av pv : Value) (w : World) : Prop :=
  ∃ q T V p : Nat, av = .int .i64 T ∧ pv = .int .u8 p ∧ T = T0 + q ∧ V = V0 * 2 ^ q + (2 ^ q - 1) ∧ T ≤ 8 * N ∧ (T % 8 = 0 ∨ p = V % 2 ^ (T % 8)) ∧ Row W w gl gc g N T V

end Go.Proofs.Ythpieiipddfpjaa

/- The walks of prefix.PutText and drawbridgeref03.PutText. -/
namespace Go.Proofs.Ythpieiipddfpjaa
open Go.RowKit

theorem _root_.Go.RowKit.Below.tr2 {w w1 w2 : World} (h : Below w.heap.size w w1) (h2 : Below w1.heap.size w1 w2) : Below w.heap.size w w2 := h.trans (h2.mono h.size)
theorem full7 : Full 7 127 := ⟨by omega, by omega, rfl⟩
theorem strCells_bvs (s : ByteArray) : Lib.strCells s = bvs s.data.toList := rfl
/-- '[]byte(s)'. -/
theorem bytes_of_str {P : Program} {src dst e : TypeId} (hs : P.underlying src = some .string) (hd : P.underlying dst = some (.slice e)) (he : P.underlying e = some (.int .u8)) (w : World) (s : ByteArray) :
    ∃ c w', (convert src dst (.string s)).run P w = .ok (.slice (some ⟨w.heap.size, 0, none⟩) s.size c) w' ∧ Below w.heap.size w w' ∧ Rd w' w'.heap.size 1 (some ⟨w.heap.size, 0, none⟩) s.size (bvs s.data.toList) := by
  refine ⟨_, _, run_bytes_of_string w src dst e s hs hd he, ((Below.refl _ _).drew).alloc (Nat.le_refl _) _, by simp [bvs], fun hn => ⟨_, _, rfl, by simp, fun j hj => ?_⟩⟩
  refine (World.cell?_alloc_mark w.drew _ _ _ _).trans ?_
  have hj' : j < s.data.size := by simpa using hj
  simp only [bytesRow, bvs, Nat.zero_add]
  rw [Array.getElem?_append_left (by simpa using hj')]
  simp
  rfl

section
variable {w w' : World}
theorem own_app {B0 B1 : Nat} {v : Value} {l k : List UInt8} (h : w.ownsRow B1 5 1 v (l.length + k.length) (bvs l ++ bvs k)) (hb : B0 ≤ B1) : OwnB w B0 v (l ++ k) := by
  unfold OwnB
  rw [List.length_append, bvs_append]
  exact own_mono2 h hb
end

set_option maxRecDepth 100000 in
set_option maxHeartbeats 1000000 in
theorem putText_bits (s : ByteArray) (w : World) (hs : s.size ≤ 1048576) (hlt : nbytes s.data.toList < s.size) :
    Calls Try.prog 76 #[.string s] w (RetB w (textB s.data.toList)) := by
  have hE := encB_length s.data.toList
  have hT := textB_bits (l := s.data.toList) (by rw [str_len]; exact hlt)
  have HT := Lib.hid hT
  clear hT
  obtain ⟨c0, w1, hcv, hb1, -⟩ := bytes_of_str Try.underlying9 Try.underlying52 Try.underlying5 w s
  go_enter Try.func76, Try.ntmps76
  go_wp2_with fail
  refine (hsize_any s w1 hs).mono ?_
  rintro e w2 ⟨rfl, hb2⟩
  clear hcv
  go_wp2_with fail
  refine (enc_any s w2 hs).mono ?_
  rintro e w3 ⟨v3, rfl, hown3, hb3⟩
  obtain ⟨A, c, rfl, -, -, hrd, -⟩ := own_slice hown3
  rw [hE] at hrd ⊢
  have HRD := Lib.hid hrd
  have HE := Lib.hid hE
  have hb13 := (hb1.tr2 hb2).tr2 hb3
  have hs3 := hb13.size
  clear hown3 hrd hE
  generalize nbytes s.data.toList = n at *
  go_wp2_with fail
  refine (put_ok 128 7 n 127 w3 full7 (by omega) rfl (by omega)).mono ?_
  rintro e w4 ⟨v4, rfl, hown4, hb4⟩
  have HO4 := Lib.hid hown4
  have hp7 := (putB_length 128 127 n).1
  have hw4 := hb13.tr2 hb4
  have hs4 := hw4.size
  have hs34 := hb4.size
  clear hown4
  go_wp2_with (at_builtin; refine wpList_app (.tmp 24) (.tmp 25) tBytes rfl rfl HO4.out rfl (HRD.out.below hb4 (Nat.le_refl _)) rfl (bvs_one _) (le_maxLen (by omega)) (by omega) hs34 ?_; intro v5 w5 hown5 hg5 _)
  go_ret
  refine ⟨v5, rfl, ?_, Below.app hw4 HO4.out hg5 hs3 hs4⟩
  rw [HT.out]
  exact own_app (by rw [HE.out]; exact hown5) hs3

set_option maxRecDepth 100000 in
set_option maxHeartbeats 1000000 in
theorem putText_raw (s : ByteArray) (w : World) (hs : s.size ≤ 1048576) (hlt : s.size ≤ nbytes s.data.toList) :
    Calls Try.prog 76 #[.string s] w (RetB w (textB s.data.toList)) := by
  have hT := textB_raw (l := s.data.toList) (by rw [str_len]; exact hlt)
  rw [str_len] at hT
  have HT := Lib.hid hT
  clear hT
  have HL := Lib.hid (str_len s)
  obtain ⟨c0, w1, hcv, hb1, hrd⟩ := bytes_of_str Try.underlying9 Try.underlying52 Try.underlying5 w s
  have HRD := Lib.hid hrd
  clear hrd
  go_enter Try.func76, Try.ntmps76
  go_wp2_with fail
  refine (hsize_any s w1 hs).mono ?_
  rintro e w2 ⟨rfl, hb2⟩
  clear hcv
  have hb12 := hb1.tr2 hb2
  have hs2 := hb12.size
  have hs12 := hb2.size
  go_wp2_with fail
  refine (put_ok 0 7 s.size 127 w2 full7 (by omega) rfl (by omega)).mono ?_
  rintro e w4 ⟨v4, rfl, hown4, hb4⟩
  have HO4 := Lib.hid hown4
  have hp7 := (putB_length 0 127 s.size).1
  have hw4 := hb12.tr2 hb4
  have hs4 := hw4.size
  have hs34 := hb4.size
  clear hown4
  go_wp2_with (at_builtin; refine wpList_app (.tmp 24) (.tmp 25) tBytes rfl rfl HO4.out rfl ((HRD.out.below hb2 (Nat.le_refl _)).below hb4 hs12) rfl (bvs_one _) (le_maxLen (by omega)) (by omega) hs34 ?_; intro v5 w5 hown5 hg5 _)
  go_ret
  refine ⟨v5, rfl, ?_, Below.app hw4 HO4.out hg5 hs2 hs4⟩
  rw [HT.out]
  exact own_app (by rw [HL.out]; exact hown5) hs2

theorem putText_any (s : ByteArray) (w : World) (hs : s.size ≤ 1048576) : Calls Try.prog 76 #[.string s] w (RetB w (textB s.data.toList)) := by
  by_cases h : nbytes s.data.toList < s.size
  · exact putText_bits s w hs h
  · exact putText_raw s w hs (by omega)

theorem infoU8 : (Try.prog.info? 5).map (fun i => (i.zero, i.size, i.bytes)) = some (some (.int .u8 0), 1, 1) := by kernel_rfl

end Go.Proofs.Ythpieiipddfpjaa

/- The walk of drawbridgeref03.TakeInt: it reads what prefix.TakeInt reads. -/
namespace Go.Proofs.Ythpieiipddfpjaa
open Go.RowKit

/-- Behind k bytes more. -/
def RTakeRel (F : Nat) (l : List UInt8) (x t i : Value) : Prop :=
  ∃ k s T : Nat, i = .int .i64 ((k : Int) + 1) ∧ x = .int .i64 s ∧ t = .int .i64 T ∧ T = 128 ^ k ∧ k ≤ 5 ∧ k + 1 ≤ max l.length 1 ∧ s ≤ 254 + T ∧ takeI F l = takeTail (5 - k) (k + 1) s T (l.drop (k + 1))

set_option maxRecDepth 100000 in
set_option maxHeartbeats 2000000 in
theorem rtake_some (b o n cap bits F : Nat) (l : List UInt8) (w : World) (hF : Full bits F) (hn0 : 0 < n) (_hm : n ≤ maxLen) (hn : n = l.length) (hc : ∀ j, j < n → w.cell? ⟨b, o + j, none⟩ = some (.int .u8 (ba l j : Int))) :
    Calls Try.prog 52 #[.slice (some ⟨b, o, none⟩) n cap, .int .i64 bits] w fun e w' => e = .returned (tri (takeI F l)) ∧ w = w' := by
  have h1 := hF.lo
  have h8 := hF.hi
  have hF' := hF.le
  have e5 : decide ((bits : Int) < 1) = false := by simp; omega
  have e6 : decide (8 < (bits : Int)) = false := by simp; omega
  have e7 : decide ((n : Int) = 0) = false := by simp; omega
  have hc0 : w.cell? ⟨b, o, none⟩ = some (.int .u8 (ba l 0 : Int)) := hc 0 (by omega)
  have hb0 := ba_lt l 0
  have HE := Lib.hid hF.eq
  have HN := Lib.hid hn
  have HC := Lib.hid hc
  clear hF hn hc
  go_enter Try.func52, Try.ntmps52
  go_wp2
  go_loop [7, 8] (DblRel .i64 bits) (fun _ i => bits - (intOf i).toNat)
  case atStart => exact ⟨0, 1, rfl, rfl, by omega, rfl, by omega⟩
  case round =>
    obtain ⟨k, p, rfl, rfl, hk, hp, hp256⟩ := hrel
    have HP := Lib.hid hp
    clear hp
    by_cases hlt : k < bits
    · have hp128 := (DblRel.next HP.out hlt h8).2
      go_wp2
      go_round
      case rel => exact ⟨k + 1, p * 2, by go_num, by go_num, by omega, (DblRel.next HP.out hlt h8).1, by omega⟩
      case measure => simp [intOf]; omega
    · obtain rfl : p = F + 1 := by rw [HP.out, HE.out]; congr 1; omega
      obtain ⟨r, hr⟩ : ∃ r, r = ba l 0 % (F + 1) := ⟨_, rfl⟩
      have e2 : ((ba l 0 : Nat) : Int) % ((F : Int) + 1) = (r : Int) := by rw [hr]; simp
      have hrF : r ≤ F := by rw [hr]; have := Nat.mod_lt (ba l 0) (show 0 < F + 1 by omega); omega
      have HR := Lib.hid hr
      clear hr
      have e8 : decide (k < bits) = false := by simpa using hlt
      by_cases hsm : r < F
      · go_wp2
        go_ret3
        exact ⟨by rw [take_small (by have := HN.out; omega) HR.out hsm]; rfl, rfl⟩
      · have e9 : decide (r < F) = false := by simpa using hsm
        go_wp2
        clear e2 e5 e6 e8 e9
        go_loop [9, 10, 11] (RTakeRel F l) (fun _ _ i => 7 - (intOf i).toNat)
        case atStart => exact ⟨0, r, 1, rfl, rfl, rfl, rfl, by omega, by omega, by omega, take_big (by have := HN.out; omega) HR.out hsm⟩
        case round =>
          obtain ⟨k, s, T, rfl, rfl, rfl, hT, hk, hkl, hs, ht⟩ := hrel
          have HT := Lib.hid ht
          have HTT := Lib.hid hT
          have HKL := Lib.hid hkl
          clear ht hT hkl
          by_cases hk5 : k < 5
          · by_cases hkn : k + 1 < n
            · have hk5 : k = 0 ∨ k = 1 ∨ k = 2 ∨ k = 3 ∨ k = 4 := by omega
              rcases hk5 with rfl | rfl | rfl | rfl | rfl <;> (obtain rfl := HTT.out)
              · have hcell : w.cell? ⟨b, o + 1, none⟩ = some (.int .u8 (ba l 1 : Int)) := HC.out 1 (by omega)
                have hb1 := ba_lt l 1
                obtain ⟨m, hm⟩ : ∃ m, m = ba l 1 % 128 := ⟨_, rfl⟩
                have e7 : (ba l 1 : Int) % 128 = (m : Int) := by omega
                have hst := take_in (T := 1) 1 128 2 HT.out (by omega) rfl rfl rfl (by have := HN.out; omega) hm
                have hm128 : m < 128 := by omega
                have HM := Lib.hid hm
                have HST := Lib.hid hst
                clear hm hst
                by_cases hlo : ba l 1 < 128
                · go_wp2
                  go_ret3
                  exact ⟨tri_eq (HST.out.2.1 hlo (by omega)) (by omega) (by omega) rfl, rfl⟩
                · go_wp2
                  clear e7
                  go_round
                  case rel => exact ⟨1, s + 1 * m, 128, rfl, num_eq (by omega), rfl, rfl, by omega, by have := HN.out; omega, by omega, HST.out.2.2 (by omega)⟩
                  case measure => simp [intOf]
              · have hcell : w.cell? ⟨b, o + 2, none⟩ = some (.int .u8 (ba l 2 : Int)) := HC.out 2 (by omega)
                have hb1 := ba_lt l 2
                obtain ⟨m, hm⟩ : ∃ m, m = ba l 2 % 128 := ⟨_, rfl⟩
                have e7 : (ba l 2 : Int) % 128 = (m : Int) := by omega
                have hst := take_in (T := 128) 2 16384 3 HT.out (by omega) rfl rfl rfl (by have := HN.out; omega) hm
                have hm128 : m < 128 := by omega
                have HM := Lib.hid hm
                have HST := Lib.hid hst
                clear hm hst
                by_cases hlo : ba l 2 < 128
                · go_wp2
                  go_ret3
                  exact ⟨tri_eq (HST.out.2.1 hlo (by omega)) (by omega) (by omega) rfl, rfl⟩
                · go_wp2
                  clear e7
                  go_round
                  case rel => exact ⟨2, s + 128 * m, 16384, rfl, num_eq (by omega), rfl, rfl, by omega, by have := HN.out; omega, by omega, HST.out.2.2 (by omega)⟩
                  case measure => simp [intOf]
              · have hcell : w.cell? ⟨b, o + 3, none⟩ = some (.int .u8 (ba l 3 : Int)) := HC.out 3 (by omega)
                have hb1 := ba_lt l 3
                obtain ⟨m, hm⟩ : ∃ m, m = ba l 3 % 128 := ⟨_, rfl⟩
                have e7 : (ba l 3 : Int) % 128 = (m : Int) := by omega
                have hst := take_in (T := 16384) 3 2097152 4 HT.out (by omega) rfl rfl rfl (by have := HN.out; omega) hm
                have hm128 : m < 128 := by omega
                have HM := Lib.hid hm
                have HST := Lib.hid hst
                clear hm hst
                by_cases hlo : ba l 3 < 128
                · go_wp2
                  go_ret3
                  exact ⟨tri_eq (HST.out.2.1 hlo (by omega)) (by omega) (by omega) rfl, rfl⟩
                · go_wp2
                  clear e7
                  go_round
                  case rel => exact ⟨3, s + 16384 * m, 2097152, rfl, num_eq (by omega), rfl, rfl, by omega, by have := HN.out; omega, by omega, HST.out.2.2 (by omega)⟩
                  case measure => simp [intOf]
              · have hcell : w.cell? ⟨b, o + 4, none⟩ = some (.int .u8 (ba l 4 : Int)) := HC.out 4 (by omega)
                have hb1 := ba_lt l 4
                obtain ⟨m, hm⟩ : ∃ m, m = ba l 4 % 128 := ⟨_, rfl⟩
                have e7 : (ba l 4 : Int) % 128 = (m : Int) := by omega
                have hst := take_in (T := 2097152) 4 268435456 5 HT.out (by omega) rfl rfl rfl (by have := HN.out; omega) hm
                have hm128 : m < 128 := by omega
                have HM := Lib.hid hm
                have HST := Lib.hid hst
                clear hm hst
                by_cases hlo : ba l 4 < 128
                · go_wp2
                  go_ret3
                  exact ⟨tri_eq (HST.out.2.1 hlo (by omega)) (by omega) (by omega) rfl, rfl⟩
                · go_wp2
                  clear e7
                  go_round
                  case rel => exact ⟨4, s + 2097152 * m, 268435456, rfl, num_eq (by omega), rfl, rfl, by omega, by have := HN.out; omega, by omega, HST.out.2.2 (by omega)⟩
                  case measure => simp [intOf]
              · have hcell : w.cell? ⟨b, o + 5, none⟩ = some (.int .u8 (ba l 5 : Int)) := HC.out 5 (by omega)
                have hb1 := ba_lt l 5
                obtain ⟨m, hm⟩ : ∃ m, m = ba l 5 % 128 := ⟨_, rfl⟩
                have e7 : (ba l 5 : Int) % 128 = (m : Int) := by omega
                have hst := take_in (T := 268435456) 5 34359738368 6 HT.out (by omega) rfl rfl rfl (by have := HN.out; omega) hm
                have hm128 : m < 128 := by omega
                have HM := Lib.hid hm
                have HST := Lib.hid hst
                clear hm hst
                by_cases hlo : ba l 5 < 128
                · by_cases hbig : 2147483647 < s + 268435456 * m
                  · go_wp2
                    go_ret3
                    exact ⟨tri_eq (HST.out.1 hlo (by omega)) rfl rfl rfl, rfl⟩
                  · go_wp2
                    go_ret3
                    exact ⟨tri_eq (HST.out.2.1 hlo (by omega)) (by omega) (by omega) rfl, rfl⟩
                · go_wp2
                  clear e7
                  go_round
                  case rel => exact ⟨5, s + 268435456 * m, 34359738368, rfl, num_eq (by omega), rfl, rfl, by omega, by have := HN.out; omega, by omega, HST.out.2.2 (by omega)⟩
                  case measure => simp [intOf]
            · go_wp2
              go_ret3
              exact ⟨tri_eq (take_end HT.out (by omega) (by have := HN.out; omega)) rfl rfl rfl, rfl⟩
          · obtain rfl : k = 5 := by omega
            go_wp2
            go_ret3
            exact ⟨tri_eq (take_full HT.out) rfl rfl rfl, rfl⟩
end Go.Proofs.Ythpieiipddfpjaa

/- The walks of drawbridgelaw03.PrefixTakes and PrefixLong. -/
namespace Go.Proofs.Ythpieiipddfpjaa
open Go.RowKit

/-- What TakeInt says, whatever the size of the head. -/
def takeV (bits : Int) (l : List UInt8) : Nat × Nat × Nat := if bits < 1 ∨ 8 < bits then (0, 0, 1) else takeI (2 ^ bits.toNat - 1) l
theorem takeV_in {bits F : Nat} (hF : Full bits F) (l : List UInt8) : takeV bits l = takeI F l := by
  have h1 := hF.lo
  have h8 := hF.hi
  unfold takeV
  rw [if_neg (by omega), Int.toNat_natCast, ← hF.eq, Nat.add_sub_cancel]
theorem takeV_out {bits : Int} (h : bits < 1 ∨ 8 < bits) (l : List UInt8) : takeV bits l = (0, 0, 1) := if_pos h

set_option maxHeartbeats 400000 in
theorem take_all {A : Option Addr} {B n cap : Nat} {bits : Int} {l : List UInt8} {w : World} (hr : Rd w B 1 A n (bvs l)) (hcap : n ≤ cap) (hm : cap ≤ maxLen) :
    Calls Try.prog 69 #[.slice A n cap, .int .i64 bits] w fun e w' => e = .returned (tri (takeV bits l)) ∧ w = w' := by
  by_cases h : bits < 1 ∨ 8 < bits
  · rw [takeV_out h]
    clear hr
    by_cases h1 : bits < 1
    · go_enter Try.func69, Try.ntmps69
      go_wp2
      go_ret3
      exact ⟨rfl, rfl⟩
    · have h2 : 8 < bits := by omega
      go_enter Try.func69, Try.ntmps69
      go_wp2
      go_ret3
      exact ⟨rfl, rfl⟩
  · obtain ⟨k, rfl⟩ := Int.eq_ofNat_of_zero_le (show 0 ≤ bits by omega)
    obtain ⟨F, hF⟩ := Full.mk' k (by omega) (by omega)
    rw [takeV_in hF]
    exact take_any hF hr hcap hm

set_option maxHeartbeats 400000 in
theorem rtake_all {A : Option Addr} {B n cap : Nat} {bits : Int} {l : List UInt8} {w : World} (hr : Rd w B 1 A n (bvs l)) (hcap : n ≤ cap) (hm : cap ≤ maxLen) :
    Calls Try.prog 52 #[.slice A n cap, .int .i64 bits] w fun e w' => e = .returned (tri (takeV bits l)) ∧ w = w' := by
  by_cases h : bits < 1 ∨ 8 < bits
  · rw [takeV_out h]
    clear hr
    by_cases h1 : bits < 1
    · go_enter Try.func52, Try.ntmps52
      go_wp2
      go_ret3
      exact ⟨rfl, rfl⟩
    · have h2 : 8 < bits := by omega
      go_enter Try.func52, Try.ntmps52
      go_wp2
      go_ret3
      exact ⟨rfl, rfl⟩
  · obtain ⟨k, rfl⟩ := Int.eq_ofNat_of_zero_le (show 0 ≤ bits by omega)
    obtain ⟨F, hF⟩ := Full.mk' k (by omega) (by omega)
    rw [takeV_in hF]
    rcases Nat.eq_zero_or_pos n with rfl | hn
    · have hl0 : l = [] := List.eq_nil_of_length_eq_zero hr.blen
      subst hl0
      have h1 := hF.lo
      have h8 := hF.hi
      clear hr h
      go_enter Try.func52, Try.ntmps52
      go_wp2
      go_ret3
      exact ⟨rfl, rfl⟩
    · obtain ⟨hl, b, o, rfl, -, hc⟩ := hr.bas hn
      exact rtake_some b o n cap k F l w hF hn (by omega) hl.symm hc

/-- '[]T{}': a new block without a cell. -/
theorem own_empty {base size : Nat} {e : TypeId} (w : World) (h : base ≤ w.heap.size) : (w.alloc (.cells #[] e)).ownsRow base e size (.slice (some ⟨w.heap.size, 0, none⟩) 0 0) 0 [] :=
  World.ownsRow_lit w #[] 0 h (Nat.zero_le _) (by simp)

end Go.Proofs.Ythpieiipddfpjaa

/- The tree of codes that drawbridgeref02.Tree makes, step by step, in plain Lean; that walking down it is reading the codes. No program in sight. -/
namespace Go.Proofs.Ythpieiipddfpjaa
open Go.RowKit

abbrev Node := Nat × Nat × Int
def newN : Node := (0, 0, -1)
def nxt (x : Node) (b : Nat) : Nat := if b = 0 then x.1 else x.2.1
def setNx (x : Node) (b v : Nat) : Node := if b = 0 then (v, x.2) else (x.1, v, x.2.2)
/-- One bit down, a node made where there is none. -/
def stepBit (st : List Node × Nat) (b : Nat) : List Node × Nat :=
  if nxt (st.1.getD st.2 newN) b = 0 then ((st.1 ++ [newN]).set st.2 (setNx (st.1.getD st.2 newN) b st.1.length), st.1.length) else (st.1, nxt (st.1.getD st.2 newN) b)
/-- The bits j-1 .. 0 of a code. -/
def goBits (c : Nat) : Nat → List Node × Nat → List Node × Nat
  | 0, st => st
  | j + 1, st => goBits c j (stepBit st (c / 2 ^ j % 2))
def setSym (st : List Node × Nat) (s : Nat) : List Node := st.1.set st.2 ((st.1.getD st.2 newN).1, (st.1.getD st.2 newN).2.1, (s : Int))
def treeStep (T : List Node) (s : Nat) : List Node := setSym (goBits (codeT.getD s 0) (lensN.getD s 0) (T, 0)) s
def treeAt (s : Nat) : List Node := (List.range s).foldl treeStep [newN]
theorem treeAt_next (s : Nat) : treeAt (s + 1) = treeStep (treeAt s) s := by unfold treeAt; rw [List.range_succ, List.foldl_append, List.foldl_cons, List.foldl_nil]

/-- Sound: what is behind a bit lies in the row. -/
def WfT (T : List Node) : Prop := ∀ i, (T.getD i newN).1 < T.length ∧ (T.getD i newN).2.1 < T.length
structure WfS (st : List Node × Nat) : Prop where
  wf : WfT st.1
  pos : st.2 < st.1.length
theorem WfS.nxt {st : List Node × Nat} (h : WfS st) (b : Nat) : nxt (st.1.getD st.2 newN) b < st.1.length := by
  unfold Go.Proofs.Ythpieiipddfpjaa.nxt
  split
  · exact (h.wf _).1
  · exact (h.wf _).2
theorem WfS.step {st : List Node × Nat} (h : WfS st) (b : Nat) : WfS (stepBit st b) ∧ (stepBit st b).1.length ≤ st.1.length + 1 ∧ st.1.length ≤ (stepBit st b).1.length := by
  unfold stepBit
  split
  · refine ⟨⟨?_, ?_⟩, by simp, by simp⟩
    · intro i
      simp only [List.length_set, List.length_append, List.length_singleton]
      have hw := h.wf i
      have hp := h.wf st.2
      have h0 := h.pos
      rw [List.getD, List.getElem?_set]
      by_cases hi : st.2 = i
      · rw [if_pos hi, if_pos (by simp; omega)]
        unfold setNx
        simp only [Option.getD_some]
        split <;> refine ⟨?_, ?_⟩ <;> (dsimp only; omega)
      · rw [if_neg hi]
        rcases Nat.lt_or_ge i st.1.length with hl | hl
        · rw [List.getElem?_append_left hl]
          rw [List.getD] at hw
          exact ⟨by omega, by omega⟩
        · rw [List.getElem?_append_right hl]
          rcases Nat.eq_or_lt_of_le hl with he | hlt
          · rw [← he, Nat.sub_self]; simp [newN]
          · rw [List.getElem?_eq_none (by simp; omega)]; simp [newN]
    · simp
  · exact ⟨⟨h.wf, h.nxt b⟩, by simp, by simp⟩
theorem WfS.go {c : Nat} : ∀ (j : Nat) {st : List Node × Nat}, WfS st → WfS (goBits c j st) ∧ (goBits c j st).1.length ≤ st.1.length + j ∧ st.1.length ≤ (goBits c j st).1.length
  | 0, _, h => ⟨h, Nat.le_refl _, Nat.le_refl _⟩
  | j + 1, st, h => by
    have h1 := h.step (c / 2 ^ j % 2)
    have h2 := WfS.go (c := c) j h1.1
    exact ⟨h2.1, by have := h2.2.1; have := h1.2.1; simp only [goBits]; omega, by have := h2.2.2; have := h1.2.2; simp only [goBits]; omega⟩
theorem WfT.setSym {st : List Node × Nat} (h : WfS st) (s : Nat) : WfT (setSym st s) := by
  intro i
  unfold Go.Proofs.Ythpieiipddfpjaa.setSym
  rw [List.length_set, List.getD, List.getElem?_set]
  by_cases hi : st.2 = i
  · rw [if_pos hi, if_pos h.pos]; exact h.wf st.2
  · rw [if_neg hi]; exact h.wf i
theorem tree_wf (s : Nat) (hs : s ≤ 257) : WfT (treeAt s) ∧ (treeAt s).length ≤ 1 + 30 * s ∧ 0 < (treeAt s).length := by
  induction s with
  | zero =>
    refine ⟨?_, by decide, by decide⟩
    intro i
    show ([newN].getD i newN).1 < 1 ∧ ([newN].getD i newN).2.1 < 1
    cases i <;> simp [newN, List.getD]
  | succ s ih =>
    obtain ⟨h1, h2, h3⟩ := ih (by omega)
    have hg := WfS.go (c := codeT.getD s 0) (lensN.getD s 0) (st := (treeAt s, 0)) ⟨h1, h3⟩
    have hl := lens_le s
    have hlen : (treeAt (s + 1)).length = (goBits (codeT.getD s 0) (lensN.getD s 0) (treeAt s, 0)).1.length := by rw [treeAt_next]; simp [treeStep, setSym]
    refine ⟨by rw [treeAt_next]; exact WfT.setSym hg.1 s, ?_, ?_⟩
    · have h5 : (goBits (codeT.getD s 0) (lensN.getD s 0) (treeAt s, 0)).1.length ≤ (treeAt s).length + lensN.getD s 0 := hg.2.1
      rw [hlen]; omega
    · have h5 : (treeAt s).length ≤ (goBits (codeT.getD s 0) (lensN.getD s 0) (treeAt s, 0)).1.length := hg.2.2
      rw [hlen]; omega

/-- Nodes as cells. -/
def nodeV (x : Node) : List Value := [.int .i64 (x.1 : Int), .int .i64 (x.2.1 : Int), .int .i64 x.2.2]
def hrowV (T : List Node) : List Value := T.flatMap nodeV
theorem rowV_length (T : List Node) : (hrowV T).length = T.length * 3 := by
  induction T with
  | nil => rfl
  | cons x T ih => rw [hrowV, List.flatMap_cons, List.length_append, show T.flatMap nodeV = hrowV T from rfl, ih]; simp [nodeV]; omega
theorem rowV_append (T U : List Node) : hrowV (T ++ U) = hrowV T ++ hrowV U := by simp [hrowV]
theorem rowV_get (T : List Node) : ∀ (i k : Nat), i < T.length → k < 3 → (hrowV T)[i * 3 + k]? = (nodeV (T.getD i newN))[k]? := by
  induction T with
  | nil => intro i k hi; simp at hi
  | cons x T ih =>
    intro i k hi hk
    rw [hrowV, List.flatMap_cons]
    cases i with
    | zero => rw [List.getElem?_append_left (by simp [nodeV]; omega)]; simp
    | succ i =>
      rw [List.getElem?_append_right (by simp [nodeV]; omega), show (i + 1) * 3 + k - (nodeV x).length = i * 3 + k by simp [nodeV]; omega]
      have := ih i k (by simpa using hi) hk
      rw [hrowV] at this
      rw [this]; rfl
theorem rowV_set (T : List Node) : ∀ (i k : Nat) (v : Value) (y : Node), i < T.length → k < 3 → (nodeV (T.getD i newN)).set k v = nodeV y → (hrowV T).set (i * 3 + k) v = hrowV (T.set i y) := by
  induction T with
  | nil => intro i k v y hi; simp at hi
  | cons x T ih =>
    intro i k v y hi hk hv
    rw [hrowV, List.flatMap_cons]
    cases i with
    | zero =>
      rw [List.set_append_left _ _ (by simp [nodeV]; omega)]
      simp only [Nat.zero_mul, Nat.zero_add]
      rw [show (nodeV x).set k v = nodeV y from hv]
      rfl
    | succ i =>
      rw [List.set_append_right _ _ (by simp [nodeV]; omega), show (i + 1) * 3 + k - (nodeV x).length = i * 3 + k by simp [nodeV]; omega]
      have := ih i k v y (by simpa using hi) hk hv
      rw [hrowV] at this
      rw [this]; rfl
theorem rowV_one (T : List Node) : ∀ u ∈ hrowV T, u.oneCell' = true := by
  intro u hu
  obtain ⟨x, -, hx⟩ := List.mem_flatMap.1 hu
  simp [nodeV] at hx
  rcases hx with rfl | rfl | rfl <;> rfl
theorem node_next (x : Node) {b : Nat} (hb : b < 2) : (nodeV x)[b]? = some (.int .i64 (nxt x b : Int)) := by
  have : b = 0 ∨ b = 1 := by omega
  rcases this with rfl | rfl <;> rfl
theorem node_setNx (x : Node) {b : Nat} (hb : b < 2) (v : Nat) : (nodeV x).set b (.int .i64 (v : Int)) = nodeV (setNx x b v) := by
  have : b = 0 ∨ b = 1 := by omega
  rcases this with rfl | rfl <;> rfl

def okNode (T : List Node) (W : List (Nat × Nat)) (i b : Nat) : Bool :=
  decide (nxt (T.getD i newN) b < T.length) && (W.getD (nxt (T.getD i newN) b) (0, 0) == (2 * (W.getD i (0, 0)).1 + b, (W.getD i (0, 0)).2 + 1)) &&
    (if (T.getD (nxt (T.getD i newN) b) newN).2.2 < 0 then !hitB (2 * (W.getD i (0, 0)).1 + b) ((W.getD i (0, 0)).2 + 1)
      else hitB (2 * (W.getD i (0, 0)).1 + b) ((W.getD i (0, 0)).2 + 1) && ((T.getD (nxt (T.getD i newN) b) newN).2.2 == (symAt (2 * (W.getD i (0, 0)).1 + b) ((W.getD i (0, 0)).2 + 1) : Int)))
def okTree (T : List Node) (W : List (Nat × Nat)) : Bool :=
  ((List.range T.length).all fun i => decide (0 ≤ (T.getD i newN).2.2) || (okNode T W i 0 && okNode T W i 1)) && decide ((T.getD 0 newN).2.2 < 0) && (W.getD 0 (0, 0) == (0, 0))
end Go.Proofs.Ythpieiipddfpjaa
