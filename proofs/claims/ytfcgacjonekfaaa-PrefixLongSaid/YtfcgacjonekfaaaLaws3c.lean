/- The walk of drawbridgelaw03.PrefixLong. -/
import Derived.Test.YtfcgacjonekfaaaLaws3b
import Derived.Test.YtfcgacjonekfaaaLongPlain
namespace Go.Proofs.Ytfcgacjonekfaaa
open Go.RowKit

/-- Behind j bytes more. -/
def LongRel (w : World) (l : List UInt8) (k : Nat) (v i : Value) (wr : World) : Prop :=
  ∃ j : Nat, i = .int .i64 j ∧ j ≤ k ∧ OwnB wr w.heap.size v (l ++ List.replicate j 128) ∧ Below w.heap.size w wr

theorem own_mono {w : World} {base base' : Nat} {e : TypeId} {size : Nat} {v : Value} {n : Nat} {xs : List Value} (h : w.ownsRow base e size v n xs) (hb : base' ≤ base) : w.ownsRow base' e size v n xs := by
  refine ⟨h.1, ?_⟩
  rcases h.2 with h2 | ⟨g, cap, cur, hv, hg, r⟩
  · exact .inl h2
  · exact .inr ⟨g, cap, cur, hv, by omega, r⟩
theorem own_form {w : World} {B : Nat} {v : Value} {l : List UInt8} (h : OwnB w B v l) (hl : 0 < l.length) : ∃ g c, v = .slice (some ⟨g, 0, none⟩) l.length c ∧ B ≤ g ∧ g < w.heap.size ∧ l.length ≤ c ∧ c ≤ maxLen := by
  rcases h.2 with ⟨rfl, h0⟩ | ⟨g, cap, cur, rfl, hb, hg, hnc, hcm, _⟩
  · omega
  · exact ⟨g, cap, rfl, hb, (Array.getElem?_eq_some_iff.1 hg).1, hnc, hcm⟩
theorem bvs_set (l : List UInt8) (j : Nat) (c : UInt8) : (bvs l).set j (bv c) = bvs (l.set j c) := by simp [bvs, List.map_set]

set_option maxRecDepth 100000 in
set_option maxHeartbeats 1000000 in
theorem long_short (n F b m sz : Nat) (w : World) (hF : Full sz F) (hsz : sz = b % 8 + 1) (hb : b < 256) (hn : n < 4294967296) (hs : n % 2147483648 < F) :
    Calls Try.prog 6 #[.int .u32 n, .int .u8 b, .int .u8 m] w (RetT w) := by
  have hlo := hF.lo
  have hhi := hF.hi
  have e1 : (1 : Int) + (b : Int) % 8 = (sz : Int) := by omega
  have HF := Lib.hid hF
  clear hF hsz
  go_enter Try.func6, Try.ntmps6
  go_wp2_with fail
  refine (counts_any w).mono ?_
  rintro e w1 ⟨rfl, hb1⟩
  go_wp2_with fail
  rw [show ((n : Int) % 2147483648) = ((n % 2147483648 : Nat) : Int) by omega]
  refine (rput_any 0 sz (n % 2147483648) F w1 HF.out (by omega) (Nat.zero_mod _) (by omega)).mono ?_
  rintro e w2 ⟨v, rfl, hown, hb2⟩
  have hl : (putB 0 F (n % 2147483648)).length = 1 := by simp [putB, hs]
  obtain ⟨A, c, rfl, -, -, hrd, -⟩ := own_slice hown
  rw [hl]
  clear hrd hown
  go_wp2
  go_ret
  exact ⟨rfl, hb1.trans (hb2.mono hb1.size)⟩

set_option maxRecDepth 100000 in
set_option maxHeartbeats 2000000 in
theorem long_long (n F b m sz : Nat) (w : World) (hF : Full sz F) (hsz : sz = b % 8 + 1) (hb : b < 256) (hm : m < 256) (hn : n < 4294967296) (hs : F ≤ n % 2147483648) :
    Calls Try.prog 6 #[.int .u32 n, .int .u8 b, .int .u8 m] w (RetT w) := by
  have hlo := hF.lo
  have hhi := hF.hi
  have e1 : (1 : Int) + (b : Int) % 8 = (sz : Int) := by omega
  obtain ⟨k, hk⟩ : ∃ k, k = m % 5 := ⟨_, rfl⟩
  have e2 : (m : Int) % 5 = (k : Int) := by omega
  have hk5 : k < 5 := by omega
  have HF := Lib.hid hF
  clear hF hsz hk
  go_enter Try.func6, Try.ntmps6
  go_wp2_with fail
  refine (counts_any w).mono ?_
  rintro e w1 ⟨rfl, hb1⟩
  go_wp2_with fail
  obtain ⟨x, hx⟩ : ∃ x, x = n % 2147483648 := ⟨_, rfl⟩
  rw [show ((n : Int) % 2147483648) = (x : Int) by omega]
  have hx31 : x ≤ 2147483647 := by omega
  rw [← hx] at hs
  refine (rput_any 0 sz x F w1 HF.out (by omega) (Nat.zero_mod _) (by omega)).mono ?_
  rintro e w2 ⟨v, rfl, hown, hb2⟩
  have hbel : Below w.heap.size w w2 := hb1.trans (hb2.mono hb1.size)
  obtain ⟨L, hL, hL1, hLc, hlast, hset⟩ := put_long hx31 hs
  obtain ⟨g, c, rfl, hg, hgs, hc, hcm⟩ := own_form hown (by omega)
  have hw1 := hb1.size
  have hw2 := hb2.size
  have hlen7 := (putB_length 0 F x).1
  have hcell : w2.cell? ⟨g, L, none⟩ = some (.int .u8 (ba (putB 0 F x) L : Int)) := by
    rw [World.ownsRow.cellAt hown L (by omega)]
    simp [bvs, bv, ba, List.getElem?_eq_getElem (show L < (putB 0 F x).length by omega), List.getD]
  have hfro : w2.frozen? ⟨g, L, none⟩ = false := World.ownsRow.frozenAt hown L
  obtain ⟨hst, hgr⟩ := World.ownsRow.stored hown L (bv (UInt8.ofNat (ba (putB 0 F x) L + 128)))
  rw [bvs_set, hset] at hst
  have hval : bv (UInt8.ofNat (ba (putB 0 F x) L + 128)) = .int .u8 ((ba (putB 0 F x) L : Int) + 128) := by rw [bv, toNat_ofNat (by omega)]; rfl
  rw [hval] at hst hgr
  have hbel' := hbel.setCell (p := ⟨g, L, none⟩) (by show _ ≤ g; omega) (.int .u8 ((ba (putB 0 F x) L : Int) + 128))
  have hst' : OwnB (w2.setCell ⟨g, L, none⟩ (.int .u8 ((ba (putB 0 F x) L : Int) + 128))) w.heap.size (.slice (some ⟨g, 0, none⟩) (L + 1) c) (UInt8.ofNat (0 + F) :: contF 5 (x - F) ++ List.replicate 0 128) := by
    have : (UInt8.ofNat (0 + F) :: contF 5 (x - F)).length = L + 1 := by simp [hLc]
    unfold OwnB
    rw [List.replicate_zero, List.append_nil, this]
    rw [hL] at hst
    exact own_mono hst (by omega)
  rw [hL] at hc ⊢
  have hL6 : L ≤ 6 := by omega
  generalize ba (putB 0 F x) L = y at *
  have HS := Lib.hid hst'
  have HLC := Lib.hid hLc
  clear hst hgr hval hset hown hst' hL hLc hlen7 hb2
  have e5 : ((L : Int) + 1 == 1) = false := by rw [beq_eq_false_iff_ne]; omega
  go_wp2
  clear e1 e5
  go_loopw [8, 9] (LongRel w (UInt8.ofNat (0 + F) :: contF 5 (x - F)) k) (fun _ i _ => k - (intOf i).toNat)
  case atStart => exact ⟨0, rfl, by omega, HS.out, hbel'⟩
  case round =>
    obtain ⟨j, rfl, hj, hown, hbw⟩ := hrel
    have hsw := hbw.size
    have hl : (UInt8.ofNat (0 + F) :: contF 5 (x - F) ++ List.replicate j 128).length = L + 1 + j := by simp [HLC.out]; omega
    have HL := Lib.hid hl
    clear hl hcell hfro
    by_cases hlt : j < k
    · go_wp2_with (at_builtin; refine wpList_app (.tmp 46) (.tmp 47) tBytes rfl rfl (World.ownsRow.alloc hown _) rfl (Rd.one _ _ _) rfl (oneInt _ _) (le_maxLen (by have := HL.out; omega)) (by have := HL.out; omega) (by simp; omega) ?_; intro v3 w3 hown3 hg3 _)
      go_roundw
      case rel =>
        refine ⟨j + 1, by go_num, by omega, ?_, Below.app (hbw.alloc hsw _) (World.ownsRow.alloc hown _) hg3 (Nat.le_refl _) (by simp; omega)⟩
        have := OwnB.snoc (b := 128) hown3 rfl
        rw [List.append_assoc, ← List.replicate_succ'] at this
        exact this
      case measure => simp [intOf]; omega
    · obtain rfl : j = k := by omega
      go_wp2_with (at_builtin; refine wpList_app (.tmp 49) (.tmp 50) tBytes rfl rfl (World.ownsRow.alloc hown _) rfl (Rd.one _ _ _) rfl (oneInt _ _) (le_maxLen (by have := HL.out; omega)) (by have := HL.out; omega) (by simp; omega) ?_; intro v3 w3 hown3 hg3 _)
      have hb3 := Below.app (hbw.alloc hsw _) (World.ownsRow.alloc hown _) hg3 (Nat.le_refl _) (by simp; omega)
      have hown4 := OwnB.snoc (b := 0) hown3 rfl
      obtain ⟨A, c3, rfl, hc3, hcm3, hr3, -⟩ := own_slice hown4
      have hlen : (UInt8.ofNat (0 + F) :: contF 5 (x - F) ++ List.replicate j 128 ++ [0]).length = L + j + 2 := by rw [List.length_append, HL.out]; simp; omega
      rw [hlen] at hr3 hc3
      have htl := take_long (j := j) HF.out hx31 hs
      rw [← HLC.out] at htl
      rw [hlen]
      have HT := Lib.hid htl
      have HR := Lib.hid hr3
      clear hown4 hown3 hg3 hr3 hlen htl
      refine (take_any (bits := sz) (F := F) HF.out HR.out hc3 hcm3).mono ?_
      rintro e w4 ⟨rfl, rfl⟩
      rw [List.cons_append, List.cons_append, HT.out]
      by_cases h6 : 6 < L + j + 2
      · rw [if_pos h6]
        simp only [tri]
        go_wp2
        go_ret
        exact ⟨rfl, hb3⟩
      · rw [if_neg h6]
        simp only [tri]
        have e4 : (x : Int) = (n : Int) % 2147483648 := by omega
        go_wp2
        go_ret
        exact ⟨rfl, hb3⟩
end Go.Proofs.Ytfcgacjonekfaaa
