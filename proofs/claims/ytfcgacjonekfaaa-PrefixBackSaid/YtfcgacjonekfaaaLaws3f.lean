/- The walk of drawbridgelaw03.PrefixBack. -/
import Derived.Test.YtfcgacjonekfaaaTakeText
import Derived.Test.YtfcgacjonekfaaaBackPlain
namespace Go.Proofs.Ytfcgacjonekfaaa
open Go.RowKit

/-- b[:k]. -/
theorem Rd.head {w : World} {B n k : Nat} {A : Option Addr} {l : List UInt8} (h : Rd w B 1 A n (bvs l)) (h1 : k ≤ n) : Rd w B 1 A k (bvs (l.take k)) := by
  have hl := h.blen
  refine ⟨by simp [bvs]; omega, fun hm => ?_⟩
  obtain ⟨b', o', e, hb, hc⟩ := h.2 (by omega)
  refine ⟨_, _, e, hb, fun j hj => ?_⟩
  rw [hc j (by omega)]
  simp only [bvs, List.getElem?_map, List.getElem?_take]
  rw [if_pos (by omega)]

theorem own_form1 {w : World} {B : Nat} {v : Value} {l : List UInt8} (h : OwnB w B v l) (hl : 0 < l.length) : ∃ g c, v = .slice (some ⟨g, 0, none⟩) l.length c ∧ B ≤ g ∧ g < w.heap.size ∧ l.length ≤ c ∧ c ≤ maxLen := by
  rcases h.2 with ⟨rfl, h0⟩ | ⟨g, cap, cur, rfl, hb, hg, hnc, hcm, _⟩
  · omega
  · exact ⟨g, cap, rfl, hb, (Array.getElem?_eq_some_iff.1 hg).1, hnc, hcm⟩

set_option maxRecDepth 100000 in
set_option maxHeartbeats 1000000 in
theorem back_out (x : Nat) (s : ByteArray) {A : Option Addr} {n c : Nat} (w : World) (h : 4096 < s.size ∨ 65536 < n) :
    Calls Try.prog 14 #[.int .u32 x, .string s, .slice A n c] w (RetT w) := by
  by_cases h1 : 4096 < s.size
  · go_enter Try.func14, Try.ntmps14
    go_wp2_with fail
    refine (counts_any w).mono ?_
    rintro e w1 ⟨rfl, hb⟩
    go_wp2
    go_ret
    exact ⟨rfl, hb⟩
  · have h2 : 65536 < n := by omega
    clear h
    go_enter Try.func14, Try.ntmps14
    go_wp2_with fail
    refine (counts_any w).mono ?_
    rintro e w1 ⟨rfl, hb⟩
    go_wp2
    go_ret
    exact ⟨rfl, hb⟩

def BackRel (w : World) (i : Value) (wr : World) : Prop := ∃ k : Nat, i = .int .i64 k ∧ 1 ≤ k ∧ k ≤ 9 ∧ Below w.heap.size w wr

set_option maxRecDepth 100000 in
set_option maxHeartbeats 400000 in
theorem back_in (x0 : Nat) (s : ByteArray) {A : Option Addr} {n c : Nat} {l : List UInt8} (w : World) (h1 : s.size ≤ 4096) (h2 : n ≤ 65536) (hr : Rd w w.heap.size 1 A n (bvs l)) :
    Calls Try.prog 14 #[.int .u32 x0, .string s, .slice A n c] w (RetT w) := by
  have HR := Lib.hid hr
  clear hr
  obtain ⟨x, hx⟩ : ∃ x, x = x0 % 2147483648 := ⟨_, rfl⟩
  have ex : (x0 : Int) % 2147483648 = (x : Int) := by omega
  have hx31 : x ≤ 2147483647 := by omega
  clear hx
  have e1 : decide (4096 < s.size) = false := by simp; omega
  have e2 : decide (65536 < n) = false := by simp; omega
  go_enter Try.func14, Try.ntmps14
  go_wp2_with fail
  refine (counts_any w).mono ?_
  rintro e w1 ⟨rfl, hb⟩
  go_wp2
  rw [ex]
  clear e1 e2 ex
  go_loopw [7] (BackRel w) (fun i _ => 9 - (intOf i).toNat)
  case atStart => exact ⟨1, rfl, by omega, by omega, hb⟩
  case round =>
    obtain ⟨k, rfl, hk1, hk9, hbel⟩ := hrel
    have HB := Lib.hid hbel
    clear hbel hb
    by_cases hk : k ≤ 8
    · obtain ⟨F, hF⟩ := Full.mk' k hk1 hk
      have hF' := hF.le
      have HF := Lib.hid hF
      have hp := putB_length 0 F x
      have HT := Lib.hid (takeI_putB (f := 0) (F := F) (n := x) hF' (Nat.zero_mod _) (by omega) hx31 l)
      have HC := Lib.hid (takeI_cut (f := 0) (F := F) (n := x) hF' (Nat.zero_mod _) (by omega) hx31)
      clear hF
      go_wp2_with fail
      refine (put_ok 0 k x F _ HF.out (by omega) (Nat.zero_mod _) (by omega)).mono ?_
      rintro e w2 ⟨v2, rfl, hown2, hb2⟩
      have hb3 := HB.out.tr2 hb2
      have HB3 := Lib.hid hb3
      have hs2 := hb3.size
      have hr2' := HR.out.below hb3 (Nat.le_refl _)
      have HRB := Lib.hid hr2'
      generalize putB 0 F x = P at *
      have hp1 := hp.1
      have hp2 := hp.2
      obtain ⟨g2, c2, rfl, hg2, hgs2, hc2, hcm2⟩ := own_form1 hown2 (by omega)
      have hr2 := Rd.of_own hown2
      have HR2 := Lib.hid hr2
      clear hown2 hr2 hr2' hb3 hb2 hp
      have ek : ((P.length : Int) == 0) = false := by rw [beq_eq_false_iff_ne]; omega
      go_wp2_with (first
        | (at_builtin
           refine wpList_app (.tmp 46) (.tmp 47) tBytes rfl rfl (own_empty (base := w.heap.size) (size := 1) w2 hs2) rfl (HR2.out.alloc (Nat.le_refl _) _) rfl (bvs_one _) (le_maxLen (by omega)) (by omega) (by simp; omega) ?_
           intro v3 w3 hown3 hg3 hat3)
        | (at_builtin
           refine wpList_app (.tmp 48) (.tmp 49) tBytes rfl rfl hown3 rfl (Rd.grown (HRB.out.alloc hs2 _) hg3 (by simp; omega) (fun g hg => by simp [Value.ownBlock] at hg; omega)) rfl (bvs_one _) (le_maxLen (by omega)) (by omega) (by have := hg3.size; simp at this; omega) ?_
           intro v4 w4 hown4 hg4 _
           have hs23 : w2.heap.size < w3.heap.size := by have := hg3.size; simp at this; omega
           have hw3 : Below w.heap.size w w3 := Below.app (HB3.out.alloc hs2 _) (own_empty (base := w.heap.size) (size := 1) w2 hs2) hg3 (Nat.le_refl _) (by simp; omega)
           have hw4 : Below w.heap.size w w4 := Below.app hw3 hown3 hg4 (Nat.le_refl _) hw3.size
           have hr3 : Rd w3 w2.heap.size 1 (some ⟨g2, 0, none⟩) P.length (bvs P) := Rd.grown (HR2.out.alloc (Nat.le_refl _) _) hg3 (by simp) (fun g hg => by simp [Value.ownBlock] at hg; omega)
           have hv3 : ∀ g, v3.ownBlock = some g → w2.heap.size ≤ g := fun g hg => by
             rcases hat3 with h | h
             · rw [hg] at h; simp [Value.ownBlock] at h; omega
             · rw [hg] at h; simp at h; omega
           have HR4 := Lib.hid (Rd.grown hr3 hg4 (by omega) hv3)
           have HB4 := Lib.hid hw4
           have hw34 : w3.heap.size ≤ w4.heap.size := hg4.size
           simp only [List.nil_append, Nat.zero_add] at hown4
           rw [← bvs_append] at hown4
           obtain ⟨A5, c5, rfl, hc5, hcm5, hrd5, -⟩ := own_slice hown4
           have HJ := Lib.hid hrd5
           clear hown4 hg4 hrd5 hown3 hg3 hat3 hr3 hv3 hw3 hw4))
      refine (take_any HF.out HJ.out hc5 hcm5).mono ?_
      rintro e w5 ⟨rfl, rfl⟩
      rw [HT.out]
      simp only [tri]
      go_wp2_with fail
      refine (take_any HF.out (HR4.out.head (Nat.sub_le _ _)) (by omega) hcm2).mono ?_
      rintro e w5 ⟨rfl, rfl⟩
      rw [HC.out]
      simp only [tri]
      go_wp2
      go_roundw
      case rel => exact ⟨k + 1, by go_num, by omega, by omega, HB4.out⟩
      case measure => simp [intOf]; omega
    · obtain rfl : k = 9 := by omega
      have hl8 := str_len s
      have hp := textB_length s.data.toList (by omega)
      have HT := Lib.hid (back_text (l := s.data.toList) (by omega) l)
      have HC := Lib.hid (back_cut (l := s.data.toList) (by omega))
      rw [hl8] at hp
      clear hl8
      go_wp2_with fail
      refine (putText_any s _ (by omega)).mono ?_
      rintro e w2 ⟨v2, rfl, hown2, hb2⟩
      have hb3 := HB.out.tr2 hb2
      have HB3 := Lib.hid hb3
      have hs2 := hb3.size
      have hr2' := HR.out.below hb3 (Nat.le_refl _)
      have HRB := Lib.hid hr2'
      generalize textB s.data.toList = P at *
      have hp1 := hp.1
      have hp2 := hp.2
      obtain ⟨g2, c2, rfl, hg2, hgs2, hc2, hcm2⟩ := own_form1 hown2 (by omega)
      have hr2 := Rd.of_own hown2
      have HR2 := Lib.hid hr2
      clear hown2 hr2 hr2' hb3 hb2 hp
      have ek : ((P.length : Int) == 0) = false := by rw [beq_eq_false_iff_ne]; omega
      go_wp2_with (first
        | (at_builtin
           refine wpList_app (.tmp 93) (.tmp 94) tBytes rfl rfl (own_empty (base := w.heap.size) (size := 1) w2 hs2) rfl (HR2.out.alloc (Nat.le_refl _) _) rfl (bvs_one _) (le_maxLen (by omega)) (by omega) (by simp; omega) ?_
           intro v3 w3 hown3 hg3 hat3)
        | (at_builtin
           refine wpList_app (.tmp 95) (.tmp 96) tBytes rfl rfl hown3 rfl (Rd.grown (HRB.out.alloc hs2 _) hg3 (by simp; omega) (fun g hg => by simp [Value.ownBlock] at hg; omega)) rfl (bvs_one _) (le_maxLen (by omega)) (by omega) (by have := hg3.size; simp at this; omega) ?_
           intro v4 w4 hown4 hg4 _
           have hs23 : w2.heap.size < w3.heap.size := by have := hg3.size; simp at this; omega
           have hw3 : Below w.heap.size w w3 := Below.app (HB3.out.alloc hs2 _) (own_empty (base := w.heap.size) (size := 1) w2 hs2) hg3 (Nat.le_refl _) (by simp; omega)
           have hw4 : Below w.heap.size w w4 := Below.app hw3 hown3 hg4 (Nat.le_refl _) hw3.size
           have hr3 : Rd w3 w2.heap.size 1 (some ⟨g2, 0, none⟩) P.length (bvs P) := Rd.grown (HR2.out.alloc (Nat.le_refl _) _) hg3 (by simp) (fun g hg => by simp [Value.ownBlock] at hg; omega)
           have hv3 : ∀ g, v3.ownBlock = some g → w2.heap.size ≤ g := fun g hg => by
             rcases hat3 with h | h
             · rw [hg] at h; simp [Value.ownBlock] at h; omega
             · rw [hg] at h; simp at h; omega
           have HR4 := Lib.hid (Rd.grown hr3 hg4 (by omega) hv3)
           have HB4 := Lib.hid hw4
           have hw34 : w3.heap.size ≤ w4.heap.size := hg4.size
           simp only [List.nil_append, Nat.zero_add] at hown4
           rw [← bvs_append] at hown4
           obtain ⟨A5, c5, rfl, hc5, hcm5, hrd5, -⟩ := own_slice hown4
           have HJ := Lib.hid hrd5
           clear hown4 hg4 hrd5 hown3 hg3 hat3 hr3 hv3 hw3 hw4))
      refine (takeText_any HJ.out hc5 hcm5 (by omega)).mono ?_
      rintro e w5 ⟨rfl, hb5⟩
      rw [HT.out]
      simp only [triT]
      rw [str_back s]
      have HB5 := Lib.hid (HB4.out.tr2 hb5)
      have hs45 := hb5.size
      have HR5 := Lib.hid ((HR4.out.more (show w2.heap.size ≤ w4.heap.size by have := HJ.out; have := hw34; omega)).below hb5 (Nat.le_refl _))
      clear hb5
      go_wp2_with fail
      refine (takeText_any ((HR5.out.head (Nat.sub_le _ _)).more hs45) (by omega) hcm2 (by omega)).mono ?_
      rintro e w6 ⟨rfl, hb6⟩
      rw [HC.out]
      simp only [triT]
      go_wp2
      go_ret
      exact ⟨rfl, HB5.out.tr2 hb6⟩
end Go.Proofs.Ytfcgacjonekfaaa
