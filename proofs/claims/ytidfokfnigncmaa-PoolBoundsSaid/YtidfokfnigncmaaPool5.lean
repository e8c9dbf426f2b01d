/- The walk of heap.down. -/
import Derived.Test.YtidfokfnigncmaaPool4
namespace Go.Proofs.Ytidfokfnigncmaa
open Go.RowKit

def DnPost (W : World) (g mb : Nat) (B : Bk) (A : Option Addr) (c : Nat) (H : List Nat) (m : Nat → Lk) (n i0 : Nat) (e : Ending) (w' : World) : Prop :=
  ∃ (b : Bool) (H' : List Nat), e = .returned (.bool b) ∧ H'.Perm H ∧ H'.drop n = H.drop n ∧ HM w' g mb B A c H' m ∧ Kept (hfoot A H) W w' ∧ (b = true → IsHeap m H' n) ∧ (b = false → H' = H ∧ KidsOk m H n i0)
def DnRel (W : World) (g mb : Nat) (B : Bk) (A : Option Addr) (c : Nat) (H : List Nat) (m : Nat → Lk) (n i0 : Nat) (iv : Value) (wr : World) : Prop :=
  ∃ (i : Nat) (H' : List Nat), iv = .int .i64 i ∧ i0 ≤ i ∧ i ≤ n ∧ H'.Perm H ∧ H'.drop n = H.drop n ∧ DnInv m H' n i ∧ (i0 < i → 0 < i → lkLe (key m H' ((i - 1) / 2)) (key m H' i)) ∧ (i = i0 → H' = H) ∧ HM wr g mb B A c H' m ∧ Kept (hfoot A H) W wr
theorem DnRel.stop {W wr : World} {g mb c : Nat} {B : Bk} {A : Option Addr} {H H' : List Nat} {m : Nat → Lk} {n i0 i : Nat} {e : Ending} (h0 : i0 ≤ i) (hp : H'.Perm H ∧ H'.drop n = H.drop n ∧ DnInv m H' n i ∧ (i0 < i → 0 < i → lkLe (key m H' ((i - 1) / 2)) (key m H' i)) ∧ (i = i0 → H' = H) ∧ Kept (hfoot A H) W wr)
    (hm : HM wr g mb B A c H' m) (hk : KidsOk m H' n i) (he : e = .returned (.bool (decide (i0 < i)))) : DnPost W g mb B A c H m n i0 e wr := by
  obtain ⟨h1, h2, h3, h4, h5, h6⟩ := hp
  refine ⟨_, H', he, h1, h2, hm, h6, fun hb => ?_, fun hb => ?_⟩
  · have : i0 < i := of_decide_eq_true hb
    exact h3.heap hk (h4 (by omega))
  · have : ¬ i0 < i := of_decide_eq_false hb
    have e : i = i0 := by omega
    have e2 := h5 e
    subst e e2
    exact ⟨rfl, hk⟩
theorem kids_of {m : Nat → Lk} {H : List Nat} {n i j : Nat} (hmin : ∀ k, 0 < k → k < n → (k - 1) / 2 = i → lkLe (key m H j) (key m H k)) (hl : lkLt (key m H j) (key m H i) = false) : KidsOk m H n i :=
  fun k h0 hn e => lkLe_trans (lkLe_of_not hl) (hmin k h0 hn e)
theorem kid_cases {k i : Nat} (h0 : 0 < k) (h : (k - 1) / 2 = i) : k = 2 * i + 1 ∨ k = 2 * i + 1 + 1 := by omega
set_option maxRecDepth 100000 in
set_option maxHeartbeats 4000000 in
theorem down_any {g mb c n N i0 : Nat} {B : Bk} {A : Option Addr} {H : List Nat} {m : Nat → Lk} (w : World) (h : HM w g mb B A c H m) (hN : H.length = N) (hn : n ≤ N) (hi0 : i0 ≤ n) (hi : DnInv m H n i0) (hl : N ≤ 1099511627776) :
    Calls Try.prog 31 #[restI g, .int .i64 i0, .int .i64 n] w (DnPost w g mb B A c H m n i0) := by
  have HH := Lib.hid h
  have HI := Lib.hid hi
  have HN := Lib.hid hN
  clear h hi hN
  unfold restI
  go_enter Try.func31, Try.ntmps31
  go_wp2
  go_loopw [7] (fun iv wr => DnRel w g mb B A c H m n i0 iv wr) (fun iv _ => n - (intOf iv).toNat)
  case atStart => exact ⟨i0, H, rfl, Nat.le_refl _, hi0, List.Perm.refl _, rfl, HI.out, fun h => by omega, fun _ => rfl, HH.out, Kept.refl _ _⟩
  case round =>
    obtain ⟨i, H', rfl, hii, hin, hp, hdr, hd, hpar, hsame, hm, hkp⟩ := hrel
    have hlen : H'.length = N := hp.length_eq.trans HN.out
    obtain ⟨-, -, -, -, c4⟩ := hm.cells
    rw [hlen] at c4
    have HLN := Lib.hid hlen
    have HM' := Lib.hid hm
    have HD := Lib.hid hd
    have HPP := Lib.hid (And.intro hp (And.intro hdr (And.intro hd (And.intro hpar (And.intro hsame hkp)))))
    clear hp hd hm hkp hdr hlen hpar hsame
    by_cases hb : n ≤ 2 * i + 1
    · have hb2 : (n : Int) ≤ 2 * (i : Int) + 1 := by omega
      go_wp2_with fail
      go_ret
      exact DnRel.stop hii HPP.out HM'.out (fun k h0 hk e => by omega) rfl
    · have hb2 : 2 * (i : Int) + 1 < n := by omega
      obtain ⟨a, ha⟩ : ∃ a : Nat, 2 * i + 1 = a := ⟨_, rfl⟩
      have ha2 : 2 * (i : Int) + 1 = (a : Int) := by omega
      have HA := Lib.hid ha2
      have hml : (method 197 66 (.pointer (some ⟨g, 4, none⟩)) "Less").run Try.prog wr = .ok (25, .slice A N c) wr := meth_less 196 c4
      have hln := HLN.out
      have HLL := Lib.hid hln
      clear ha2 hln
      by_cases h2 : 2 * i + 1 + 1 < n
      · have hb3 : 2 * (i : Int) + 1 + 1 < n := by omega
        obtain ⟨b, hb4⟩ : ∃ b : Nat, a + 1 = b := ⟨_, rfl⟩
        have hb5 : (a : Int) + 1 = (b : Int) := by omega
        have HBB := Lib.hid hb5
        clear hb5
        cases hlt : lkLt (key m H' b) (key m H' a) with
        | true =>
          have HLT := Lib.hid hlt
          clear hlt
          have HMIN : Hid (∀ k, 0 < k → k < n → (k - 1) / 2 = i → lkLe (key m H' b) (key m H' k)) := Lib.hid fun k h0 hk e => by
            rcases kid_cases h0 e with rfl | rfl
            · rw [ha]; exact lkLe_of_lt HLT.out
            · rw [ha, hb4]; exact lkLe_refl _
          go_wp2_with fail
          rw [HA.out, HBB.out]
          refine (rless_n (i := b) (k := a) wr HM'.out HLN.out (by omega) (by omega) HLT.out).mono ?_
          rintro e w1 ⟨rfl, n1, rfl⟩
          have hml1 : (method 197 66 (.pointer (some ⟨g, 4, none⟩)) "Less").run Try.prog (wr.drewN n1) = .ok (25, .slice A N c) (wr.drewN n1) := meth_less 196 c4
          have HM1 := Lib.hid (HM'.out.drewN n1)
          clear hml
          cases hlt : lkLt (key m H' b) (key m H' i) with
          | false =>
            have HLT2 := Lib.hid hlt
            clear hlt
            go_wp2_with fail
            try rw [HA.out, HBB.out]
            refine (rless_n (i := b) (k := i) (wr.drewN n1) HM1.out HLN.out (by omega) (by omega) HLT2.out).mono ?_
            rintro e w2 ⟨rfl, n2, rfl⟩
            go_wp2_with fail
            go_ret
            obtain ⟨p1, p2, p3, p4, p5, p6⟩ := HPP.out
            exact DnRel.stop hii ⟨p1, p2, p3, p4, p5, p6.drewN _⟩ (HM'.out.drewN _) (kids_of HMIN.out HLT2.out) rfl
          | true =>
            have HLT2 := Lib.hid hlt
            clear hlt
            go_wp2_with fail
            try rw [HA.out, HBB.out]
            refine (rless_n (i := b) (k := i) (wr.drewN n1) HM1.out HLN.out (by omega) (by omega) HLT2.out).mono ?_
            rintro e w2 ⟨rfl, n2, rfl⟩
            have hms : ∀ n3, (method 197 66 (.pointer (some ⟨g, 4, none⟩)) "Swap").run Try.prog (wr.drewN n3) = .ok (51, .slice A N c) (wr.drewN n3) := fun n3 => meth_swap 196 c4
            go_wp2_with fail
            try rw [HA.out]
            refine (rswap_n (i := i) (k := b) (wr.drewN _) (HM'.out.drewN _) HLN.out (by omega) (by omega) (by omega)).mono ?_
            rintro e w3 ⟨rfl, hm3, hk3⟩
            have H3 := Lib.hid (And.intro hm3 hk3)
            clear hm3 hk3 hms hml1
            go_wp2_with fail
            go_roundw
            case rel =>
              obtain ⟨p1, p2, p3, p4, p5, p6⟩ := HPP.out
              have hln := HLL.out
              obtain ⟨d1, d2⟩ := p3.step (j := b) (by omega) (by omega) (by omega) (by omega) HLT2.out HMIN.out
              exact ⟨b, swapL H' i b, by first | rfl | (congr 1), by omega, by omega, (swapL_perm H' (by omega) (by omega)).trans p1, by rw [swapL_drop H' (by omega) (by omega)]; exact p2, d1, fun _ => d2, fun e => by omega, H3.out.1, (p6.drewN _).same (H3.out.2.mono fun q hq => hfoot_perm p1 hq)⟩
            case measure => simp [intOf]; omega
        | false =>
          have HLT := Lib.hid hlt
          clear hlt
          have HMIN : Hid (∀ k, 0 < k → k < n → (k - 1) / 2 = i → lkLe (key m H' a) (key m H' k)) := Lib.hid fun k h0 hk e => by
            rcases kid_cases h0 e with rfl | rfl
            · rw [ha]; exact lkLe_refl _
            · rw [ha, hb4]; exact lkLe_of_not HLT.out
          go_wp2_with fail
          rw [HA.out, HBB.out]
          refine (rless_n (i := b) (k := a) wr HM'.out HLN.out (by omega) (by omega) HLT.out).mono ?_
          rintro e w1 ⟨rfl, n1, rfl⟩
          have hml1 : (method 197 66 (.pointer (some ⟨g, 4, none⟩)) "Less").run Try.prog (wr.drewN n1) = .ok (25, .slice A N c) (wr.drewN n1) := meth_less 196 c4
          have HM1 := Lib.hid (HM'.out.drewN n1)
          clear hml
          cases hlt : lkLt (key m H' a) (key m H' i) with
          | false =>
            have HLT2 := Lib.hid hlt
            clear hlt
            go_wp2_with fail
            try rw [HA.out]
            refine (rless_n (i := a) (k := i) (wr.drewN n1) HM1.out HLN.out (by omega) (by omega) HLT2.out).mono ?_
            rintro e w2 ⟨rfl, n2, rfl⟩
            go_wp2_with fail
            go_ret
            obtain ⟨p1, p2, p3, p4, p5, p6⟩ := HPP.out
            exact DnRel.stop hii ⟨p1, p2, p3, p4, p5, p6.drewN _⟩ (HM'.out.drewN _) (kids_of HMIN.out HLT2.out) rfl
          | true =>
            have HLT2 := Lib.hid hlt
            clear hlt
            go_wp2_with fail
            try rw [HA.out]
            refine (rless_n (i := a) (k := i) (wr.drewN n1) HM1.out HLN.out (by omega) (by omega) HLT2.out).mono ?_
            rintro e w2 ⟨rfl, n2, rfl⟩
            have hms : ∀ n3, (method 197 66 (.pointer (some ⟨g, 4, none⟩)) "Swap").run Try.prog (wr.drewN n3) = .ok (51, .slice A N c) (wr.drewN n3) := fun n3 => meth_swap 196 c4
            go_wp2_with fail
            try rw [HA.out]
            refine (rswap_n (i := i) (k := a) (wr.drewN _) (HM'.out.drewN _) HLN.out (by omega) (by omega) (by omega)).mono ?_
            rintro e w3 ⟨rfl, hm3, hk3⟩
            have H3 := Lib.hid (And.intro hm3 hk3)
            clear hm3 hk3 hms hml1
            go_wp2_with fail
            go_roundw
            case rel =>
              obtain ⟨p1, p2, p3, p4, p5, p6⟩ := HPP.out
              have hln := HLL.out
              obtain ⟨d1, d2⟩ := p3.step (j := a) (by omega) (by omega) (by omega) (by omega) HLT2.out HMIN.out
              exact ⟨a, swapL H' i a, by first | rfl | (congr 1), by omega, by omega, (swapL_perm H' (by omega) (by omega)).trans p1, by rw [swapL_drop H' (by omega) (by omega)]; exact p2, d1, fun _ => d2, fun e => by omega, H3.out.1, (p6.drewN _).same (H3.out.2.mono fun q hq => hfoot_perm p1 hq)⟩
            case measure => simp [intOf]; omega
      · have hb3 : (n : Int) ≤ 2 * (i : Int) + 1 + 1 := by omega
        have HMIN : Hid (∀ k, 0 < k → k < n → (k - 1) / 2 = i → lkLe (key m H' a) (key m H' k)) := Lib.hid fun k h0 hk e => by
          rcases kid_cases h0 e with rfl | rfl
          · rw [ha]; exact lkLe_refl _
          · omega
        have hml1 := hml
        clear hml
        cases hlt : lkLt (key m H' a) (key m H' i) with
        | false =>
          have HLT2 := Lib.hid hlt
          clear hlt
          go_wp2_with fail
          try rw [HA.out]
          refine (rless_n (i := a) (k := i) wr HM'.out HLN.out (by omega) (by omega) HLT2.out).mono ?_
          rintro e w2 ⟨rfl, n2, rfl⟩
          go_wp2_with fail
          go_ret
          obtain ⟨p1, p2, p3, p4, p5, p6⟩ := HPP.out
          exact DnRel.stop hii ⟨p1, p2, p3, p4, p5, p6.drewN _⟩ (HM'.out.drewN _) (kids_of HMIN.out HLT2.out) rfl
        | true =>
          have HLT2 := Lib.hid hlt
          clear hlt
          go_wp2_with fail
          try rw [HA.out]
          refine (rless_n (i := a) (k := i) wr HM'.out HLN.out (by omega) (by omega) HLT2.out).mono ?_
          rintro e w2 ⟨rfl, n2, rfl⟩
          have hms : ∀ n3, (method 197 66 (.pointer (some ⟨g, 4, none⟩)) "Swap").run Try.prog (wr.drewN n3) = .ok (51, .slice A N c) (wr.drewN n3) := fun n3 => meth_swap 196 c4
          go_wp2_with fail
          try rw [HA.out]
          refine (rswap_n (i := i) (k := a) (wr.drewN _) (HM'.out.drewN _) HLN.out (by omega) (by omega) (by omega)).mono ?_
          rintro e w3 ⟨rfl, hm3, hk3⟩
          have H3 := Lib.hid (And.intro hm3 hk3)
          clear hm3 hk3 hms hml1
          go_wp2_with fail
          go_roundw
          case rel =>
            obtain ⟨p1, p2, p3, p4, p5, p6⟩ := HPP.out
            have hln := HLL.out
            obtain ⟨d1, d2⟩ := p3.step (j := a) (by omega) (by omega) (by omega) (by omega) HLT2.out HMIN.out
            exact ⟨a, swapL H' i a, by first | rfl | (congr 1), by omega, by omega, (swapL_perm H' (by omega) (by omega)).trans p1, by rw [swapL_drop H' (by omega) (by omega)]; exact p2, d1, fun _ => d2, fun e => by omega, H3.out.1, (p6.drewN _).same (H3.out.2.mono fun q hq => hfoot_perm p1 hq)⟩
          case measure => simp [intOf]; omega
end Go.Proofs.Ytidfokfnigncmaa
