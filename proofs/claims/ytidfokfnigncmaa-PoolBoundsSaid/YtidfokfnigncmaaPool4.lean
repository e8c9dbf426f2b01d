/- The walk of heap.up. -/
import Derived.Test.YtidfokfnigncmaaPool3
import Derived.Deep.LoopGhost
namespace Go.Proofs.Ytidfokfnigncmaa
open Go.RowKit

def restI (g : Nat) : Value := .iface 66 (.pointer (some ⟨g, 4, none⟩))
/-- What puts the heap's order right hands back. -/
def HFix (W : World) (g mb : Nat) (B : Bk) (A : Option Addr) (c : Nat) (H : List Nat) (m : Nat → Lk) (n : Nat) (v : Value) (e : Ending) (w' : World) : Prop :=
  e = .returned v ∧ ∃ H', H'.Perm H ∧ IsHeap m H' n ∧ H'.drop n = H.drop n ∧ HM w' g mb B A c H' m ∧ Kept (hfoot A H) W w'
def UpRel (W : World) (g mb : Nat) (B : Bk) (A : Option Addr) (c : Nat) (H : List Nat) (m : Nat → Lk) (n : Nat) (jv : Value) (wr : World) : Prop :=
  ∃ (k : Nat) (H' : List Nat), jv = .int .i64 k ∧ k < n ∧ H'.Perm H ∧ UpInv m H' n k ∧ H'.drop n = H.drop n ∧ HM wr g mb B A c H' m ∧ Kept (hfoot A H) W wr
/-- Less, of a heap whose length has a name. -/
theorem rless_n {g mb c N : Nat} {B : Bk} {A : Option Addr} {H : List Nat} {m : Nat → Lk} {i k : Nat} {b : Bool} (w : World) (h : HM w g mb B A c H m) (hN : H.length = N) (hi : i < N) (hk : k < N) (hb : lkLt (key m H i) (key m H k) = b) :
    Calls Try.prog 25 #[.slice A N c, .int .i64 i, .int .i64 k] w fun e w' => e = .returned (.bool b) ∧ ∃ n, w' = w.drewN n := by
  subst hN hb
  exact rless_any w h hi hk
theorem rswap_n {g mb c i k N : Nat} {B : Bk} {A : Option Addr} {H : List Nat} {m : Nat → Lk} (w : World) (h : HM w g mb B A c H m) (hN : H.length = N) (hik : i ≠ k) (hi : i < N) (hk : k < N) :
    Calls Try.prog 51 #[.slice A N c, .int .i64 i, .int .i64 k] w (HStep w g mb B A c H (swapL H i k) m (.tuple #[])) := by
  subst hN
  exact rswap_any w h hik hi hk
theorem HM.drewN {w : World} {g mb c : Nat} {B : Bk} {A : Option Addr} {H : List Nat} {m : Nat → Lk} (h : HM w g mb B A c H m) (n : Nat) : HM (w.drewN n) g mb B A c H m := h.keep rfl (fun _ _ => rfl)
theorem swapL_drop (H : List Nat) {i k n : Nat} (hi : i < n) (hk : k < n) : (swapL H i k).drop n = H.drop n := by
  unfold swapL
  rw [List.drop_set_of_lt hk, List.drop_set_of_lt hi]
theorem hfoot_perm {A : Option Addr} {H H' : List Nat} (h : H'.Perm H) {k : Nat} (hk : hfoot A H' k) : hfoot A H k := hk.imp id h.mem_iff.1
set_option maxRecDepth 100000 in
set_option maxHeartbeats 2000000 in
theorem up_any {g mb c n N j : Nat} {B : Bk} {A : Option Addr} {H : List Nat} {m : Nat → Lk} (w : World) (h : HM w g mb B A c H m) (hN : H.length = N) (hn : n ≤ N) (hj : j < n) (hi : UpInv m H n j) (hl : N ≤ 1099511627776) :
    Calls Try.prog 32 #[restI g, .int .i64 j] w (HFix w g mb B A c H m n (.tuple #[])) := by
  have HH := Lib.hid h
  have HI := Lib.hid hi
  have HN := Lib.hid hN
  clear h hi hN
  unfold restI
  go_enter Try.func32, Try.ntmps32
  go_wp2
  go_loopw [1] (fun jv wr => UpRel w g mb B A c H m n jv wr) (fun jv _ => (intOf jv).toNat)
  case atStart => exact ⟨j, H, rfl, hj, List.Perm.refl _, HI.out, rfl, HH.out, Kept.refl _ _⟩
  case round =>
    obtain ⟨k, H', rfl, hk, hp, hu, hdr, hm, hkp⟩ := hrel
    have hlen : H'.length = N := hp.length_eq.trans HN.out
    obtain ⟨-, -, -, -, c4⟩ := hm.cells
    rw [hlen] at c4
    have HLN := Lib.hid hlen
    have HM' := Lib.hid hm
    have HU := Lib.hid hu
    have HPP := Lib.hid (And.intro hp (And.intro hdr hkp))
    clear hp hu hm hkp hdr hlen
    by_cases hz : k = 0
    · subst hz
      go_wp2
      go_end0
      exact ⟨rfl, H', HPP.out.1, HU.out.stop0, HPP.out.2.1, HM'.out, HPP.out.2.2⟩
    · obtain ⟨i, hi⟩ : ∃ i : Nat, (k - 1) / 2 = i := ⟨_, rfl⟩
      have k1 : (1 : Int) ≤ k := by omega
      have hne : (((k : Int) - 1) / 2 == (k : Int)) = false := by rw [beq_eq_false_iff_ne]; omega
      have hik : ((k : Int) - 1) / 2 = (i : Int) := by omega
      have hml : (method 197 66 (.pointer (some ⟨g, 4, none⟩)) "Less").run Try.prog wr = .ok (25, .slice A N c) wr := meth_less 196 c4
      have HIK := Lib.hid hik
      clear hik
      cases hlt : lkLt (key m H' k) (key m H' i) with
      | false =>
        have HLT := Lib.hid hlt
        clear hlt
        go_wp2_with fail
        rw [HIK.out]
        refine (rless_n (i := k) (k := i) wr HM'.out HLN.out (by omega) (by omega) HLT.out).mono ?_
        rintro e w1 ⟨rfl, n1, rfl⟩
        go_wp2_with fail
        go_end0
        exact ⟨rfl, H', HPP.out.1, HU.out.stop (by rw [hi]; exact HLT.out), HPP.out.2.1, HM'.out.drewN _, HPP.out.2.2.drewN _⟩
      | true =>
        have HLT := Lib.hid hlt
        clear hlt
        go_wp2_with fail
        rw [HIK.out]
        refine (rless_n (i := k) (k := i) wr HM'.out HLN.out (by omega) (by omega) HLT.out).mono ?_
        rintro e w1 ⟨rfl, n1, rfl⟩
        have hms : (method 197 66 (.pointer (some ⟨g, 4, none⟩)) "Swap").run Try.prog (wr.drewN n1) = .ok (51, .slice A N c) (wr.drewN n1) := meth_swap 196 c4
        go_wp2_with fail
        refine (rswap_n (i := i) (k := k) (wr.drewN n1) (HM'.out.drewN _) HLN.out (by omega) (by omega) (by omega)).mono ?_
        rintro e w2 ⟨rfl, hm2, hk2⟩
        have H2 := Lib.hid (And.intro hm2 hk2)
        clear hm2 hk2 hms hml
        go_wp2_with fail
        go_roundw
        case rel =>
          have hln := HLN.out
          refine ⟨i, swapL H' i k, rfl, by omega, (swapL_perm H' (by omega) (by omega)).trans HPP.out.1, ?_, by rw [swapL_drop H' (by omega) hk]; exact HPP.out.2.1, H2.out.1, (HPP.out.2.2.drewN n1).same (H2.out.2.mono fun q hq => hfoot_perm HPP.out.1 hq)⟩
          have := HU.out.step (by omega) hk (by omega) (by rw [hi]; exact HLT.out)
          rwa [hi] at this
        case measure => simp [intOf]; omega
end Go.Proofs.Ytidfokfnigncmaa
