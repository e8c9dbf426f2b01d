/- The walk of drawbridgeref03.PutInt: it writes what prefix.PutInt writes. -/
import Derived.Test.YtfcgacjonekfaaaPut
namespace Go.Proofs.Ytfcgacjonekfaaa
open Go.RowKit

/-- The doubling loop: behind k rounds the number is 2^k. -/
def DblRel (kd : IntKind) (bits : Nat) (a i : Value) : Prop := ∃ k p : Nat, i = .int .i64 k ∧ a = .int kd p ∧ k ≤ bits ∧ p = 2 ^ k ∧ p ≤ 256
theorem DblRel.next {bits k p : Nat} (h : p = 2 ^ k) (hk : k < bits) (hb : bits ≤ 8) : p * 2 = 2 ^ (k + 1) ∧ p ≤ 128 := by
  subst h
  refine ⟨by rw [Nat.pow_succ], ?_⟩
  exact Nat.pow_le_pow_right (by omega) (show k ≤ 7 by omega)

set_option maxRecDepth 100000 in
set_option maxHeartbeats 1000000 in
theorem rput_any (f bits n F : Nat) (w : World) (hF : Full bits F) (hf : f < 256) (hfl : f % (F + 1) = 0) (hn32 : n < 4294967296) :
    Calls Try.prog 21 #[.int .u8 f, .int .i64 bits, .int .u32 n] w (RetB w (putB f F n)) := by
  have h8 := hF.hi
  have hF' := hF.le
  have hlt : f + F < 256 := (hF.or8 hf hfl (n := F) (by omega)).2
  have HE := Lib.hid hF.eq
  have HFL := Lib.hid hfl
  clear hF hfl
  go_enter Try.func21, Try.ntmps21
  go_wp2
  go_loop [7, 8] (DblRel .u32 bits) (fun _ i => bits - (intOf i).toNat)
  case atStart => exact ⟨0, 1, rfl, rfl, by omega, rfl, by omega⟩
  case round =>
    obtain ⟨k, p, rfl, rfl, hk, hp, hp256⟩ := hrel
    have HP := Lib.hid hp
    clear hp
    by_cases hlt : k < bits
    · have hp128 := (DblRel.next HP.out hlt h8).2
      go_wp2
      go_round
      case rel => exact ⟨k + 1, p * 2, by go_num, by go_num, by omega, (DblRel.next HP.out hlt h8).1, by omega⟩
      case measure => simp [intOf]; omega
    · obtain rfl : p = F + 1 := by rw [HP.out, HE.out]; congr 1; omega
      by_cases hs : n < F
      · go_wp2
        go_ret
        have hp : putB f F n = [UInt8.ofNat (f + n)] := by simp [putB, hs]
        rw [hp]
        have hv : bvs [UInt8.ofNat (f + n)] = [.int .u8 ((f : Int) + n)] := by simp only [bvs, bv, List.map_cons, List.map_nil, toNat_ofNat (show f + n < 256 by omega)]; congr 1
        refine ⟨_, rfl, ?_, (Below.refl _ _).alloc (Nat.le_refl _) _⟩
        unfold OwnB
        rw [hv]
        exact World.ownsRow_lit (base := w.heap.size) (e := 5) (size := 1) w #[_] 1 (Nat.le_refl _) (by unfold maxLen; omega) rfl
      · have hT : putB f F n = UInt8.ofNat (f + F) :: tailF 5 (n - F) := by simp only [putB]; rw [if_neg (by omega)]
        have HT := Lib.hid hT
        have e4 : decide (n < F) = false := by simpa using hs
        have e7 : decide (k < bits) = false := by simpa using hlt
        clear hT
        go_wp2
        clear e4 e7
        go_loopw [9, 2] (PutRel w (putB f F n)) (fun _ m _ => (intOf m).toNat)
        case atStart =>
          refine ⟨[UInt8.ofNat (f + F)], 5, n - F, HT.out, by omega, by simp, by omega, by congr 1; omega, ?_, (Below.refl _ _).alloc (Nat.le_refl _) _⟩
          unfold OwnB
          have hv : bvs [UInt8.ofNat (f + F)] = [.int .u8 ((f : Int) + F)] := by simp only [bvs, bv, List.map_cons, List.map_nil, toNat_ofNat (show f + F < 256 by omega)]; congr 1
          rw [hv]
          exact World.ownsRow_lit (base := w.heap.size) (e := 5) (size := 1) w #[_] 1 (Nat.le_refl _) (by unfold maxLen; omega) rfl
        case round =>
          obtain ⟨d, k, x, hd, hx, hdk, hx32, rfl, hown, hbel⟩ := hrel
          have HD := Lib.hid hd
          have HX := Lib.hid hx
          clear hd hx
          by_cases hlt : 128 ≤ x
          · go_wp2_with (at_builtin; refine wpList_app (.tmp 37) (.tmp 42) tBytes rfl rfl (World.ownsRow.alloc hown _) rfl (Rd.one _ _ _) rfl (oneInt _ _) (le_maxLen (by omega)) (by omega) (by have := hbel.size; simp; omega) ?_; intro v1 w1 hown1 hg1 _)
            go_roundw
            case rel =>
              obtain ⟨k', rfl⟩ : ∃ k', k = k' + 1 := ⟨k - 1, by have := HX.out; cases k with | zero => simp at this; omega | succ k => rfl⟩
              refine ⟨d ++ [UInt8.ofNat (x % 128 + 128)], k', x / 128, ?_, ?_, by simp; omega, by omega, ?_, ?_, ?_⟩
              · rw [HD.out, tailF_big _ _ hlt, List.append_assoc]; rfl
              · exact Nat.div_lt_of_lt_mul (by have := HX.out; rw [Nat.pow_succ, Nat.mul_comm] at this; exact this)
              · go_num
              · exact OwnB.snoc hown1 (by rw [bv, toNat_ofNat (by omega)]; congr 1)
              · exact Below.app (hbel.alloc hbel.size _) (World.ownsRow.alloc hown _) hg1 (Nat.le_refl _) (by have := hbel.size; simp; omega)
            case measure => simp [intOf]; omega
          · go_wp2_with (at_builtin; refine wpList_app (.tmp 46) (.tmp 49) tBytes rfl rfl (World.ownsRow.alloc hown _) rfl (Rd.one _ _ _) rfl (oneInt _ _) (le_maxLen (by omega)) (by omega) (by have := hbel.size; simp; omega) ?_; intro v1 w1 hown1 hg1 _)
            go_ret
            refine ⟨v1, rfl, ?_, ?_⟩
            · rw [HD.out, tailF_small _ _ (by omega)]
              exact OwnB.snoc hown1 (by rw [bv, toNat_ofNat (by omega)])
            · exact Below.app (hbel.alloc hbel.size _) (World.ownsRow.alloc hown _) hg1 (Nat.le_refl _) (by have := hbel.size; simp; omega)
end Go.Proofs.Ytfcgacjonekfaaa
