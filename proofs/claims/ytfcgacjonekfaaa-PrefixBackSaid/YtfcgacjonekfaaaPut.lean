/- The walk of prefix.PutInt. -/
import Derived.Test.YtfcgacjonekfaaaChecked
import Derived.Test.YtfcgacjonekfaaaBase
import Derived.Test.YtfcgacjonekfaaaPutPlain
namespace Go.Proofs.Ytfcgacjonekfaaa
open Go.RowKit

/-- A row of bytes of the call's own, from block B on. -/
def OwnB (w : World) (B : Nat) (v : Value) (l : List UInt8) : Prop := w.ownsRow B 5 1 v l.length (bvs l)
theorem OwnB.snoc {w : World} {B : Nat} {v u : Value} {d : List UInt8} {b : UInt8} (h : w.ownsRow B 5 1 v (d.length + 1) (bvs d ++ [u])) (hu : u = bv b) : OwnB w B v (d ++ [b]) := by
  subst hu
  unfold OwnB
  rw [List.length_append, bvs_append]
  exact h
/-- What a call hands back: a row of its own and an error number; nothing else has turned. -/
def RetBE (W : World) (l : List UInt8) (err : Int) (e : Ending) (w' : World) : Prop := ∃ v, e = .returned (.tuple #[v, .int .i64 err]) ∧ OwnB w' W.heap.size v l ∧ Below W.heap.size W w'
def RetB (W : World) (l : List UInt8) (e : Ending) (w' : World) : Prop := ∃ v, e = .returned v ∧ OwnB w' W.heap.size v l ∧ Below W.heap.size W w'

theorem tBytes : SlT Try.prog 31 5 (.int .u8 0) 1 1 := ⟨Try.underlying31, by kernel_rfl, rfl, by omega⟩

set_option maxHeartbeats 400000 in
theorem put_range (f bits n : Int) (w : World) (h : bits < 1 ∨ 8 < bits) :
    Calls Try.prog 19 #[.int .u8 f, .int .i64 bits, .int .u32 n] w fun e w' => e = .returned (.tuple #[.slice none 0 0, .int .i64 1]) ∧ w = w' := by
  by_cases h1 : bits < 1
  · go_enter Try.func19, Try.ntmps19
    go_wp2
    go_ret2
    exact ⟨rfl, rfl⟩
  · have h2 : 8 < bits := by omega
    go_enter Try.func19, Try.ntmps19
    go_wp2
    go_ret2
    exact ⟨rfl, rfl⟩

set_option maxHeartbeats 400000 in
theorem put_flags (f bits n F : Nat) (w : World) (hF : Full bits F) (hf : f < 256) (hfl : f % (F + 1) ≠ 0) :
    Calls Try.prog 19 #[.int .u8 f, .int .i64 bits, .int .u32 n] w fun e w' => e = .returned (.tuple #[.slice none 0 0, .int .i64 1]) ∧ w = w' := by
  have h1 := hF.lo
  have h8 := hF.hi
  have e1 := hF.shl32
  have e2 : (Go.bits .and .u32 (f : Int) (F : Int) != 0) = true := by rw [hF.and32 hf, bne_iff_ne]; omega
  go_enter Try.func19, Try.ntmps19
  go_wp2
  go_ret2
  exact ⟨rfl, rfl⟩

set_option maxHeartbeats 400000 in
theorem put_small (f bits n F : Nat) (w : World) (hF : Full bits F) (hf : f < 256) (hfl : f % (F + 1) = 0) (hn : n < F) :
    Calls Try.prog 19 #[.int .u8 f, .int .i64 bits, .int .u32 n] w (RetBE w (putB f F n) 0) := by
  have h1 := hF.lo
  have h8 := hF.hi
  have hF' := hF.le
  have e1 := hF.shl32
  have e2 : (Go.bits .and .u32 (f : Int) (F : Int) != 0) = false := by rw [hF.and32 hf, hfl]; rfl
  obtain ⟨e3, hlt⟩ := hF.or8 hf hfl (n := n) (by omega)
  go_enter Try.func19, Try.ntmps19
  go_wp2
  go_ret2
  have hp : putB f F n = [UInt8.ofNat (f + n)] := by simp [putB, hn]
  rw [hp]
  have hv : bvs [UInt8.ofNat (f + n)] = [.int .u8 ((f : Int) + n)] := by simp only [bvs, bv, List.map_cons, List.map_nil, toNat_ofNat hlt]; congr 1
  refine ⟨_, rfl, ?_, (Below.refl _ _).alloc (Nat.le_refl _) _⟩
  unfold OwnB
  rw [hv]
  exact World.ownsRow_lit (base := w.heap.size) (e := 5) (size := 1) w #[_] 1 (Nat.le_refl _) (by unfold maxLen; omega) rfl

def PutRel (w : World) (T : List UInt8) (v m : Value) (wr : World) : Prop :=
  ∃ d k, ∃ x : Nat, T = d ++ tailF k x ∧ x < 128 ^ (k + 1) ∧ d.length + k ≤ 6 ∧ x < 4294967296 ∧ m = .int .u32 x ∧ OwnB wr w.heap.size v d ∧ Below w.heap.size w wr

set_option maxRecDepth 100000 in
set_option maxHeartbeats 1000000 in
theorem put_big (f bits n F : Nat) (w : World) (hF : Full bits F) (hf : f < 256) (hfl : f % (F + 1) = 0) (hn : F ≤ n) (hn32 : n < 4294967296) :
    Calls Try.prog 19 #[.int .u8 f, .int .i64 bits, .int .u32 n] w (RetBE w (putB f F n) 0) := by
  have h1 := hF.lo
  have h8 := hF.hi
  have hF' := hF.le
  have e1 := hF.shl32
  have e2 : (Go.bits .and .u32 (f : Int) (F : Int) != 0) = false := by rw [hF.and32 hf, hfl]; rfl
  obtain ⟨e3, hlt⟩ := hF.or8 hf hfl (n := F) (by omega)
  have e4 : decide (n < F) = false := by simpa using hn
  have e5 : decide ((bits : Int) < 1) = false := by simp; omega
  have e6 : decide (8 < (bits : Int)) = false := by simp; omega
  go_enter Try.func19, Try.ntmps19
  go_wp2
  have hT : putB f F n = UInt8.ofNat (f + F) :: tailF 5 (n - F) := by simp only [putB]; rw [if_neg (by omega)]
  have HT := Lib.hid hT
  clear hT e1 e2 e4 e5 e6
  go_loopw [9, 2] (PutRel w (putB f F n)) (fun _ m _ => (intOf m).toNat)
  case atStart =>
    refine ⟨[UInt8.ofNat (f + F)], 5, n - F, HT.out, by omega, by simp, by omega, by congr 1; omega, ?_, (Below.refl _ _).alloc (Nat.le_refl _) _⟩
    unfold OwnB
    have hv : bvs [UInt8.ofNat (f + F)] = [.int .u8 ((f : Int) + F)] := by simp only [bvs, bv, List.map_cons, List.map_nil, toNat_ofNat hlt]; congr 1
    rw [hv]
    exact World.ownsRow_lit (base := w.heap.size) (e := 5) (size := 1) w #[_] 1 (Nat.le_refl _) (by unfold maxLen; omega) rfl
  case round =>
    obtain ⟨d, k, x, hd, hx, hdk, hx32, rfl, hown, hbel⟩ := hrel
    have HD := Lib.hid hd
    have HX := Lib.hid hx
    clear hd hx
    by_cases hlt : 128 ≤ x
    · go_wp2_with (at_builtin; refine wpList_app (.tmp 44) (.tmp 48) tBytes rfl rfl (World.ownsRow.alloc hown _) rfl (Rd.one _ _ _) rfl (oneInt _ _) (le_maxLen (by omega)) (by omega) (by have := hbel.size; simp; omega) ?_; intro v1 w1 hown1 hg1 _)
      go_roundw
      case rel =>
        obtain ⟨k', rfl⟩ : ∃ k', k = k' + 1 := ⟨k - 1, by have := HX.out; cases k with | zero => simp at this; omega | succ k => rfl⟩
        refine ⟨d ++ [UInt8.ofNat (x % 128 + 128)], k', x / 128, ?_, ?_, by simp; omega, by omega, ?_, ?_, ?_⟩
        · rw [HD.out, tailF_big _ _ hlt, List.append_assoc]; rfl
        · exact Nat.div_lt_of_lt_mul (by have := HX.out; rw [Nat.pow_succ, Nat.mul_comm] at this; exact this)
        · go_num
        · exact OwnB.snoc hown1 (by rw [or80, bv, toNat_ofNat (by omega)])
        · exact Below.app (hbel.alloc hbel.size _) (World.ownsRow.alloc hown _) hg1 (Nat.le_refl _) (by have := hbel.size; simp; omega)
      case measure => simp [intOf]; omega
    · go_wp2_with (at_builtin; refine wpList_app (.tmp 50) (.tmp 53) tBytes rfl rfl (World.ownsRow.alloc hown _) rfl (Rd.one _ _ _) rfl (oneInt _ _) (le_maxLen (by omega)) (by omega) (by have := hbel.size; simp; omega) ?_; intro v1 w1 hown1 hg1 _)
      go_ret2
      refine ⟨v1, rfl, ?_, ?_⟩
      · rw [HD.out, tailF_small _ _ (by omega)]
        exact OwnB.snoc hown1 (by rw [bv, toNat_ofNat (by omega)])
      · exact Below.app (hbel.alloc hbel.size _) (World.ownsRow.alloc hown _) hg1 (Nat.le_refl _) (by have := hbel.size; simp; omega)
end Go.Proofs.Ytfcgacjonekfaaa
