/- The walks of huff.Size and drawbridgeref02.Size. -/
import Derived.Test.YtfcgacjonekfaaaHuffRef
import Derived.Test.YtfcgacjonekfaaaHuffSizePlain
namespace Go.Proofs.Ytfcgacjonekfaaa
open Go.RowKit

def SizeRel (l : List UInt8) (v i : Value) : Prop := ∃ k t : Nat, i = .int .i64 k ∧ v = .int .i64 t ∧ k ≤ l.length ∧ t = nbits (l.take k) ∧ t ≤ 30 * k

set_option maxRecDepth 100000 in
set_option maxHeartbeats 1000000 in
theorem size_any (s : ByteArray) (w : World) (hs : s.size ≤ 1048576) : Calls Try.prog 27 #[.string s] w fun e w' => e = .returned (.int .i64 (nbytes s.data.toList : Int)) ∧ Below w.heap.size w w' := by
  have hget := get_ba s
  have hlen := str_len s
  have HL := Lib.hid hlen
  clear hlen
  go_enter Try.func27, Try.ntmps27
  go_wp2_with fail
  refine (lengths_any w).mono ?_
  rintro e w1 ⟨rfl, hb1⟩
  simp only []
  go_step
  refine Great.wpList_runTo rfl (some 3) rfl (.pointer (some ⟨w1.heap.size, 0, none⟩)) (w1.alloc (.cells (Array.replicate 257 (.int .u8 0)) 55)) (by kernel_rfl) ?_
  refine wpList_store_rowTo rfl 55 _ _ rfl rfl w1.heap.size lensV.toArray rfl rfl 55 (Array.replicate 257 (.int .u8 0)) (heap_alloc_new w1 _) (by kernel_rfl) (by kernel_rfl) (by kernel_rfl) ?_
  have hcell : ∀ i, i < 257 → ((w1.alloc (.cells (Array.replicate 257 (.int .u8 0)) 55)).setRow w1.heap.size lensV.toArray).cell? ⟨w1.heap.size, i, none⟩ = some (.int .u8 ((lensN.getD i 0 : Nat) : Int)) := fun i hi => by
    rw [cell_setRow_same _ _ _ _ _ _ _ (heap_alloc_new w1 _)]
    simpa using lensV_get hi
  have hbel : Below w.heap.size w ((w1.alloc (.cells (Array.replicate 257 (.int .u8 0)) 55)).setRow w1.heap.size lensV.toArray) :=
    (hb1.alloc hb1.size _).trans ⟨rfl, rfl, rfl, by simp, fun k hk => setRow_other _ _ _ _ (by have := hb1.size; omega)⟩
  generalize (w1.alloc (.cells (Array.replicate 257 (.int .u8 0)) 55)).setRow w1.heap.size lensV.toArray = w2 at *
  generalize w1.heap.size = g at *
  have HC := Lib.hid hcell
  clear hcell
  go_wp2
  go_loop [4, 9] (SizeRel s.data.toList) (fun _ i => s.size - (intOf i).toNat)
  case atStart => exact ⟨0, 0, rfl, rfl, by omega, rfl, by omega⟩
  case round =>
    obtain ⟨k, t, rfl, rfl, hk, ht, ht30⟩ := hrel
    have HT := Lib.hid ht
    rw [HL.out] at hk
    clear ht
    by_cases hlt : k < s.size
    · have hb := ba_lt s.data.toList k
      have hcl := HC.out (ba s.data.toList k) (by omega)
      have hn := lens_le (ba s.data.toList k)
      have hnext := nbits_take (l := s.data.toList) (k := k) (by rw [HL.out]; exact hlt)
      generalize lensN.getD (ba s.data.toList k) 0 = n at *
      have HN := Lib.hid hnext
      have hb257 : (ba s.data.toList k : Int) < 257 := by omega
      clear hnext
      go_wp2
      go_round
      case rel => exact ⟨k + 1, t + n, by go_num, by go_num, by rw [HL.out]; omega, by rw [HN.out, HT.out], by omega⟩
      case measure => simp [intOf]; omega
    · obtain rfl : k = s.size := by omega
      go_wp2
      go_ret
      refine ⟨ret_v ?_, hbel⟩
      have : t = nbits s.data.toList := by rw [HT.out, List.take_of_length_le (by rw [HL.out]; exact Nat.le_refl _)]
      unfold nbytes
      rw [← this]
      congr 1

def UpRel (t : Nat) (v : Value) : Prop := ∃ x : Nat, v = .int .i64 x ∧ t ≤ x ∧ (x - 1) / 8 ≤ (t - 1) / 8 ∧ x ≤ t + 7 ∧ (t + 7) / 8 = (x + 7) / 8
set_option maxRecDepth 100000 in
set_option maxHeartbeats 1000000 in
theorem rsize_any (s : ByteArray) (w : World) (hs : s.size ≤ 1048576) : Calls Try.prog 37 #[.string s] w fun e w' => e = .returned (.int .i64 (nbytes s.data.toList : Int)) ∧ Below w.heap.size w w' := by
  have hget := get_ba s
  have hlen := str_len s
  have HL := Lib.hid hlen
  clear hlen
  go_enter Try.func37, Try.ntmps37
  go_wp2_with fail
  refine (rlengths_any w).mono ?_
  rintro e w1 ⟨g, rfl, hown, hb1⟩
  have hcell : ∀ i, i < 257 → w1.cell? ⟨g, i, none⟩ = some (.int .i64 ((lensN.getD i 0 : Nat) : Int)) := fun i hi => by
    rw [World.ownsRow.cellAt hown i (by omega), i64s_get (by rw [tab_lengths.1]; exact hi)]
  have HC := Lib.hid hcell
  clear hcell hown
  go_wp2
  go_loop [4, 5] (SizeRel s.data.toList) (fun _ i => s.size - (intOf i).toNat)
  case atStart => exact ⟨0, 0, rfl, rfl, by omega, rfl, by omega⟩
  case round =>
    obtain ⟨k, t, rfl, rfl, hk, ht, ht30⟩ := hrel
    have HT := Lib.hid ht
    rw [HL.out] at hk
    clear ht
    by_cases hlt : k < s.size
    · have hb := ba_lt s.data.toList k
      have hcl := HC.out (ba s.data.toList k) (by omega)
      have hn := lens_le (ba s.data.toList k)
      have hnext := nbits_take (l := s.data.toList) (k := k) (by rw [HL.out]; exact hlt)
      generalize lensN.getD (ba s.data.toList k) 0 = n at *
      have HN := Lib.hid hnext
      have hb257 : (ba s.data.toList k : Int) < 257 := by omega
      clear hnext
      go_wp2
      go_round
      case rel => exact ⟨k + 1, t + n, by go_num, by go_num, by rw [HL.out]; omega, by rw [HN.out, HT.out], by omega⟩
      case measure => simp [intOf]; omega
    · obtain rfl : k = s.size := by omega
      have e1 : decide (s.size < s.size) = false := by simp
      go_wp2
      clear e1
      go_loop [4] (UpRel t) (fun i => t + 7 - (intOf i).toNat)
      case atStart => exact ⟨t, rfl, by omega, by omega, by omega, rfl⟩
      case round =>
        obtain ⟨x, rfl, hx1, hx2, hx3, hx4⟩ := hrel
        have HX := Lib.hid hx4
        have HX2 := Lib.hid hx2
        clear hx4 hx2
        by_cases h8 : x % 8 = 0
        · have e2 : ((x : Int) % 8 != 0) = false := by simp; omega
          have H8 := Lib.hid h8
          clear h8
          go_wp2
          go_ret
          have ht : t = nbits s.data.toList := by rw [HT.out, List.take_of_length_le (by rw [HL.out]; exact Nat.le_refl _)]
          have hr : ((x : Int) / 8) = ((nbytes s.data.toList : Nat) : Int) := by
            unfold nbytes
            rw [← ht, HX.out]
            have := H8.out
            omega
          exact ⟨ret_v (congrArg (Value.int .i64) hr), hb1⟩
        · have e2 : ((x : Int) % 8 != 0) = true := by simp; omega
          have h7 : x < t + 7 := by have := HX2.out; have := HX.out; omega
          have hn1 : (t + 7) / 8 = (x + 1 + 7) / 8 := by have := HX.out; omega
          have hn2 : (x + 1 - 1) / 8 ≤ (t - 1) / 8 := by have := HX2.out; have := HX.out; omega
          have HN := Lib.hid (And.intro hn1 hn2)
          clear h8 hn1 hn2
          go_wp2
          go_round
          case rel => exact ⟨x + 1, by go_num, by omega, HN.out.2, by omega, HN.out.1⟩
          case measure => simp [intOf]; omega
end Go.Proofs.Ytfcgacjonekfaaa
