/- The walk of huff.open. -/
import Derived.Test.YtfcgacjonekfaaaHuffLen
namespace Go.Proofs.Ytfcgacjonekfaaa
open Go.RowKit

/-- The book's block. -/
def Book (w : World) (B : Nat) (m : List Nat) (st : OSt) : Prop := w.heap[B]? = some (.cells (blk m st).toArray 61 (0, 0))
theorem Book.cell {w : World} {B : Nat} {m : List Nat} {st : OSt} (h : Book w B m st) (i : Nat) : w.cell? ⟨B, i, none⟩ = (blk m st)[i]? := by
  rw [cell_of_row w B i _ _ (0, 0) h]; simp
theorem Book.frozen {w : World} {B : Nat} {m : List Nat} {st : OSt} (h : Book w B m st) (i : Nat) : w.frozen? ⟨B, i, none⟩ = false := frozen_of_row w B i _ _ h
theorem Book.lt {w : World} {B : Nat} {m : List Nat} {st : OSt} (h : Book w B m st) : B < w.heap.size := (Array.getElem?_eq_some_iff.1 h).1
theorem Book.set_ {w : World} {B : Nat} {m m' : List Nat} {st st' : OSt} (h : Book w B m st) (i : Nat) (v : Value) (hs : (blk m st).set i v = blk m' st') : Book (w.setCell ⟨B, i, none⟩ v) B m' st' := by
  have := heap_setCell_same w B i _ _ v h
  unfold Book
  rw [this, ← hs]
  simp
theorem Book.set2 {w : World} {B : Nat} {m m' : List Nat} {st st' : OSt} (h : Book w B m st) (i j : Nat) (u v : Value) (hs : ((blk m st).set i u).set j v = blk m' st') :
    Book ((w.setCell ⟨B, i, none⟩ u).setCell ⟨B, j, none⟩ v) B m' st' := by
  have h1 := heap_setCell_same w B i _ _ u h
  have h2 := heap_setCell_same _ B j _ _ v h1
  unfold Book
  rw [h2, ← hs]
  simp
/-- The loop over the lengths; over the symbols. -/
def LenRel (W : World) (B : Nat) (p c i : Value) (w : World) : Prop :=
  ∃ n : Nat, i = .int .i64 n ∧ n ≤ 31 ∧ p = .int .i64 ((OSt.at_ n).pos : Int) ∧ c = .int .u32 ((OSt.at_ n).code : Int) ∧ Book w B manyT (OSt.at_ n) ∧ Below W.heap.size W w
def SymRel (W : World) (B n : Nat) (p c i : Value) (w : World) : Prop :=
  ∃ s : Nat, i = .int .i64 s ∧ s ≤ 257 ∧ p = .int .i64 ((OSt.inner n s (OSt.begin n (OSt.at_ n))).pos : Int) ∧ c = .int .u32 ((OSt.inner n s (OSt.begin n (OSt.at_ n))).code : Int) ∧
    Book w B manyT (OSt.inner n s (OSt.begin n (OSt.at_ n))) ∧ Below W.heap.size W w
/-- The counting loop. -/
def CntRel (W : World) (B : Nat) (i : Value) (w : World) : Prop := ∃ k : Nat, i = .int .i64 k ∧ k ≤ 257 ∧ Book w B (cntAt k) OSt.zero ∧ Below W.heap.size W w

set_option maxRecDepth 100000 in
set_option maxHeartbeats 2000000 in
theorem open_any (w : World) : Calls Try.prog 34 #[] w fun e w' => ∃ B, e = .returned (.pointer (some ⟨B, 0, none⟩)) ∧ Book w' B manyT (OSt.at_ 31) ∧ w.heap.size ≤ B ∧ Below w.heap.size w w' := by
  have hidx : ∀ (i : Nat) (w : World), i < 257 → (Instr.index 55 (.agg lensV.toArray) (.int .i64 (i : Int))).run Try.prog w = .ok (.int .u8 ((lensN.getD i 0 : Nat) : Int)) w :=
    fun i w hi => run_index_arr Try.underlying55 Try.underlying5 (by kernel_rfl) w hi (lensV_get hi)
  have HIDX := Lib.hid hidx
  clear hidx
  go_enter Try.func34, Try.ntmps34
  go_wp2_with fail
  refine (lengths_any w).mono ?_
  rintro e w1 ⟨rfl, hb1⟩
  simp only []
  go_step
  refine wpList_buildTo rfl 61 _ rfl (some 9) rfl (blk (List.replicate 31 0) OSt.zero).toArray (by kernel_rfl) ?_
  refine Great.wpList_boxTo rfl 61 _ rfl (some 10) rfl w1.heap.size rfl (blk (List.replicate 31 0) OSt.zero).toArray rfl ?_
  have hbk : Book (w1.alloc (.cells (blk (List.replicate 31 0) OSt.zero).toArray 61)) w1.heap.size (cntAt 0) OSt.zero := heap_alloc_new w1 _
  have hbel := hb1.alloc hb1.size (.cells (blk (List.replicate 31 0) OSt.zero).toArray 61)
  generalize w1.alloc (.cells (blk (List.replicate 31 0) OSt.zero).toArray 61) = w2 at hbk hbel ⊢
  have hB := hb1.size
  generalize w1.heap.size = B at hbk hB ⊢
  have HBK := Lib.hid hbk
  clear hbk hb1
  generalize (blk (List.replicate 31 0) OSt.zero).toArray = arr0
  go_wp2_with (first | (with_reducible refine wpList_load_part 55 (.tmp 13) rfl rfl B 0 lensV _ rfl ?_ Try.underlying55 rfl (by kernel_rfl) ?_))
  · intro j v hj
    have hj' : j < 257 := by rw [← lensV_length]; exact (List.getElem?_eq_some_iff.1 hj).1
    rw [Nat.zero_add, HBK.out.cell, blk_size hj', ← lensV_get hj']
    exact hj
  go_loopw [15] (CntRel w B) (fun i _ => 257 - (intOf i).toNat)
  case atStart => exact ⟨0, rfl, by omega, HBK.out, hbel⟩
  case round =>
    obtain ⟨k, rfl, hk, hbk, hbel'⟩ := hrel
    have hBw := hbk.lt
    by_cases hlt : k < 257
    · have hi := HIDX.out k wr hlt
      have hn := lens_le k
      have hcell := hbk.cell (545 + lensN.getD k 0)
      rw [blk_many (cnt_length k) OSt.Wf.zero (show lensN.getD k 0 < 31 by omega)] at hcell
      have hfro := hbk.frozen (545 + lensN.getD k 0)
      have hnext := cnt_next hlt
      have hset := set_many (cnt_length k) OSt.Wf.zero (show lensN.getD k 0 < 31 by omega) ((cntAt k).getD (lensN.getD k 0) 0 + 1)
      rw [← cntStep, ← hnext] at hset
      have hc := cnt_le k (lensN.getD k 0) (by omega)
      generalize lensN.getD k 0 = n at *
      generalize (cntAt k).getD n 0 = c at *
      have HBK := Lib.hid hbk
      have HS := Lib.hid hset
      clear hbk hset hnext
      have hn31 : (n : Int) < 31 := by omega
      go_wp2
      go_region
      go_wp2
      go_roundw
      case rel => exact ⟨k + 1, by go_num, by omega, HBK.out.set_ _ _ HS.out, (hbel'.setCell (p := ⟨B, _, none⟩) hB _).drew⟩
      case measure => simp [intOf]; omega
    · obtain rfl : k = 257 := by omega
      rw [cnt_end] at hbk
      have HBK := Lib.hid hbk
      clear hbk
      have hmany : manyT.length = 31 := tab_lengths.2.2.2.1
      go_wp2
      go_loopw [4, 5, 29] (LenRel w B) (fun _ _ i _ => 31 - (intOf i).toNat)
      case atStart => exact ⟨0, rfl, by omega, rfl, rfl, HBK.out, hbel'⟩
      case round =>
        obtain ⟨n, rfl, hn, rfl, rfl, hbk, hbel'⟩ := hrel
        have hBw := hbk.lt
        by_cases hlt : n < 31
        · have hcell1 := hbk.cell (514 + n)
          rw [blk_first (OSt.Wf.at_ n) hlt] at hcell1
          have hcell2 := hbk.cell (576 + n)
          rw [blk_from hmany (OSt.Wf.at_ n) hlt] at hcell2
          have hfro1 := hbk.frozen (514 + n)
          have hfro2 := hbk.frozen (576 + n)
          have hset := set_begin hmany (OSt.Wf.at_ n) hlt
          have hc32 := (OSt.Wf.at_ n).code
          have hpos := pos_at n
          have hi0 : (OSt.inner n 0 (OSt.begin n (OSt.at_ n))) = OSt.begin n (OSt.at_ n) := rfl
          have hp0 : (OSt.begin n (OSt.at_ n)).pos = (OSt.at_ n).pos := rfl
          have hc0 : (OSt.begin n (OSt.at_ n)).code = (OSt.at_ n).code * 2 % 4294967296 := rfl
          generalize (OSt.at_ n).pos = p at *
          generalize (OSt.at_ n).code = c at *
          have HBK := Lib.hid hbk
          have HS := Lib.hid hset
          have HI := Lib.hid (And.intro hi0 (And.intro hp0 hc0))
          clear hbk hset hi0 hp0 hc0
          have hn31 : (n : Int) < 31 := by omega
          go_wp2
          go_region
          go_wp2
          go_loopw [4, 5, 46] (SymRel w B n) (fun _ _ i _ => 257 - (intOf i).toNat)
          case atStart =>
            refine ⟨0, rfl, by omega, ?_, ?_, ?_, ?_⟩
            · rw [HI.out.1, HI.out.2.1]
            · rw [HI.out.1, HI.out.2.2]; congr 1
            · rw [HI.out.1]
              exact HBK.out.set2 _ _ _ _ HS.out
            · exact ((hbel'.setCell (p := ⟨B, _, none⟩) hB _).setCell (p := ⟨B, _, none⟩) hB _).drew
          case round =>
            clear hcell1 hcell2 hfro1 hfro2
            obtain ⟨s, rfl, hs, rfl, rfl, hbk, hbel''⟩ := hrel
            have hBw := hbk.lt
            have hwf : (OSt.inner n s (OSt.begin n (OSt.at_ n))).Wf := ((OSt.Wf.at_ n).begin n).inner hs
            have hc32 := hwf.code
            have hposs := pos_le hs (n := n) (OSt.begin n (OSt.at_ n))
            rw [HI.out.2.1] at hposs
            by_cases hlt : s < 257
            · have hnext := inner_next n (OSt.begin n (OSt.at_ n)) hlt
              have hcell := hbk.cell s
              rw [blk_size hlt] at hcell
              by_cases heq : lensN.getD s 0 = n
              · have hroom := pos_room (by omega) hlt heq
                have hset := set_sym hmany hwf hlt hroom heq
                rw [← hnext] at hset
                have hcell3 := hbk.cell (607 + (OSt.inner n s (OSt.begin n (OSt.at_ n))).pos)
                rw [blk_sym hmany hwf hroom] at hcell3
                have hfro3 := hbk.frozen (607 + (OSt.inner n s (OSt.begin n (OSt.at_ n))).pos)
                have hcell4 := hbk.cell (257 + s)
                rw [blk_code hwf hlt] at hcell4
                have hfro4 := hbk.frozen (257 + s)
                have hp1 : (OSt.inner n (s + 1) (OSt.begin n (OSt.at_ n))).pos = (OSt.inner n s (OSt.begin n (OSt.at_ n))).pos + 1 := by rw [hnext, OSt.sym1, if_pos heq]
                have hc1 : (OSt.inner n (s + 1) (OSt.begin n (OSt.at_ n))).code = ((OSt.inner n s (OSt.begin n (OSt.at_ n))).code + 1) % 4294967296 := by rw [hnext, OSt.sym1, if_pos heq]
                generalize (OSt.inner n s (OSt.begin n (OSt.at_ n))).pos = p1 at *
                generalize (OSt.inner n s (OSt.begin n (OSt.at_ n))).code = c1 at *
                have HBK := Lib.hid hbk
                have HS := Lib.hid hset
                have HI := Lib.hid (And.intro hp1 hc1)
                rw [heq] at hcell
                clear hbk hset hp1 hc1 hnext heq
                have hs257 : (s : Int) < 257 := by omega
                have hp257 : (p1 : Int) < 257 := by omega
                go_wp2
                go_region
                go_wp2
                refine ⟨⟨s + 1, by go_num, by omega, ?_, ?_, HBK.out.set2 _ _ _ _ HS.out, ((hbel''.setCell (p := ⟨B, _, none⟩) hB _).setCell (p := ⟨B, _, none⟩) hB _).drew⟩, by simp [intOf]; omega⟩
                · rw [HI.out.1]; go_num
                · rw [HI.out.2]; go_num
              · have hnext' : OSt.inner n (s + 1) (OSt.begin n (OSt.at_ n)) = OSt.inner n s (OSt.begin n (OSt.at_ n)) := by rw [hnext, OSt.sym1, if_neg heq]
                have heqb : (((lensN.getD s 0 : Nat) : Int) == (n : Int)) = false := by rw [beq_eq_false_iff_ne]; omega
                have hls := lens_le s
                generalize lensN.getD s 0 = ls at *
                generalize hp1 : (OSt.inner n s (OSt.begin n (OSt.at_ n))).pos = p1 at *
                generalize hc1 : (OSt.inner n s (OSt.begin n (OSt.at_ n))).code = c1 at *
                have HBK := Lib.hid hbk
                have HI := Lib.hid (And.intro hp1 hc1)
                have HN := Lib.hid hnext'
                clear hbk hp1 hc1 hnext heq hnext'
                go_wp2
                refine ⟨⟨s + 1, by go_num, by omega, ?_, ?_, by rw [HN.out]; exact HBK.out, hbel''⟩, by simp [intOf]; omega⟩
                · rw [HN.out, HI.out.1]
                · rw [HN.out, HI.out.2]
            · obtain rfl : s = 257 := by omega
              rw [← at_next] at *
              have hp2 := pos_at (n + 1)
              generalize hp1 : (OSt.at_ (n + 1)).pos = p1 at *
              generalize hc1 : (OSt.at_ (n + 1)).code = c1 at *
              have HBK := Lib.hid hbk
              have HI := Lib.hid (And.intro hp1 hc1)
              clear hbk hp1 hc1
              go_wp2
              refine ⟨⟨n + 1, by go_num, by omega, ?_, ?_, HBK.out, hbel''⟩, by simp [intOf]; omega⟩
              · rw [HI.out.1]
              · rw [HI.out.2]
        · obtain rfl : n = 31 := by omega
          have HBK := Lib.hid hbk
          clear hbk
          go_wp2
          go_ret
          exact ⟨B, rfl, HBK.out, hB, hbel'⟩
end Go.Proofs.Ytfcgacjonekfaaa
