/- The walks of huff.Code and drawbridgelaw02.HuffCodes. -/
import Derived.Test.YtfcgacjonekfaaaHuffOpen
import Derived.Test.YtfcgacjonekfaaaHuffRef
import Derived.Deep.QuietTactic
import Derived.BigQuiet
namespace Go.Proofs.Ytfcgacjonekfaaa
open Go.RowKit

/-- The book as it is when it is made. -/
def Bk (w : World) (B : Nat) : Prop := Book w B manyT (OSt.at_ 31)
section
variable {w : World} {B : Nat} (h : Bk w B)
include h
theorem Bk.size {i : Nat} (hi : i < 257) : w.cell? ⟨B, i, none⟩ = some (.int .u8 ((lensN.getD i 0 : Nat) : Int)) := by rw [Book.cell h, blk_size hi]
theorem Bk.code {i : Nat} (hi : i < 257) : w.cell? ⟨B, 257 + i, none⟩ = some (.int .u32 ((codeT.getD i 0 : Nat) : Int)) := by rw [Book.cell h, blk_code (OSt.Wf.at_ 31) hi, open_end]
theorem Bk.first {i : Nat} (hi : i < 31) : w.cell? ⟨B, 514 + i, none⟩ = some (.int .u32 ((firstT.getD i 0 : Nat) : Int)) := by rw [Book.cell h, blk_first (OSt.Wf.at_ 31) hi, open_end]
theorem Bk.many {i : Nat} (hi : i < 31) : w.cell? ⟨B, 545 + i, none⟩ = some (.int .i64 ((manyT.getD i 0 : Nat) : Int)) := by rw [Book.cell h, blk_many tab_lengths.2.2.2.1 (OSt.Wf.at_ 31) hi]
theorem Bk.from_ {i : Nat} (hi : i < 31) : w.cell? ⟨B, 576 + i, none⟩ = some (.int .i64 ((fromT.getD i 0 : Nat) : Int)) := by rw [Book.cell h, blk_from tab_lengths.2.2.2.1 (OSt.Wf.at_ 31) hi, open_end]
theorem Bk.sym {i : Nat} (hi : i < 257) : w.cell? ⟨B, 607 + i, none⟩ = some (.int .i64 ((symT.getD i 0 : Nat) : Int)) := by rw [Book.cell h, blk_sym tab_lengths.2.2.2.1 (OSt.Wf.at_ 31) hi, open_end]
end
theorem Bk.below {w w' : World} {B B0 : Nat} (h : Bk w B) (hb : Below B0 w w') (hB : B < B0) : Bk w' B := (hb.block B hB).trans h
theorem Bk.grown {w w' : World} {B : Nat} {row : Option Nat} (h : Bk w B) (hg : w.grownBy w' row) (hne : some B ≠ row) : Bk w' B := (hg.block B (Book.lt h) hne).trans h
theorem Bk.drewN {w : World} {B : Nat} (h : Bk w B) (n : Nat) : Bk (w.drewN n) B := h
theorem Bk.alloc {w : World} {B : Nat} (h : Bk w B) (o : Obj) : Bk (w.alloc o) B := (Below.heap_alloc w o B (Book.lt h)).trans h
theorem _root_.Go.RowKit.Below.drewN {B : Nat} {a w : World} (h : Below B a w) (n : Nat) : Below B a (w.drewN n) := ⟨h.os, h.tape, h.output, h.size, h.block⟩
theorem code_lt : ∀ i, codeT.getD i 0 < 1073741824 := by
  intro i
  rcases Nat.lt_or_ge i 257 with h | h
  · have : ∀ i < 257, codeT.getD i 0 < 1073741824 := by decide +kernel
    exact this i h
  · rw [List.getD, List.getElem?_eq_none (by rw [tab_lengths.2.1]; exact h)]; decide

set_option maxRecDepth 100000 in
set_option maxHeartbeats 1000000 in
theorem code_in (i : Nat) (hi : i ≤ 256) (w : World) : Calls Try.prog 15 #[.int .i64 i] w fun e w' =>
    e = .returned (.tuple #[.int .u32 ((codeT.getD i 0 : Nat) : Int), .int .i64 ((lensN.getD i 0 : Nat) : Int)]) ∧ Below w.heap.size w w' := by
  have hl := lens_le i
  have hc := code_lt i
  go_enter Try.func15, Try.ntmps15
  go_wp2_with fail
  refine (open_any w).mono ?_
  rintro e w1 ⟨B, rfl, hbk, hB, hb⟩
  have hcell1 := Bk.size (w := w1) (B := B) hbk (i := i) (by omega)
  have hcell2 := Bk.code (w := w1) (B := B) hbk (i := i) (by omega)
  have hi257 : (i : Int) < 257 := by omega
  generalize hn : lensN.getD i 0 = n at *
  generalize hcc : codeT.getD i 0 = c at *
  have HN := Lib.hid hn
  have HC := Lib.hid hcc
  clear hbk hn hcc
  go_wp2
  go_quiet (fail)
  go_wp2
  go_ret2
  exact ⟨by rw [HC.out, HN.out]; rfl, hb.drewN _⟩

set_option maxHeartbeats 400000 in
theorem code_out (i : Int) (hi : i < 0 ∨ 256 < i) (w : World) : Calls Try.prog 15 #[.int .i64 i] w fun e w' => e = .returned (.tuple #[.int .u32 0, .int .i64 0]) ∧ w = w' := by
  by_cases h1 : i < 0
  · go_enter Try.func15, Try.ntmps15
    go_wp2
    go_ret2
    exact ⟨rfl, rfl⟩
  · have h2 : 256 < i := by omega
    go_enter Try.func15, Try.ntmps15
    go_wp2
    go_ret2
    exact ⟨rfl, rfl⟩

/-- No code is the beginning of another one's. -/
def codesApart : Bool := (codeT.zip (lensN.zip (List.range 257))).all fun x => (codeT.zip (lensN.zip (List.range 257))).all fun y => x.2.2 == y.2.2 || decide (y.2.1 < x.2.1) || (y.1 / 2 ^ (y.2.1 - x.2.1) != x.1)
theorem codes_apart : codesApart = true := by decide +kernel
theorem apart {i j : Nat} (hi : i < 257) (hj : j < 257) (hne : i ≠ j) (hle : lensN.getD i 0 ≤ lensN.getD j 0) : codeT.getD j 0 / 2 ^ (lensN.getD j 0 - lensN.getD i 0) ≠ codeT.getD i 0 := by
  have hget : ∀ k, k < 257 → (codeT.getD k 0, (lensN.getD k 0, k)) ∈ codeT.zip (lensN.zip (List.range 257)) := by
    intro k hk
    have h1 : k < codeT.length := by rw [tab_lengths.2.1]; exact hk
    have h2 : k < lensN.length := by rw [tab_lengths.1]; exact hk
    rw [List.mem_iff_getElem]
    refine ⟨k, by simp [tab_lengths.1, tab_lengths.2.1]; exact hk, ?_⟩
    simp [List.getD, List.getElem?_eq_getElem h1, List.getElem?_eq_getElem h2]
  have h := codes_apart
  unfold codesApart at h
  rw [List.all_eq_true] at h
  have h1 := h _ (hget i hi)
  rw [List.all_eq_true] at h1
  have h2 := h1 _ (hget j hj)
  simp only [Bool.or_eq_true, beq_iff_eq, decide_eq_true_eq, bne_iff_ne] at h2
  rcases h2 with (h2 | h2) | h2
  · exact absurd h2 hne
  · omega
  · exact h2

/-- Both of the reference's tables hold what the book says. -/
theorem refs_at (i : Nat) (hi : i ≤ 256) : i < codeT.length ∧ i < lensN.length := by rw [tab_lengths.1, tab_lengths.2.1]; omega

set_option maxRecDepth 100000 in
set_option maxHeartbeats 1000000 in
theorem codes_out (i : Int) (o : Int) (hi : i < 0 ∨ 256 < i) (w : World) : Calls Try.prog 3 #[.int .i64 i, .int .i64 o] w (RetT w) := by
  have h32 := code_in 32 (by omega) w
  rw [show codeT.getD 32 0 = 20 by decide +kernel, show lensN.getD 32 0 = 6 by decide +kernel] at h32
  have H32 := Lib.hid h32
  clear h32
  by_cases h1 : i < 0
  · go_enter Try.func3, Try.ntmps3
    go_wp2_with fail
    refine H32.out.mono ?_
    rintro e w1 ⟨rfl, hb⟩
    go_wp2_with fail
    refine (code_out i (Or.inl h1) w1).mono ?_
    rintro e w2 ⟨rfl, rfl⟩
    go_wp2
    go_ret
    exact ⟨rfl, hb⟩
  · have h2 : 256 < i := by omega
    go_enter Try.func3, Try.ntmps3
    go_wp2_with fail
    refine H32.out.mono ?_
    rintro e w1 ⟨rfl, hb⟩
    go_wp2_with fail
    refine (code_out i (Or.inr h2) w1).mono ?_
    rintro e w2 ⟨rfl, rfl⟩
    go_wp2
    go_ret
    exact ⟨rfl, hb⟩
end Go.Proofs.Ytfcgacjonekfaaa
