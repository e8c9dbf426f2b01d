/- The walk of drawbridgelaw02.HuffCodes at a symbol. -/
import Derived.Test.YtfcgacjonekfaaaHuffCode
namespace Go.Proofs.Ytfcgacjonekfaaa
open Go.RowKit

theorem code_at (i c n : Nat) (hc : codeT.getD i 0 = c) (hn : lensN.getD i 0 = n) (hi : i ≤ 256) (w : World) : Calls Try.prog 15 #[.int .i64 i] w fun e w' =>
    e = .returned (.tuple #[.int .u32 (c : Int), .int .i64 (n : Int)]) ∧ Below w.heap.size w w' := by
  have := code_in i hi w
  rw [hc, hn] at this
  exact this

set_option maxRecDepth 100000 in
set_option maxHeartbeats 1000000 in
theorem codes_lo (i ci ni : Nat) (hci0 : codeT.getD i 0 = ci) (hni0 : lensN.getD i 0 = ni) (o : Int) (ho : o < 0) (hi : i ≤ 256) (w : World) : Calls Try.prog 3 #[.int .i64 i, .int .i64 o] w (RetT w) := by
  have h32 := code_in 32 (by omega) w
  rw [show codeT.getD 32 0 = 20 by decide +kernel, show lensN.getD 32 0 = 6 by decide +kernel] at h32
  have H32 := Lib.hid h32
  have HC := Lib.hid hci0
  have HN := Lib.hid hni0
  clear h32 hci0 hni0
  go_enter Try.func3, Try.ntmps3
  go_wp2_with fail
  refine H32.out.mono ?_
  rintro e w1 ⟨rfl, hb1⟩
  go_wp2_with fail
  refine (code_at i ci ni HC.out HN.out hi w1).mono ?_
  rintro e w2 ⟨rfl, hb2⟩
  go_wp2_with fail
  refine (rcodes_any w2).mono ?_
  rintro e w3 ⟨g3, rfl, hown3, hb3⟩
  have hcell3 : w3.cell? ⟨g3, i, none⟩ = some (.int .u32 (ci : Int)) := by rw [World.ownsRow.cellAt hown3 i (by omega), u32s_get (refs_at i hi).1, HC.out]
  have hi257 : (i : Int) < 257 := by omega
  clear hown3
  go_wp2_with fail
  refine (rlengths_any w3).mono ?_
  rintro e w4 ⟨g4, rfl, hown4, hb4⟩
  have hcell4 : w4.cell? ⟨g4, i, none⟩ = some (.int .i64 (ni : Int)) := by rw [World.ownsRow.cellAt hown4 i (by omega), i64s_get (refs_at i hi).2, HN.out]
  clear hown4 hcell3
  go_wp2_with fail
  refine (code_out o (Or.inl ho) w4).mono ?_
  rintro e w5 ⟨rfl, hb5⟩
  have hbx : Below w4.heap.size w4 w5 := by rw [← hb5]; exact Below.refl _ _
  clear hb5
  have hb5 := hbx
  go_wp2
  go_ret
  exact ⟨rfl, (((hb1.trans (hb2.mono hb1.size)).trans (hb3.mono (by have := hb1.size; have := hb2.size; omega))).trans (hb4.mono (by have := hb1.size; have := hb2.size; have := hb3.size; omega))).trans (hb5.mono (by have := hb1.size; have := hb2.size; have := hb3.size; have := hb4.size; omega))⟩

set_option maxRecDepth 100000 in
set_option maxHeartbeats 1000000 in
theorem codes_hi (i ci ni : Nat) (hci0 : codeT.getD i 0 = ci) (hni0 : lensN.getD i 0 = ni) (o : Int) (ho : 256 < o) (hi : i ≤ 256) (w : World) : Calls Try.prog 3 #[.int .i64 i, .int .i64 o] w (RetT w) := by
  have h32 := code_in 32 (by omega) w
  rw [show codeT.getD 32 0 = 20 by decide +kernel, show lensN.getD 32 0 = 6 by decide +kernel] at h32
  have H32 := Lib.hid h32
  have HC := Lib.hid hci0
  have HN := Lib.hid hni0
  clear h32 hci0 hni0
  go_enter Try.func3, Try.ntmps3
  go_wp2_with fail
  refine H32.out.mono ?_
  rintro e w1 ⟨rfl, hb1⟩
  go_wp2_with fail
  refine (code_at i ci ni HC.out HN.out hi w1).mono ?_
  rintro e w2 ⟨rfl, hb2⟩
  go_wp2_with fail
  refine (rcodes_any w2).mono ?_
  rintro e w3 ⟨g3, rfl, hown3, hb3⟩
  have hcell3 : w3.cell? ⟨g3, i, none⟩ = some (.int .u32 (ci : Int)) := by rw [World.ownsRow.cellAt hown3 i (by omega), u32s_get (refs_at i hi).1, HC.out]
  have hi257 : (i : Int) < 257 := by omega
  clear hown3
  go_wp2_with fail
  refine (rlengths_any w3).mono ?_
  rintro e w4 ⟨g4, rfl, hown4, hb4⟩
  have hcell4 : w4.cell? ⟨g4, i, none⟩ = some (.int .i64 (ni : Int)) := by rw [World.ownsRow.cellAt hown4 i (by omega), i64s_get (refs_at i hi).2, HN.out]
  clear hown4 hcell3
  go_wp2_with fail
  refine (code_out o (Or.inr ho) w4).mono ?_
  rintro e w5 ⟨rfl, hb5⟩
  have hbx : Below w4.heap.size w4 w5 := by rw [← hb5]; exact Below.refl _ _
  clear hb5
  have hb5 := hbx
  go_wp2
  go_ret
  exact ⟨rfl, (((hb1.trans (hb2.mono hb1.size)).trans (hb3.mono (by have := hb1.size; have := hb2.size; omega))).trans (hb4.mono (by have := hb1.size; have := hb2.size; have := hb3.size; omega))).trans (hb5.mono (by have := hb1.size; have := hb2.size; have := hb3.size; have := hb4.size; omega))⟩

set_option maxRecDepth 100000 in
set_option maxHeartbeats 1000000 in
theorem codes_same (i ci ni : Nat) (hci0 : codeT.getD i 0 = ci) (hni0 : lensN.getD i 0 = ni)  (hi : i ≤ 256) (w : World) : Calls Try.prog 3 #[.int .i64 i, .int .i64 i] w (RetT w) := by
  have h32 := code_in 32 (by omega) w
  rw [show codeT.getD 32 0 = 20 by decide +kernel, show lensN.getD 32 0 = 6 by decide +kernel] at h32
  have H32 := Lib.hid h32
  have HC := Lib.hid hci0
  have HN := Lib.hid hni0
  clear h32 hci0 hni0
  go_enter Try.func3, Try.ntmps3
  go_wp2_with fail
  refine H32.out.mono ?_
  rintro e w1 ⟨rfl, hb1⟩
  go_wp2_with fail
  refine (code_at i ci ni HC.out HN.out hi w1).mono ?_
  rintro e w2 ⟨rfl, hb2⟩
  go_wp2_with fail
  refine (rcodes_any w2).mono ?_
  rintro e w3 ⟨g3, rfl, hown3, hb3⟩
  have hcell3 : w3.cell? ⟨g3, i, none⟩ = some (.int .u32 (ci : Int)) := by rw [World.ownsRow.cellAt hown3 i (by omega), u32s_get (refs_at i hi).1, HC.out]
  have hi257 : (i : Int) < 257 := by omega
  clear hown3
  go_wp2_with fail
  refine (rlengths_any w3).mono ?_
  rintro e w4 ⟨g4, rfl, hown4, hb4⟩
  have hcell4 : w4.cell? ⟨g4, i, none⟩ = some (.int .i64 (ni : Int)) := by rw [World.ownsRow.cellAt hown4 i (by omega), i64s_get (refs_at i hi).2, HN.out]
  clear hown4 hcell3
  go_wp2_with fail
  refine (code_at i ci ni HC.out HN.out hi w4).mono ?_
  rintro e w5 ⟨rfl, hb5⟩
  go_wp2
  go_ret
  exact ⟨rfl, (((hb1.trans (hb2.mono hb1.size)).trans (hb3.mono (by have := hb1.size; have := hb2.size; omega))).trans (hb4.mono (by have := hb1.size; have := hb2.size; have := hb3.size; omega))).trans (hb5.mono (by have := hb1.size; have := hb2.size; have := hb3.size; have := hb4.size; omega))⟩

set_option maxRecDepth 100000 in
set_option maxHeartbeats 1000000 in
theorem codes_short (i ci ni : Nat) (hci0 : codeT.getD i 0 = ci) (hni0 : lensN.getD i 0 = ni) (o co no : Nat) (hco0 : codeT.getD o 0 = co) (hno0 : lensN.getD o 0 = no) (ho : o ≤ 256) (hne : o ≠ i) (hlt : no < ni) (hi : i ≤ 256) (w : World) : Calls Try.prog 3 #[.int .i64 i, .int .i64 o] w (RetT w) := by
  have h32 := code_in 32 (by omega) w
  rw [show codeT.getD 32 0 = 20 by decide +kernel, show lensN.getD 32 0 = 6 by decide +kernel] at h32
  have H32 := Lib.hid h32
  have HC := Lib.hid hci0
  have HN := Lib.hid hni0
  clear h32 hci0 hni0
  go_enter Try.func3, Try.ntmps3
  go_wp2_with fail
  refine H32.out.mono ?_
  rintro e w1 ⟨rfl, hb1⟩
  go_wp2_with fail
  refine (code_at i ci ni HC.out HN.out hi w1).mono ?_
  rintro e w2 ⟨rfl, hb2⟩
  go_wp2_with fail
  refine (rcodes_any w2).mono ?_
  rintro e w3 ⟨g3, rfl, hown3, hb3⟩
  have hcell3 : w3.cell? ⟨g3, i, none⟩ = some (.int .u32 (ci : Int)) := by rw [World.ownsRow.cellAt hown3 i (by omega), u32s_get (refs_at i hi).1, HC.out]
  have hi257 : (i : Int) < 257 := by omega
  clear hown3
  go_wp2_with fail
  refine (rlengths_any w3).mono ?_
  rintro e w4 ⟨g4, rfl, hown4, hb4⟩
  have hcell4 : w4.cell? ⟨g4, i, none⟩ = some (.int .i64 (ni : Int)) := by rw [World.ownsRow.cellAt hown4 i (by omega), i64s_get (refs_at i hi).2, HN.out]
  clear hown4 hcell3
  go_wp2_with fail
  refine (code_at o co no hco0 hno0 ho w4).mono ?_
  rintro e w5 ⟨rfl, hb5⟩
  have e1 : ((o : Int) == (i : Int)) = false := by rw [beq_eq_false_iff_ne]; omega
  clear hco0 hno0
  go_wp2
  go_ret
  exact ⟨rfl, (((hb1.trans (hb2.mono hb1.size)).trans (hb3.mono (by have := hb1.size; have := hb2.size; omega))).trans (hb4.mono (by have := hb1.size; have := hb2.size; have := hb3.size; omega))).trans (hb5.mono (by have := hb1.size; have := hb2.size; have := hb3.size; have := hb4.size; omega))⟩

set_option maxRecDepth 100000 in
set_option maxHeartbeats 1000000 in
theorem codes_long (i ci ni : Nat) (hci0 : codeT.getD i 0 = ci) (hni0 : lensN.getD i 0 = ni) (o co no : Nat) (hco0 : codeT.getD o 0 = co) (hno0 : lensN.getD o 0 = no) (ho : o ≤ 256) (hne : o ≠ i) (hge : ni ≤ no) (hi : i ≤ 256) (w : World) : Calls Try.prog 3 #[.int .i64 i, .int .i64 o] w (RetT w) := by
  have h32 := code_in 32 (by omega) w
  rw [show codeT.getD 32 0 = 20 by decide +kernel, show lensN.getD 32 0 = 6 by decide +kernel] at h32
  have H32 := Lib.hid h32
  have HC := Lib.hid hci0
  have HN := Lib.hid hni0
  clear h32 hci0 hni0
  go_enter Try.func3, Try.ntmps3
  go_wp2_with fail
  refine H32.out.mono ?_
  rintro e w1 ⟨rfl, hb1⟩
  go_wp2_with fail
  refine (code_at i ci ni HC.out HN.out hi w1).mono ?_
  rintro e w2 ⟨rfl, hb2⟩
  go_wp2_with fail
  refine (rcodes_any w2).mono ?_
  rintro e w3 ⟨g3, rfl, hown3, hb3⟩
  have hcell3 : w3.cell? ⟨g3, i, none⟩ = some (.int .u32 (ci : Int)) := by rw [World.ownsRow.cellAt hown3 i (by omega), u32s_get (refs_at i hi).1, HC.out]
  have hi257 : (i : Int) < 257 := by omega
  clear hown3
  go_wp2_with fail
  refine (rlengths_any w3).mono ?_
  rintro e w4 ⟨g4, rfl, hown4, hb4⟩
  have hcell4 : w4.cell? ⟨g4, i, none⟩ = some (.int .i64 (ni : Int)) := by rw [World.ownsRow.cellAt hown4 i (by omega), i64s_get (refs_at i hi).2, HN.out]
  clear hown4 hcell3
  go_wp2_with fail
  refine (code_at o co no hco0 hno0 ho w4).mono ?_
  rintro e w5 ⟨rfl, hb5⟩
  have e1 : ((o : Int) == (i : Int)) = false := by rw [beq_eq_false_iff_ne]; omega
  have hap := apart (by omega) (by omega) (Ne.symm hne) (by rw [HN.out, hno0]; exact hge)
  have hl1 := lens_le i
  have hl2 := lens_le o
  rw [HC.out, HN.out, hno0, hco0] at hap
  rw [hno0] at hl2
  rw [HN.out] at hl1
  have e2 : ((co : Int) / 2 ^ (no - ni) != (ci : Int)) = true := by
    rw [bne_iff_ne]
    intro h
    apply hap
    have h2 : ((co / 2 ^ (no - ni) : Nat) : Int) = (ci : Int) := by rw [← h]; simp
    exact Int.ofNat_inj.1 h2
  clear hco0 hno0 hap
  go_wp2
  go_ret
  exact ⟨rfl, (((hb1.trans (hb2.mono hb1.size)).trans (hb3.mono (by have := hb1.size; have := hb2.size; omega))).trans (hb4.mono (by have := hb1.size; have := hb2.size; have := hb3.size; omega))).trans (hb5.mono (by have := hb1.size; have := hb2.size; have := hb3.size; have := hb4.size; omega))⟩

end Go.Proofs.Ytfcgacjonekfaaa
