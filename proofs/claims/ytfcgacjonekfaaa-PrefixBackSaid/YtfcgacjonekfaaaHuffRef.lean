/- The walks of drawbridgeref02.Lengths and Codes. -/
import Derived.Test.YtfcgacjonekfaaaHuffLen
import Derived.Test.YtfcgacjonekfaaaHuffCodesPlain
namespace Go.Proofs.Ytfcgacjonekfaaa
open Go.RowKit

theorem tInts : SlT Try.prog 27 3 (.int .i64 0) 1 8 := ⟨Try.underlying27, by kernel_rfl, rfl, by omega⟩
theorem tU32s : SlT Try.prog 25 22 (.int .u32 0) 1 4 := ⟨Try.underlying25, by kernel_rfl, rfl, by omega⟩

set_option maxRecDepth 100000 in
set_option maxHeartbeats 1000000 in
theorem rlengths_any (w : World) : Calls Try.prog 17 #[] w fun e w' => ∃ g, e = .returned (.slice (some ⟨g, 0, none⟩) 257 257) ∧ w'.ownsRow w.heap.size 3 1 (.slice (some ⟨g, 0, none⟩) 257 257) 257 (i64s lensN) ∧ Below w.heap.size w w' := by
  go_enter Try.func17, Try.ntmps17
  go_step; go_step; go_step; go_step; go_step; go_step; go_step; go_step; go_step
  go_step; go_step
  refine wpList_buildFlat rfl 27 3 257 _ rfl .i64 (lensN.map fun n : Nat => (n : Int)) Try.underlying27 (by kernel_rfl) (by kernel_rfl) (by decide +kernel) (by omega) (by omega) (by kernel_rfl) ?_
  rw [show (lensN.map fun n : Nat => (n : Int)).map (Value.int .i64) = i64s lensN by rw [List.map_map]; rfl]
  go_wp2_with fail
  go_ret
  exact ⟨_, rfl, World.ownsRow_lit w _ 257 (Nat.le_refl _) (by unfold maxLen; omega) (by decide +kernel), (Below.refl _ _).alloc (Nat.le_refl _) _⟩

/-- The lengths lie in block gl. -/
def LC (w : World) (gl : Nat) : Prop := ∀ i, i < 257 → w.cell? ⟨gl, i, none⟩ = some (.int .i64 ((lensN.getD i 0 : Nat) : Int))
theorem LC.set_ {w : World} {gl g : Nat} (h : LC w gl) (hne : gl ≠ g) (j : Nat) (v : Value) : LC (w.setCell ⟨g, j, none⟩ v) gl :=
  fun i hi => (World.cell?_setCell_other w ⟨g, j, none⟩ ⟨gl, i, none⟩ v (fun e => by injection e with e; exact hne e.symm)).trans (h i hi)
/-- The loop over the lengths, over the symbols, of the doubling. -/
def CLenRel (W : World) (gl g : Nat) (c l n : Value) (w : World) : Prop :=
  ∃ d : Nat, n = .int .i64 ((d : Int) + 5) ∧ d ≤ 26 ∧ c = .int .u32 ((CSt.at_ d).code : Int) ∧ l = .int .i64 ((CSt.at_ d).last : Int) ∧
    w.ownsRow W.heap.size 22 1 (.slice (some ⟨g, 0, none⟩) 257 257) 257 (u32s (CSt.at_ d).out) ∧ LC w gl ∧ Below W.heap.size W w
def CSymRel (W : World) (gl g d : Nat) (c l i : Value) (w : World) : Prop :=
  ∃ s : Nat, i = .int .i64 s ∧ s ≤ 257 ∧ c = .int .u32 ((CSt.inner (d + 5) s (CSt.at_ d)).code : Int) ∧ l = .int .i64 ((CSt.inner (d + 5) s (CSt.at_ d)).last : Int) ∧
    w.ownsRow W.heap.size 22 1 (.slice (some ⟨g, 0, none⟩) 257 257) 257 (u32s (CSt.inner (d + 5) s (CSt.at_ d)).out) ∧ LC w gl ∧ Below W.heap.size W w
def DblUp (code last n : Nat) (c l : Value) : Prop := ∃ j x : Nat, l = .int .i64 ((last : Int) + j) ∧ last + j ≤ n ∧ c = .int .u32 x ∧ x = code * 2 ^ j % 4294967296 ∧ x < 4294967296

set_option maxRecDepth 100000 in
set_option maxHeartbeats 2000000 in
theorem rcodes_any (w : World) : Calls Try.prog 16 #[] w fun e w' => ∃ g, e = .returned (.slice (some ⟨g, 0, none⟩) 257 257) ∧ w'.ownsRow w.heap.size 22 1 (.slice (some ⟨g, 0, none⟩) 257 257) 257 (u32s codeT) ∧ Below w.heap.size w w' := by
  obtain ⟨i0, hi0, hz0, hz1, hz2⟩ := info_parts tU32s.info
  go_enter Try.func16, Try.ntmps16
  go_wp2_with fail
  refine (rlengths_any w).mono ?_
  rintro e w1 ⟨gl, rfl, hownl, hb1⟩
  have hglt := (hownl.lt gl rfl).2
  have hlc : LC w1 gl := fun i hi => by
    rw [World.ownsRow.cellAt hownl i (by omega), i64s_get (by rw [tab_lengths.1]; exact hi)]
  have HLC := Lib.hid hlc
  have hs1 := hb1.size
  clear hlc hownl
  go_wp2_with (at_make; refine wpList_make_full _ rfl _ _ 25 rfl w.heap.size 22 i0 (.int .u32 0) 1 Try.underlying25 hi0 hz0 hz1 _ _ _ _ 257 rfl rfl rfl rfl (by rw [hz2]; omega) (by unfold maxLen; omega) hs1 ?_; intro w2 hown2 hg2)
  have hb2 : Below w.heap.size w w2 := hb1.grown hg2 hs1 (fun k hk => by cases hk)
  have hcl : LC w2 gl := fun i hi => hg2.cell (HLC.out i hi) (by simp)
  have hne : gl ≠ w1.heap.size := by omega
  have hge : w.heap.size ≤ w1.heap.size := hs1
  generalize w1.heap.size = g at *
  have hz : (madeCells (Value.int .u32 0).cells (257 * 1)).toList = u32s CSt.zero.out := by
    rw [show (Value.int .u32 0).cells = #[Value.int .u32 0] from rfl, toList_madeCells_one]; kernel_rfl
  rw [hz] at hown2
  have HOWN := Lib.hid hown2
  have HCL := Lib.hid hcl
  clear hz hown2 hg2 hcl HLC hi0 hz0 hz1 hz2
  go_loopw [3, 4, 5] (CLenRel w gl g) (fun _ _ i _ => 31 - (intOf i).toNat)
  case atStart => exact ⟨0, rfl, by omega, rfl, rfl, HOWN.out, HCL.out, hb2⟩
  case round =>
    obtain ⟨d, rfl, hd, rfl, rfl, hown, hlc, hbel⟩ := hrel
    have hwf := CSt.Wf.at_ d
    by_cases hlt : d < 26
    · have HOWN := Lib.hid hown
      have HLC := Lib.hid hlc
      clear hown hlc
      generalize hc0 : (CSt.at_ d).code = c0 at *
      generalize hl0 : (CSt.at_ d).last = l0 at *
      have HCL := Lib.hid (And.intro hc0 hl0)
      clear hc0 hl0
      go_wp2
      go_loopw [3, 4, 6] (CSymRel w gl g d) (fun _ _ i _ => 257 - (intOf i).toNat)
      case atStart => exact ⟨0, rfl, by omega, by rw [← HCL.out.1]; rfl, by rw [← HCL.out.2]; rfl, HOWN.out, HLC.out, hbel⟩
      case round =>
        obtain ⟨s, rfl, hs, rfl, rfl, hown, hlc, hbel⟩ := hrel
        have hwfs := hwf.inner (by omega) hs
        by_cases hlt : s < 257
        · have hnext := cinner_next (d + 5) (CSt.at_ d) hlt
          have hcell := hlc s hlt
          by_cases heq : lensN.getD s 0 = d + 5
          · rw [CSt.sym1, if_pos heq] at hnext
            have hcellg := World.ownsRow.cellAt hown s (by omega)
            rw [u32s_get (by rw [hwfs.out]; exact hlt)] at hcellg
            have hfrog := World.ownsRow.frozenAt hown s
            have hst := World.ownsRow.stored hown s (.int .u32 ((CSt.up (d + 5) (CSt.inner (d + 5) s (CSt.at_ d)) : Nat) : Int))
            rw [u32s_set] at hst
            have hup : CSt.up (d + 5) (CSt.inner (d + 5) s (CSt.at_ d)) = (CSt.inner (d + 5) s (CSt.at_ d)).code * 2 ^ (d + 5 - (CSt.inner (d + 5) s (CSt.at_ d)).last) % 4294967296 := rfl
            have hcs := hwfs.code
            have hls := hwfs.last
            rw [heq] at hcell
            generalize CSt.up (d + 5) (CSt.inner (d + 5) s (CSt.at_ d)) = up at *
            generalize (CSt.inner (d + 5) s (CSt.at_ d)).code = c1 at *
            generalize (CSt.inner (d + 5) s (CSt.at_ d)).last = l1 at *
            have HN := Lib.hid hnext
            have HST := Lib.hid hst
            have HUP := Lib.hid hup
            have HLC := Lib.hid hlc
            clear hnext hst hup hown hlc heq
            go_wp2
            go_loop [3, 4] (DblUp c1 l1 (d + 5)) (fun _ l => d + 5 - (intOf l).toNat)
            case atStart => exact ⟨0, c1, by simp, by omega, rfl, by simp; omega, by omega⟩
            case round =>
              obtain ⟨j, x, rfl, hj, rfl, hx, hx32⟩ := hrel
              have HX := Lib.hid hx
              clear hx
              by_cases hjn : l1 + j < d + 5
              · go_wp2
                go_round
                case rel => exact ⟨j + 1, x * 2 % 4294967296, by congr 1, by omega, by congr 1, by rw [HX.out, up_step], by omega⟩
                case measure => simp [intOf] <;> omega
              · have hxu : x = up := by rw [HX.out, HUP.out, show d + 5 - l1 = j by omega]
                subst hxu
                go_wp2
                refine ⟨⟨_, _, _, ⟨s + 1, rfl, by omega, ?_, ?_, ?_, HLC.out.set_ hne _ _, hbel.setCell (p := ⟨g, _, none⟩) hge _⟩, rfl, rfl, by go_num⟩, by simp [intOf]; omega⟩
                · rw [HN.out]; go_num
                · rw [HN.out]; show _ = Value.int .i64 ((d + 5 : Nat) : Int); congr 1; omega
                · rw [HN.out]; exact HST.out.1
          · rw [CSt.sym1, if_neg heq] at hnext
            have heqb : (((lensN.getD s 0 : Nat) : Int) != (d : Int) + 5) = true := by rw [bne_iff_ne]; omega
            generalize lensN.getD s 0 = ls at *
            generalize hc1 : (CSt.inner (d + 5) s (CSt.at_ d)).code = c1 at *
            generalize hl1 : (CSt.inner (d + 5) s (CSt.at_ d)).last = l1 at *
            have HN := Lib.hid hnext
            have HI := Lib.hid (And.intro hc1 hl1)
            have HOWN := Lib.hid hown
            have HLC := Lib.hid hlc
            clear hnext hown hlc hc1 hl1 heq
            go_wp2
            refine ⟨⟨s + 1, by go_num, by omega, ?_, ?_, by rw [HN.out]; exact HOWN.out, HLC.out, hbel⟩, by simp [intOf]; omega⟩
            · rw [HN.out, HI.out.1]
            · rw [HN.out, HI.out.2]
        · obtain rfl : s = 257 := by omega
          rw [← cat_next] at *
          have HOWN := Lib.hid hown
          have HLC := Lib.hid hlc
          clear hown hlc
          generalize hc1 : (CSt.at_ (d + 1)).code = c1 at *
          generalize hl1 : (CSt.at_ (d + 1)).last = l1 at *
          have HI := Lib.hid (And.intro hc1 hl1)
          clear hc1 hl1
          go_wp2
          refine ⟨⟨d + 1, by go_num, by omega, ?_, ?_, HOWN.out, HLC.out, hbel⟩, by simp [intOf]; omega⟩
          · rw [HI.out.1]
          · rw [HI.out.2]
    · obtain rfl : d = 26 := by omega
      rw [codes_end] at hown
      have HOWN := Lib.hid hown
      clear hown hlc
      go_wp2
      go_ret
      exact ⟨g, rfl, HOWN.out, hbel⟩
end Go.Proofs.Ytfcgacjonekfaaa
