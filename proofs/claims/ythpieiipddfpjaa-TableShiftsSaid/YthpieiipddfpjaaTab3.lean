/- The walk of table.shrink. -/
import Derived.Test.YthpieiipddfpjaaTab2
import Derived.StillTailTactics
import Derived.Deep.LoopGhost
import Derived.Deep.DeepCutAuto
import Derived.Deep.RegionLaw
import Derived.Deep.QuietTactic
import Derived.BigQuiet
import Derived.Outline
import Derived.IntWalk
namespace Go.Proofs.Ythpieiipddfpjaa
open Go.RowKit Go.Maps

def sumc (l : List Rw) : Int := ((l.map cost).sum : Nat)
theorem sumc_cons (r : Rw) (l : List Rw) : sumc (r :: l) = (cost r : Int) + sumc l := by unfold sumc; simp
theorem sumc_nonneg (l : List Rw) : 0 ≤ sumc l := by unfold sumc; omega
/-- A slice's block is one of the old one's. -/
def Sub (A' A : Option Addr) : Prop := ∀ a, A' = some a → ∃ a0, A = some a0 ∧ a0.block = a.block
theorem Sub.refl (A : Option Addr) : Sub A A := fun a h => ⟨a, h, rfl⟩
theorem Sub.trans {A B C : Option Addr} (h : Sub A B) (h2 : Sub B C) : Sub A C := fun a ha => by
  obtain ⟨b, hb, e⟩ := h a ha
  obtain ⟨c, hc, e2⟩ := h2 b hb
  exact ⟨c, hc, e2.trans e⟩
theorem Sub.foot {A' A : Option Addr} (h : Sub A' A) {g mb mn k : Nat} (hk : foot g mb mn A' k) : foot g mb mn A k := by
  rcases hk with h1 | h1 | h1 | ⟨a, ha, h1⟩
  · exact .inl h1
  · exact .inr (.inl h1)
  · exact .inr (.inr (.inl h1))
  · obtain ⟨a0, h0, e⟩ := h a ha
    exact .inr (.inr (.inr ⟨a0, h0, e.trans h1⟩))
/-- A table whose maps tell the last places. -/
def Tbl (w : World) (g mb mn : Nat) (A : Option Addr) (c N : Nat) (most gone : Int) (rows : List Rw) : Prop :=
  Raw w g mb mn A c N most (sumc rows) gone rows (pos rows gone) (pos (rows.map (·.1)) gone) ∧ (∀ r ∈ rows, okR r) ∧ 0 ≤ gone ∧ gone + rows.length ≤ N ∧ N ≤ 1099511627776 ∧ sumc rows ≤ 4294967296
/-- While it shrinks. -/
def ShrRel (W : World) (g mb mn : Nat) (A0 : Option Addr) (N : Nat) (m most gone0 : Int) (rows0 : List Rw) (k : Nat) (wr : World) : Prop :=
  ∃ A c gone rows, Tbl wr g mb mn A c N most gone rows ∧ Kept (foot g mb mn A0) W wr ∧ Sub A A0 ∧ shrunk m gone0 rows0 = shrunk m gone rows ∧ k = rows.length
/-- Behind the oldest row's going, its places still told. -/
def ShrMid (W : World) (g mb mn : Nat) (A0 : Option Addr) (N x : Nat) (most gone : Int) (r : Rw) (l : List Rw) (wr : World) : Prop :=
  ∃ A c, Raw wr g mb mn A c N most (sumc l) (gone + 1) l (pos (r :: l) gone) (pos ((r :: l).map (·.1)) gone) ∧ Kept (foot g mb mn A0) W wr ∧ Sub A A0 ∧
    wr.cell? ⟨x, 0, none⟩ = some (.string r.1) ∧ wr.cell? ⟨x, 1, none⟩ = some (.string r.2) ∧ x < wr.heap.size ∧ ¬ foot g mb mn A0 x

/-- .. the row's place no more. -/
def ShrMid2 (W : World) (g mb mn : Nat) (A0 : Option Addr) (N x : Nat) (most gone : Int) (r : Rw) (l : List Rw) (wr : World) : Prop :=
  ∃ A c, Raw wr g mb mn A c N most (sumc l) (gone + 1) l (pos l (gone + 1)) (pos ((r :: l).map (·.1)) gone) ∧ Kept (foot g mb mn A0) W wr ∧ Sub A A0 ∧
    wr.cell? ⟨x, 0, none⟩ = some (.string r.1) ∧ wr.cell? ⟨x, 1, none⟩ = some (.string r.2) ∧ x < wr.heap.size ∧ ¬ foot g mb mn A0 x
/-- .. nor its name's. -/
def ShrEnd (W : World) (g mb mn : Nat) (A0 : Option Addr) (N : Nat) (most gone : Int) (l : List Rw) (wr : World) : Prop :=
  ∃ A c, Raw wr g mb mn A c N most (sumc l) (gone + 1) l (pos l (gone + 1)) (pos (l.map (·.1)) (gone + 1)) ∧ Kept (foot g mb mn A0) W wr ∧ Sub A A0
section
variable {α : Type} [DecidableEq α]
theorem pos_head (a : α) (l : List α) (g : Int) : ∃ y, pos (a :: l) g a = some y ∧ (y = g + 1 ↔ pos l (g + 1) a = none) := by
  cases h : pos l (g + 1) a with
  | none => exact ⟨g + 1, pos_cons_out h, by simp⟩
  | some y => exact ⟨y, pos_cons_in h, by have := pos_range h; simp; omega⟩
theorem pos_gone {a : α} {l : List α} {g : Int} (h : pos l (g + 1) a = none) (r : α) : pos l (g + 1) r = if r = a then none else pos (a :: l) g r := by
  by_cases e : r = a
  · subst e; rw [if_pos rfl, h]
  · rw [if_neg e, pos_cons_ne _ _ e]
theorem pos_stays {a : α} {l : List α} {g : Int} (h : pos l (g + 1) a ≠ none) (r : α) : pos l (g + 1) r = pos (a :: l) g r := by
  by_cases e : r = a
  · subst e
    obtain ⟨y, hy⟩ := Option.ne_none_iff_exists'.1 h
    rw [hy, pos_cons_in hy]
  · rw [pos_cons_ne _ _ e]
end

def ShrPost (W : World) (g mb mn : Nat) (A0 : Option Addr) (N : Nat) (m most gone0 : Int) (rows0 : List Rw) (e : Ending) (w' : World) : Prop :=
  e = .returned (.tuple #[]) ∧ ∃ A' c', Tbl w' g mb mn A' c' N most (shrunk m gone0 rows0).1 (shrunk m gone0 rows0).2 ∧ Kept (foot g mb mn A0) W w' ∧ Sub A' A0
set_option maxRecDepth 100000 in
set_option maxHeartbeats 4000000 in
theorem shrink_any {g mb mn c N : Nat} {A : Option Addr} {most gone : Int} {rows : List Rw} (m : Int) (w : World) (h : Tbl w g mb mn A c N most gone rows) :
    Calls Try.prog 49 #[.pointer (some ⟨g, 0, none⟩), .int .i64 m] w (ShrPost w g mb mn A N m most gone rows) := by
  have H := Lib.hid h
  clear h
  go_enter Try.func49, Try.ntmps49
  go_wp2
  go_loopg [4] rows.length (fun k _ wr => ShrRel w g mb mn A N m most gone rows k wr)
  case atStart => exact ⟨A, c, gone, rows, H.out, Kept.refl _ _, Sub.refl _, rfl, rfl⟩
  case round =>
    obtain ⟨A1, c1, gone1, rows1, ⟨hraw, hok, hg0, hmany, hfew, hsm⟩, hkept, hsub, hsh, hk⟩ := hrel
    have HR := Lib.hid hraw
    have HOK := Lib.hid hok
    have HK := Lib.hid hkept
    have HS := Lib.hid hsub
    have HSH := Lib.hid hsh
    have HE := Lib.hid hk
    obtain ⟨c0, c1', c2, c3, c4, c5⟩ := hraw.cells
    have hf1 := hraw.free 1
    have hf2 := hraw.free 2
    have hf3 := hraw.free 3
    have hs0 := sumc_nonneg rows1
    clear hraw hok hkept hsub hsh hk
    cases rows1 with
    | nil =>
      have hfin : ∀ wx : World, wx = wr → ShrPost w g mb mn A N m most gone rows (.returned (.tuple #[])) wx := fun wx hw => by
        subst hw
        refine ⟨rfl, A1, c1, ?_, HK.out, HS.out⟩
        rw [HSH.out, shrunk_nil]
        exact ⟨HR.out, HOK.out, hg0, hmany, hfew, hsm⟩
      have HF := Lib.hid hfin
      clear hfin
      go_wp2
      all_goals (go_end0; exact HF.out _ rfl)
    | cons r l =>
      by_cases hgo : m < sumc (r :: l)
      case neg =>
        have HF : Hid (∀ wx : World, wx = wr → ShrPost w g mb mn A N m most gone rows (.returned (.tuple #[])) wx) := Lib.hid fun wx hw => by
          subst hw
          refine ⟨rfl, A1, c1, ?_, HK.out, HS.out⟩
          rw [HSH.out, shrunk_stop (show sumc (r :: l) ≤ m by omega)]
          exact ⟨HR.out, HOK.out, hg0, hmany, hfew, hsm⟩
        go_wp2
        all_goals (go_end0; exact HF.out _ rfl)
      have HSC := Lib.hid (sumc_cons r l)
      have hsl := sumc_nonneg l
      have hcost : r.1.size + r.2.size + 32 ≤ 4294967296 := by
        have := HSC.out
        have hc : cost r = r.1.size + r.2.size + 32 := rfl
        rw [hc] at this
        omega
      obtain ⟨S, hS⟩ : ∃ S, sumc (r :: l) = S := ⟨_, rfl⟩
      rw [hS] at c1' hgo hsm hs0
      have HSS := Lib.hid hS
      clear hS
      obtain ⟨q, o, rfl, hq, r0, r1⟩ := HR.out.at_ (i := 0) (r := r) rfl
      have hgs := HR.out.lt g (.inl rfl)
      simp only [Nat.zero_mul, Nat.add_zero] at r0 r1
      simp only [List.length_cons] at c2 hmany
      go_upto_region 4 with fail
      obtain ⟨A2, hA2⟩ : ∃ A2, (if c1 = 1 then some (⟨q, o, none⟩ : Addr) else some ⟨q, o + 2, none⟩) = A2 := ⟨_, rfl⟩
      rw [hA2]
      have HA2 : Hid (cut1 (some ⟨q, o, none⟩) c1 = A2) := Lib.hid (by rw [← hA2]; unfold cut1; simp [Addr.add_lit])
      clear hA2
      go_cut [46] (fun _ wx => ShrMid w g mb mn A N wr.heap.size most gone1 r l wx)
      case first =>
        have hfin : IntKind.i64.wrap (S - (cost r : Int)) = sumc l := by
          have := HSC.out
          rw [HSS.out] at this
          rw [IntWalk.i64_in _ ⟨by omega, by omega⟩]
          omega
        have HFIN := Lib.hid hfin
        clear hfin
        have hmid : Hid (ShrMid w g mb mn A N wr.heap.size most gone1 r l (((((wr.setCell ⟨g, 2, none⟩ (.slice A2 l.length (c1 - 1))).setCell ⟨g, 3, none⟩ (.int .i64 (gone1 + 1))).setCell ⟨g, 1, none⟩ (.int .i64 (IntKind.i64.wrap (S - (cost r : Int))))).alloc (.cells #[.string r.1, .string r.2] 85)).alloc (.cells #[.string r.1, .string r.2] 85)).drew) := by
          refine Lib.hid ?_
          have hnf : ¬ foot g mb mn A wr.heap.size := fun hf => by
            have h1 := H.out.1.lt _ hf
            have h2 := HK.out.size
            omega
          rw [HFIN.out]
          refine ⟨A2, c1 - 1, ?_, ?_, ?_, ?_, ?_, ?_, hnf⟩
          · have := (((HR.out.tail.setGone (gone1 + 1)).setSize (sumc l)).alloc (.cells #[.string r.1, .string r.2] 85)).alloc (.cells #[.string r.1, .string r.2] 85)
            rw [HA2.out] at this
            exact this.keep (fun _ _ => rfl)
          · exact (((((HK.out.setCell (.inl rfl) _ _).setCell (.inl rfl) _ _).setCell (.inl rfl) _ _).alloc _).alloc _).drew
          · rw [← HA2.out]
            exact Sub.trans (fun a ha => cut1_block ha) HS.out
          · exact (World.cell?_alloc_lt _ _ _ (by simp [World.setCell])).trans (World.cell?_alloc_at _ _ _ _ (by simp [World.setCell]))
          · exact (World.cell?_alloc_lt _ _ _ (by simp [World.setCell])).trans (World.cell?_alloc_at _ _ _ _ (by simp [World.setCell]))
          · simp [World.setCell]; omega
        clear HR
        go_region_law (first
          | (go_simp; go_at_call 48; refine (cost_any r _ (by omega) (by omega)).mono ?_; rintro e w2 ⟨rfl, rfl⟩))
        all_goals
          go_wp2_with fail
          go_meet
          exact hmid.out
      case rest =>
        obtain ⟨A3, c3', hraw, hkept, hsub, x0, x1, hxl, hxf⟩ := hcut
        obtain ⟨d0, d1, d2, d3, d4, d5⟩ := hraw.cells
        have hokr := HOK.out r (by simp)
        obtain ⟨y, hy, hyn⟩ := pos_head r l gone1
        have hlk : ∀ k, (Instr.lookup 78 (.map (some mb)) (.agg #[.string r.1, .string r.2]) false).run Try.prog (wc.drewN k) = .ok (.int .i64 y) (wc.drewN k) := fun k => hraw.lookB hokr hy k
        have hlk0 : (Instr.lookup 78 (.map (some mb)) (.agg #[.string r.1, .string r.2]) false).run Try.prog wc = .ok (.int .i64 y) wc := hraw.lookB hokr hy 0
        have HM := Lib.hid (And.intro hraw (And.intro hkept (And.intro hsub (And.intro x0 (And.intro x1 (And.intro hxl hxf))))))
        have HY := Lib.hid (And.intro hy hyn)
        have HOKR := Lib.hid hokr
        clear hraw hkept hsub hy hyn HR HK HS c0 c1' c2 c3 c4 c5 hf1 hf2 hf3 r0 r1 hxf hokr
        go_wp2
        go_quiet (fail)
        go_upto_if 59 with fail
        rename_i nq
        obtain ⟨wd, hwd⟩ : ∃ wd, wc.drewN nq = wd := ⟨_, rfl⟩
        rw [hwd]
        have HN : Hid (ShrMid w g mb mn A N wr.heap.size most gone1 r l wd) := Lib.hid (by
          rw [← hwd]
          exact ⟨A3, c3', HM.out.1.keep (fun _ _ => rfl), HM.out.2.1.drewN _, HM.out.2.2⟩)
        clear x0 x1 d0 d1 d2 d3 d4 d5 HM hlk hlk0 hwd hxl
        go_cut [60] (fun _ wx => ShrMid2 w g mb mn A N wr.heap.size most gone1 r l wx)
        case first =>
          obtain ⟨A4, c4', hraw, hkept, hsub, x0, x1, hxl, hxf⟩ := HN.out
          obtain ⟨d0, d1, d2, d3, d4, d5⟩ := hraw.cells
          have HRW := Lib.hid (And.intro hraw (And.intro hkept (And.intro hsub (And.intro x0 (And.intro x1 (And.intro hxl hxf))))))
          obtain ⟨D, ho, hv⟩ := hraw.both
          have HD := Lib.hid ho
          have HV := Lib.hid hv
          clear ho hv hraw hkept hsub hxf
          by_cases hb : y = gone1 + 1
          · have e59 : (y == gone1 + 1) = true := by simpa using hb
            have HB := Lib.hid hb
            clear hb
            go_wp2
            go_still_tail 5, (by kernel_rfl)
            change wpList _ _ _ _ _ wd.drew
            go_wp2_with (at_delete; refine wpList_delete_own _ rfl _ _ 78 85 rfl 3 lawRow Try.underlying78 _ mb _ D rfl HD.out _ (rowKey r) rfl (rowKey_ok HOKR.out) ?_; intro w1 hown1 hturn1)
            go_meet
            obtain ⟨hraw, hkept, hsub, x0, x1, hxl, hxf⟩ := HRW.out
            have hg := hturn1.grown
            have hr2 := (hraw.keep (w' := wd.drew) (fun _ _ => rfl)).newBoth hg hown1 (HV.out.del rowKey_ne HOKR.out) (Nat.le_refl _)
            have hxne : wr.heap.size ≠ mb := fun e => hxf (.inr (.inl e))
            have hcx : ∀ j, w1.cell? ⟨wr.heap.size, j, none⟩ = wd.cell? ⟨wr.heap.size, j, none⟩ := fun j => World.cell?_of_block (hg.block wr.heap.size hxl (by simpa using hxne))
            exact ⟨A4, c4', hr2.congr (fun r' _ => pos_gone (HY.out.2.1 HB.out) r') (fun _ _ => rfl), hkept.drew.grown hg (fun k hk => by cases hk; exact .inl (.inr (.inl rfl))), hsub, (hcx 0).trans x0, (hcx 1).trans x1, Nat.lt_of_lt_of_le hxl hg.size, hxf⟩
          · have e59 : (y == gone1 + 1) = false := by simpa using hb
            have HB := Lib.hid hb
            clear hb
            go_wp2
            go_meet
            obtain ⟨hraw, hrest⟩ := HRW.out
            exact ⟨A4, c4', hraw.congr (fun r' _ => pos_stays (fun e => HB.out (HY.out.2.2 e)) r') (fun _ _ => rfl), hrest⟩
        case rest =>
          obtain ⟨A5, c5', hraw, hkept, hsub, x0, x1, hxl, hxf⟩ := hcut
          obtain ⟨d0, d1, d2, d3, d4, d5⟩ := hraw.cells
          obtain ⟨y2, hy2, hyn2⟩ := pos_head r.1 (l.map (·.1)) gone1
          have hlk : ∀ k, (Instr.lookup 79 (.map (some mn)) (.string r.1) false).run Try.prog (wc.drewN k) = .ok (.int .i64 y2) (wc.drewN k) := fun k => hraw.lookN HOKR.out.1 hy2 k
          have hlk0 : (Instr.lookup 79 (.map (some mn)) (.string r.1) false).run Try.prog wc = .ok (.int .i64 y2) wc := hraw.lookN HOKR.out.1 hy2 0
          have HM := Lib.hid (And.intro hraw (And.intro hkept (And.intro hsub (And.intro x0 (And.intro x1 (And.intro hxl hxf))))))
          have HY2 := Lib.hid (And.intro hy2 hyn2)
          clear hraw hkept hsub hy2 hyn2 HN hxf
          go_wp2
          go_quiet (fail)
          go_upto_if 76 with fail
          obtain ⟨wd2, hwd2⟩ : ∃ wd2, wc.drewN nq = wd2 := ⟨_, rfl⟩
          rw [hwd2]
          have HN : Hid (ShrMid2 w g mb mn A N wr.heap.size most gone1 r l wd2) := Lib.hid (by
            rw [← hwd2]
            exact ⟨A5, c5', HM.out.1.keep (fun _ _ => rfl), HM.out.2.1.drewN _, HM.out.2.2⟩)
          clear x0 x1 d0 d1 d2 d3 d4 d5 HM hlk hlk0 hwd2 hxl
          obtain ⟨A4, c4', hraw, hkept, hsub, x0, x1, hxl, hxf⟩ := HN.out
          obtain ⟨d0, d1, d2, d3, d4, d5⟩ := hraw.cells
          have HRW := Lib.hid (And.intro hraw (And.intro hkept (And.intro hsub (And.intro x0 (And.intro x1 (And.intro hxl hxf))))))
          obtain ⟨D, ho, hv⟩ := hraw.name
          have HD := Lib.hid ho
          have HV := Lib.hid hv
          clear ho hv hraw hkept hsub hxf
          by_cases hb : y2 = gone1 + 1
          · have e59 : (y2 == gone1 + 1) = true := by simpa using hb
            have HB := Lib.hid hb
            clear hb
            go_wp2
            go_still_tail 6, (by kernel_rfl)
            change wpList _ _ _ _ _ wd2.drew
            go_wp2_with (at_delete; refine wpList_delete_own _ rfl _ _ 79 9 rfl 3 lawStr Try.underlying79 _ mn _ D rfl HD.out _ (strKey r.1) rfl (strKey_ok HOKR.out.1) ?_; intro w1 hown1 hturn1)
            have hend : ShrEnd w g mb mn A N most gone1 l w1 := by
              obtain ⟨hraw, hkept, hsub, x0, x1, hxl, hxf⟩ := HRW.out
              have hg := hturn1.grown
              have hr2 := (hraw.keep (w' := wd2.drew) (fun _ _ => rfl)).newName hg hown1 (HV.out.del strKey_ne HOKR.out.1) (Nat.le_refl _)
              exact ⟨A4, c4', hr2.congr (fun _ _ => rfl) (fun r' _ => pos_gone (HY2.out.2.1 HB.out) r'), hkept.drew.grown hg (fun k hk => by cases hk; exact .inl (.inr (.inr (.inl rfl)))), hsub⟩
            have HM := Lib.hid hend
            clear hend
            go_roundg l.length
            case measure => have := HE.out; simp at this; omega
            case rel =>
              obtain ⟨A6, c6', hraw6, hkept6, hsub6⟩ := HM.out
              refine ⟨A6, c6', gone1 + 1, l, ⟨hraw6, fun r' hr' => HOK.out r' (List.mem_cons_of_mem _ hr'), by omega, by omega, hfew, ?_⟩, hkept6, hsub6, ?_, rfl⟩
              · have := HSC.out; rw [HSS.out] at this; omega
              · rw [HSH.out]
                exact shrunk_go (by show m < sumc (r :: l); rw [HSS.out]; exact hgo)
          · have e59 : (y2 == gone1 + 1) = false := by simpa using hb
            have HB := Lib.hid hb
            clear hb
            go_wp2
            have hend : ShrEnd w g mb mn A N most gone1 l wd2 := by
              obtain ⟨hraw, hrest⟩ := HRW.out
              exact ⟨A4, c4', hraw.congr (fun _ _ => rfl) (fun r' _ => pos_stays (fun e => HB.out (HY2.out.2.2 e)) r'), hrest.1, hrest.2.1⟩
            have HM := Lib.hid hend
            clear hend
            go_roundg l.length
            case measure => have := HE.out; simp at this; omega
            case rel =>
              obtain ⟨A6, c6', hraw6, hkept6, hsub6⟩ := HM.out
              refine ⟨A6, c6', gone1 + 1, l, ⟨hraw6, fun r' hr' => HOK.out r' (List.mem_cons_of_mem _ hr'), by omega, by omega, hfew, ?_⟩, hkept6, hsub6, ?_, rfl⟩
              · have := HSC.out; rw [HSS.out] at this; omega
              · rw [HSH.out]
                exact shrunk_go (by show m < sumc (r :: l); rw [HSS.out]; exact hgo)
end Go.Proofs.Ythpieiipddfpjaa
