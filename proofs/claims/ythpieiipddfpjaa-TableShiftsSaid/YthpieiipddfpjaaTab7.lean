/- The walk of table.Find. -/
import Derived.Test.YthpieiipddfpjaaTab6
import Derived.Deep.LoopGhost
import Derived.Deep.QuietTactic
import Derived.BigQuiet
import Derived.Lib.SlicesS
namespace Go.Proofs.Ythpieiipddfpjaa
open Go.RowKit Go.Maps

theorem run_index_rows {cs : List Value} {i : Nat} {a b : Value} (w : World) (hi : i < 61) (h0 : cs[i * 2]? = some a) (h1 : cs[i * 2 + 1]? = some b) :
    (Instr.index 86 (.agg cs.toArray) (.int .i64 (i : Int))).run Try.prog w = .ok (.agg #[a, b]) w := by
  have hsz : (Try.prog.info? 85).map (·.size) = some 2 := by kernel_rfl
  cases hq : Try.prog.info? 85 with
  | none => simp [hq] at hsz
  | some ie =>
    have hs : ie.size = 2 := by simpa [hq] using hsz
    simp [Instr.index, asIntOf, run_underlying Try.underlying86, sizeOf, typeInfo, hq, hs, part, hi]
    obtain ⟨l0, e0⟩ := List.getElem?_eq_some_iff.1 h0
    obtain ⟨l1, e1⟩ := List.getElem?_eq_some_iff.1 h1
    rw [List.drop_eq_getElem_cons l0, List.drop_eq_getElem_cons l1, e0, e1]
    rfl
def nearK (nm : ByteArray) (k : Nat) : Nat := match (statF.take k).findIdx? (fun r => r.1 = nm) with
  | some i => i + 1
  | none => 0
theorem nearK_succ {nm : ByteArray} {k : Nat} {r : Rw} (hr : statF[k]? = some r) : nearK nm (k + 1) = if nearK nm k = 0 then (if r.1 = nm then k + 1 else 0) else nearK nm k := by
  have hk : k < statF.length := (List.getElem?_eq_some_iff.1 hr).1
  unfold nearK
  rw [List.take_add_one, hr]
  simp only [Option.toList_some, List.findIdx?_append]
  cases hf : (statF.take k).findIdx? (fun r => r.1 = nm) with
  | some i => simp
  | none =>
    simp only [Option.none_or]
    by_cases h : r.1 = nm
    · simp [h, List.length_take]; omega
    · simp [h]
/-- Found: the number, and whether with its value. -/
def findT (rows : List Rw) (gone : Int) (f : Rw) : Int × Bool :=
  match statF.findIdx? (fun r => r = f) with
  | some i => (i + 1, true)
  | none => match pos rows gone f with
    | some x => (62 + gone + rows.length - x, true)
    | none => if nearK f.1 61 = 0 then (match pos (rows.map (·.1)) gone f.1 with
        | some x => (62 + gone + rows.length - x, false)
        | none => (0, false)) else ((nearK f.1 61 : Nat), false)
theorem findT_stat (rows : List Rw) (gone : Int) {f : Rw} {k : Nat} (hk : statF[k]? = some f) (hall : ∀ j r, j < k → statF[j]? = some r → r ≠ f) : findT rows gone f = ((k : Int) + 1, true) := by
  have hl : k < statF.length := (List.getElem?_eq_some_iff.1 hk).1
  have e : statF.findIdx? (fun r => r = f) = some k := by
    rw [List.findIdx?_eq_some_iff_getElem]
    refine ⟨hl, by have := (List.getElem?_eq_some_iff.1 hk).2; simp [this], fun j hj => ?_⟩
    have := hall j (statF[j]'(by omega)) hj (List.getElem?_eq_getElem (by omega))
    simpa using this
  unfold findT
  rw [e]
theorem findT_none {f : Rw} (hall : ∀ j r, j < 61 → statF[j]? = some r → r ≠ f) : statF.findIdx? (fun r => r = f) = none := by
  rw [List.findIdx?_eq_none_iff]
  intro r hr
  obtain ⟨j, hj, hq⟩ := List.getElem_of_mem hr
  simpa using hall j r (by rw [statF_length] at hj; exact hj) (by rw [List.getElem?_eq_getElem hj, hq])

set_option maxHeartbeats 1000000 in
theorem number_any {g N : Nat} {F : Nat → Prop} {T : Tb} {p : Nat} (x : Int) (w : World) (h : TabIs w g F N T) (hp : w.cell? ⟨p, 0, none⟩ = some (.pointer (some ⟨g, 0, none⟩))) (hx0 : 0 ≤ x) (hx1 : x ≤ 1099511627776) :
    Calls Try.prog 46 #[.int .i64 x, .pointer (some ⟨p, 0, none⟩)] w fun e w' => e = .returned (.int .i64 (62 + T.gone + T.rows.length - x)) ∧ ∃ n, w' = w.drewN n := by
  obtain ⟨h1, h2, h3, h4, h5, h6, h7⟩ := h.inv
  obtain ⟨mb, mn, A, c, rfl, ht⟩ := h
  obtain ⟨-, -, c2, c3, -⟩ := ht.raw.cells
  have s1 : IntKind.i64.wrap (62 + T.gone) = 62 + T.gone := by rw [IntWalk.i64_in _ ⟨by omega, by omega⟩]
  have s2 : IntKind.i64.wrap (62 + T.gone + T.rows.length) = 62 + T.gone + T.rows.length := by rw [IntWalk.i64_in _ ⟨by omega, by omega⟩]
  have s3 : IntKind.i64.wrap (62 + T.gone + T.rows.length - x) = 62 + T.gone + T.rows.length - x := by rw [IntWalk.i64_in _ ⟨by omega, by omega⟩]
  clear ht h1 h7
  go_enter Try.func46, Try.ntmps46
  go_wp2
  go_quiet (fail)
  go_wp2
  go_ret
  exact ⟨rfl, _, rfl⟩

/-- While the rows that never change are gone through. -/
def FndRel (W : World) (f : Rw) (nv iv : Value) (wr : World) : Prop :=
  ∃ k : Nat, iv = .int .i64 k ∧ nv = .int .i64 (nearK f.1 k : Nat) ∧ k ≤ 61 ∧ (∀ j r, j < k → statF[j]? = some r → r ≠ f) ∧ Below W.heap.size W wr

theorem below_dN {B : Nat} {w w' : World} (h : Below B w w') (n : Nat) : Below B w (w'.drewN n) := ⟨h.os, h.tape, h.output, h.size, h.block⟩
def FindPost (W : World) (r : Int × Bool) (e : Ending) (w' : World) : Prop := e = .returned (.tuple #[.int .i64 r.1, .bool r.2]) ∧ Below W.heap.size W w'
set_option maxRecDepth 100000 in
set_option maxHeartbeats 4000000 in
theorem find_any {g N : Nat} {F : Nat → Prop} {T : Tb} (f : Rw) (nv : Bool) (w : World) (h : TabIs w g F N T) (hf1 : f.1.size ≤ 9223372036854775807) (hf2 : f.2.size ≤ 9223372036854775807) :
    Calls Try.prog 17 #[.pointer (some ⟨g, 0, none⟩), .agg #[.string f.1, .string f.2, .bool nv]] w (FindPost w (findT T.rows T.gone f)) := by
  have hlt := h.lt
  obtain ⟨W0, hW0⟩ : ∃ W0, (w.alloc (.cells #[.pointer (some ⟨g, 0, none⟩)] 27)).alloc (.cells #[.string f.1, .string f.2, .bool nv] 24) = W0 := ⟨_, rfl⟩
  have b0 : Below w.heap.size w W0 := by rw [← hW0]; exact ((Below.refl _ _).alloc (Nat.le_refl _) _).alloc (by simp) _
  obtain ⟨p, hp⟩ : ∃ p, w.heap.size = p := ⟨_, rfl⟩
  have hsz0 : W0.heap.size = p + 2 := by rw [← hW0, ← hp]; simp
  have k0 : W0.heap[p]? = some (.cells #[.pointer (some ⟨g, 0, none⟩)] 27 (0, 0)) := by rw [← hW0, ← hp]; exact (Below.heap_alloc _ _ _ (by simp)).trans (heapNew _ _)
  have k1 : W0.heap[p + 1]? = some (.cells #[.string f.1, .string f.2, .bool nv] 24 (0, 0)) := by rw [← hW0, ← hp]; exact heapNew1 _ _ _
  have HW0 := Lib.hid hW0
  have HP := Lib.hid hp
  have HK := Lib.hid (And.intro k0 (And.intro k1 (And.intro b0 hsz0)))
  have H := Lib.hid h
  clear hW0 hp k0 k1 b0 hsz0 h hlt
  go_enter Try.func17, Try.ntmps17
  go_wp2_with fail
  rw [HW0.out, HP.out]
  refine (fixed_any W0).mono ?_
  rintro e w1 ⟨rfl, hb⟩
  have HB1 := Lib.hid hb
  have hs1 := hb.size
  clear hb
  go_wp2
  go_loopw [6, 15] (fun n i wr => FndRel w1 f n i wr) (fun _ i _ => 61 - (intOf i).toNat)
  case atStart => exact ⟨0, rfl, rfl, by omega, fun j r h => by omega, Below.refl _ _⟩
  case round =>
    obtain ⟨k, rfl, rfl, hk, hall, hbel⟩ := hrel
    have k1 : w1.heap[p + 1]? = some (.cells #[.string f.1, .string f.2, .bool nv] 24 (0, 0)) := (HB1.out.block (p + 1) (by have := HK.out.2.2.2; omega)).trans HK.out.2.1
    have k2 : wr.heap[p + 1]? = some (.cells #[.string f.1, .string f.2, .bool nv] 24 (0, 0)) := (hbel.block (p + 1) (by have := HK.out.2.2.2; omega)).trans k1
    have x0 : wr.cell? ⟨p + 1, 0, none⟩ = some (.string f.1) := by unfold World.cell?; rw [k2]; rfl
    have x1 : wr.cell? ⟨p + 1, 1, none⟩ = some (.string f.2) := by unfold World.cell?; rw [k2]; rfl
    have hpl : p + 1 < wr.heap.size := (Array.getElem?_eq_some_iff.1 k2).1
    have HB := Lib.hid hbel
    have HA := Lib.hid hall
    have hbw : Below w.heap.size w wr := (HK.out.2.2.1.trans (HB1.out.mono HK.out.2.2.1.size)).trans (hbel.mono (Nat.le_trans HK.out.2.2.1.size hs1))
    have HBW := Lib.hid hbw
    have hszw : w.heap.size ≤ wr.heap.size := hbw.size
    have hsz1 : w1.heap.size ≤ wr.heap.size := hbel.size
    clear hbw
    clear k1 k2 hbel hall
    by_cases hlt : k < 61
    · obtain ⟨r, hr⟩ : ∃ r, statF[k]? = some r := ⟨_, List.getElem?_eq_getElem (by rw [statF_length]; exact hlt)⟩
      obtain ⟨s0, s1⟩ := rcs_get hr
      have hix : ∀ w', (Instr.index 86 (.agg statV.toArray) (.int .i64 (k : Int))).run Try.prog w' = .ok (.agg #[.string r.1, .string r.2]) w' := fun w' => run_index_rows w' hlt s0 s1
      have HR := Lib.hid hr
      clear hr s0 s1
      by_cases hrf : r = f
      · subst hrf
        go_wp2
        go_ret2
        rw [findT_stat T.rows T.gone HR.out HA.out]
        exact ⟨rfl, HBW.out.alloc hszw _⟩
      · have HNE := Lib.hid hrf
        obtain ⟨ra, rb⟩ := r
        obtain ⟨fa, fb⟩ := f
        have HNS := Lib.hid (nearK_succ (nm := fa) HR.out)
        simp only at x0 x1 hix
        by_cases hn : ra = fa
        · subst hn
          have hv : rb ≠ fb := fun e => hrf (by rw [e])
          have ev : (rb.toList == fb.toList) = false := (Lib.bytes_beq_false_iff rb fb).2 hv
          clear hrf hv
          by_cases hz : nearK ra k = 0
          · have ez : (((nearK ra k : Nat) : Int) == 0) = true := by rw [hz]; rfl
            have HZ := Lib.hid hz
            clear hz
            go_wp2
            go_roundw
            case rel => exact ⟨k + 1, by go_num, by rw [HNS.out, if_pos HZ.out, if_pos rfl]; go_num, by omega, fun j r hj hr => by
                rcases Nat.lt_succ_iff_lt_or_eq.1 hj with h | h
                · exact HA.out j r h hr
                · subst h; rw [HR.out] at hr; injection hr with hr; rw [← hr]; exact HNE.out, HB.out.alloc hsz1 _⟩
            case measure => simp [intOf]; omega
          · have ez : (((nearK ra k : Nat) : Int) == 0) = false := by rw [beq_eq_false_iff_ne]; omega
            have HZ := Lib.hid hz
            clear hz
            go_wp2
            go_roundw
            case rel => exact ⟨k + 1, by go_num, by rw [HNS.out, if_neg HZ.out], by omega, fun j r hj hr => by
                rcases Nat.lt_succ_iff_lt_or_eq.1 hj with h | h
                · exact HA.out j r h hr
                · subst h; rw [HR.out] at hr; injection hr with hr; rw [← hr]; exact HNE.out, HB.out.alloc hsz1 _⟩
            case measure => simp [intOf]; omega
        · have en : (ra.toList == fa.toList) = false := (Lib.bytes_beq_false_iff ra fa).2 hn
          have HN := Lib.hid hn
          clear hrf hn
          go_wp2
          go_roundw
          case rel => exact ⟨k + 1, by go_num, by rw [HNS.out, if_neg HN.out]; split <;> simp_all, by omega, fun j r hj hr => by
              rcases Nat.lt_succ_iff_lt_or_eq.1 hj with h | h
              · exact HA.out j r h hr
              · subst h; rw [HR.out] at hr; injection hr with hr; rw [← hr]; exact HNE.out, HB.out.alloc hsz1 _⟩
          case measure => simp [intOf]; omega
    · obtain rfl : k = 61 := by omega
      have hno := findT_none HA.out
      have HNO := Lib.hid hno
      clear hno hlt hk
      have htw : TabIs wr g F N T := H.out.keep (fun k hk => HBW.out.block k (H.out.lt k hk))
      have hinv := htw.inv
      obtain ⟨i1, i2, i3, i4, i5, i6, i7⟩ := hinv
      obtain ⟨mb, mn, A, c, hF, ht⟩ := htw
      have HTW : Hid (TabIs wr g F N T) := Lib.hid ⟨mb, mn, A, c, hF, ht⟩
      obtain ⟨d0, d1, d2, d3, d4, d5⟩ := ht.raw.cells
      have k0 : wr.heap[p]? = some (.cells #[.pointer (some ⟨g, 0, none⟩)] 27 (0, 0)) :=
        ((HB.out.block p (by have := HK.out.2.2.2; omega)).trans (HB1.out.block p (by have := HK.out.2.2.2; omega))).trans HK.out.1
      have z0 : wr.cell? ⟨p, 0, none⟩ = some (.pointer (some ⟨g, 0, none⟩)) := by unfold World.cell?; rw [k0]; rfl
      have hokf : okR f := ⟨by unfold okS maxLen; omega, by unfold okS maxLen; omega⟩
      have hlkB := ht.raw.lookB2 hokf
      have hlkN := ht.raw.lookN2 hokf.1
      have HNUM : Hid (∀ x, 0 ≤ x → x ≤ 1099511627776 → ∀ n, Calls Try.prog 46 #[.int .i64 x, .pointer (some ⟨p, 0, none⟩)] (wr.drewN n) fun e w' => e = .returned (.int .i64 (62 + T.gone + T.rows.length - x)) ∧ ∃ n', w' = (wr.drewN n).drewN n') :=
        Lib.hid fun x h0 h1 n => number_any x _ (HTW.out.keep (w' := wr.drewN n) (fun _ _ => rfl)) z0 h0 h1
      have hF' := Lib.hid hF
      have HT := Lib.hid ht
      clear ht hF k0 i1 i7 d0 d1 hokf
      unfold rowV at hlkB
      cases hpB : pos T.rows T.gone f with
      | some x =>
        have hx := pos_range hpB
        rw [hpB] at hlkB
        simp only [okV] at hlkB
        have hl0 := hlkB 0
        simp only [World.drewN_zero] at hl0
        have HFT : Hid (findT T.rows T.gone f = (62 + T.gone + T.rows.length - x, true)) := Lib.hid (by unfold findT; rw [HNO.out, hpB])
        clear hpB hlkN
        go_wp2
        go_quiet (fail)
        go_wp2_with fail
        refine (HNUM.out x (by omega) (by omega) _).mono ?_
        rintro e w' ⟨rfl, n', rfl⟩
        go_wp2
        go_ret2
        rw [HFT.out]
        exact ⟨rfl, below_dN HBW.out _⟩
      | none =>
        rw [hpB] at hlkB
        simp only [okV] at hlkB
        have hl0 := hlkB 0
        simp only [World.drewN_zero] at hl0
        have HPB := Lib.hid hpB
        clear hpB
        cases hpN : pos (T.rows.map (·.1)) T.gone f.1 with
        | some y =>
          have hy := pos_range hpN
          rw [List.length_map] at hy
          rw [hpN] at hlkN
          simp only [okV] at hlkN
          have HPN := Lib.hid hpN
          clear hpN
          by_cases hz : nearK f.1 61 = 0
          · have ez : (((nearK f.1 61 : Nat) : Int) == 0) = true := by rw [hz]; rfl
            have HFT : Hid (findT T.rows T.gone f = (62 + T.gone + T.rows.length - y, false)) := Lib.hid (by unfold findT; rw [HNO.out, HPB.out]; simp only; rw [if_pos hz, HPN.out])
            clear hz
            go_wp2
            go_quiet (fail)
            go_wp2
            go_quiet (fail)
            go_wp2_with fail
            refine (HNUM.out y (by omega) (by omega) _).mono ?_
            rintro e w' ⟨rfl, n', rfl⟩
            go_wp2
            go_ret2
            rw [HFT.out]
            exact ⟨rfl, below_dN HBW.out _⟩
          · have ez : (((nearK f.1 61 : Nat) : Int) == 0) = false := by rw [beq_eq_false_iff_ne]; omega
            have HFT : Hid (findT T.rows T.gone f = (((nearK f.1 61 : Nat) : Int), false)) := Lib.hid (by unfold findT; rw [HNO.out, HPB.out]; simp only; rw [if_neg hz])
            clear hz
            go_wp2
            go_quiet (fail)
            go_wp2
            go_quiet (fail)
            go_wp2
            go_ret2
            rw [HFT.out]
            exact ⟨rfl, below_dN HBW.out _⟩
        | none =>
          rw [hpN] at hlkN
          simp only [okV] at hlkN
          have HFT : Hid (findT T.rows T.gone f = (((nearK f.1 61 : Nat) : Int), false)) := Lib.hid (by
            unfold findT; rw [HNO.out, HPB.out]; simp only; rw [hpN]
            split
            · rename_i h; rw [h]; rfl
            · rfl)
          clear hpN
          go_wp2
          go_quiet (fail)
          go_wp2
          go_quiet (fail)
          go_wp2
          go_ret2
          rw [HFT.out]
          exact ⟨rfl, below_dN HBW.out _⟩
end Go.Proofs.Ythpieiipddfpjaa
