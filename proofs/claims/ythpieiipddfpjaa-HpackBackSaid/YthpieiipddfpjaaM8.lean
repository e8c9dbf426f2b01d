/- 5 texts in one: Tab7, TabFew, Tab5, RTab2, RTab3. -/
import Derived.Test.YthpieiipddfpjaaM3
import Derived.Deep.LoopGhost
import Derived.Deep.QuietTactic
import Derived.BigQuiet
import Derived.Lib.SlicesS
import Derived.Test.YthpieiipddfpjaaM7
import Derived.Test.YthpieiipddfpjaaM2
import Derived.Deep.RegionHeld3
import Derived.IntWalk
/- The walk of table.Find. -/
namespace Go.Proofs.Ythpieiipddfpjaa
open Go.RowKit Go.Maps

theorem run_index_rows {cs : List Value} {i : Nat} {a b : Value} (w : World) (hi : i < 61) (h0 : cs[i * 2]? = some a) (h1 : cs[i * 2 + 1]? = some b) :
    (Instr.index 86 (.agg cs.toArray) (.int .i64 (i : Int))).run Try.prog w = .ok (.agg #[a, b]) w := by
  have hsz : (Try.prog.info? 85).map (·.size) = some 2 := by kernel_rfl
  cases hq : Try.prog.info? 85 with
  | none => simp [hq] at hsz
  | some ie =>
    have hs : ie.size = 2 := by simpa [hq] using hsz
    simp [Instr.index, asIntOf, run_underlying Try.underlying86, sizeOf, typeInfo, hq, hs, part, hi]
    obtain ⟨l0, e0⟩ := List.getElem?_eq_some_iff.1 h0
    obtain ⟨l1, e1⟩ := List.getElem?_eq_some_iff.1 h1
    rw [List.drop_eq_getElem_cons l0, List.drop_eq_getElem_cons l1, e0, e1]
    rfl
def nearK (nm : ByteArray) (k : Nat) : Nat := match (statF.take k).findIdx? (fun r => r.1 = nm) with
  | some i => i + 1
  | none => 0
theorem nearK_succ {nm : ByteArray} {k : Nat} {r : Rw} (hr : statF[k]? = some r) : nearK nm (k + 1) = if nearK nm k = 0 then (if r.1 = nm then k + 1 else 0) else nearK nm k := by
  have hk : k < statF.length := (List.getElem?_eq_some_iff.1 hr).1
  unfold nearK
  rw [List.take_add_one, hr]
  simp only [Option.toList_some, List.findIdx?_append]
  cases hf : (statF.take k).findIdx? (fun r => r.1 = nm) with
  | some i => simp
  | none =>
    simp only [Option.none_or]
    by_cases h : r.1 = nm
    · simp [h, List.length_take]; omega
    · simp [h]
/-- Found: the number, and whether with its value. -/
def findT (rows : List Rw) (gone : Int) (f : Rw) : Int × Bool :=
  match statF.findIdx? (fun r => r = f) with
  | some i => (i + 1, true)
  | none => match pos rows gone f with
    | some x => (62 + gone + rows.length - x, true)
    | none => if nearK f.1 61 = 0 then (match pos (rows.map (·.1)) gone f.1 with
        | some x => (62 + gone + rows.length - x, false)
        | none => (0, false)) else ((nearK f.1 61 : Nat), false)
theorem findT_stat (rows : List Rw) (gone : Int) {f : Rw} {k : Nat} (hk : statF[k]? = some f) (hall : ∀ j r, j < k → statF[j]? = some r → r ≠ f) : findT rows gone f = ((k : Int) + 1, true) := by
  have hl : k < statF.length := (List.getElem?_eq_some_iff.1 hk).1
  have e : statF.findIdx? (fun r => r = f) = some k := by
    rw [List.findIdx?_eq_some_iff_getElem]
    refine ⟨hl, by have := (List.getElem?_eq_some_iff.1 hk).2; simp [this], fun j hj => ?_⟩
    have := hall j (statF[j]'(by omega)) hj (List.getElem?_eq_getElem (by omega))
    simpa using this
  unfold findT
  rw [e]
theorem findT_none {f : Rw} (hall : ∀ j r, j < 61 → statF[j]? = some r → r ≠ f) : statF.findIdx? (fun r => r = f) = none := by
  rw [List.findIdx?_eq_none_iff]
  intro r hr
  obtain ⟨j, hj, hq⟩ := List.getElem_of_mem hr
  simpa using hall j r (by rw [statF_length] at hj; exact hj) (by rw [List.getElem?_eq_getElem hj, hq])

set_option maxHeartbeats 1000000 in
theorem number_any {g N : Nat} {F : Nat → Prop} {T : Tb} {p : Nat} (x : Int) (w : World) (h : TabIs w g F N T) (hp : w.cell? ⟨p, 0, none⟩ = some (.pointer (some ⟨g, 0, none⟩))) (hx0 : 0 ≤ x) (hx1 : x ≤ 1099511627776) :
    Calls Try.prog 46 #[.int .i64 x, .pointer (some ⟨p, 0, none⟩)] w fun e w' => e = .returned (.int .i64 (62 + T.gone + T.rows.length - x)) ∧ ∃ n, w' = w.drewN n := by
  obtain ⟨h1, h2, h3, h4, h5, h6, h7⟩ := h.inv
  obtain ⟨mb, mn, A, c, rfl, ht⟩ := h
  obtain ⟨-, -, c2, c3, -⟩ := ht.raw.cells
  have s1 : IntKind.i64.wrap (62 + T.gone) = 62 + T.gone := by rw [IntWalk.i64_in _ ⟨by omega, by omega⟩]
  have s2 : IntKind.i64.wrap (62 + T.gone + T.rows.length) = 62 + T.gone + T.rows.length := by rw [IntWalk.i64_in _ ⟨by omega, by omega⟩]
  have s3 : IntKind.i64.wrap (62 + T.gone + T.rows.length - x) = 62 + T.gone + T.rows.length - x := by rw [IntWalk.i64_in _ ⟨by omega, by omega⟩]
  clear ht h1 h7
  go_enter Try.func46, Try.ntmps46
  go_wp2
  go_quiet (fail)
  go_wp2
  go_ret
  exact ⟨rfl, _, rfl⟩

/-- While the rows that never change are gone through. -/
def FndRel (W : World) (f : Rw) (nv iv : Value) (wr : World) : Prop :=
  ∃ k : Nat, iv = .int .i64 k ∧ nv = .int .i64 (nearK f.1 k : Nat) ∧ k ≤ 61 ∧ (∀ j r, j < k → statF[j]? = some r → r ≠ f) ∧ Below W.heap.size W wr

theorem below_dN {B : Nat} {w w' : World} (h : Below B w w') (n : Nat) : Below B w (w'.drewN n) := ⟨h.os, h.tape, h.output, h.size, h.block⟩
def FindPost (W : World) (r : Int × Bool) (e : Ending) (w' : World) : Prop := e = .returned (.tuple #[.int .i64 r.1, .bool r.2]) ∧ Below W.heap.size W w'
set_option maxRecDepth 100000 in
set_option maxHeartbeats 4000000 in
theorem find_any {g N : Nat} {F : Nat → Prop} {T : Tb} (f : Rw) (nv : Bool) (w : World) (h : TabIs w g F N T) (hf1 : f.1.size ≤ 9223372036854775807) (hf2 : f.2.size ≤ 9223372036854775807) :
    Calls Try.prog 17 #[.pointer (some ⟨g, 0, none⟩), .agg #[.string f.1, .string f.2, .bool nv]] w (FindPost w (findT T.rows T.gone f)) := by
  have hlt := h.lt
  obtain ⟨W0, hW0⟩ : ∃ W0, (w.alloc (.cells #[.pointer (some ⟨g, 0, none⟩)] 27)).alloc (.cells #[.string f.1, .string f.2, .bool nv] 24) = W0 := ⟨_, rfl⟩
  have b0 : Below w.heap.size w W0 := by rw [← hW0]; exact ((Below.refl _ _).alloc (Nat.le_refl _) _).alloc (by simp) _
  obtain ⟨p, hp⟩ : ∃ p, w.heap.size = p := ⟨_, rfl⟩
  have hsz0 : W0.heap.size = p + 2 := by rw [← hW0, ← hp]; simp
  have k0 : W0.heap[p]? = some (.cells #[.pointer (some ⟨g, 0, none⟩)] 27 (0, 0)) := by rw [← hW0, ← hp]; exact (Below.heap_alloc _ _ _ (by simp)).trans (heapNew _ _)
  have k1 : W0.heap[p + 1]? = some (.cells #[.string f.1, .string f.2, .bool nv] 24 (0, 0)) := by rw [← hW0, ← hp]; exact heapNew1 _ _ _
  have HW0 := Lib.hid hW0
  have HP := Lib.hid hp
  have HK := Lib.hid (And.intro k0 (And.intro k1 (And.intro b0 hsz0)))
  have H := Lib.hid h
  clear hW0 hp k0 k1 b0 hsz0 h hlt
  go_enter Try.func17, Try.ntmps17
  go_wp2_with fail
  rw [HW0.out, HP.out]
  refine (fixed_any W0).mono ?_
  rintro e w1 ⟨rfl, hb⟩
  have HB1 := Lib.hid hb
  have hs1 := hb.size
  clear hb
  go_wp2
  go_loopw [6, 15] (fun n i wr => FndRel w1 f n i wr) (fun _ i _ => 61 - (intOf i).toNat)
  case atStart => exact ⟨0, rfl, rfl, by omega, fun j r h => by omega, Below.refl _ _⟩
  case round =>
    obtain ⟨k, rfl, rfl, hk, hall, hbel⟩ := hrel
    have k1 : w1.heap[p + 1]? = some (.cells #[.string f.1, .string f.2, .bool nv] 24 (0, 0)) := (HB1.out.block (p + 1) (by have := HK.out.2.2.2; omega)).trans HK.out.2.1
    have k2 : wr.heap[p + 1]? = some (.cells #[.string f.1, .string f.2, .bool nv] 24 (0, 0)) := (hbel.block (p + 1) (by have := HK.out.2.2.2; omega)).trans k1
    have x0 : wr.cell? ⟨p + 1, 0, none⟩ = some (.string f.1) := by unfold World.cell?; rw [k2]; rfl
    have x1 : wr.cell? ⟨p + 1, 1, none⟩ = some (.string f.2) := by unfold World.cell?; rw [k2]; rfl
    have hpl : p + 1 < wr.heap.size := (Array.getElem?_eq_some_iff.1 k2).1
    have HB := Lib.hid hbel
    have HA := Lib.hid hall
    have hbw : Below w.heap.size w wr := (HK.out.2.2.1.trans (HB1.out.mono HK.out.2.2.1.size)).trans (hbel.mono (Nat.le_trans HK.out.2.2.1.size hs1))
    have HBW := Lib.hid hbw
    have hszw : w.heap.size ≤ wr.heap.size := hbw.size
    have hsz1 : w1.heap.size ≤ wr.heap.size := hbel.size
    clear hbw
    clear k1 k2 hbel hall
    by_cases hlt : k < 61
    · obtain ⟨r, hr⟩ : ∃ r, statF[k]? = some r := ⟨_, List.getElem?_eq_getElem (by rw [statF_length]; exact hlt)⟩
      obtain ⟨s0, s1⟩ := rcs_get hr
      have hix : ∀ w', (Instr.index 86 (.agg statV.toArray) (.int .i64 (k : Int))).run Try.prog w' = .ok (.agg #[.string r.1, .string r.2]) w' := fun w' => run_index_rows w' hlt s0 s1
      have HR := Lib.hid hr
      clear hr s0 s1
      by_cases hrf : r = f
      · subst hrf
        go_wp2
        go_ret2
        rw [findT_stat T.rows T.gone HR.out HA.out]
        exact ⟨rfl, HBW.out.alloc hszw _⟩
      · have HNE := Lib.hid hrf
        obtain ⟨ra, rb⟩ := r
        obtain ⟨fa, fb⟩ := f
        have HNS := Lib.hid (nearK_succ (nm := fa) HR.out)
        simp only at x0 x1 hix
        by_cases hn : ra = fa
        · subst hn
          have hv : rb ≠ fb := fun e => hrf (by rw [e])
          have ev : (rb.toList == fb.toList) = false := (Lib.bytes_beq_false_iff rb fb).2 hv
          clear hrf hv
          by_cases hz : nearK ra k = 0
          · have ez : (((nearK ra k : Nat) : Int) == 0) = true := by rw [hz]; rfl
            have HZ := Lib.hid hz
            clear hz
            go_wp2
            go_roundw
            case rel => exact ⟨k + 1, by go_num, by rw [HNS.out, if_pos HZ.out, if_pos rfl]; go_num, by omega, fun j r hj hr => by
                rcases Nat.lt_succ_iff_lt_or_eq.1 hj with h | h
                · exact HA.out j r h hr
                · subst h; rw [HR.out] at hr; injection hr with hr; rw [← hr]; exact HNE.out, HB.out.alloc hsz1 _⟩
            case measure => simp [intOf]; omega
          · have ez : (((nearK ra k : Nat) : Int) == 0) = false := by rw [beq_eq_false_iff_ne]; omega
            have HZ := Lib.hid hz
            clear hz
            go_wp2
            go_roundw
            case rel => exact ⟨k + 1, by go_num, by rw [HNS.out, if_neg HZ.out], by omega, fun j r hj hr => by
                rcases Nat.lt_succ_iff_lt_or_eq.1 hj with h | h
                · exact HA.out j r h hr
                · subst h; rw [HR.out] at hr; injection hr with hr; rw [← hr]; exact HNE.out, HB.out.alloc hsz1 _⟩
            case measure => simp [intOf]; omega
        · have en : (ra.toList == fa.toList) = false := (Lib.bytes_beq_false_iff ra fa).2 hn
          have HN := Lib.hid hn
          clear hrf hn
          go_wp2
          go_roundw
          case rel => exact ⟨k + 1, by go_num, by rw [HNS.out, if_neg HN.out]; split <;> simp_all, by omega, fun j r hj hr => by
              rcases Nat.lt_succ_iff_lt_or_eq.1 hj with h | h
              · exact HA.out j r h hr
              · subst h; rw [HR.out] at hr; injection hr with hr; rw [← hr]; exact HNE.out, HB.out.alloc hsz1 _⟩
          case measure => simp [intOf]; omega
    · obtain rfl : k = 61 := by omega
      have hno := findT_none HA.out
      have HNO := Lib.hid hno
      clear hno hlt hk
      have htw : TabIs wr g F N T := H.out.keep (fun k hk => HBW.out.block k (H.out.lt k hk))
      have hinv := htw.inv
      obtain ⟨i1, i2, i3, i4, i5, i6, i7⟩ := hinv
      obtain ⟨mb, mn, A, c, hF, ht⟩ := htw
      have HTW : Hid (TabIs wr g F N T) := Lib.hid ⟨mb, mn, A, c, hF, ht⟩
      obtain ⟨d0, d1, d2, d3, d4, d5⟩ := ht.raw.cells
      have k0 : wr.heap[p]? = some (.cells #[.pointer (some ⟨g, 0, none⟩)] 27 (0, 0)) :=
        ((HB.out.block p (by have := HK.out.2.2.2; omega)).trans (HB1.out.block p (by have := HK.out.2.2.2; omega))).trans HK.out.1
      have z0 : wr.cell? ⟨p, 0, none⟩ = some (.pointer (some ⟨g, 0, none⟩)) := by unfold World.cell?; rw [k0]; rfl
      have hokf : okR f := ⟨by unfold okS maxLen; omega, by unfold okS maxLen; omega⟩
      have hlkB := ht.raw.lookB2 hokf
      have hlkN := ht.raw.lookN2 hokf.1
      have HNUM : Hid (∀ x, 0 ≤ x → x ≤ 1099511627776 → ∀ n, Calls Try.prog 46 #[.int .i64 x, .pointer (some ⟨p, 0, none⟩)] (wr.drewN n) fun e w' => e = .returned (.int .i64 (62 + T.gone + T.rows.length - x)) ∧ ∃ n', w' = (wr.drewN n).drewN n') :=
        Lib.hid fun x h0 h1 n => number_any x _ (HTW.out.keep (w' := wr.drewN n) (fun _ _ => rfl)) z0 h0 h1
      have hF' := Lib.hid hF
      have HT := Lib.hid ht
      clear ht hF k0 i1 i7 d0 d1 hokf
      unfold rowV at hlkB
      cases hpB : pos T.rows T.gone f with
      | some x =>
        have hx := pos_range hpB
        rw [hpB] at hlkB
        simp only [okV] at hlkB
        have hl0 := hlkB 0
        simp only [World.drewN_zero] at hl0
        have HFT : Hid (findT T.rows T.gone f = (62 + T.gone + T.rows.length - x, true)) := Lib.hid (by unfold findT; rw [HNO.out, hpB])
        clear hpB hlkN
        go_wp2
        go_quiet (fail)
        go_wp2_with fail
        refine (HNUM.out x (by omega) (by omega) _).mono ?_
        rintro e w' ⟨rfl, n', rfl⟩
        go_wp2
        go_ret2
        rw [HFT.out]
        exact ⟨rfl, below_dN HBW.out _⟩
      | none =>
        rw [hpB] at hlkB
        simp only [okV] at hlkB
        have hl0 := hlkB 0
        simp only [World.drewN_zero] at hl0
        have HPB := Lib.hid hpB
        clear hpB
        cases hpN : pos (T.rows.map (·.1)) T.gone f.1 with
        | some y =>
          have hy := pos_range hpN
          rw [List.length_map] at hy
          rw [hpN] at hlkN
          simp only [okV] at hlkN
          have HPN := Lib.hid hpN
          clear hpN
          by_cases hz : nearK f.1 61 = 0
          · have ez : (((nearK f.1 61 : Nat) : Int) == 0) = true := by rw [hz]; rfl
            have HFT : Hid (findT T.rows T.gone f = (62 + T.gone + T.rows.length - y, false)) := Lib.hid (by unfold findT; rw [HNO.out, HPB.out]; simp only; rw [if_pos hz, HPN.out])
            clear hz
            go_wp2
            go_quiet (fail)
            go_wp2
            go_quiet (fail)
            go_wp2_with fail
            refine (HNUM.out y (by omega) (by omega) _).mono ?_
            rintro e w' ⟨rfl, n', rfl⟩
            go_wp2
            go_ret2
            rw [HFT.out]
            exact ⟨rfl, below_dN HBW.out _⟩
          · have ez : (((nearK f.1 61 : Nat) : Int) == 0) = false := by rw [beq_eq_false_iff_ne]; omega
            have HFT : Hid (findT T.rows T.gone f = (((nearK f.1 61 : Nat) : Int), false)) := Lib.hid (by unfold findT; rw [HNO.out, HPB.out]; simp only; rw [if_neg hz])
            clear hz
            go_wp2
            go_quiet (fail)
            go_wp2
            go_quiet (fail)
            go_wp2
            go_ret2
            rw [HFT.out]
            exact ⟨rfl, below_dN HBW.out _⟩
        | none =>
          rw [hpN] at hlkN
          simp only [okV] at hlkN
          have HFT : Hid (findT T.rows T.gone f = (((nearK f.1 61 : Nat) : Int), false)) := Lib.hid (by
            unfold findT; rw [HNO.out, HPB.out]; simp only; rw [hpN]
            split
            · rename_i h; rw [h]; rfl
            · rfl)
          clear hpN
          go_wp2
          go_quiet (fail)
          go_wp2
          go_quiet (fail)
          go_wp2
          go_ret2
          rw [HFT.out]
          exact ⟨rfl, below_dN HBW.out _⟩
end Go.Proofs.Ythpieiipddfpjaa

/- The walk of drawbridgelaw04.few. -/
namespace Go.Proofs.Ythpieiipddfpjaa
open Go.RowKit

/-- What is gone through is not too long. -/
def Few (n : Nat) (D : Nat → St) : Prop := ∀ i, i < n → i < 120 → (D i).sf.1.size ≤ 100000 ∧ (D i).sf.2.size ≤ 100000
def FewRel (W : World) (n : Nat) (D : Nat → St) (tv iv : Value) (wr : World) : Prop :=
  ∃ (k : Nat) (t : Int), iv = .int .i64 k ∧ tv = .int .i64 t ∧ 0 ≤ t ∧ t ≤ k * 200000 ∧ k ≤ n ∧ k ≤ 120 ∧ (∀ i, i < k → (D i).sf.1.size ≤ 100000 ∧ (D i).sf.2.size ≤ 100000) ∧ Below W.heap.size W wr
def FewPost (W : World) (n : Nat) (D : Nat → St) (e : Ending) (w' : World) : Prop := ∃ b, e = .returned (.bool b) ∧ Below W.heap.size W w' ∧ (b = true → Few n D)
set_option maxRecDepth 100000 in
set_option maxHeartbeats 2000000 in
theorem few_any {B n c : Nat} {A : Option Addr} {D : Nat → St} (w : World) (h : Script w B A n D) (hB : B ≤ w.heap.size) (hn : n ≤ 140737488351232) :
    Calls Try.prog 14 #[.slice A n c] w (FewPost w n D) := by
  have H := Lib.hid h
  clear h
  go_enter Try.func14, Try.ntmps14
  go_wp2
  go_loopw [3, 4] (fun t i wr => FewRel w n D t i wr) (fun _ i _ => n - (intOf i).toNat)
  case atStart => exact ⟨0, 0, rfl, rfl, by omega, by omega, by omega, by omega, fun i hi => by omega, Below.refl _ _⟩
  case round =>
    obtain ⟨k, t, rfl, rfl, ht0, ht1, hk, hk2, hall, hbel⟩ := hrel
    have HA := Lib.hid hall
    have HB := Lib.hid hbel
    clear hall hbel
    by_cases hlt : k < n
    · by_cases h120 : k < 120
      · obtain ⟨b, o, rfl, hbB, hc⟩ := (H.out.below (HB.out.mono hB)).2 (by omega)
        obtain ⟨-, c1, c2, -, -⟩ := hc k hlt
        have n1 : (k : Int) < n := by omega
        have n2 : (k : Int) < 120 := by omega
        obtain ⟨a, ha⟩ : ∃ a : Nat, (D k).sf.1.size = a := ⟨_, rfl⟩
        obtain ⟨a', ha'⟩ : ∃ a' : Nat, (D k).sf.2.size = a' := ⟨_, rfl⟩
        clear hc
        by_cases h1 : a ≤ 100000
        · by_cases h2 : a' ≤ 100000
          · go_wp2
            go_quiet (fail)
            go_wp2
            go_roundw
            case rel =>
              refine ⟨k + 1, t + a + a', by go_num, by first | rfl | (congr 1; go_num), by omega, by omega, by omega, by omega, fun i hi => ?_, below_dN HB.out _⟩
              rcases Nat.lt_succ_iff_lt_or_eq.1 hi with h | rfl
              · exact HA.out i h
              · omega
            case measure => simp [intOf]; omega
          · go_wp2
            go_ret
            exact ⟨false, rfl, HB.out, fun h => by cases h⟩
        · go_wp2
          go_ret
          exact ⟨false, rfl, HB.out, fun h => by cases h⟩
      · go_wp2
        go_ret
        exact ⟨_, rfl, HB.out, fun _ i hi h => HA.out i (by omega)⟩
    · go_wp2
      go_ret
      exact ⟨_, rfl, HB.out, fun _ i hi h => HA.out i (by omega)⟩
end Go.Proofs.Ythpieiipddfpjaa

/- The walk of table.Add. -/
namespace Go.Proofs.Ythpieiipddfpjaa
open Go.RowKit Go.Maps

section
variable {P : Program} {w : World}
/-- append onto a slice that lies somewhere, as one step of a region that draws. -/
theorem step_app_lies {ops : Array Oper} {o : Oper} {a : Act} {K : Act → World → Prop} {Q : Exit → Act → World → Prop} {E : Prop} (s x : Operand) {t e : TypeId} {z : Value} {size bytes : Nat} (hT : SlT P t e z size bytes)
    (hgd : o.guard = none) (ho : o.op = .call { callee := .builtin .append, args := #[s, x], argTypes := #[t, t] })
    {v : Value} {n : Nat} {xs : List Value} (hl : Lies w e size v n xs) (hs : a.eval s = v)
    {B : Nat} {A : Option Addr} {m c : Nat} {news : List Value} (hr : Rd w B size A m news) (hm : 0 < m) (hx : a.eval x = .slice A m c) (h1 : ∀ u ∈ news, u.oneCell' = true)
    (h63 : n + m ≤ maxLen) (hbytes : (n + m) * bytes ≤ 140737488355328)
    (h : ∀ v' w', Lies w' e size v' (n + m) (xs ++ news) → w.grownBy w' v.ownBlock → (v'.ownBlock = v.ownBlock ∨ ∀ k, v'.ownBlock = some k → w.heap.size ≤ k) → K (a.put o.dst v') w') :
    if Region.wanted o (yielded ops a.tmps) = true then Oper.wp P o a w K Q else E := by
  have hw : Region.wanted o (yielded ops a.tmps) = true := by simp [Region.wanted, hgd]
  rw [if_pos hw]
  obtain ⟨v', w', hrun, h2, h3, h4⟩ := run_app_lies (P := P) o.type hT hl hr hm (c := c) h1 h63 hbytes
  unfold Oper.wp execOp
  simp only [ho, resolve, invoke, builtin, Sem.run_bind, Sem.run_pure, Result.andThen_ok, List.map_toArray, List.map_cons, List.map_nil, hs, hx, hrun]
  exact h v' w' h2 h3 h4
end
theorem Rd.pair (w : World) (x y : Value) (t : TypeId) : Rd (w.alloc (.cells #[x, y] t)) (w.heap.size + 1) 2 (some ⟨w.heap.size, 0, none⟩) 1 [x, y] := by
  refine ⟨rfl, fun _ => ⟨_, _, rfl, by omega, fun j hj => ?_⟩⟩
  rw [World.cell?_alloc_at _ _ _ _ rfl]
  simp

/-- The row's slice is the old one's block's or a new one's. -/
def SubN (W : World) (A A0 : Option Addr) : Prop := ∀ a, A = some a → (∃ a0, A0 = some a0 ∧ a0.block = a.block) ∨ W.heap.size ≤ a.block
theorem SubN.foot {W : World} {A A0 : Option Addr} (h : SubN W A A0) {g mb mn k : Nat} (hk : foot g mb mn A k) : foot g mb mn A0 k ∨ W.heap.size ≤ k := by
  rcases hk with h1 | h1 | h1 | ⟨a, ha, h1⟩
  · exact .inl (.inl h1)
  · exact .inl (.inr (.inl h1))
  · exact .inl (.inr (.inr (.inl h1)))
  · rcases h a ha with ⟨a0, h0, e⟩ | hle
    · exact .inl (.inr (.inr (.inr ⟨a0, h0, e.trans h1⟩)))
    · exact .inr (by omega)
/-- A row was appended: before its slice is stored, and behind it. -/
theorem Raw.app {w w4 : World} {g mb mn c N c4 : Nat} {A A4 : Option Addr} {most size gone : Int} {rows : List Rw} {fb : Rw → Option Int} {fn : ByteArray → Option Int} {r : Rw} (h : Raw w g mb mn A c N most size gone rows fb fn)
    (hl : Lies w4 85 2 (.slice A4 (rows.length + 1) c4) (rows.length + 1) (rcs rows ++ [.string r.1, .string r.2])) (hg : w.grownBy w4 (Value.ownBlock (.slice A rows.length c)))
    (hb : Value.ownBlock (.slice A4 (rows.length + 1) c4) = Value.ownBlock (.slice A rows.length c) ∨ ∀ k, Value.ownBlock (.slice A4 (rows.length + 1) c4) = some k → w.heap.size ≤ k) :
    w4.heap[g]? = w.heap[g]? ∧ Raw (w4.setCell ⟨g, 2, none⟩ (.slice A4 (rows.length + 1) c4)) g mb mn A4 c4 N most size gone (rows ++ [r]) fb fn ∧ SubN w A4 A := by
  have hsub : SubN w A4 A := by
    intro a ha
    subst ha
    rcases hb with e | hge
    · cases A with
      | none => simp [Value.ownBlock] at e
      | some a0 => simp [Value.ownBlock] at e; exact .inl ⟨a0, rfl, e.symm⟩
    · exact .inr (hge a.block rfl)
  have hlt := h.lt
  have hrow : ∀ k, k < w.heap.size → (∀ a, A = some a → a.block ≠ k) → w4.heap[k]? = w.heap[k]? := fun k hk hn => hg.block k hk (fun e => by
    cases A with
    | none => simp [Value.ownBlock] at e
    | some a => simp [Value.ownBlock] at e; exact hn a rfl e.symm)
  have hg4 := hrow g (hlt g (.inl rfl)) (fun a ha => (h.apart a ha).1)
  have hmb := hrow mb (hlt mb (.inr (.inl rfl))) (fun a ha => (h.apart a ha).2.1)
  have hmn := hrow mn (hlt mn (.inr (.inr (.inl rfl)))) (fun a ha => (h.apart a ha).2.2)
  have hap : ∀ a, A4 = some a → a.block ≠ g ∧ a.block ≠ mb ∧ a.block ≠ mn := by
    intro a ha
    rcases hsub a ha with ⟨a0, h0, e⟩ | hge
    · rw [← e]; exact h.apart a0 h0
    · have h1 := hlt g (.inl rfl)
      have h2 := hlt mb (.inr (.inl rfl))
      have h3 := hlt mn (.inr (.inr (.inl rfl)))
      exact ⟨by omega, by omega, by omega⟩
  have hk : ∀ k, k ≠ g → (w4.setCell ⟨g, 2, none⟩ (.slice A4 (rows.length + 1) c4)).heap[k]? = w4.heap[k]? := fun k hk => Below.heap_setCell _ _ _ _ (by simpa using hk)
  obtain ⟨D1, ⟨e1, l1, a1, b1⟩, v1⟩ := h.both
  obtain ⟨D2, ⟨e2, l2, a2, b2⟩, v2⟩ := h.name
  refine ⟨hg4, ⟨?_, ?_, ⟨D1, ⟨e1, l1, ((hk mb (Ne.symm h.ne.1)).trans hmb).trans a1, b1⟩, v1⟩, ⟨D2, ⟨e2, l2, ((hk mn (Ne.symm h.ne.2.1)).trans hmn).trans a2, b2⟩, v2⟩, h.ne, hap⟩, hsub⟩
  · simp only [World.setCell, Array.getElem?_modify, if_true]
    rw [hg4, h.book]
    simp
  · rw [List.length_append, rcs_app]
    refine Lies.keep hl fun q hq => hk q ?_
    cases A4 with
    | none => cases hq
    | some a => simp only [Value.ownBlock, Option.some.injEq] at hq; subst hq; exact (hap a rfl).1
theorem two_str (a b : ByteArray) : ∀ u ∈ [Value.string a, Value.string b], u.oneCell' = true := by simp [Value.oneCell']
theorem add_nil (n : Bool) (r : Rw) (w : World) : Calls Try.prog 25 #[.pointer none, .agg #[.string r.1, .string r.2, .bool n]] w fun e w' => e = .returned (.tuple #[]) ∧ Below w.heap.size w w' := by
  go_enter Try.func25, Try.ntmps25
  go_wp2
  exact bodyPost_ret (v := .tuple #[]) (by simp [results, Try.results25, go_sem]) rfl ⟨rfl, (Below.refl _ _).alloc (Nat.le_refl _) _⟩

def AddMid (W : World) (g mb mn : Nat) (A : Option Addr) (c N x : Nat) (T : Tb) (r : Rw) (b : Bool) (v : Value) (wx : World) : Prop :=
  v = .bool b ∧ TM wx g mb mn A c N T ∧ Below W.heap.size W wx ∧ wx.cell? ⟨x, 0, none⟩ = some (.string r.1) ∧ wx.cell? ⟨x, 1, none⟩ = some (.string r.2) ∧ x < wx.heap.size ∧ W.heap.size ≤ x

/-- Behind the shrinking. -/
def AddMid2 (W : World) (g mb mn : Nat) (A0 : Option Addr) (N x : Nat) (most gone : Int) (rows : List Rw) (r : Rw) (wx : World) : Prop :=
  ∃ A c, Tbl wx g mb mn A c N most gone rows ∧ Kept (foot g mb mn A0) W wx ∧ Sub A A0 ∧ wx.cell? ⟨x, 0, none⟩ = some (.string r.1) ∧ wx.cell? ⟨x, 1, none⟩ = some (.string r.2) ∧ x < wx.heap.size
/-- The row is there; not yet told in the maps. -/
def AddMid3 (W : World) (g mb mn : Nat) (A0 : Option Addr) (N x : Nat) (most size gone : Int) (rows : List Rw) (r : Rw) (wx : World) : Prop :=
  ∃ A c, Raw wx g mb mn A c N most size gone (rows ++ [r]) (pos rows gone) (pos (rows.map (·.1)) gone) ∧ Kept (foot g mb mn A0) W wx ∧ SubN W A A0 ∧ wx.cell? ⟨x, 0, none⟩ = some (.string r.1) ∧ wx.cell? ⟨x, 1, none⟩ = some (.string r.2) ∧ x < wx.heap.size
set_option maxRecDepth 100000 in
set_option maxHeartbeats 4000000 in
theorem add_any {g N : Nat} {F : Nat → Prop} {T : Tb} (r : Rw) (nv : Bool) (w : World) (h : TabIs w g F N T) (hr1 : r.1.size ≤ 1099511627776) (hr2 : r.2.size ≤ 1099511627776) (hN : N + 1 ≤ 1099511627776) :
    Calls Try.prog 25 #[.pointer (some ⟨g, 0, none⟩), .agg #[.string r.1, .string r.2, .bool nv]] w (TStep w g F (N + 1) (T.add r) (.tuple #[])) := by
  obtain ⟨mb, mn, A, c, rfl, ht⟩ := h
  have hlt := ht.raw.lt
  have hgl := hlt g (.inl rfl)
  have hcost : (cost r : Int) = r.1.size + r.2.size + 32 := by unfold cost; omega
  obtain ⟨cr, hcr⟩ : ∃ cr : Int, (cost r : Int) = cr := ⟨_, rfl⟩
  have hcr0 : 32 ≤ cr := by omega
  have hcr1 : cr ≤ 4398046511104 := by omega
  have HCR := Lib.hid hcr
  obtain ⟨c0, c1, c2, c3, c4, c5⟩ := ht.raw.cells
  have hm0 := ht.most0
  have hm1 := ht.most1
  have HT := Lib.hid ht
  have HLT := Lib.hid hlt
  have hg1 : g < w.heap.size + 1 := by omega
  have hg2 : g < w.heap.size + 1 + 1 := by omega
  clear ht hlt hcost hcr
  go_enter Try.func25, Try.ntmps25
  go_upto_region 3 with fail
  obtain ⟨wa, hwa⟩ : ∃ wa, (w.alloc (.cells #[.string r.1, .string r.2, .bool nv] 24)).alloc (.cells #[.string r.1, .string r.2] 85) = wa := ⟨_, rfl⟩
  obtain ⟨x, hx⟩ : ∃ x, w.heap.size + 1 = x := ⟨_, rfl⟩
  have hbw : Below w.heap.size w wa := by rw [← hwa]; exact ((Below.refl _ _).alloc (Nat.le_refl _) _).alloc (by simp) _
  have hsa : wa.heap.size = w.heap.size + 2 := by rw [← hwa]; simp
  have hxa : x < wa.heap.size := by omega
  have hga : g < wa.heap.size := by omega
  have y0 : wa.cell? ⟨x, 0, none⟩ = some (.string r.1) := by rw [← hwa]; exact World.cell?_alloc_at _ _ _ _ (by simp; omega)
  have y1 : wa.cell? ⟨x, 1, none⟩ = some (.string r.2) := by rw [← hwa]; exact World.cell?_alloc_at _ _ _ _ (by simp; omega)
  have hta : TM wa g mb mn A c N T := HT.out.keep (fun k hk => hbw.block k (HLT.out k hk))
  obtain ⟨a0, -⟩ := hta.raw.cells
  have HTA := Lib.hid hta
  have HBW := Lib.hid hbw
  rw [hwa, hx]
  have HX := Lib.hid hx
  have hxw : w.heap.size ≤ x := by omega
  clear hwa hx hsa hbw hta c0 c1 c2 c3 c4 c5
  go_cut [18] (fun v wx => AddMid w g mb mn A c N x T r (decide (T.most < cr)) v wx)
  case first =>
    go_region_held3 (fun w' => w'.cell? ⟨g, 0, none⟩ = some (.int .i64 T.most) ∧ w'.cell? ⟨x, 0, none⟩ = some (.string r.1) ∧ w'.cell? ⟨x, 1, none⟩ = some (.string r.2))
      (go_keep)
      (first
        | (go_at_call 48; refine (cost_any r _ (by omega) (by omega)).mono ?_; rintro e w2 ⟨rfl, rfl⟩; rw [HCR.out]))
    all_goals
      go_wp2_with fail
      go_meet
      refine ⟨rfl, HTA.out.keep (fun k hk => Below.heap_alloc wa _ k (HTA.out.raw.lt k hk)), (HBW.out.alloc (by have := HBW.out.size; omega) _).drew, (World.cell?_alloc_lt _ _ _ hxa).trans y0, (World.cell?_alloc_lt _ _ _ hxa).trans y1, by simp; omega, hxw⟩
  case rest =>
    obtain ⟨rfl, htm, hbw, x0, x1, hxl, hxw'⟩ := hcut
    have htb := htm.tbl
    have HTM := Lib.hid htm
    have HBC := Lib.hid hbw
    obtain ⟨c0, c1, c2, c3, c4, c5⟩ := htm.raw.cells
    have hgc := htm.raw.lt g (.inl rfl)
    have hfoot : ∀ k, foot g mb mn A k → k < w.heap.size := HLT.out
    have HLT2 := Lib.hid hfoot
    have hxf : ¬ foot g mb mn A x := fun hf => by have := hfoot x hf; omega
    have HXF := Lib.hid hxf
    clear hfoot hxf HTA HBW y0 y1 a0 hxa hga hbw htm HLT HT
    by_cases hbig : T.most < cr
    · have hadd : T.add r = T.shrink 0 := by unfold Tb.add; rw [if_pos (by rw [HCR.out]; exact hbig)]
      have hC := Lib.hid (shrink_any 0 wc htb)
      have eb : decide (T.most < cr) = true := by simpa using hbig
      have HADD := Lib.hid hadd
      clear hadd htb
      go_wp2_with fail
      refine hC.out.mono ?_
      rintro e w' ⟨rfl, A', c', htb, hk, hs⟩
      have H := Lib.hid (And.intro htb (And.intro hk hs))
      clear htb hk hs hC
      go_wp2
      refine bodyPost_ret (v := .tuple #[]) (by simp [results, Try.results25, go_sem]) rfl ?_
      rw [HADD.out]
      refine ⟨rfl, foot g mb mn A', ⟨mb, mn, A', c', rfl, ?_⟩, ?_, fun k hf => .inl (H.out.2.2.foot hf)⟩
      · obtain ⟨h1, h2, h3, h4, h5, h6⟩ := H.out.1
        exact TM.of ⟨h1.more (Nat.le_succ N), h2, h3, by omega, by omega, h6⟩ hm0 hm1 (by have := shrunk_fits (Int.le_refl 0) T.rows T.gone; omega)
      · exact (Kept.of_below HBC.out).same H.out.2.1
    · have hle : cr ≤ T.most := by omega
      have eb : decide (T.most < cr) = false := by simpa using hbig
      have hC : Hid (∀ w', w'.heap = wc.heap ∨ w' = wc.alloc (.cells #[.string r.1, .string r.2] 85) ∨ w' = (wc.alloc (.cells #[.string r.1, .string r.2] 85)).drew → Calls Try.prog 49 #[.pointer (some ⟨g, 0, none⟩), .int .i64 (T.most - cr)] w' (ShrPost w' g mb mn A N (T.most - cr) T.most T.gone T.rows)) := by
        refine Lib.hid fun w' hw' => shrink_any _ w' ⟨htb.1.keep fun k hk => ?_, htb.2⟩
        have hkl := HTM.out.raw.lt k hk
        rcases hw' with h | h | h
        · rw [h]
        · rw [h]; exact Below.heap_alloc _ _ _ hkl
        · rw [h]; exact Below.heap_alloc _ _ _ hkl
      clear hbig htb
      obtain ⟨g1, rows1, hsh⟩ : ∃ g1 rows1, shrunk (T.most - cr) T.gone T.rows = (g1, rows1) := ⟨_, _, rfl⟩
      have hfit : sumc rows1 ≤ T.most - cr := by have := shrunk_fits (show 0 ≤ T.most - cr by omega) T.rows T.gone; rw [hsh] at this; exact this
      have HADD : Hid (T.add r = ⟨T.most, g1, rows1 ++ [r]⟩) := Lib.hid (by
        unfold Tb.add Tb.shrink
        rw [if_neg (by rw [HCR.out]; omega)]
        simp only [HCR.out, hsh])
      have HSH := Lib.hid hsh
      clear hsh
      go_upto_region 5 with fail
      go_cut [25] (fun _ wx => AddMid2 w g mb mn A N x T.most g1 rows1 r wx)
      case first =>
        have es : IntKind.i64.wrap (T.most - cr) = T.most - cr := by rw [IntWalk.i64_in _ ⟨by omega, by omega⟩]
        have hxl1 : x < wc.heap.size + 1 := by omega
        go_region_held3 (fun w' => w'.cell? ⟨g, 0, none⟩ = some (.int .i64 T.most) ∧ w'.cell? ⟨x, 0, none⟩ = some (.string r.1) ∧ w'.cell? ⟨x, 1, none⟩ = some (.string r.2))
          (first | go_keep | exact ⟨k0, k1, k2⟩)
          (first
            | (go_at_call 48; refine (cost_any r _ (by omega) (by omega)).mono ?_; rintro e w2 ⟨rfl, rfl⟩; rw [HCR.out])
            | (go_at_call 49; refine (hC.out _ (by first | (exact .inr (.inl rfl)) | (exact .inr (.inr rfl)))).mono ?_; rintro e w4 ⟨rfl, A', c', htb, hk, hs⟩; rw [HSH.out] at htb; obtain ⟨k0, -⟩ := htb.1.cells; have k1 := (hk.cell (k := x) (by simp; omega) HXF.out 0).trans ((World.cell?_alloc_lt wc _ _ hxl).trans x0); have k2 := (hk.cell (k := x) (by simp; omega) HXF.out 1).trans ((World.cell?_alloc_lt wc _ _ hxl).trans x1); have H4 := Lib.hid (And.intro htb (And.intro hk (And.intro hs (And.intro k1 k2)))); have hs4 := hk.size; clear htb hk hs))
        all_goals
          go_wp2_with fail
          go_meet
          obtain ⟨htb, hk, hs, j1, j2⟩ := H4.out
          refine ⟨A', c', htb, ?_, hs, j1, j2, by simp at hs4; omega⟩
          first
            | exact (((Kept.of_below HBC.out).alloc _).drew).same hk
            | exact ((Kept.of_below HBC.out).alloc _).same hk
      case rest =>
        obtain ⟨A1, c1', htb, hkept, hsub, z0, z1, hxl3⟩ := hcut
        obtain ⟨d0, d1, d2, d3, d4, d5⟩ := htb.1.cells
        have hfz := htb.1.free 2
        have hmany := htb.2.2.2.1
        have hg10 := htb.2.2.1
        have hrl : rows1.length ≤ 1099511627776 := by omega
        have hgl3 := htb.1.lt g (.inl rfl)
        have HTB := Lib.hid (And.intro htb (And.intro hkept hsub))
        clear htb hkept hsub HTM hC x0 x1 hxl c0 c1 c2 c3 c4 c5 HBC
        go_upto_region 6 with fail
        have HFZ : Hid ((wc.alloc (.cells #[.string r.1, .string r.2] 85)).frozen? ⟨g, 2, none⟩ = false) := Lib.hid ((HTB.out.1.1.alloc _).free 2)
        go_cut [37] (fun _ wx => AddMid3 w g mb mn A N x T.most (sumc rows1) g1 rows1 r wx)
        case first =>
          go_region_law (first
            | (refine step_app_lies (.tmp 34) (.tmp 36) tRows rfl rfl (HTB.out.1.1.alloc _).row rfl (Rd.pair _ _ _ _) (by decide) rfl (two_str _ _) (le_maxLen (by omega)) (by omega) ?_; intro v4 w4 hl4 hg4 hb4; obtain ⟨A4, c4', rfl, -, -, -⟩ := hl4.form; obtain ⟨hg5, hr5, hs5⟩ := Raw.app (r := r) ((HTB.out.1.1.alloc _).keep (w' := (wc.alloc (.cells #[.string r.1, .string r.2] 85)).drew) (fun _ _ => rfl)) hl4 hg4 hb4; have m2 : w4.cell? ⟨g, 2, none⟩ = some (.slice A1 rows1.length c1') := (World.cell?_of_block (a := ⟨g, 2, none⟩) hg5).trans ((World.cell?_alloc_lt wc _ _ hgl3).trans d2); have mf : w4.frozen? ⟨g, 2, none⟩ = false := (World.frozen?_of_block (a := ⟨g, 2, none⟩) hg5).trans (HFZ.out); have H5 := Lib.hid (And.intro hr5 (And.intro hs5 hg4)); clear hl4 hg4 hb4 hg5 hr5 hs5))
          all_goals
            go_wp2_with fail
            go_meet
            obtain ⟨hr5, hs5, hg4⟩ := H5.out
            have hxg : x ≠ g := fun e => HXF.out (.inl e)
            have hx4 : w4.heap[x]? = wc.heap[x]? := (hg4.block x (by simp; omega) (fun e => by
              cases A1 with
              | none => simp [Value.ownBlock] at e
              | some a1 =>
                simp [Value.ownBlock] at e
                obtain ⟨a0, h0, e0⟩ := HTB.out.2.2 a1 rfl
                exact HXF.out (.inr (.inr (.inr ⟨a0, h0, e0.trans e.symm⟩))))).trans (Below.heap_alloc wc _ x hxl3)
            have hxs : ∀ o v, ((w4.setCell ⟨g, 2, none⟩ v).cell? ⟨x, o, none⟩) = wc.cell? ⟨x, o, none⟩ := fun o v =>
              (World.cell?_of_block (a := ⟨x, o, none⟩) (Below.heap_setCell _ _ _ _ (by simpa using hxg))).trans (World.cell?_of_block (a := ⟨x, o, none⟩) hx4)
            have hszw := hg4.size
            refine ⟨A4, c4', hr5, ?_, ?_, (hxs 0 _).trans z0, (hxs 1 _).trans z1, by simp at hszw; simp [World.setCell]; omega⟩
            · refine Kept.setCell ((HTB.out.2.1.alloc _).drew.grown hg4 (fun k hk => ?_)) (.inl rfl) _ _
              cases A1 with
              | none => simp [Value.ownBlock] at hk
              | some a1 =>
                simp [Value.ownBlock] at hk
                obtain ⟨a0, h0, e0⟩ := HTB.out.2.2 a1 rfl
                exact .inl (.inr (.inr (.inr ⟨a0, h0, e0.trans hk⟩)))
            · intro a ha
              have hsz0 := HTB.out.2.1.size
              rcases hs5 a ha with ⟨a1, h1, e1⟩ | hge
              · obtain ⟨a0, h0, e0⟩ := HTB.out.2.2 a1 h1
                exact .inl ⟨a0, h0, e0.trans e1⟩
              · exact .inr (by simp at hge; omega)
        case rest =>
          obtain ⟨A2, c2', hraw, hkept, hsub, x0, x1, hxl⟩ := hcut
          obtain ⟨c0, c1, c2, c3, c4, c5⟩ := hraw.cells
          have hf1 := hraw.free 1
          have hgl4 := hraw.lt g (.inl rfl)
          have hs1 := sumc_nonneg rows1
          have HR := Lib.hid (And.intro hraw (And.intro hkept hsub))
          clear hraw hkept hsub d0 d1 d2 d3 d4 d5 z0 z1 hxl3 hfz hgl3 HFZ
          go_upto_region 7 with fail
          go_cut [46] (fun _ wx => AddMid3 w g mb mn A N x T.most (sumc rows1 + cr) g1 rows1 r wx)
          case first =>
            have es : IntKind.i64.wrap (sumc rows1 + cr) = sumc rows1 + cr := by rw [IntWalk.i64_in _ ⟨by omega, by omega⟩]
            have hmid : Hid (AddMid3 w g mb mn A N x T.most (sumc rows1 + cr) g1 rows1 r (((wc.setCell ⟨g, 1, none⟩ (.int .i64 (sumc rows1 + cr))).alloc (.cells #[.string r.1, .string r.2] 85)).drew)) := by
              refine Lib.hid ⟨A2, c2', ?_, ?_, HR.out.2.2, ?_, ?_, ?_⟩
              · exact ((HR.out.1.setSize _).alloc _).keep (fun _ _ => rfl)
              · exact ((HR.out.2.1.setCell (.inl rfl) _ _).alloc _).drew
              · have hxg : x ≠ g := fun e => HXF.out (.inl e)
                exact ((World.cell?_alloc_lt _ _ _ (by simpa [World.setCell] using hxl)).trans (World.cell?_of_block (a := ⟨x, 0, none⟩) (Below.heap_setCell _ _ _ _ (by simpa using hxg)))).trans x0
              · have hxg : x ≠ g := fun e => HXF.out (.inl e)
                exact ((World.cell?_alloc_lt _ _ _ (by simpa [World.setCell] using hxl)).trans (World.cell?_of_block (a := ⟨x, 1, none⟩) (Below.heap_setCell _ _ _ _ (by simpa using hxg)))).trans x1
              · simp [World.setCell]; omega
            clear HR
            go_region_law (first
              | (go_simp; go_at_call 48; refine (cost_any r _ (by omega) (by omega)).mono ?_; rintro e w2 ⟨rfl, rfl⟩; rw [HCR.out]))
            all_goals
              go_wp2_with fail
              go_meet
              first
                | exact hmid.out
                | (rw [es]; exact hmid.out)
          case rest =>
            obtain ⟨A3, c3', hraw, hkept, hsub, x0, x1, hxl⟩ := hcut
            obtain ⟨c0, c1, c2, c3, c4, c5⟩ := hraw.cells
            obtain ⟨D1, o1, v1⟩ := hraw.both
            have HD := Lib.hid o1
            have HV := Lib.hid v1
            have hokr : okR r := ⟨by unfold okS maxLen; omega, by unfold okS maxLen; omega⟩
            have HOKR := Lib.hid hokr
            have HRW := Lib.hid (And.intro hraw (And.intro hkept hsub))
            have es1 : IntKind.i64.wrap (g1 + ((rows1.length : Int) + 1)) = g1 + rows1.length + 1 := by rw [IntWalk.i64_in _ ⟨by omega, by omega⟩]; omega
            clear hraw hkept hsub o1 v1 HR hokr
            go_wp2
            go_still_tail 15, (by kernel_rfl)
            change wpList _ _ _ _ _ wc.drew
            go_wp2_with (at_mapUpdate; refine wpList_mapUpdate_own _ rfl _ _ _ 78 rfl 85 3 lawRow Try.underlying78 _ mb _ D1 rfl HD.out (by unfold maxLen; omega) _ _ (rowKey r) rfl rfl (rowKey_ok HOKR.out) (num _) [] (plainElem_int Try.underlying3 (WalkArith.wf_i64 (by omega))) ?_; intro w1 hown1 hgrow1)
            obtain ⟨D2, o2, v2⟩ := HRW.out.1.name
            have hne := HRW.out.1.ne
            have hr8 := (HRW.out.1.keep (w' := wc.drew) (fun _ _ => rfl)).newBoth hgrow1 hown1 (HV.out.put (HD.out.tidy lawRow) rowKey_lit rowKey_ne HOKR.out (g1 + rows1.length + 1)) (Nat.le_succ N)
            have o2k := (World.ownsMap.drew o2).kept hgrow1 (by simpa using Ne.symm hne.2.2)
            have hxmb : x ≠ mb := fun e => HXF.out (.inr (.inl e))
            have hx1 : w1.heap[x]? = wc.heap[x]? := hgrow1.block x hxl (by simpa using hxmb)
            have z0 := (World.cell?_of_block (a := ⟨x, 0, none⟩) hx1).trans x0
            have z1 := (World.cell?_of_block (a := ⟨x, 1, none⟩) hx1).trans x1
            obtain ⟨b0, b1, b2, b3, b4, b5⟩ := hr8.cells
            have hk8 : Kept (foot g mb mn A) w w1 := HRW.out.2.1.drew.grown hgrow1 (fun k hk => by cases hk; exact .inl (.inr (.inl rfl)))
            have H8 := Lib.hid (And.intro hr8 hk8)
            have HD2 := Lib.hid o2k
            have HV2 := Lib.hid v2
            clear hr8 o2 o2k v2 hne hown1 hgrow1 hx1 hk8 c0 c1 c2 c3 c4 c5 x0 x1
            go_wp2
            go_still_tail 16, (by kernel_rfl)
            change wpList _ _ _ _ _ w1.drew
            go_wp2_with (at_mapUpdate; refine wpList_mapUpdate_own _ rfl _ _ _ 79 rfl 9 3 lawStr Try.underlying79 _ mn _ D2 rfl HD2.out (by unfold maxLen; omega) _ _ (strKey r.1) rfl rfl (strKey_ok HOKR.out.1) (num _) [] (plainElem_int Try.underlying3 (WalkArith.wf_i64 (by omega))) ?_; intro w2 hown2 hgrow2)
            go_end0
            rw [HADD.out]
            have hr9 := (H8.out.1.keep (w' := w1.drew) (fun _ _ => rfl)).newName hgrow2 hown2 (HV2.out.put (HD2.out.tidy lawStr) strKey_lit strKey_ne HOKR.out.1 (g1 + rows1.length + 1)) (Nat.le_refl _)
            have hsum : sumc (rows1 ++ [r]) = sumc rows1 + cr := by
              rw [← HCR.out]
              unfold sumc
              simp
            refine ⟨rfl, foot g mb mn A3, ⟨mb, mn, A3, c3', rfl, TM.of ⟨?_, ?_, hg10, ?_, hN, ?_⟩ hm0 hm1 (by omega)⟩, H8.out.2.drew.grown hgrow2 (fun k hk => by cases hk; exact .inl (.inr (.inr (.inl rfl)))), fun k hk => HRW.out.2.2.foot hk⟩
            · rw [hsum, List.map_append]
              refine hr9.congr (fun r' _ => ?_) (fun s _ => ?_)
              · rw [pos_snoc]
              · rw [show List.map (fun x => x.fst) [r] = [r.1] from rfl, pos_snoc, List.length_map]
            · intro r' hr'
              rcases List.mem_append.1 hr' with h | h
              · exact HTB.out.1.2.1 r' h
              · rw [List.mem_singleton.1 h]; exact HOKR.out
            · rw [List.length_append]; simp; omega
            · rw [hsum]; omega
end Go.Proofs.Ythpieiipddfpjaa

/- The walk of drawbridgeref04.Resize. -/
namespace Go.Proofs.Ythpieiipddfpjaa
open Go.RowKit

section
variable {P : Program} {w : World}
/-- append as one step of a region that draws. -/
theorem step_app {ops : Array Oper} {o : Oper} {a : Act} {K : Act → World → Prop} {Q : Exit → Act → World → Prop} {E : Prop} (s x : Operand) {t e : TypeId} {z : Value} {size bytes : Nat} (hT : SlT P t e z size bytes)
    (hgd : o.guard = none) (ho : o.op = .call { callee := .builtin .append, args := #[s, x], argTypes := #[t, t] })
    {base : Nat} {v : Value} {n : Nat} {xs : List Value} (hown : w.ownsRow base e size v n xs) (hs : a.eval s = v)
    {B : Nat} {A : Option Addr} {m c : Nat} {news : List Value} (hr : Rd w B size A m news) (hx : a.eval x = .slice A m c) (h1 : ∀ u ∈ news, u.oneCell' = true)
    (h63 : n + m ≤ maxLen) (hbytes : (n + m) * bytes ≤ 140737488355328) (hbase : base ≤ w.heap.size)
    (h : ∀ v' w', w'.ownsRow base e size v' (n + m) (xs ++ news) → w.grownBy w' v.ownBlock → (v'.ownBlock = v.ownBlock ∨ v'.ownBlock = some w.heap.size) → K (a.put o.dst v') w') :
    if Region.wanted o (yielded ops a.tmps) = true then Oper.wp P o a w K Q else E := by
  have hw : Region.wanted o (yielded ops a.tmps) = true := by simp [Region.wanted, hgd]
  rw [if_pos hw]
  obtain ⟨v', w', hrun, h2, h3, h4⟩ := run_app (P := P) o.type hT hown hr (c := c) h1 h63 hbytes hbase
  unfold Oper.wp execOp
  simp only [ho, resolve, invoke, builtin, Sem.run_bind, Sem.run_pure, Result.andThen_ok, List.map_toArray, List.map_cons, List.map_nil, hs, hx, hrun]
  exact h v' w' h2 h3 h4
end
theorem own_new (w : World) (B size : Nat) (e : TypeId) (hB : B ≤ w.heap.size) : (w.alloc (.cells #[] e)).ownsRow B e size (.slice (some ⟨w.heap.size, 0, none⟩) 0 0) 0 [] :=
  ⟨by simp, .inr ⟨_, 0, #[], rfl, hB, heapNew _ _, Nat.le_refl _, Nat.zero_le _, by simp, by simp⟩⟩
/-- The first n of a row. -/
theorem Rd.pre {w : World} {B size n m : Nat} {A : Option Addr} {xs : List Value} (h : Rd w B size A n xs) (hm : m ≤ n) : Rd w B size A m (xs.take (m * size)) := by
  have hmm : m * size ≤ n * size := Nat.mul_le_mul_right _ hm
  refine ⟨by rw [List.length_take, h.1]; omega, fun h0 => ?_⟩
  obtain ⟨b, o, hA, hb, hc⟩ := h.2 (by omega)
  refine ⟨b, o, hA, hb, fun j hj => ?_⟩
  rw [hc j (by omega), List.getElem?_take, if_pos hj]
theorem fcs_pre (M : List Rw) (r : Rw) : (fcs (M ++ [r])).take (M.length * 3) = fcs M := by
  rw [fcs_app, ← fcs_length M, List.take_left]
/-- A new row of its own is the table's from now on. -/
theorem RT.store {w w4 : World} {g c c4 : Nat} {A A4 : Option Addr} {most : Int} {rows rows' : List Rw} {base : Nat} (h : RT w g A c most rows) (hg : w4.heap[g]? = w.heap[g]?)
    (hl : w4.ownsRow base 24 3 (.slice A4 rows'.length c4) rows'.length (fcs rows'.reverse)) (hb : ∀ a, A4 = some a → a.block ≠ g) :
    RT (w4.setCell ⟨g, 1, none⟩ (.slice A4 rows'.length c4)) g A4 c4 most rows' := by
  refine ⟨?_, (Lies.of_own hl).keep fun q hq => Below.heap_setCell _ _ _ _ (fun e => ?_), hb⟩
  · simp only [World.setCell, Array.getElem?_modify, if_true]
    rw [hg, h.book]; rfl
  · cases A4 with
    | none => cases hq
    | some a => simp only [Value.ownBlock, Option.some.injEq] at hq; exact hb a rfl (hq.trans e)
def RStep (W : World) (g : Nat) (F : Nat → Prop) (most : Int) (rows : List Rw) (e : Ending) (w' : World) : Prop :=
  e = .returned (.tuple #[]) ∧ ∃ F', RIs w' g F' most rows ∧ Kept F W w' ∧ Grew W F F'
def RShRel (W : World) (g : Nat) (F : Nat → Prop) (m : Int) (rows0 : List Rw) (k : Nat) (wr : World) : Prop :=
  ∃ F1 g1 rows, RIs wr g F1 m rows ∧ Kept F W wr ∧ Grew W F F1 ∧ shrunk m 0 rows0 = shrunk m g1 rows ∧ Small rows ∧ k = rows.length
theorem Small.tail {r : Rw} {l : List Rw} (h : Small (r :: l)) : Small l := ⟨by have := h.1; rw [sumc_cons] at this; have := cost; unfold Small at h; omega, fun r' hr => h.2 r' (List.mem_cons_of_mem _ hr)⟩

set_option maxRecDepth 100000 in
set_option maxHeartbeats 4000000 in
theorem rresize_any {g : Nat} {F : Nat → Prop} {most : Int} {rows : List Rw} (m : Int) (w : World) (h : RIs w g F most rows) (hs : Small rows) (hm : 0 ≤ m) :
    Calls Try.prog 44 #[.pointer (some ⟨g, 0, none⟩), .int .i64 m] w (RStep w g F m (shrunk m 0 rows).2) := by
  obtain ⟨A, c, rfl, ht⟩ := h
  have hf0 := ht.free 0
  obtain ⟨c0, -⟩ := ht.cells
  have H := Lib.hid ht
  have HS := Lib.hid hs
  clear ht hs
  go_enter Try.func44, Try.ntmps44
  go_wp2
  go_loopg [9] rows.length (fun k _ wr => RShRel w g (rfoot g A) m rows k wr)
  case atStart => exact ⟨rfoot g A, 0, rows, ⟨A, c, rfl, H.out.setMost m⟩, (Kept.refl _ _).setCell (.inl rfl) _ _, Grew.refl _ _, rfl, HS.out, rfl⟩
  case round =>
    obtain ⟨F1, g1, rows1, hris, hkept, hgrew, hsh, hsm, hk⟩ := hrel
    have hl := hsm.len
    have HC := Lib.hid (rsize_any wr hris hsm)
    have HR := Lib.hid (And.intro hris (And.intro hkept (And.intro hgrew (And.intro hsh (And.intro hsm hk)))))
    have hss := sumc_nonneg rows1
    clear hris hkept hgrew hsh hsm hk
    by_cases hbig : m < sumc rows1
    · cases rows1 with
      | nil => exact absurd hbig (by unfold sumc; simp; omega)
      | cons r l =>
        go_wp2_with fail
        refine HC.out.mono ?_
        rintro e w1 ⟨rfl, hb1⟩
        obtain ⟨A1, c1', hF1, hrt⟩ := HR.out.1.below hb1
        have HB1 := Lib.hid hb1
        have HRT := Lib.hid hrt
        have HF1 := Lib.hid hF1
        obtain ⟨-, d1⟩ := hrt.cells
        have hfz := hrt.free 1
        have hgl := hrt.lt g (.inl rfl)
        have hrd := ((hrt.row.rd rfl).pre (m := l.length) (by simp))
        rw [List.reverse_cons, ← List.length_reverse, fcs_pre, List.length_reverse] at hrd
        have HRD := Lib.hid hrd
        obtain ⟨A', c', hv, hnc, hcm, -⟩ := hrt.row.form
        injection hv with e1 e2 e3
        subst e1 e3
        simp only [List.length_cons] at d1 hnc hl
        clear hb1 hrt hF1 hrd
        have s1 : IntKind.i64.wrap (l.length : Int) = (l.length : Int) := by rw [IntWalk.i64_in _ ⟨by omega, by omega⟩]
        have hnc2 : (l.length : Int) ≤ (c1' : Int) := by omega
        go_upto_region 2 with fail
        go_region_law (first
          | (refine step_app (.tmp 13) (.tmp 24) tFields rfl rfl (own_new w1 w1.heap.size 3 _ (Nat.le_refl _)) rfl (HRD.out.alloc (Nat.le_refl _) _) rfl (fcs_one _) (le_maxLen (by omega)) (by omega) (by simp) ?_; intro v4 w4 hown4 hg4 hb4; obtain ⟨A4, c4, rfl, -, -, -, hbase⟩ := own_slice hown4; have hg5 : w4.heap[g]? = w1.heap[g]? := (hg4.block g (by simp; omega) (by simp [Value.ownBlock]; omega)).trans (Below.heap_alloc w1 _ g hgl); have m1 : w4.cell? ⟨g, 1, none⟩ = some (.slice A1 (l.length + 1) c1') := (World.cell?_of_block (a := ⟨g, 1, none⟩) hg5).trans d1; have mf : w4.frozen? ⟨g, 1, none⟩ = false := (World.frozen?_of_block (a := ⟨g, 1, none⟩) hg5).trans hfz; have H5 := Lib.hid (And.intro hown4 (And.intro hg4 (And.intro hbase hg5))); clear hown4 hg4 hbase hg5 hb4))
        all_goals
          go_wp2_with fail
          go_roundg l.length
          case measure => have := HR.out.2.2.2.2.2; simp at this; omega
          case rel =>
            obtain ⟨hown4, hg4, hbase, hg5⟩ := H5.out
            obtain ⟨hris, hkept, hgrew, hsh, hsm, hk⟩ := HR.out
            simp only [Nat.zero_add, List.nil_append] at hown4 ⊢
            have hsz1 := HB1.out.size
            have hszw := hkept.size
            refine ⟨rfoot g A4, g1 + 1, l, ⟨A4, c4, rfl, HRT.out.store hg5 hown4 (fun a ha => by have := hbase a ha; omega)⟩, ?_, ?_, ?_, hsm.tail, rfl⟩
            · refine Kept.setCell (Kept.grown ((hkept.same (Kept.of_below HB1.out)).alloc _).drew hg4 (fun k hk => .inr ?_)) (.inl rfl) _ _
              simp [Value.ownBlock] at hk
              omega
            · intro k hk
              rcases hk with rfl | ⟨a, ha, rfl⟩
              · exact .inl (.inl rfl)
              · exact .inr (by have := hbase a ha; omega)
            · rw [hsh]; exact shrunk_go hbig
    · have hle : sumc rows1 ≤ m := by omega
      go_wp2_with fail
      refine HC.out.mono ?_
      rintro e w1 ⟨rfl, hb1⟩
      have HB1 := Lib.hid hb1
      clear hb1
      go_wp2
      go_end0
      obtain ⟨hris, hkept, hgrew, hsh, hsm, hk⟩ := HR.out
      refine ⟨rfl, F1, ?_, hkept.same (Kept.of_below HB1.out), hgrew⟩
      rw [hsh, shrunk_stop hle]
      exact hris.below HB1.out
end Go.Proofs.Ythpieiipddfpjaa

/- The walk of drawbridgeref04.Add. -/
namespace Go.Proofs.Ythpieiipddfpjaa
open Go.RowKit

theorem own_one (w : World) (B : Nat) (e : TypeId) (a b c : Value) (hB : B ≤ w.heap.size) : (w.alloc (.cells #[a, b, c] e)).ownsRow B e 3 (.slice (some ⟨w.heap.size, 0, none⟩) 1 1) 1 [a, b, c] :=
  ⟨by simp, .inr ⟨_, 1, #[a, b, c], rfl, hB, heapNew _ _, Nat.le_refl _, by unfold maxLen; omega, by simp, by simp⟩⟩
/-- Behind a test: the fields' cells stand. -/
def RAddMid (W : World) (g : Nat) (A : Option Addr) (c : Nat) (most : Int) (rows : List Rw) (q : Nat) (f : Rw) (b : Bool) (v : Value) (wx : World) : Prop :=
  v = .bool b ∧ RT wx g A c most rows ∧ Below W.heap.size W wx ∧ wx.cell? ⟨q, 0, none⟩ = some (.string f.1) ∧ wx.cell? ⟨q, 1, none⟩ = some (.string f.2) ∧ (∃ nv, wx.cell? ⟨q, 2, none⟩ = some (.bool nv)) ∧ q < wx.heap.size
def RAddRel (W : World) (g : Nat) (F : Nat → Prop) (most m : Int) (rows0 : List Rw) (q : Nat) (f : Rw) (nv : Bool) (k : Nat) (wr : World) : Prop :=
  ∃ F1 g1 rows, RIs wr g F1 most rows ∧ Kept F W wr ∧ Grew W F F1 ∧ shrunk m 0 rows0 = shrunk m g1 rows ∧ Small rows ∧ k = rows.length ∧
    wr.cell? ⟨q, 0, none⟩ = some (.string f.1) ∧ wr.cell? ⟨q, 1, none⟩ = some (.string f.2) ∧ wr.cell? ⟨q, 2, none⟩ = some (.bool nv) ∧ q < wr.heap.size ∧ ¬ F1 q

def BoolIs (v : Value) (d : Bool) : Prop := ∃ b, v = .bool b ∧ b = d
def raddR (most : Int) (rows : List Rw) (f : Rw) : List Rw := if most < (cost f : Int) then [] else (shrunk (most - cost f) 0 rows).2 ++ [f]
set_option maxRecDepth 100000 in
set_option maxHeartbeats 4000000 in
theorem radd_any {g : Nat} {F : Nat → Prop} {most : Int} {rows : List Rw} (f : Rw) (nv : Bool) (w : World) (h : RIs w g F most rows) (hs : Small rows) (hf1 : f.1.size ≤ 1099511627776) (hf2 : f.2.size ≤ 1099511627776) (hm0 : 0 ≤ most) (hm1 : most ≤ 65536) :
    Calls Try.prog 43 #[.pointer (some ⟨g, 0, none⟩), .agg #[.string f.1, .string f.2, .bool nv]] w (RStep w g F most (raddR most rows f)) := by
  obtain ⟨A, c, rfl, ht⟩ := h
  have hcost : (cost f : Int) = f.1.size + f.2.size + 32 := by unfold cost; omega
  obtain ⟨cr, hcr⟩ : ∃ cr : Int, (cost f : Int) = cr := ⟨_, rfl⟩
  have hcr0 : 32 ≤ cr := by omega
  have hcr1 : cr ≤ 4398046511104 := by omega
  have HCR := Lib.hid hcr
  have hgl := ht.lt g (.inl rfl)
  obtain ⟨W0, hW0⟩ : ∃ W0, w.alloc (.cells #[.string f.1, .string f.2, .bool nv] 24) = W0 := ⟨_, rfl⟩
  obtain ⟨q, hq⟩ : ∃ q, w.heap.size = q := ⟨_, rfl⟩
  have b0 : Below w.heap.size w W0 := by rw [← hW0]; exact (Below.refl _ _).alloc (Nat.le_refl _) _
  have x0 : W0.cell? ⟨q, 0, none⟩ = some (.string f.1) := by rw [← hW0, ← hq]; exact World.cell?_alloc_at _ _ _ _ rfl
  have x1 : W0.cell? ⟨q, 1, none⟩ = some (.string f.2) := by rw [← hW0, ← hq]; exact World.cell?_alloc_at _ _ _ _ rfl
  have x2 : W0.cell? ⟨q, 2, none⟩ = some (.bool nv) := by rw [← hW0, ← hq]; exact World.cell?_alloc_at _ _ _ _ rfl
  have hql : q < W0.heap.size := by rw [← hW0, ← hq]; simp
  have hg0 : g < W0.heap.size := by have := b0.size; omega
  have ht0 : RT W0 g A c most rows := ht.keep fun k hk => b0.block k (ht.lt k hk)
  have hqf : ¬ rfoot g A q := fun hf => by have := ht.lt q hf; omega
  have H0 := Lib.hid (And.intro ht0 (And.intro b0 hqf))
  have HW0 := Lib.hid hW0
  have HQ := Lib.hid hq
  have HS := Lib.hid hs
  obtain ⟨c0, -⟩ := ht0.cells
  clear hcost hcr hW0 hq b0 ht0 hqf hs ht
  go_enter Try.func43, Try.ntmps43
  go_upto_region 1 with fail
  rw [HW0.out, HQ.out]
  go_cut [10] (fun v wx => BoolIs v (decide (most < cr)) ∧ Below W0.heap.size W0 wx)
  case first =>
    go_region_held3 (fun w' => w'.cell? ⟨g, 0, none⟩ = some (.int .i64 most) ∧ w'.cell? ⟨q, 0, none⟩ = some (.string f.1) ∧ w'.cell? ⟨q, 1, none⟩ = some (.string f.2) ∧ w'.cell? ⟨q, 2, none⟩ = some (.bool nv))
      (go_keep)
      (first
        | (go_at_call 27; refine (cost_ref f nv _ (by omega) (by omega)).mono ?_; rintro e w2 ⟨rfl, rfl⟩; rw [HCR.out]))
    all_goals
      go_wp2_with fail
      go_meet
      exact ⟨⟨_, rfl, rfl⟩, ((Below.refl _ _).alloc (Nat.le_refl _) _).drew⟩
  case rest =>
    obtain ⟨⟨b0, rfl, hbd⟩, hb⟩ := hcut
    have HB := Lib.hid hb
    have hrt : RT wc g A c most rows := H0.out.1.keep fun k hk => hb.block k (H0.out.1.lt k hk)
    have hf1z := hrt.free 1
    obtain ⟨d0, d1⟩ := hrt.cells
    have HRT := Lib.hid hrt
    have y0 := (hb.cell (p := ⟨q, 0, none⟩) hql).trans x0
    have y1 := (hb.cell (p := ⟨q, 1, none⟩) hql).trans x1
    have y2 := (hb.cell (p := ⟨q, 2, none⟩) hql).trans x2
    have hk0 : Hid (Kept (rfoot g A) w wc) := Lib.hid ((Kept.of_below H0.out.2.1).same (Kept.of_below hb))
    have hqc : q < wc.heap.size := Nat.lt_of_lt_of_le hql hb.size
    clear hb hrt x0 x1 x2 c0
    by_cases hbig : most < cr
    · obtain rfl : b0 = true := by rw [hbd]; simpa using hbig
      clear hbd
      have HP := Lib.hid (show raddR most rows f = [] from if_pos (by rw [HCR.out]; exact hbig))
      go_wp2
      refine bodyPost_ret (v := .tuple #[]) (by simp [results, Try.results43, go_sem]) rfl ?_
      rw [HP.out]
      refine ⟨rfl, rfoot g none, ⟨none, 0, rfl, HRT.out.store (A4 := none) (c4 := 0) (rows' := []) rfl (base := 0) ⟨rfl, .inl ⟨rfl, rfl⟩⟩ (fun a ha => by cases ha)⟩, hk0.out.setCell (.inl rfl) _ _, fun k hk => ?_⟩
      rcases hk with rfl | ⟨a, ha, _⟩
      · exact .inl (.inl rfl)
      · cases ha
    · obtain rfl : b0 = false := by rw [hbd]; simpa using hbig
      clear hbd
      have hle : cr ≤ most := by omega
      have HP := Lib.hid (show raddR most rows f = (shrunk (most - cr) 0 rows).2 ++ [f] by unfold raddR; rw [if_neg (by rw [HCR.out]; exact hbig), HCR.out])
      clear hbig
      go_wp2
      go_loopg [23] rows.length (fun k _ wr => RAddRel w g (rfoot g A) most (most - cr) rows q f nv k wr)
      case atStart => exact ⟨rfoot g A, 0, rows, ⟨A, c, rfl, HRT.out⟩, hk0.out, Grew.refl _ _, rfl, HS.out, rfl, y0, y1, y2, hqc, H0.out.2.2⟩
      case round =>
        obtain ⟨F1, g1, rows1, hris, hkept, hgrew, hsh, hsm, hk, z0, z1, z2, hqr, hqF⟩ := hrel
        have hl := hsm.len
        have hss := sumc_nonneg rows1
        have hsu := hsm.1
        obtain ⟨A1, c1, hF1, hrt1⟩ := hris
        obtain ⟨e0, e1⟩ := hrt1.cells
        have hgr := hrt1.lt g (.inl rfl)
        have HC := Lib.hid (fun (w' : World) (hw : w'.heap = wr.heap) => rsize_any w' (show RIs w' g F1 most rows1 from ⟨A1, c1, hF1, hrt1.keep fun _ _ => by rw [hw]⟩) hsm)
        have HR := Lib.hid (And.intro hF1 (And.intro hrt1 (And.intro hkept (And.intro hgrew (And.intro hsh (And.intro hsm (And.intro hk hqF)))))))
        clear hF1 hrt1 hkept hgrew hsh hsm hk hqF hk0 y0 y1 y2 d0 d1 hf1z HB HRT hqc
        go_upto_region 3 with fail
        go_cut [23] (fun v wx => BoolIs v (decide (most < sumc rows1 + cr)) ∧ Below wr.heap.size wr wx)
        case first =>
          have s1 : IntKind.i64.wrap (sumc rows1 + cr) = sumc rows1 + cr := by rw [IntWalk.i64_in _ ⟨by omega, by omega⟩]
          go_region_held3 (fun w' => w'.cell? ⟨g, 0, none⟩ = some (.int .i64 most) ∧ w'.cell? ⟨q, 0, none⟩ = some (.string f.1) ∧ w'.cell? ⟨q, 1, none⟩ = some (.string f.2) ∧ w'.cell? ⟨q, 2, none⟩ = some (.bool nv))
            (first | go_keep | exact ⟨k0, k1, k2, k3⟩)
            (first
              | (go_at_call 22; refine (HC.out _ (by rfl)).mono ?_; rintro e w2 ⟨rfl, hb2⟩; have k0 := (hb2.cell (p := ⟨g, 0, none⟩) hgr).trans e0; have k1 := (hb2.cell (p := ⟨q, 0, none⟩) hqr).trans z0; have k2 := (hb2.cell (p := ⟨q, 1, none⟩) hqr).trans z1; have k3 := (hb2.cell (p := ⟨q, 2, none⟩) hqr).trans z2; have hgw : g < w2.heap.size := Nat.lt_of_lt_of_le hgr hb2.size; have hqw : q < w2.heap.size := Nat.lt_of_lt_of_le hqr hb2.size; have HB2 := Lib.hid hb2; have hsz2 : wr.heap.size ≤ w2.heap.size := hb2.size; clear hb2)
              | (go_at_call 27; refine (cost_ref f nv _ (by omega) (by omega)).mono ?_; rintro e w3 ⟨rfl, rfl⟩; rw [HCR.out]))
          all_goals
            go_wp2_with fail
            go_meet
            first
              | exact ⟨⟨_, rfl, rfl⟩, (((Below.refl _ _).drew.trans HB2.out).alloc hsz2 _)⟩
              | exact ⟨⟨_, rfl, rfl⟩, (((Below.refl _ _).drew.trans HB2.out).alloc hsz2 _).drew⟩
        case rest =>
          obtain ⟨⟨b1, rfl, hbd⟩, hb1⟩ := hcut
          have hrt := HR.out.2.1.keep (w' := wc) (fun k hk => hb1.block k (HR.out.2.1.lt k hk))
          have HB1 := Lib.hid hb1
          have HRT := Lib.hid hrt
          obtain ⟨-, d1⟩ := hrt.cells
          have hfz := hrt.free 1
          have hgl1 := hrt.lt g (.inl rfl)
          have v0 := (hb1.cell (p := ⟨q, 0, none⟩) hqr).trans z0
          have v1 := (hb1.cell (p := ⟨q, 1, none⟩) hqr).trans z1
          have v2 := (hb1.cell (p := ⟨q, 2, none⟩) hqr).trans z2
          have hqc : q < wc.heap.size := Nat.lt_of_lt_of_le hqr hb1.size
          have HV := Lib.hid (And.intro v0 (And.intro v1 v2))
          clear e0 e1 z0 z1 z2 hb1 HC
          by_cases hbig : most - cr < sumc rows1
          · obtain rfl : b1 = true := by rw [hbd]; simp; omega
            clear hbd
            cases rows1 with
            | nil => exact absurd hbig (by unfold sumc; simp; omega)
            | cons r l =>
              have hrd := ((hrt.row.rd rfl).pre (m := l.length) (by simp))
              rw [List.reverse_cons, ← List.length_reverse, fcs_pre, List.length_reverse] at hrd
              have HRD := Lib.hid hrd
              obtain ⟨A', c', hv, hnc, hcm, -⟩ := hrt.row.form
              injection hv with e1 e2 e3
              subst e1 e3
              simp only [List.length_cons] at d1 hnc hl
              clear hrt hrd
              have s1 : IntKind.i64.wrap (l.length : Int) = (l.length : Int) := by rw [IntWalk.i64_in _ ⟨by omega, by omega⟩]
              have hnc2 : (l.length : Int) ≤ (c1 : Int) := by omega
              go_upto_region 4 with fail
              go_region_law (first
                | (refine step_app (.tmp 25) (.tmp 36) tFields rfl rfl (own_new wc wc.heap.size 3 _ (Nat.le_refl _)) rfl (HRD.out.alloc (Nat.le_refl _) _) rfl (fcs_one _) (le_maxLen (by omega)) (by omega) (by simp) ?_; intro v4 w4 hown4 hg4 hb4; obtain ⟨A4, c4, rfl, -, -, -, hbase⟩ := own_slice hown4; have hg5 : w4.heap[g]? = wc.heap[g]? := (hg4.block g (by simp; omega) (by simp [Value.ownBlock]; omega)).trans (Below.heap_alloc wc _ g hgl1); have m1 : w4.cell? ⟨g, 1, none⟩ = some (.slice A1 (l.length + 1) c1) := (World.cell?_of_block (a := ⟨g, 1, none⟩) hg5).trans d1; have mf : w4.frozen? ⟨g, 1, none⟩ = false := (World.frozen?_of_block (a := ⟨g, 1, none⟩) hg5).trans hfz; have hq5 : w4.heap[q]? = wc.heap[q]? := (hg4.block q (by simp; omega) (by simp [Value.ownBlock]; omega)).trans (Below.heap_alloc wc _ q hqc); have H5 := Lib.hid (And.intro hown4 (And.intro hg4 (And.intro hbase (And.intro hg5 hq5)))); clear hown4 hg4 hbase hg5 hb4 hq5))
              all_goals
                go_wp2_with fail
                go_roundg l.length
                case measure => have := HR.out.2.2.2.2.2.2.1; simp at this; omega
                case rel =>
                  obtain ⟨hown4, hg4, hbase, hg5, hq5⟩ := H5.out
                  obtain ⟨hF1, hrt1, hkept, hgrew, hsh, hsm, hk, hqF⟩ := HR.out
                  simp only [Nat.zero_add, List.nil_append] at hown4 ⊢
                  have hsz1 := HB1.out.size
                  have hszw := hkept.size
                  have hszg := hg4.size
                  have hqg : q ≠ g := fun e => hqF (hF1 ▸ .inl e)
                  have hqx : ∀ o v, (w4.setCell ⟨g, 1, none⟩ v).cell? ⟨q, o, none⟩ = wc.cell? ⟨q, o, none⟩ := fun o v =>
                    (World.cell?_of_block (a := ⟨q, o, none⟩) (Below.heap_setCell _ _ _ _ (by simpa using hqg))).trans (World.cell?_of_block (a := ⟨q, o, none⟩) hq5)
                  refine ⟨rfoot g A4, g1 + 1, l, ⟨A4, c4, rfl, HRT.out.store hg5 hown4 (fun a ha => by have := hbase a ha; omega)⟩, ?_, ?_, ?_, hsm.tail, rfl, (hqx 0 _).trans HV.out.1, (hqx 1 _).trans HV.out.2.1, (hqx 2 _).trans HV.out.2.2, by simp at hszg; simp [World.setCell]; omega, ?_⟩
                  · refine Kept.setCell (Kept.grown ((hkept.same (Kept.of_below HB1.out)).alloc _).drew hg4 (fun k hk => .inr ?_)) (.inl rfl) _ _
                    simp [Value.ownBlock] at hk
                    omega
                  · intro k hk
                    rcases hk with rfl | ⟨a, ha, rfl⟩
                    · exact .inl (.inl rfl)
                    · exact .inr (by have := hbase a ha; omega)
                  · rw [hsh]; exact shrunk_go hbig
                  · rintro (e | ⟨a, ha, e⟩)
                    · exact hqg e
                    · have := hbase a ha; omega
          · obtain rfl : b1 = false := by rw [hbd]; simp; omega
            clear hbd
            have hle : sumc rows1 ≤ most - cr := by omega
            have hrd := hrt.row.rd rfl
            have HRD := Lib.hid hrd
            clear hrt hrd
            go_wp2
            go_region_law (first
              | (refine step_app (.tmp 46) (.tmp 50) tFields rfl rfl (own_one wc wc.heap.size _ _ _ _ (Nat.le_refl _)) rfl (HRD.out.alloc (Nat.le_refl _) _) rfl (fcs_one _) (le_maxLen (by omega)) (by omega) (by simp) ?_; intro v4 w4 hown4 hg4 hb4; obtain ⟨A4, c4, rfl, -, -, -, hbase⟩ := own_slice hown4; have hg5 : w4.heap[g]? = wc.heap[g]? := (hg4.block g (by simp; omega) (by simp [Value.ownBlock]; omega)).trans (Below.heap_alloc wc _ g hgl1); have m1 : w4.cell? ⟨g, 1, none⟩ = some (.slice A1 rows1.length c1) := (World.cell?_of_block (a := ⟨g, 1, none⟩) hg5).trans d1; have mf : w4.frozen? ⟨g, 1, none⟩ = false := (World.frozen?_of_block (a := ⟨g, 1, none⟩) hg5).trans hfz; have H5 := Lib.hid (And.intro hown4 (And.intro hg4 (And.intro hbase hg5))); clear hown4 hg4 hbase hg5 hb4))
            all_goals
              go_wp2_with fail
              go_end0
              obtain ⟨hown4, hg4, hbase, hg5⟩ := H5.out
              obtain ⟨hF1, hrt1, hkept, hgrew, hsh, hsm, hk, hqF⟩ := HR.out
              rw [HP.out, hsh, shrunk_stop hle]
              have hsz1 := HB1.out.size
              have hszw := hkept.size
              have e1 : 1 + rows1.length = (rows1 ++ [f]).length := by simp; omega
              have e2 : [Value.string f.1, .string f.2, .bool false] ++ fcs rows1.reverse = fcs (rows1 ++ [f]).reverse := by rw [List.reverse_append]; rfl
              rw [e1] at hown4 ⊢
              rw [e2] at hown4
              refine ⟨rfl, rfoot g A4, ⟨A4, c4, rfl, HRT.out.store hg5 hown4 (fun a ha => by have := hbase a ha; omega)⟩, ?_, ?_⟩
              · refine Kept.setCell (Kept.grown ((hkept.same (Kept.of_below HB1.out)).alloc _).drew hg4 (fun k hk => .inr ?_)) (.inl rfl) _ _
                simp [Value.ownBlock] at hk
                omega
              · intro k hk
                rcases hk with rfl | ⟨a, ha, rfl⟩
                · exact .inl (.inl rfl)
                · exact .inr (by have := hbase a ha; omega)
end Go.Proofs.Ythpieiipddfpjaa
