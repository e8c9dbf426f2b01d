/- The walk of drawbridgeref04.Find. -/
import Derived.Test.YthpieiipddfpjaaFindPlain
import Derived.Test.YthpieiipddfpjaaRTab4
import Derived.Test.YthpieiipddfpjaaRTab2
import Derived.Deep.RegionHeld3
namespace Go.Proofs.Ythpieiipddfpjaa
open Go.RowKit

theorem nearA_succ {L : List Rw} {nm : ByteArray} {k : Nat} {r : Rw} (hr : L[k]? = some r) : nearA (L.take (k + 1)) nm = if nearA (L.take k) nm = 0 then (if r.1 = nm then k + 1 else 0) else nearA (L.take k) nm := by
  have hk : k < L.length := (List.getElem?_eq_some_iff.1 hr).1
  unfold nearA
  rw [List.take_add_one, hr]
  simp only [Option.toList_some, List.findIdx?_append]
  cases hf : (L.take k).findIdx? (fun r => r.1 = nm) with
  | some i => simp
  | none =>
    simp only [Option.none_or]
    by_cases h : r.1 = nm
    · simp [h, List.length_take]; omega
    · simp [h]
theorem nearA_le (L : List Rw) (nm : ByteArray) : nearA L nm ≤ L.length := by
  unfold nearA
  cases hf : L.findIdx? (fun r => r.1 = nm) with
  | some i => have := (List.findIdx?_eq_some_iff_getElem.1 hf).1; simp only; omega
  | none => simp
theorem findA_stat {L : List Rw} {f : Rw} {k : Nat} (hk : L[k]? = some f) (hall : ∀ j r, j < k → L[j]? = some r → r ≠ f) : findA L f = ((k : Int) + 1, true) := by
  have hl : k < L.length := (List.getElem?_eq_some_iff.1 hk).1
  have e : L.findIdx? (fun r => r = f) = some k := by
    rw [List.findIdx?_eq_some_iff_getElem]
    refine ⟨hl, by have := (List.getElem?_eq_some_iff.1 hk).2; simp [this], fun j hj => ?_⟩
    have := hall j (L[j]'(by omega)) hj (List.getElem?_eq_getElem (by omega))
    simpa using this
  unfold findA
  rw [e]
theorem findA_none {L : List Rw} {f : Rw} (hall : ∀ j r, j < L.length → L[j]? = some r → r ≠ f) : findA L f = (((nearA L f.1 : Nat) : Int), false) := by
  have e : L.findIdx? (fun r => r = f) = none := by
    rw [List.findIdx?_eq_none_iff]
    intro r hr
    obtain ⟨j, hj, hq⟩ := List.getElem_of_mem hr
    simpa using hall j r hj (by rw [List.getElem?_eq_getElem hj, hq])
  unfold findA
  rw [e]
theorem own_stat (w : World) : (w.alloc (.cells fstatV.toArray 24)).ownsRow w.heap.size 24 3 (.slice (some ⟨w.heap.size, 0, none⟩) 61 61) 61 (fcs statF) :=
  ⟨by rw [fcs_length, statF_length], .inr ⟨_, 61, fstatV.toArray, rfl, Nat.le_refl _, heapNew _ _, Nat.le_refl _, le_maxLen (by omega), by decide +kernel, by rw [show fstatV = fcs statF from rfl]; exact List.take_of_length_le (by rw [fcs_length, statF_length]; exact Nat.le_refl _)⟩⟩
def FndMid (W : World) (L : List Rw) (v : Value) (wx : World) : Prop := ∃ A c, v = .slice A L.length c ∧ Rd wx wx.heap.size 3 A L.length (fcs L) ∧ Below W.heap.size W wx
def RFndRel (W : World) (L : List Rw) (f : Rw) (nv iv : Value) (wr : World) : Prop :=
  ∃ k : Nat, iv = .int .i64 k ∧ nv = .int .i64 (nearA (L.take k) f.1 : Nat) ∧ k ≤ L.length ∧ (∀ j r, j < k → L[j]? = some r → r ≠ f) ∧ Below W.heap.size W wr
set_option maxRecDepth 100000 in
set_option maxHeartbeats 4000000 in
theorem rfind_any {g : Nat} {F : Nat → Prop} {most : Int} {rows : List Rw} (f : Rw) (nv : Bool) (w : World) (h : RIs w g F most rows) (hs : Small rows) :
    Calls Try.prog 18 #[.pointer (some ⟨g, 0, none⟩), .agg #[.string f.1, .string f.2, .bool nv]] w (FindPost w (findA (statF ++ rows.reverse) f)) := by
  obtain ⟨W0, hW0⟩ : ∃ W0, w.alloc (.cells #[.string f.1, .string f.2, .bool nv] 24) = W0 := ⟨_, rfl⟩
  obtain ⟨p, hp⟩ : ∃ p, w.heap.size = p := ⟨_, rfl⟩
  have b0 : Below w.heap.size w W0 := by rw [← hW0]; exact (Below.refl _ _).alloc (Nat.le_refl _) _
  have f0 : W0.cell? ⟨p, 0, none⟩ = some (.string f.1) := by rw [← hW0, ← hp]; exact World.cell?_alloc_at _ _ _ _ rfl
  have f1 : W0.cell? ⟨p, 1, none⟩ = some (.string f.2) := by rw [← hW0, ← hp]; exact World.cell?_alloc_at _ _ _ _ rfl
  have hpl : p < W0.heap.size := by rw [← hW0, ← hp]; simp
  have hl := hs.len
  obtain ⟨A, c, rfl, hrt⟩ := h.below b0
  obtain ⟨-, c1⟩ := hrt.cells
  have HRD := Lib.hid (hrt.row.rd rfl)
  have hgl := hrt.lt g (.inl rfl)
  obtain ⟨L, hL⟩ : ∃ L, statF ++ rows.reverse = L := ⟨_, rfl⟩
  have hLl : L.length = 61 + rows.length := by rw [← hL]; simp [statF_length]
  have HL := Lib.hid hL
  have HLL := Lib.hid hLl
  have HB0 := Lib.hid b0
  have HW0 := Lib.hid hW0
  have HP := Lib.hid hp
  have HZ := Lib.hid (And.intro f0 f1)
  rw [hL]
  clear hW0 hp b0 hrt h hs hL hLl f0 f1
  go_enter Try.func18, Try.ntmps18
  go_upto_region 2 with fail
  rw [HW0.out, HP.out]
  go_cut [6] (fun v wx => FndMid W0 L v wx)
  case first =>
    go_region_held3 (fun w' => w'.cell? ⟨g, 1, none⟩ = some (.slice A rows.length c))
      (first | go_keep | exact k0)
      (first
        | (go_at_call 47; refine (static_any _).mono ?_; rintro e w1 ⟨rfl, rfl⟩)
        | (refine step_app (.tmp 9) (.tmp 13) tFields rfl rfl (own_stat W0) rfl (HRD.out.alloc (Nat.le_refl _) _) rfl (fcs_one _) (le_maxLen (by omega)) (by omega) (by simp) ?_; intro v4 w4 hown4 hg4 hb4; obtain ⟨A4, c4, rfl, -, -, hrd4, -⟩ := own_slice hown4; have k0 : w4.cell? ⟨g, 1, none⟩ = some (.slice A rows.length c) := (World.cell?_of_block (a := ⟨g, 1, none⟩) ((hg4.block g (by simp; omega) (by simp [Value.ownBlock]; omega)).trans (Below.heap_alloc W0 _ g hgl))).trans c1; have H4 := Lib.hid (And.intro hown4 (And.intro hg4 hrd4)); clear hown4 hg4 hrd4 hb4))
    all_goals
      go_wp2_with fail
      go_meet
      obtain ⟨hown4, hg4, hrd4⟩ := H4.out
      have hlen : 61 + rows.length = L.length := HLL.out.symm
      rw [← fcs_app, HL.out, hlen] at hrd4
      rw [hlen]
      exact ⟨A4, c4, rfl, hrd4, (((Below.refl _ _).alloc (Nat.le_refl _) _).drew).grown hg4 (by simp [World.drew]) (fun k hk => by simp [Value.ownBlock] at hk; omega)⟩
  case rest =>
    obtain ⟨A4, c4, rfl, hrd, hbel⟩ := hcut
    have f0 := (hbel.cell (p := ⟨p, 0, none⟩) hpl).trans HZ.out.1
    have f1 := (hbel.cell (p := ⟨p, 1, none⟩) hpl).trans HZ.out.2
    have hplc : p < wc.heap.size := Nat.lt_of_lt_of_le hpl hbel.size
    have hll : L.length ≤ 34359738429 := by have := HLL.out; omega
    have HR := Lib.hid hrd
    have HBW := Lib.hid (HB0.out.trans (hbel.mono HB0.out.size))
    have hszw := HBW.out.size
    have HF0 := Lib.hid f0
    have HF1 := Lib.hid f1
    clear hrd hbel c1 hgl HRD hpl f0 f1
    go_wp2
    go_loopw [7, 8] (fun n i wr => RFndRel wc L f n i wr) (fun _ i _ => L.length - (intOf i).toNat)
    case atStart => exact ⟨0, rfl, rfl, by omega, fun j r h => by omega, Below.refl _ _⟩
    case round =>
      obtain ⟨k, rfl, rfl, hk, hall, hbr⟩ := hrel
      have HA := Lib.hid hall
      have HBR := Lib.hid hbr
      have hsr := hbr.size
      have f0 := (hbr.cell (p := ⟨p, 0, none⟩) hplc).trans HF0.out
      have f1 := (hbr.cell (p := ⟨p, 1, none⟩) hplc).trans HF1.out
      have HE : Hid (∀ w', Below wc.heap.size wc w' → Below w.heap.size w w') := Lib.hid fun w' hb => HBW.out.trans (hb.mono hszw)
      clear hall hbr
      by_cases hlt : k < L.length
      · obtain ⟨r, hr⟩ : ∃ r, L[k]? = some r := ⟨_, List.getElem?_eq_getElem hlt⟩
        obtain ⟨b, o, rfl, hb, hc⟩ := (HR.out.below (B0 := wc.heap.size) HBR.out (Nat.le_refl _)).2 (by omega)
        have e := fcs_get hr
        have q0 : wr.cell? ⟨b, o + k * 3, none⟩ = some (.string r.1) := (hc (k * 3) (by omega)).trans e.1
        have q1 : wr.cell? ⟨b, o + k * 3 + 1, none⟩ = some (.string r.2) := (hc (k * 3 + 1) (by omega)).trans e.2.1
        have n1 : (k : Int) < L.length := by omega
        have HNS := Lib.hid (nearA_succ (nm := f.1) hr)
        have HRK := Lib.hid hr
        have hnb : nearA (L.take k) f.1 ≤ L.length := Nat.le_trans (nearA_le _ _) (by rw [List.length_take]; omega)
        obtain ⟨na, hna⟩ : ∃ na, nearA (L.take k) f.1 = na := ⟨_, rfl⟩
        have HNA := Lib.hid hna
        rw [hna] at hnb
        rw [hna]
        clear hc e hr hna
        obtain ⟨ra, rb⟩ := r
        obtain ⟨fa, fb⟩ := f
        simp only at q0 q1 f0 f1
        by_cases hn : ra = fa
        · subst hn
          by_cases hv : rb = fb
          · subst hv
            have HFA := Lib.hid (findA_stat HRK.out HA.out)
            go_wp2
            go_quiet (fail)
            go_wp2
            go_quiet (fail)
            go_wp2
            go_ret2
            rw [HFA.out]
            exact ⟨rfl, HE.out _ (below_dN HBR.out _)⟩
          · have ev : (rb.toList == fb.toList) = false := (Lib.bytes_beq_false_iff rb fb).2 hv
            have HV : Hid ((ra, rb) ≠ (ra, fb)) := Lib.hid fun e => hv (by injection e)
            clear hv
            by_cases hz : na = 0
            · subst hz
              go_wp2
              go_quiet (fail)
              go_wp2
              go_quiet (fail)
              go_wp2
              go_roundw
              case rel => exact ⟨k + 1, by go_num, by rw [HNS.out, HNA.out, if_pos rfl, if_pos trivial]; go_num, by omega, fun j r hj hr => by
                  rcases Nat.lt_succ_iff_lt_or_eq.1 hj with h | h
                  · exact HA.out j r h hr
                  · subst h; rw [HRK.out] at hr; injection hr with hr; rw [← hr]; exact HV.out, below_dN HBR.out _⟩
              case measure => simp [intOf]; omega
            · have ez : ((na : Int) == 0) = false := by rw [beq_eq_false_iff_ne]; omega
              have HZ0 := Lib.hid hz
              clear hz
              go_wp2
              go_quiet (fail)
              go_wp2
              go_quiet (fail)
              go_wp2
              go_roundw
              case rel => exact ⟨k + 1, by go_num, by rw [HNS.out, HNA.out, if_neg HZ0.out], by omega, fun j r hj hr => by
                  rcases Nat.lt_succ_iff_lt_or_eq.1 hj with h | h
                  · exact HA.out j r h hr
                  · subst h; rw [HRK.out] at hr; injection hr with hr; rw [← hr]; exact HV.out, below_dN HBR.out _⟩
              case measure => simp [intOf]; omega
        · have en : (ra.toList == fa.toList) = false := (Lib.bytes_beq_false_iff ra fa).2 hn
          have HN := Lib.hid hn
          clear hn
          go_wp2
          go_quiet (fail)
          go_wp2
          go_roundw
          case rel => exact ⟨k + 1, by go_num, by rw [HNS.out, HNA.out, if_neg HN.out]; split <;> simp_all, by omega, fun j r hj hr => by
              rcases Nat.lt_succ_iff_lt_or_eq.1 hj with h | h
              · exact HA.out j r h hr
              · subst h; rw [HRK.out] at hr; injection hr with hr; rw [← hr]; exact fun e => HN.out (by injection e), below_dN HBR.out _⟩
          case measure => simp [intOf]; omega
      · obtain rfl : k = L.length := by omega
        have HNO := Lib.hid (findA_none HA.out)
        rw [List.take_length]
        go_wp2
        go_ret2
        rw [HNO.out]
        exact ⟨rfl, HE.out _ HBR.out⟩
end Go.Proofs.Ythpieiipddfpjaa
