/- 8 texts in one: HTab3, HTab4, HNew, HRows, FindPlain, RTab5, HEnc1, HEnc2. -/
import Derived.Test.YthpieiipddfpjaaM10
import Derived.Deep.RegionHeld3
import Derived.Deep.DeepCutAuto
import Derived.Deep.QuietTactic
import Derived.BigQuiet
import Derived.Test.YthpieiipddfpjaaM8
import Derived.Test.YthpieiipddfpjaaM5
/- Out of XRTab3: the document's table inside its decoder (printed by gen_htab.py). -/
namespace Go.Proofs.Ythpieiipddfpjaa
open Go.RowKit

variable {X : Value × Value × Value}
/-- Behind a test: the fields' cells stand. -/
def HRAddMid (W : World) (g : Nat) (X : Value × Value × Value) (A : Option Addr) (c : Nat) (most : Int) (rows : List Rw) (q : Nat) (f : Rw) (b : Bool) (v : Value) (wx : World) : Prop :=
  v = .bool b ∧ HT wx g X A c most rows ∧ Below W.heap.size W wx ∧ wx.cell? ⟨q, 0, none⟩ = some (.string f.1) ∧ wx.cell? ⟨q, 1, none⟩ = some (.string f.2) ∧ (∃ nv, wx.cell? ⟨q, 2, none⟩ = some (.bool nv)) ∧ q < wx.heap.size
def HRAddRel (W : World) (g : Nat) (X : Value × Value × Value) (F : Nat → Prop) (most m : Int) (rows0 : List Rw) (q : Nat) (f : Rw) (nv : Bool) (k : Nat) (wr : World) : Prop :=
  ∃ F1 g1 rows, HIs wr g X F1 most rows ∧ Kept F W wr ∧ Grew W F F1 ∧ shrunk m 0 rows0 = shrunk m g1 rows ∧ Small rows ∧ k = rows.length ∧
    wr.cell? ⟨q, 0, none⟩ = some (.string f.1) ∧ wr.cell? ⟨q, 1, none⟩ = some (.string f.2) ∧ wr.cell? ⟨q, 2, none⟩ = some (.bool nv) ∧ q < wr.heap.size ∧ ¬ F1 q

set_option maxRecDepth 100000 in
set_option maxHeartbeats 4000000 in
theorem hradd_any {g : Nat} {F : Nat → Prop} {most : Int} {rows : List Rw} (f : Rw) (nv : Bool) (w : World) (h : HIs w g X F most rows) (hs : Small rows) (hf1 : f.1.size ≤ 1099511627776) (hf2 : f.2.size ≤ 1099511627776) (hm0 : 0 ≤ most) (hm1 : most ≤ 65536) :
    Calls Try.prog 43 #[.pointer (some ⟨g, 2, none⟩), .agg #[.string f.1, .string f.2, .bool nv]] w (HStep w g X F most (raddR most rows f)) := by
  obtain ⟨A, c, rfl, ht⟩ := h
  have hcost : (cost f : Int) = f.1.size + f.2.size + 32 := by unfold cost; omega
  obtain ⟨cr, hcr⟩ : ∃ cr : Int, (cost f : Int) = cr := ⟨_, rfl⟩
  have hcr0 : 32 ≤ cr := by omega
  have hcr1 : cr ≤ 4398046511104 := by omega
  have HCR := Lib.hid hcr
  have hgl := ht.lt g (.inl rfl)
  obtain ⟨W0, hW0⟩ : ∃ W0, w.alloc (.cells #[.string f.1, .string f.2, .bool nv] 24) = W0 := ⟨_, rfl⟩
  obtain ⟨q, hq⟩ : ∃ q, w.heap.size = q := ⟨_, rfl⟩
  have b0 : Below w.heap.size w W0 := by rw [← hW0]; exact (Below.refl _ _).alloc (Nat.le_refl _) _
  have x0 : W0.cell? ⟨q, 0, none⟩ = some (.string f.1) := by rw [← hW0, ← hq]; exact World.cell?_alloc_at _ _ _ _ rfl
  have x1 : W0.cell? ⟨q, 1, none⟩ = some (.string f.2) := by rw [← hW0, ← hq]; exact World.cell?_alloc_at _ _ _ _ rfl
  have x2 : W0.cell? ⟨q, 2, none⟩ = some (.bool nv) := by rw [← hW0, ← hq]; exact World.cell?_alloc_at _ _ _ _ rfl
  have hql : q < W0.heap.size := by rw [← hW0, ← hq]; simp
  have hg0 : g < W0.heap.size := by have := b0.size; omega
  have ht0 : HT W0 g X A c most rows := ht.keep fun k hk => b0.block k (ht.lt k hk)
  have hqf : ¬ rfoot g A q := fun hf => by have := ht.lt q hf; omega
  have H0 := Lib.hid (And.intro ht0 (And.intro b0 hqf))
  have HW0 := Lib.hid hW0
  have HQ := Lib.hid hq
  have HS := Lib.hid hs
  obtain ⟨c0, -⟩ := ht0.cells
  clear hcost hcr hW0 hq b0 ht0 hqf hs ht
  go_enter Try.func43, Try.ntmps43
  go_upto_region 1 with fail
  rw [HW0.out, HQ.out]
  go_cut [10] (fun v wx => BoolIs v (decide (most < cr)) ∧ Below W0.heap.size W0 wx)
  case first =>
    go_region_held3 (fun w' => w'.cell? ⟨g, 2, none⟩ = some (.int .i64 most) ∧ w'.cell? ⟨q, 0, none⟩ = some (.string f.1) ∧ w'.cell? ⟨q, 1, none⟩ = some (.string f.2) ∧ w'.cell? ⟨q, 2, none⟩ = some (.bool nv))
      (go_keep)
      (first
        | (go_at_call 27; refine (cost_ref f nv _ (by omega) (by omega)).mono ?_; rintro e w2 ⟨rfl, rfl⟩; rw [HCR.out]))
    all_goals
      go_wp2_with fail
      go_meet
      exact ⟨⟨_, rfl, rfl⟩, ((Below.refl _ _).alloc (Nat.le_refl _) _).drew⟩
  case rest =>
    obtain ⟨⟨b0, rfl, hbd⟩, hb⟩ := hcut
    have HB := Lib.hid hb
    have hrt : HT wc g X A c most rows := H0.out.1.keep fun k hk => hb.block k (H0.out.1.lt k hk)
    have hf1z := hrt.free 3
    obtain ⟨d0, d1⟩ := hrt.cells
    have HRT := Lib.hid hrt
    have y0 := (hb.cell (p := ⟨q, 0, none⟩) hql).trans x0
    have y1 := (hb.cell (p := ⟨q, 1, none⟩) hql).trans x1
    have y2 := (hb.cell (p := ⟨q, 2, none⟩) hql).trans x2
    have hk0 : Hid (Kept (rfoot g A) w wc) := Lib.hid ((Kept.of_below H0.out.2.1).same (Kept.of_below hb))
    have hqc : q < wc.heap.size := Nat.lt_of_lt_of_le hql hb.size
    clear hb hrt x0 x1 x2 c0
    by_cases hbig : most < cr
    · obtain rfl : b0 = true := by rw [hbd]; simpa using hbig
      clear hbd
      have HP := Lib.hid (show raddR most rows f = [] from if_pos (by rw [HCR.out]; exact hbig))
      go_wp2
      refine bodyPost_ret (v := .tuple #[]) (by simp [results, Try.results43, go_sem]) rfl ?_
      rw [HP.out]
      refine ⟨rfl, rfoot g none, ⟨none, 0, rfl, HRT.out.store (A4 := none) (c4 := 0) (rows' := []) rfl (base := 0) ⟨rfl, .inl ⟨rfl, rfl⟩⟩ (fun a ha => by cases ha)⟩, hk0.out.setCell (.inl rfl) _ _, fun k hk => ?_⟩
      rcases hk with rfl | ⟨a, ha, _⟩
      · exact .inl (.inl rfl)
      · cases ha
    · obtain rfl : b0 = false := by rw [hbd]; simpa using hbig
      clear hbd
      have hle : cr ≤ most := by omega
      have HP := Lib.hid (show raddR most rows f = (shrunk (most - cr) 0 rows).2 ++ [f] by unfold raddR; rw [if_neg (by rw [HCR.out]; exact hbig), HCR.out])
      clear hbig
      go_wp2
      go_loopg [23] rows.length (fun k _ wr => HRAddRel w g X (rfoot g A) most (most - cr) rows q f nv k wr)
      case atStart => exact ⟨rfoot g A, 0, rows, ⟨A, c, rfl, HRT.out⟩, hk0.out, Grew.refl _ _, rfl, HS.out, rfl, y0, y1, y2, hqc, H0.out.2.2⟩
      case round =>
        obtain ⟨F1, g1, rows1, hris, hkept, hgrew, hsh, hsm, hk, z0, z1, z2, hqr, hqF⟩ := hrel
        have hl := hsm.len
        have hss := sumc_nonneg rows1
        have hsu := hsm.1
        obtain ⟨A1, c1, hF1, hrt1⟩ := hris
        obtain ⟨e0, e1⟩ := hrt1.cells
        have hgr := hrt1.lt g (.inl rfl)
        have HC := Lib.hid (fun (w' : World) (hw : w'.heap = wr.heap) => hrsize_any w' (show HIs w' g X F1 most rows1 from ⟨A1, c1, hF1, hrt1.keep fun _ _ => by rw [hw]⟩) hsm)
        have HR := Lib.hid (And.intro hF1 (And.intro hrt1 (And.intro hkept (And.intro hgrew (And.intro hsh (And.intro hsm (And.intro hk hqF)))))))
        clear hF1 hrt1 hkept hgrew hsh hsm hk hqF hk0 y0 y1 y2 d0 d1 hf1z HB HRT hqc
        go_upto_region 3 with fail
        go_cut [23] (fun v wx => BoolIs v (decide (most < sumc rows1 + cr)) ∧ Below wr.heap.size wr wx)
        case first =>
          have s1 : IntKind.i64.wrap (sumc rows1 + cr) = sumc rows1 + cr := by rw [IntWalk.i64_in _ ⟨by omega, by omega⟩]
          go_region_held3 (fun w' => w'.cell? ⟨g, 2, none⟩ = some (.int .i64 most) ∧ w'.cell? ⟨q, 0, none⟩ = some (.string f.1) ∧ w'.cell? ⟨q, 1, none⟩ = some (.string f.2) ∧ w'.cell? ⟨q, 2, none⟩ = some (.bool nv))
            (first | go_keep | exact ⟨k0, k1, k2, k3⟩)
            (first
              | (go_at_call 22; refine (HC.out _ (by rfl)).mono ?_; rintro e w2 ⟨rfl, hb2⟩; have k0 := (hb2.cell (p := ⟨g, 2, none⟩) hgr).trans e0; have k1 := (hb2.cell (p := ⟨q, 0, none⟩) hqr).trans z0; have k2 := (hb2.cell (p := ⟨q, 1, none⟩) hqr).trans z1; have k3 := (hb2.cell (p := ⟨q, 2, none⟩) hqr).trans z2; have hgw : g < w2.heap.size := Nat.lt_of_lt_of_le hgr hb2.size; have hqw : q < w2.heap.size := Nat.lt_of_lt_of_le hqr hb2.size; have HB2 := Lib.hid hb2; have hsz2 : wr.heap.size ≤ w2.heap.size := hb2.size; clear hb2)
              | (go_at_call 27; refine (cost_ref f nv _ (by omega) (by omega)).mono ?_; rintro e w3 ⟨rfl, rfl⟩; rw [HCR.out]))
          all_goals
            go_wp2_with fail
            go_meet
            first
              | exact ⟨⟨_, rfl, rfl⟩, (((Below.refl _ _).drew.trans HB2.out).alloc hsz2 _)⟩
              | exact ⟨⟨_, rfl, rfl⟩, (((Below.refl _ _).drew.trans HB2.out).alloc hsz2 _).drew⟩
        case rest =>
          obtain ⟨⟨b1, rfl, hbd⟩, hb1⟩ := hcut
          have hrt := HR.out.2.1.keep (w' := wc) (fun k hk => hb1.block k (HR.out.2.1.lt k hk))
          have HB1 := Lib.hid hb1
          have HRT := Lib.hid hrt
          obtain ⟨-, d1⟩ := hrt.cells
          have hfz := hrt.free 3
          have hgl1 := hrt.lt g (.inl rfl)
          have v0 := (hb1.cell (p := ⟨q, 0, none⟩) hqr).trans z0
          have v1 := (hb1.cell (p := ⟨q, 1, none⟩) hqr).trans z1
          have v2 := (hb1.cell (p := ⟨q, 2, none⟩) hqr).trans z2
          have hqc : q < wc.heap.size := Nat.lt_of_lt_of_le hqr hb1.size
          have HV := Lib.hid (And.intro v0 (And.intro v1 v2))
          clear e0 e1 z0 z1 z2 hb1 HC
          by_cases hbig : most - cr < sumc rows1
          · obtain rfl : b1 = true := by rw [hbd]; simp; omega
            clear hbd
            cases rows1 with
            | nil => exact absurd hbig (by unfold sumc; simp; omega)
            | cons r l =>
              have hrd := ((hrt.row.rd rfl).pre (m := l.length) (by simp))
              rw [List.reverse_cons, ← List.length_reverse, fcs_pre, List.length_reverse] at hrd
              have HRD := Lib.hid hrd
              obtain ⟨A', c', hv, hnc, hcm, -⟩ := hrt.row.form
              injection hv with e1 e2 e3
              subst e1 e3
              simp only [List.length_cons] at d1 hnc hl
              clear hrt hrd
              have s1 : IntKind.i64.wrap (l.length : Int) = (l.length : Int) := by rw [IntWalk.i64_in _ ⟨by omega, by omega⟩]
              have hnc2 : (l.length : Int) ≤ (c1 : Int) := by omega
              go_upto_region 4 with fail
              go_region_law (first
                | (refine step_app (.tmp 25) (.tmp 36) tFields rfl rfl (own_new wc wc.heap.size 3 _ (Nat.le_refl _)) rfl (HRD.out.alloc (Nat.le_refl _) _) rfl (fcs_one _) (le_maxLen (by omega)) (by omega) (by simp) ?_; intro v4 w4 hown4 hg4 hb4; obtain ⟨A4, c4, rfl, -, -, -, hbase⟩ := own_slice hown4; have hg5 : w4.heap[g]? = wc.heap[g]? := (hg4.block g (by simp; omega) (by simp [Value.ownBlock]; omega)).trans (Below.heap_alloc wc _ g hgl1); have m1 : w4.cell? ⟨g, 3, none⟩ = some (.slice A1 (l.length + 1) c1) := (World.cell?_of_block (a := ⟨g, 3, none⟩) hg5).trans d1; have mf : w4.frozen? ⟨g, 3, none⟩ = false := (World.frozen?_of_block (a := ⟨g, 3, none⟩) hg5).trans hfz; have hq5 : w4.heap[q]? = wc.heap[q]? := (hg4.block q (by simp; omega) (by simp [Value.ownBlock]; omega)).trans (Below.heap_alloc wc _ q hqc); have H5 := Lib.hid (And.intro hown4 (And.intro hg4 (And.intro hbase (And.intro hg5 hq5)))); clear hown4 hg4 hbase hg5 hb4 hq5))
              all_goals
                go_wp2_with fail
                go_roundg l.length
                case measure => have := HR.out.2.2.2.2.2.2.1; simp at this; omega
                case rel =>
                  obtain ⟨hown4, hg4, hbase, hg5, hq5⟩ := H5.out
                  obtain ⟨hF1, hrt1, hkept, hgrew, hsh, hsm, hk, hqF⟩ := HR.out
                  simp only [Nat.zero_add, List.nil_append] at hown4 ⊢
                  have hsz1 := HB1.out.size
                  have hszw := hkept.size
                  have hszg := hg4.size
                  have hqg : q ≠ g := fun e => hqF (hF1 ▸ .inl e)
                  have hqx : ∀ o v, (w4.setCell ⟨g, 3, none⟩ v).cell? ⟨q, o, none⟩ = wc.cell? ⟨q, o, none⟩ := fun o v =>
                    (World.cell?_of_block (a := ⟨q, o, none⟩) (Below.heap_setCell _ _ _ _ (by simpa using hqg))).trans (World.cell?_of_block (a := ⟨q, o, none⟩) hq5)
                  refine ⟨rfoot g A4, g1 + 1, l, ⟨A4, c4, rfl, HRT.out.store hg5 hown4 (fun a ha => by have := hbase a ha; omega)⟩, ?_, ?_, ?_, hsm.tail, rfl, (hqx 0 _).trans HV.out.1, (hqx 1 _).trans HV.out.2.1, (hqx 2 _).trans HV.out.2.2, by simp at hszg; simp [World.setCell]; omega, ?_⟩
                  · refine Kept.setCell (Kept.grown ((hkept.same (Kept.of_below HB1.out)).alloc _).drew hg4 (fun k hk => .inr ?_)) (.inl rfl) _ _
                    simp [Value.ownBlock] at hk
                    omega
                  · intro k hk
                    rcases hk with rfl | ⟨a, ha, rfl⟩
                    · exact .inl (.inl rfl)
                    · exact .inr (by have := hbase a ha; omega)
                  · rw [hsh]; exact shrunk_go hbig
                  · rintro (e | ⟨a, ha, e⟩)
                    · exact hqg e
                    · have := hbase a ha; omega
          · obtain rfl : b1 = false := by rw [hbd]; simp; omega
            clear hbd
            have hle : sumc rows1 ≤ most - cr := by omega
            have hrd := hrt.row.rd rfl
            have HRD := Lib.hid hrd
            clear hrt hrd
            go_wp2
            go_region_law (first
              | (refine step_app (.tmp 46) (.tmp 50) tFields rfl rfl (own_one wc wc.heap.size _ _ _ _ (Nat.le_refl _)) rfl (HRD.out.alloc (Nat.le_refl _) _) rfl (fcs_one _) (le_maxLen (by omega)) (by omega) (by simp) ?_; intro v4 w4 hown4 hg4 hb4; obtain ⟨A4, c4, rfl, -, -, -, hbase⟩ := own_slice hown4; have hg5 : w4.heap[g]? = wc.heap[g]? := (hg4.block g (by simp; omega) (by simp [Value.ownBlock]; omega)).trans (Below.heap_alloc wc _ g hgl1); have m1 : w4.cell? ⟨g, 3, none⟩ = some (.slice A1 rows1.length c1) := (World.cell?_of_block (a := ⟨g, 3, none⟩) hg5).trans d1; have mf : w4.frozen? ⟨g, 3, none⟩ = false := (World.frozen?_of_block (a := ⟨g, 3, none⟩) hg5).trans hfz; have H5 := Lib.hid (And.intro hown4 (And.intro hg4 (And.intro hbase hg5))); clear hown4 hg4 hbase hg5 hb4))
            all_goals
              go_wp2_with fail
              go_end0
              obtain ⟨hown4, hg4, hbase, hg5⟩ := H5.out
              obtain ⟨hF1, hrt1, hkept, hgrew, hsh, hsm, hk, hqF⟩ := HR.out
              rw [HP.out, hsh, shrunk_stop hle]
              have hsz1 := HB1.out.size
              have hszw := hkept.size
              have e1 : 1 + rows1.length = (rows1 ++ [f]).length := by simp; omega
              have e2 : [Value.string f.1, .string f.2, .bool false] ++ fcs rows1.reverse = fcs (rows1 ++ [f]).reverse := by rw [List.reverse_append]; rfl
              rw [e1] at hown4 ⊢
              rw [e2] at hown4
              refine ⟨rfl, rfoot g A4, ⟨A4, c4, rfl, HRT.out.store hg5 hown4 (fun a ha => by have := hbase a ha; omega)⟩, ?_, ?_⟩
              · refine Kept.setCell (Kept.grown ((hkept.same (Kept.of_below HB1.out)).alloc _).drew hg4 (fun k hk => .inr ?_)) (.inl rfl) _ _
                simp [Value.ownBlock] at hk
                omega
              · intro k hk
                rcases hk with rfl | ⟨a, ha, rfl⟩
                · exact .inl (.inl rfl)
                · exact .inr (by have := hbase a ha; omega)
end Go.Proofs.Ythpieiipddfpjaa

/- Out of XRTab4: the document's table inside its decoder (printed by gen_htab.py). -/
namespace Go.Proofs.Ythpieiipddfpjaa
open Go.RowKit

variable {X : Value × Value × Value}
set_option maxRecDepth 100000 in
set_option maxHeartbeats 2000000 in
theorem hrat_any {g : Nat} {F : Nat → Prop} {most : Int} {rows : List Rw} (n : Int) (w : World) (h : HIs w g X F most rows) (hs : Small rows) (hnb : n ≤ 9223372036854775807) :
    Calls Try.prog 24 #[.pointer (some ⟨g, 2, none⟩), .int .i64 n] w fun e w' => e = .returned (atV (atRows rows n)) ∧ Below w.heap.size w w' := by
  obtain ⟨A, c, rfl, ht⟩ := h
  have hl := hs.len
  have hgl := ht.lt g (.inl rfl)
  obtain ⟨W0, hW0⟩ : ∃ W0, (w.alloc (.cells #[.string emptyB, .string emptyB, .bool false] 24)).alloc (.cells fstatV.toArray 24) = W0 := ⟨_, rfl⟩
  have b0 : Below w.heap.size w W0 := by rw [← hW0]; exact ((Below.refl _ _).alloc (Nat.le_refl _) _).alloc (by simp) _
  obtain ⟨p, hp⟩ : ∃ p, w.heap.size = p := ⟨_, rfl⟩
  have k0 : W0.heap[p]? = some (.cells #[.string emptyB, .string emptyB, .bool false] 24 (0, 0)) := by
    rw [← hW0, ← hp]; exact (Below.heap_alloc _ _ _ (by simp)).trans (heapNew _ _)
  have k1 : W0.heap[p + 1]? = some (.cells fstatV.toArray 24 (0, 0)) := by rw [← hW0, ← hp]; exact heapNew1 _ _ _
  have p0 : W0.cell? ⟨p, 0, none⟩ = some (.string emptyB) := by unfold World.cell?; rw [k0]; rfl
  have p1 : W0.cell? ⟨p, 1, none⟩ = some (.string emptyB) := by unfold World.cell?; rw [k0]; rfl
  have p2 : W0.cell? ⟨p, 2, none⟩ = some (.bool false) := by unfold World.cell?; rw [k0]; rfl
  have f0 : ∀ o, W0.frozen? ⟨p, o, none⟩ = false := fun o => by unfold World.frozen?; rw [k0]; simp
  have ht0 : HT W0 g X A c most rows := ht.keep fun k hk => b0.block k (ht.lt k hk)
  obtain ⟨-, d1⟩ := ht0.cells
  have HW0 := Lib.hid hW0
  have HP := Lib.hid hp
  have hq1 : (w.alloc (.cells #[.string emptyB, .string emptyB, .bool false] 24)).heap.size = p + 1 := by rw [← hp]; simp
  have HQ := Lib.hid hq1
  have HB := Lib.hid b0
  have HK1 := Lib.hid k1
  have HT := Lib.hid ht0
  have hend : ∀ x y z : Value, Below w.heap.size w (((W0.setCell ⟨p, 0, none⟩ x).setCell ⟨p, 1, none⟩ y).setCell ⟨p, 2, none⟩ z) := fun x y z =>
    ((HB.out.setCell (by show w.heap.size ≤ p; omega) x).setCell (by show w.heap.size ≤ p; omega) y).setCell (by show w.heap.size ≤ p; omega) z
  have HE := Lib.hid hend
  clear hW0 hp b0 k0 k1 ht ht0 hend hs hq1
  by_cases h1 : n < 1
  · have ha := Lib.hid (atRows_none (rows := rows) (.inl h1))
    go_enter Try.func24, Try.ntmps24
    go_wp2_with fail
    refine (static_any _).mono ?_
    rintro e w1 ⟨rfl, rfl⟩
    rw [show (w.alloc (.cells #[.string ⟨#[]⟩, .string ⟨#[]⟩, .bool false] 24)).alloc (.cells fstatV.toArray 24) = W0 from HW0.out, HP.out]
    go_wp2
    refine bodyPost_ret (v := atV none) (by simp [results, Try.results24, go_sem, atV, fieldV, emptyB, p0, p1, p2]) rfl ?_
    rw [ha.out]
    exact ⟨rfl, HE.out _ _ _⟩
  by_cases h2 : n ≤ 61
  · obtain ⟨i, hi⟩ : ∃ i : Nat, n = i + 1 := ⟨(n - 1).toNat, by omega⟩
    subst hi
    obtain ⟨r, hr, ha⟩ := atRows_stat rows (i := i) (by omega)
    have HA := Lib.hid ha
    obtain ⟨s0, s1, s2⟩ := fstatV_get hr
    have t0 : W0.cell? ⟨p + 1, i * 3, none⟩ = some (.string r.1) := by unfold World.cell?; rw [HK1.out]; exact s0
    have t1 : W0.cell? ⟨p + 1, i * 3 + 1, none⟩ = some (.string r.2) := by unfold World.cell?; rw [HK1.out]; exact s1
    have t2 : W0.cell? ⟨p + 1, i * 3 + 2, none⟩ = some (.bool false) := by unfold World.cell?; rw [HK1.out]; exact s2
    clear hr ha s0 s1 s2
    go_enter Try.func24, Try.ntmps24
    go_wp2_with fail
    refine (static_any _).mono ?_
    rintro e w1 ⟨rfl, rfl⟩
    rw [show (w.alloc (.cells #[.string ⟨#[]⟩, .string ⟨#[]⟩, .bool false] 24)).alloc (.cells fstatV.toArray 24) = W0 from HW0.out]
    rw [show (w.alloc (.cells #[.string ⟨#[]⟩, .string ⟨#[]⟩, .bool false] 24)).heap.size = p + 1 from HQ.out, HP.out]
    go_wp2
    refine bodyPost_ret (v := atV (some r)) (by simp [results, Try.results24, go_sem, atV, fieldV, p0, p1, p2]) rfl ?_
    rw [HA.out]
    exact ⟨rfl, HE.out _ _ _⟩
  by_cases h3 : 61 + (rows.length : Int) < n
  · have ha := Lib.hid (atRows_none (rows := rows) (.inr h3))
    go_enter Try.func24, Try.ntmps24
    go_wp2_with fail
    refine (static_any _).mono ?_
    rintro e w1 ⟨rfl, rfl⟩
    rw [show (w.alloc (.cells #[.string ⟨#[]⟩, .string ⟨#[]⟩, .bool false] 24)).alloc (.cells fstatV.toArray 24) = W0 from HW0.out]
    rw [show (w.alloc (.cells #[.string ⟨#[]⟩, .string ⟨#[]⟩, .bool false] 24)).heap.size = p + 1 from HQ.out, HP.out]
    go_wp2
    refine bodyPost_ret (v := atV none) (by simp [results, Try.results24, go_sem, atV, fieldV, emptyB, p0, p1, p2]) rfl ?_
    rw [ha.out]
    exact ⟨rfl, HE.out _ _ _⟩
  · obtain ⟨j, hj⟩ : ∃ j : Nat, (n - 62).toNat = j := ⟨_, rfl⟩
    have hjl : j < rows.length := by omega
    obtain ⟨r, hr, ha⟩ := atRows_came rows (i := rows.length - 1 - j) (by omega)
    rw [show (61 + rows.length - ((rows.length - 1 - j : Nat) : Int)) = n by omega] at ha
    have hrv : rows.reverse[j]? = some r := by rw [List.getElem?_reverse hjl]; exact hr
    obtain ⟨q, o, rfl, hq, q0, q1, q2⟩ := HT.out.at_ hrv
    have HA := Lib.hid ha
    have n1 : 61 < n := by omega
    have n2 : n - 61 ≤ rows.length := by omega
    have n3 : n ≤ 61 + rows.length := by omega
    have hj2 : (n - 61).toNat - 1 = j := by omega
    rw [← hj2] at q0 q1 q2
    clear hr ha hrv hj hj2 hjl h1 h2 h3
    go_enter Try.func24, Try.ntmps24
    go_wp2_with fail
    refine (static_any _).mono ?_
    rintro e w1 ⟨rfl, rfl⟩
    rw [show (w.alloc (.cells #[.string ⟨#[]⟩, .string ⟨#[]⟩, .bool false] 24)).alloc (.cells fstatV.toArray 24) = W0 from HW0.out]
    rw [show (w.alloc (.cells #[.string ⟨#[]⟩, .string ⟨#[]⟩, .bool false] 24)).heap.size = p + 1 from HQ.out, HP.out]
    go_wp2
    refine bodyPost_ret (v := atV (some r)) (by simp [results, Try.results24, go_sem, atV, fieldV, p0, p1, p2]) rfl ?_
    rw [HA.out]
    exact ⟨rfl, HE.out _ _ _⟩
end Go.Proofs.Ythpieiipddfpjaa

/- The walks of hpack.NewDecoder, rowsOf, Rows; of the document's NewDecoder, bitsOf, Fields. -/
namespace Go.Proofs.Ythpieiipddfpjaa
open Go.RowKit

def NewDecPost (mo li : Int) (w : World) (e : Ending) (w' : World) : Prop := ∃ d G, e = .returned (.tuple #[.pointer (some ⟨d, 0, none⟩), .int .i64 0]) ∧ DecIs w' d G 0 mo li ⟨min mo 4096, 0, []⟩ false ∧ (∀ k, G k → w.heap.size ≤ k) ∧ Below w.heap.size w w'
set_option maxHeartbeats 1000000 in
theorem newdec_any (mo li : Int) (w : World) (h0 : 0 ≤ mo) (h1 : mo ≤ 65536) (h2 : 0 ≤ li) :
    Calls Try.prog 29 #[.int .i64 mo, .int .i64 li] w (NewDecPost mo li w) := by
  have HT := Lib.hid (tnew_any (min mo 4096) w (by omega) (by omega))
  go_enter Try.func29, Try.ntmps29
  go_wp2_with fail
  refine HT.out.mono ?_
  rintro e w1 ⟨g, F, rfl, ht, hF, hb⟩
  have H1 := Lib.hid (And.intro ht (And.intro hF hb))
  clear ht hF hb
  go_wp2
  go_ret2
  obtain ⟨ht, hF, hb⟩ := H1.out
  refine ⟨w1.heap.size, fun k => k = w1.heap.size ∨ F k, rfl, ⟨g, F, rfl, heapNew _ _, ht.keep (fun k hk => Below.heap_alloc _ _ _ (ht.lt k hk)), fun hf => Nat.lt_irrefl _ (ht.lt _ hf)⟩, ?_, hb.alloc hb.size _⟩
  rintro k (rfl | hk)
  · exact hb.size
  · exact hF k hk
theorem newdec_bad (mo li : Int) (w : World) (h : mo < 0 ∨ 65536 < mo ∨ li < 0) :
    Calls Try.prog 29 #[.int .i64 mo, .int .i64 li] w fun e w' => e = .returned (.tuple #[.pointer none, .int .i64 1]) ∧ w = w' := by
  have hcase : mo < 0 ∨ (¬ mo < 0 ∧ 65536 < mo) ∨ (¬ mo < 0 ∧ ¬ 65536 < mo ∧ li < 0) := by omega
  clear h
  rcases hcase with h1 | ⟨h1, h2⟩ | ⟨h1, h2, h3⟩
  all_goals
    go_enter Try.func29, Try.ntmps29
    go_wp2
    go_ret2
    exact ⟨rfl, rfl⟩
/-- The document's decoder. -/
def RDecIs (w : World) (q : Nat) (G : Nat → Prop) (mo li : Int) (T : Tb) (br : Bool) : Prop := HIs w q (.int .i64 mo, .int .i64 li, .bool br) G T.most T.rows
def RNewPost (mo li : Int) (w : World) (e : Ending) (w' : World) : Prop := ∃ q G, e = .returned (.pointer (some ⟨q, 0, none⟩)) ∧ RDecIs w' q G mo li ⟨min mo 4096, 0, []⟩ false ∧ (∀ k, G k → w.heap.size ≤ k) ∧ Below w.heap.size w w'
set_option maxHeartbeats 1000000 in
theorem rnewdec_any (mo li : Int) (w : World) :
    Calls Try.prog 30 #[.int .i64 mo, .int .i64 li] w (RNewPost mo li w) := by
  go_enter Try.func30, Try.ntmps30
  go_wp2
  go_ret
  refine ⟨w.heap.size, rfoot w.heap.size none, rfl, ⟨none, 0, rfl, heapNew _ _, Lies.nil _ _ _, fun a ha => by cases ha⟩, ?_, (Below.refl _ _).alloc (Nat.le_refl _) _⟩
  rintro k (rfl | ⟨a, ha, _⟩)
  · exact Nat.le_refl _
  · cases ha
def bitsN (c : Nat) : Nat := if 128 ≤ c then 7 else if 64 ≤ c then 6 else if 32 ≤ c then 5 else 4
theorem bitsOf_any (c : Nat) (w : World) (_hc : c < 256) : Calls Try.prog 53 #[.int .u8 c] w fun e w' => e = .returned (.int .i64 (bitsN c : Nat)) ∧ w' = w := by
  have hcase : 128 ≤ c ∨ (¬ 128 ≤ c ∧ 64 ≤ c) ∨ (¬ 128 ≤ c ∧ ¬ 64 ≤ c ∧ 32 ≤ c) ∨ (¬ 128 ≤ c ∧ ¬ 64 ≤ c ∧ ¬ 32 ≤ c) := by omega
  rcases hcase with h1 | ⟨h1, h2⟩ | ⟨h1, h2, h3⟩ | ⟨h1, h2, h3⟩
  · have HB : Hid (bitsN c = 7) := Lib.hid (by unfold bitsN; rw [if_pos h1])
    have g1 : (127 : Int) < c := by omega
    rw [HB.out]
    clear h1
    go_enter Try.func53, Try.ntmps53
    go_wp2; go_ret; exact ⟨rfl, rfl⟩
  · have HB : Hid (bitsN c = 6) := Lib.hid (by unfold bitsN; rw [if_neg h1, if_pos h2])
    have g1 : ¬ (127 : Int) < c := by omega
    have g2 : (63 : Int) < c := by omega
    rw [HB.out]
    clear h1 h2
    go_enter Try.func53, Try.ntmps53
    go_wp2; go_ret; exact ⟨rfl, rfl⟩
  · have HB : Hid (bitsN c = 5) := Lib.hid (by unfold bitsN; rw [if_neg h1, if_neg h2, if_pos h3])
    have g1 : ¬ (127 : Int) < c := by omega
    have g2 : ¬ (63 : Int) < c := by omega
    have g3 : (31 : Int) < c := by omega
    rw [HB.out]
    clear h1 h2 h3
    go_enter Try.func53, Try.ntmps53
    go_wp2; go_ret; exact ⟨rfl, rfl⟩
  · have HB : Hid (bitsN c = 4) := Lib.hid (by unfold bitsN; rw [if_neg h1, if_neg h2, if_neg h3])
    have g1 : ¬ (127 : Int) < c := by omega
    have g2 : ¬ (63 : Int) < c := by omega
    have g3 : ¬ (31 : Int) < c := by omega
    rw [HB.out]
    clear h1 h2 h3
    go_enter Try.func53, Try.ntmps53
    go_wp2; go_ret; exact ⟨rfl, rfl⟩
end Go.Proofs.Ythpieiipddfpjaa

/- The walks of hpack.rowsOf, Decoder.Rows; of the document's Fields. -/
namespace Go.Proofs.Ythpieiipddfpjaa
open Go.RowKit

theorem atRows_k (rows : List Rw) {k : Nat} {r : Rw} (h : rows.reverse[k]? = some r) : atRows rows (62 + k : Int) = some r := by
  have hk : k < rows.length := by have := (List.getElem?_eq_some_iff.1 h).1; simpa using this
  obtain ⟨r', hr', ha⟩ := atRows_came rows (i := rows.length - 1 - k) (by omega)
  rw [List.getElem?_reverse hk] at h
  rw [h] at hr'
  injection hr' with hr'
  rw [hr', ← ha]
  congr 1
  omega
theorem fcs_take {L : List Rw} {k : Nat} {r : Rw} (h : L[k]? = some r) : fcs (L.take (k + 1)) = fcs (L.take k) ++ [.string r.1, .string r.2, .bool false] := by
  rw [List.take_add_one, h, Option.toList_some, fcs_app]; rfl
def RowsPost (W : World) (T : Tb) (e : Ending) (w' : World) : Prop := ∃ A c, e = .returned (.slice A T.rows.length c) ∧ w'.ownsRow W.heap.size 24 3 (.slice A T.rows.length c) T.rows.length (fcs T.rows.reverse) ∧ Below W.heap.size W w'
def RowsRel (W : World) (T : Tb) (ov iv : Value) (wr : World) : Prop := ∃ k : Nat, iv = .int .i64 k ∧ k ≤ T.rows.length ∧ wr.ownsRow W.heap.size 24 3 ov k (fcs (T.rows.reverse.take k)) ∧ Below W.heap.size W wr
set_option maxRecDepth 100000 in
set_option maxHeartbeats 2000000 in
theorem rowsOf_any {g N : Nat} {F : Nat → Prop} {T : Tb} (w : World) (h : TabIs w g F N T) :
    Calls Try.prog 55 #[.pointer (some ⟨g, 0, none⟩)] w (RowsPost w T) := by
  have H := Lib.hid h
  have hsm := h.small.len
  clear h
  obtain ⟨n, hn⟩ : ∃ n, T.rows.length = n := ⟨_, rfl⟩
  have HN := Lib.hid hn
  rw [hn] at hsm
  go_enter Try.func55, Try.ntmps55
  go_wp2_with fail
  refine (len_any w H.out).mono ?_
  rintro e w1 ⟨rfl, rfl⟩
  rw [HN.out]
  clear hn
  go_wp2_with fail
  go_loopw [3, 9] (fun ov iv wr => RowsRel w T ov iv wr) (fun _ iv _ => n - (intOf iv).toNat)
  case atStart => exact ⟨0, rfl, Nat.zero_le _, World.ownsRow_nil _ _ _ _, Below.refl _ _⟩
  case round =>
    obtain ⟨k, rfl, hk, hown, hb⟩ := hrel
    rw [HN.out] at hk
    obtain ⟨A3, c3, rfl, -⟩ := own_slice hown
    have HO := Lib.hid hown
    have HB := Lib.hid hb
    have hsz := hb.size
    by_cases hlt : k < n
    · obtain ⟨r, hr⟩ : ∃ r, T.rows.reverse[k]? = some r := ⟨_, List.getElem?_eq_getElem (by rw [List.length_reverse, HN.out]; exact hlt)⟩
      have HR := Lib.hid hr
      have n1 : (k : Int) < n := by omega
      have hat := at_any (62 + (k : Int)) wr (H.out.keep (w' := wr) (fun j hj => hb.block j (H.out.lt j hj))) (by omega)
      rw [atRows_k _ hr] at hat
      have HAT := Lib.hid hat
      clear hown hb hr hat
      go_wp2_with fail
      refine HAT.out.mono ?_
      rintro e w2 ⟨rfl, hb2⟩
      have HO2 := Lib.hid (own_kept4 HO.out (Kept.of_below (F := fun _ => False) hb2) (fun _ _ h => h))
      have HB2 := Lib.hid (HB.out.trans (hb2.mono hsz))
      have hsz2 := HB2.out.size
      clear hb2
      obtain ⟨W5, hW5⟩ : ∃ W5, w2.alloc (.cells #[.string r.1, .string r.2, .bool false] 24) = W5 := ⟨_, rfl⟩
      obtain ⟨x, hx⟩ : ∃ x, w2.heap.size = x := ⟨_, rfl⟩
      have k5 : W5.heap[x]? = some (.cells #[.string r.1, .string r.2, .bool false] 24 (0, 0)) := by rw [← hW5, ← hx]; exact heapNew _ _
      have x0 : W5.cell? ⟨x, 0, none⟩ = some (.string r.1) := by unfold World.cell?; rw [k5]; rfl
      have x1 : W5.cell? ⟨x, 1, none⟩ = some (.string r.2) := by unfold World.cell?; rw [k5]; rfl
      have x2 : W5.cell? ⟨x, 2, none⟩ = some (.bool false) := by unfold World.cell?; rw [k5]; rfl
      have HO5 : Hid (W5.ownsRow w.heap.size 24 3 (.slice A3 k c3) k (fcs (T.rows.reverse.take k))) := Lib.hid (by rw [← hW5]; exact HO2.out.alloc _)
      have HB5 : Hid (Below w.heap.size w W5) := Lib.hid (by rw [← hW5]; exact HB2.out.alloc hsz2 _)
      have hsz5 := HB5.out.size
      have HW5 := Lib.hid hW5
      have HX := Lib.hid hx
      clear hW5 hx k5
      simp only [atV, fieldV]
      go_upto_region 6 with fail
      rw [HW5.out, HX.out]
      go_wp2_with (at_builtin; refine wpList_app (.tmp 19) (.tmp 21) tFields rfl rfl (HO5.out.alloc _) rfl (Rd.one3 _ _ _ _ _) rfl (fds_one [(r, false)]) (le_maxLen (by omega)) (by omega) (by simp; omega) ?_; intro v4 w4 hown4 hg4 hv4)
      go_roundw
      case rel =>
        refine ⟨k + 1, by go_num, by rw [HN.out]; omega, ?_, Below.app (HB5.out.alloc hsz5 _) (HO5.out.alloc _) hg4 (Nat.le_refl _) (by simp; omega)⟩
        rw [fcs_take HR.out]
        exact hown4
      case measure => simp [intOf]; omega
    · obtain rfl : k = n := by omega
      clear hown hb
      go_wp2
      go_ret
      refine ⟨A3, c3, by rw [HN.out]; rfl, ?_, HB.out⟩
      have := HO.out
      rw [List.take_of_length_le (by rw [List.length_reverse, HN.out]; exact Nat.le_refl _)] at this
      rw [HN.out]
      exact this
set_option maxRecDepth 100000 in
theorem drows_any {d N : Nat} {G : Nat → Prop} {mo li : Int} {T : Tb} {br : Bool} (w : World) (h : DecIs w d G N mo li T br) :
    Calls Try.prog 35 #[.pointer (some ⟨d, 0, none⟩)] w (RowsPost w T) := by
  obtain ⟨g, F, -, hd, ht, -⟩ := h
  have c2 : w.cell? ⟨d, 2, none⟩ = some (.pointer (some ⟨g, 0, none⟩)) := by unfold World.cell?; rw [hd]; rfl
  have H := Lib.hid (rowsOf_any w ht)
  clear hd ht
  go_enter Try.func35, Try.ntmps35
  go_wp2_with fail
  refine H.out.mono ?_
  rintro e w1 ⟨A, c, rfl, ho, hb⟩
  have H1 := Lib.hid (And.intro ho hb)
  clear ho hb
  go_wp2
  go_ret
  exact ⟨A, c, rfl, H1.out⟩
theorem drows_nil (w : World) : Calls Try.prog 35 #[.pointer none] w fun e w' => e = .returned (.slice none 0 0) ∧ w = w' := by
  go_enter Try.func35, Try.ntmps35
  go_wp2; go_ret; exact ⟨rfl, rfl⟩
def FRel (w : World) (n : Nat) (jv : Value) (wr : World) : Prop := ∃ k d : Nat, jv = .int .i64 k ∧ k ≤ n ∧ wr = w.drewN d
theorem fd_at {w : World} {B n : Nat} {A : Option Addr} {l : List Fd} (h : Rd w B 3 A n (fds l)) (hn : 0 < n) : l.length = n ∧ ∃ b o, A = some ⟨b, o, none⟩ ∧ b < B ∧ ∀ j f, l[j]? = some f → w.cell? ⟨b, o + j * 3, none⟩ = some (.string f.1.1) ∧ w.cell? ⟨b, o + j * 3 + 1, none⟩ = some (.string f.1.2) ∧ w.cell? ⟨b, o + j * 3 + 2, none⟩ = some (.bool f.2) := by
  obtain ⟨b, o, hA, hb, hc⟩ := h.2 (by omega)
  have hl := h.1
  rw [fds_length] at hl
  refine ⟨by omega, b, o, hA, hb, fun j f hj => ?_⟩
  have hjl := (List.getElem?_eq_some_iff.1 hj).1
  have e := fds_get hj
  exact ⟨(hc _ (by omega)).trans e.1, (hc (j * 3 + 1) (by omega)).trans e.2.1, (hc (j * 3 + 2) (by omega)).trans e.2.2⟩
set_option maxHeartbeats 2000000 in
theorem fields_same {A A' : Option Addr} {B B' n c c' : Nat} {l : List Fd} (w : World) (hr : Rd w B 3 A n (fds l)) (hr' : Rd w B' 3 A' n (fds l)) (hn : n ≤ 1099511627776) :
    Calls Try.prog 33 #[.slice A n c, .slice A' n c'] w fun e w' => e = .returned (.bool true) ∧ ∃ d, w' = w.drewN d := by
  have H1 := Lib.hid hr
  have H2 := Lib.hid hr'
  clear hr hr'
  go_enter Try.func33, Try.ntmps33
  go_wp2
  go_loopw [5] (fun jv wr => FRel w n jv wr) (fun jv _ => n - (intOf jv).toNat)
  case atStart => exact ⟨0, 0, rfl, Nat.zero_le _, rfl⟩
  case round =>
    obtain ⟨k, d, rfl, hk, rfl⟩ := hrel
    by_cases hlt : k < n
    · obtain ⟨hl, b, o, rfl, hb, hc⟩ := fd_at H1.out (by omega)
      obtain ⟨hl', b', o', rfl, hb', hc'⟩ := fd_at H2.out (by omega)
      obtain ⟨f, hf⟩ : ∃ f, l[k]? = some f := ⟨_, List.getElem?_eq_getElem (by omega)⟩
      obtain ⟨q0, q1, q2⟩ := hc k f hf
      obtain ⟨p0, p1, p2⟩ := hc' k f hf
      have z0 : ∀ d, (w.drewN d).cell? ⟨b, o + k * 3, none⟩ = some (.string f.1.1) := fun _ => q0
      have z1 : ∀ d, (w.drewN d).cell? ⟨b, o + k * 3 + 1, none⟩ = some (.string f.1.2) := fun _ => q1
      have z2 : ∀ d, (w.drewN d).cell? ⟨b, o + k * 3 + 2, none⟩ = some (.bool f.2) := fun _ => q2
      have y0 : ∀ d, (w.drewN d).cell? ⟨b', o' + k * 3, none⟩ = some (.string f.1.1) := fun _ => p0
      have y1 : ∀ d, (w.drewN d).cell? ⟨b', o' + k * 3 + 1, none⟩ = some (.string f.1.2) := fun _ => p1
      have y2 : ∀ d, (w.drewN d).cell? ⟨b', o' + k * 3 + 2, none⟩ = some (.bool f.2) := fun _ => p2
      have n1 : (k : Int) < n := by omega
      have n0 : (0 : Int) ≤ k := by omega
      clear hc hc' hf
      go_wp2
      go_quiet (fail)
      go_wp2
      go_roundw
      case rel => exact ⟨k + 1, _, by go_num, by omega, rfl⟩
      case measure => simp [intOf]; omega
    · obtain rfl : k = n := by omega
      go_wp2
      go_ret
      exact ⟨rfl, _, rfl⟩
end Go.Proofs.Ythpieiipddfpjaa

/- What is found: the least number of a row like it, or of its name; and what stands there. No program in sight. -/
namespace Go.Proofs.Ythpieiipddfpjaa
open Go.RowKit

theorem pos_rev {α : Type} [DecidableEq α] (l : List α) (g : Int) (r : α) : pos l.reverse g r = (l.findIdx? (fun a => a = r)).map (fun i : Nat => g + l.length - i) := by
  induction l with
  | nil => rfl
  | cons a l ih =>
    rw [List.reverse_cons, pos_snoc, ih, List.findIdx?_cons, List.length_reverse]
    by_cases h : r = a
    · rw [if_pos h, h]
      simp
      omega
    · rw [if_neg h, show (decide (a = r)) = false by simpa using fun e => h e.symm]
      simp only [Bool.false_eq_true, if_false, Option.map_map]
      congr 1
      funext i
      simp
      omega
theorem pos_rev' {α : Type} [DecidableEq α] (l : List α) (g : Int) (r : α) : pos l g r = (l.reverse.findIdx? (fun a => a = r)).map (fun i : Nat => g + l.length - i) := by
  have := pos_rev l.reverse g r
  rwa [List.reverse_reverse, List.length_reverse] at this
/-- Where the first is whose name it is, from 1 on; 0: none. -/
def nearA (l : List Rw) (nm : ByteArray) : Nat := match l.findIdx? (fun r => r.1 = nm) with
  | some i => i + 1
  | none => 0
def findA (l : List Rw) (f : Rw) : Int × Bool := match l.findIdx? (fun r => r = f) with
  | some i => (i + 1, true)
  | none => (((nearA l f.1 : Nat) : Int), false)
theorem nearK_all (nm : ByteArray) : nearK nm 61 = nearA statF nm := by
  unfold nearK nearA
  rw [List.take_of_length_le (by rw [statF_length]; exact Nat.le_refl _)]
  cases statF.findIdx? (fun r => r.1 = nm) <;> rfl
theorem findIdx_map (l : List Rw) (nm : ByteArray) : (l.map (·.1)).findIdx? (fun a => a = nm) = l.findIdx? (fun r => r.1 = nm) := by
  rw [List.findIdx?_map]; rfl
theorem findT_all (rows : List Rw) (gone : Int) (f : Rw) : findT rows gone f = findA (statF ++ rows.reverse) f := by
  unfold findT findA
  rw [List.findIdx?_append, nearK_all, statF_length]
  cases h1 : statF.findIdx? (fun r => r = f) with
  | some i => rfl
  | none =>
    simp only [Option.none_or]
    rw [pos_rev']
    cases h2 : rows.reverse.findIdx? (fun r => r = f) with
    | some i => simp; omega
    | none =>
      simp only [Option.map_none]
      unfold nearA
      rw [List.findIdx?_append, statF_length]
      cases h3 : statF.findIdx? (fun r => r.1 = f.1) with
      | some i => simp
      | none =>
        rw [pos_rev', ← List.map_reverse, findIdx_map]
        cases h4 : rows.reverse.findIdx? (fun r => r.1 = f.1) with
        | some i => simp; omega
        | none => simp
theorem findIdx_at {l : List Rw} {p : Rw → Bool} {i : Nat} (h : l.findIdx? p = some i) : ∃ r, l[i]? = some r ∧ p r = true := by
  obtain ⟨hl, hp, -⟩ := List.findIdx?_eq_some_iff_getElem.1 h
  exact ⟨_, List.getElem?_eq_getElem hl, hp⟩
theorem atRows_all (rows : List Rw) (i : Nat) {r : Rw} (h : (statF ++ rows.reverse)[i]? = some r) : atRows rows (i + 1 : Int) = some r := by
  rw [List.getElem?_append] at h
  by_cases hi : i < 61
  · rw [if_pos (by rw [statF_length]; exact hi)] at h
    obtain ⟨r', h1, h2⟩ := atRows_stat rows hi
    rw [h] at h1; injection h1 with h1
    rw [h2, h1]
  · rw [if_neg (by rw [statF_length]; exact hi), statF_length] at h
    have hl : i - 61 < rows.length := by have := (List.getElem?_eq_some_iff.1 h).1; simpa using this
    rw [List.getElem?_reverse hl] at h
    obtain ⟨r', h1, h2⟩ := atRows_came rows (i := rows.length - 1 - (i - 61)) (by omega)
    rw [h] at h1; injection h1 with h1
    rw [show ((i : Int) + 1) = 61 + rows.length - ((rows.length - 1 - (i - 61) : Nat) : Int) by omega, h2, h1]
/-- What is found stands there. -/
theorem findA_at (rows : List Rw) (f : Rw) : ((findA (statF ++ rows.reverse) f).1 = 0 ∧ (findA (statF ++ rows.reverse) f).2 = false) ∨
    ∃ g : Rw, 1 ≤ (findA (statF ++ rows.reverse) f).1 ∧ atRows rows (findA (statF ++ rows.reverse) f).1 = some g ∧ g.1 = f.1 ∧ decide (g.2 = f.2) = (findA (statF ++ rows.reverse) f).2 := by
  unfold findA
  cases h1 : (statF ++ rows.reverse).findIdx? (fun r => r = f) with
  | some i =>
    obtain ⟨r, hr, hp⟩ := findIdx_at h1
    have hp' : r = f := by simpa using hp
    refine .inr ⟨r, by simp only; omega, atRows_all rows i hr, by rw [hp'], by rw [hp']; simp⟩
  | none =>
    simp only
    unfold nearA
    cases h2 : (statF ++ rows.reverse).findIdx? (fun r => r.1 = f.1) with
    | none => exact .inl (by simp)
    | some i =>
      obtain ⟨r, hr, hp⟩ := findIdx_at h2
      have hp' : r.1 = f.1 := by simpa using hp
      refine .inr ⟨r, by simp only; omega, ?_, hp', ?_⟩
      · simp only; rw [← atRows_all rows i hr]; congr 1
      · have := (List.findIdx?_eq_none_iff.1 h1) r (List.mem_of_getElem? hr)
        have hne : r ≠ f := by simpa using this
        simp only [decide_eq_false_iff_not]
        exact fun e => hne (by obtain ⟨a, b⟩ := r; obtain ⟨c, d⟩ := f; simp at hp' e; rw [hp', e])
end Go.Proofs.Ythpieiipddfpjaa

/- The walk of drawbridgeref04.Find. -/
namespace Go.Proofs.Ythpieiipddfpjaa
open Go.RowKit

theorem nearA_succ {L : List Rw} {nm : ByteArray} {k : Nat} {r : Rw} (hr : L[k]? = some r) : nearA (L.take (k + 1)) nm = if nearA (L.take k) nm = 0 then (if r.1 = nm then k + 1 else 0) else nearA (L.take k) nm := by
  have hk : k < L.length := (List.getElem?_eq_some_iff.1 hr).1
  unfold nearA
  rw [List.take_add_one, hr]
  simp only [Option.toList_some, List.findIdx?_append]
  cases hf : (L.take k).findIdx? (fun r => r.1 = nm) with
  | some i => simp
  | none =>
    simp only [Option.none_or]
    by_cases h : r.1 = nm
    · simp [h, List.length_take]; omega
    · simp [h]
theorem nearA_le (L : List Rw) (nm : ByteArray) : nearA L nm ≤ L.length := by
  unfold nearA
  cases hf : L.findIdx? (fun r => r.1 = nm) with
  | some i => have := (List.findIdx?_eq_some_iff_getElem.1 hf).1; simp only; omega
  | none => simp
theorem findA_stat {L : List Rw} {f : Rw} {k : Nat} (hk : L[k]? = some f) (hall : ∀ j r, j < k → L[j]? = some r → r ≠ f) : findA L f = ((k : Int) + 1, true) := by
  have hl : k < L.length := (List.getElem?_eq_some_iff.1 hk).1
  have e : L.findIdx? (fun r => r = f) = some k := by
    rw [List.findIdx?_eq_some_iff_getElem]
    refine ⟨hl, by have := (List.getElem?_eq_some_iff.1 hk).2; simp [this], fun j hj => ?_⟩
    have := hall j (L[j]'(by omega)) hj (List.getElem?_eq_getElem (by omega))
    simpa using this
  unfold findA
  rw [e]
theorem findA_none {L : List Rw} {f : Rw} (hall : ∀ j r, j < L.length → L[j]? = some r → r ≠ f) : findA L f = (((nearA L f.1 : Nat) : Int), false) := by
  have e : L.findIdx? (fun r => r = f) = none := by
    rw [List.findIdx?_eq_none_iff]
    intro r hr
    obtain ⟨j, hj, hq⟩ := List.getElem_of_mem hr
    simpa using hall j r hj (by rw [List.getElem?_eq_getElem hj, hq])
  unfold findA
  rw [e]
theorem own_stat (w : World) : (w.alloc (.cells fstatV.toArray 24)).ownsRow w.heap.size 24 3 (.slice (some ⟨w.heap.size, 0, none⟩) 61 61) 61 (fcs statF) :=
  ⟨by rw [fcs_length, statF_length], .inr ⟨_, 61, fstatV.toArray, rfl, Nat.le_refl _, heapNew _ _, Nat.le_refl _, le_maxLen (by omega), by decide +kernel, by rw [show fstatV = fcs statF from rfl]; exact List.take_of_length_le (by rw [fcs_length, statF_length]; exact Nat.le_refl _)⟩⟩
def FndMid (W : World) (L : List Rw) (v : Value) (wx : World) : Prop := ∃ A c, v = .slice A L.length c ∧ Rd wx wx.heap.size 3 A L.length (fcs L) ∧ Below W.heap.size W wx
def RFndRel (W : World) (L : List Rw) (f : Rw) (nv iv : Value) (wr : World) : Prop :=
  ∃ k : Nat, iv = .int .i64 k ∧ nv = .int .i64 (nearA (L.take k) f.1 : Nat) ∧ k ≤ L.length ∧ (∀ j r, j < k → L[j]? = some r → r ≠ f) ∧ Below W.heap.size W wr
set_option maxRecDepth 100000 in
set_option maxHeartbeats 4000000 in
theorem rfind_any {g : Nat} {F : Nat → Prop} {most : Int} {rows : List Rw} (f : Rw) (nv : Bool) (w : World) (h : RIs w g F most rows) (hs : Small rows) :
    Calls Try.prog 18 #[.pointer (some ⟨g, 0, none⟩), .agg #[.string f.1, .string f.2, .bool nv]] w (FindPost w (findA (statF ++ rows.reverse) f)) := by
  obtain ⟨W0, hW0⟩ : ∃ W0, w.alloc (.cells #[.string f.1, .string f.2, .bool nv] 24) = W0 := ⟨_, rfl⟩
  obtain ⟨p, hp⟩ : ∃ p, w.heap.size = p := ⟨_, rfl⟩
  have b0 : Below w.heap.size w W0 := by rw [← hW0]; exact (Below.refl _ _).alloc (Nat.le_refl _) _
  have f0 : W0.cell? ⟨p, 0, none⟩ = some (.string f.1) := by rw [← hW0, ← hp]; exact World.cell?_alloc_at _ _ _ _ rfl
  have f1 : W0.cell? ⟨p, 1, none⟩ = some (.string f.2) := by rw [← hW0, ← hp]; exact World.cell?_alloc_at _ _ _ _ rfl
  have hpl : p < W0.heap.size := by rw [← hW0, ← hp]; simp
  have hl := hs.len
  obtain ⟨A, c, rfl, hrt⟩ := h.below b0
  obtain ⟨-, c1⟩ := hrt.cells
  have HRD := Lib.hid (hrt.row.rd rfl)
  have hgl := hrt.lt g (.inl rfl)
  obtain ⟨L, hL⟩ : ∃ L, statF ++ rows.reverse = L := ⟨_, rfl⟩
  have hLl : L.length = 61 + rows.length := by rw [← hL]; simp [statF_length]
  have HL := Lib.hid hL
  have HLL := Lib.hid hLl
  have HB0 := Lib.hid b0
  have HW0 := Lib.hid hW0
  have HP := Lib.hid hp
  have HZ := Lib.hid (And.intro f0 f1)
  rw [hL]
  clear hW0 hp b0 hrt h hs hL hLl f0 f1
  go_enter Try.func18, Try.ntmps18
  go_upto_region 2 with fail
  rw [HW0.out, HP.out]
  go_cut [6] (fun v wx => FndMid W0 L v wx)
  case first =>
    go_region_held3 (fun w' => w'.cell? ⟨g, 1, none⟩ = some (.slice A rows.length c))
      (first | go_keep | exact k0)
      (first
        | (go_at_call 47; refine (static_any _).mono ?_; rintro e w1 ⟨rfl, rfl⟩)
        | (refine step_app (.tmp 9) (.tmp 13) tFields rfl rfl (own_stat W0) rfl (HRD.out.alloc (Nat.le_refl _) _) rfl (fcs_one _) (le_maxLen (by omega)) (by omega) (by simp) ?_; intro v4 w4 hown4 hg4 hb4; obtain ⟨A4, c4, rfl, -, -, hrd4, -⟩ := own_slice hown4; have k0 : w4.cell? ⟨g, 1, none⟩ = some (.slice A rows.length c) := (World.cell?_of_block (a := ⟨g, 1, none⟩) ((hg4.block g (by simp; omega) (by simp [Value.ownBlock]; omega)).trans (Below.heap_alloc W0 _ g hgl))).trans c1; have H4 := Lib.hid (And.intro hown4 (And.intro hg4 hrd4)); clear hown4 hg4 hrd4 hb4))
    all_goals
      go_wp2_with fail
      go_meet
      obtain ⟨hown4, hg4, hrd4⟩ := H4.out
      have hlen : 61 + rows.length = L.length := HLL.out.symm
      rw [← fcs_app, HL.out, hlen] at hrd4
      rw [hlen]
      exact ⟨A4, c4, rfl, hrd4, (((Below.refl _ _).alloc (Nat.le_refl _) _).drew).grown hg4 (by simp [World.drew]) (fun k hk => by simp [Value.ownBlock] at hk; omega)⟩
  case rest =>
    obtain ⟨A4, c4, rfl, hrd, hbel⟩ := hcut
    have f0 := (hbel.cell (p := ⟨p, 0, none⟩) hpl).trans HZ.out.1
    have f1 := (hbel.cell (p := ⟨p, 1, none⟩) hpl).trans HZ.out.2
    have hplc : p < wc.heap.size := Nat.lt_of_lt_of_le hpl hbel.size
    have hll : L.length ≤ 34359738429 := by have := HLL.out; omega
    have HR := Lib.hid hrd
    have HBW := Lib.hid (HB0.out.trans (hbel.mono HB0.out.size))
    have hszw := HBW.out.size
    have HF0 := Lib.hid f0
    have HF1 := Lib.hid f1
    clear hrd hbel c1 hgl HRD hpl f0 f1
    go_wp2
    go_loopw [7, 8] (fun n i wr => RFndRel wc L f n i wr) (fun _ i _ => L.length - (intOf i).toNat)
    case atStart => exact ⟨0, rfl, rfl, by omega, fun j r h => by omega, Below.refl _ _⟩
    case round =>
      obtain ⟨k, rfl, rfl, hk, hall, hbr⟩ := hrel
      have HA := Lib.hid hall
      have HBR := Lib.hid hbr
      have hsr := hbr.size
      have f0 := (hbr.cell (p := ⟨p, 0, none⟩) hplc).trans HF0.out
      have f1 := (hbr.cell (p := ⟨p, 1, none⟩) hplc).trans HF1.out
      have HE : Hid (∀ w', Below wc.heap.size wc w' → Below w.heap.size w w') := Lib.hid fun w' hb => HBW.out.trans (hb.mono hszw)
      clear hall hbr
      by_cases hlt : k < L.length
      · obtain ⟨r, hr⟩ : ∃ r, L[k]? = some r := ⟨_, List.getElem?_eq_getElem hlt⟩
        obtain ⟨b, o, rfl, hb, hc⟩ := (HR.out.below (B0 := wc.heap.size) HBR.out (Nat.le_refl _)).2 (by omega)
        have e := fcs_get hr
        have q0 : wr.cell? ⟨b, o + k * 3, none⟩ = some (.string r.1) := (hc (k * 3) (by omega)).trans e.1
        have q1 : wr.cell? ⟨b, o + k * 3 + 1, none⟩ = some (.string r.2) := (hc (k * 3 + 1) (by omega)).trans e.2.1
        have n1 : (k : Int) < L.length := by omega
        have HNS := Lib.hid (nearA_succ (nm := f.1) hr)
        have HRK := Lib.hid hr
        have hnb : nearA (L.take k) f.1 ≤ L.length := Nat.le_trans (nearA_le _ _) (by rw [List.length_take]; omega)
        obtain ⟨na, hna⟩ : ∃ na, nearA (L.take k) f.1 = na := ⟨_, rfl⟩
        have HNA := Lib.hid hna
        rw [hna] at hnb
        rw [hna]
        clear hc e hr hna
        obtain ⟨ra, rb⟩ := r
        obtain ⟨fa, fb⟩ := f
        simp only at q0 q1 f0 f1
        by_cases hn : ra = fa
        · subst hn
          by_cases hv : rb = fb
          · subst hv
            have HFA := Lib.hid (findA_stat HRK.out HA.out)
            go_wp2
            go_quiet (fail)
            go_wp2
            go_quiet (fail)
            go_wp2
            go_ret2
            rw [HFA.out]
            exact ⟨rfl, HE.out _ (below_dN HBR.out _)⟩
          · have ev : (rb.toList == fb.toList) = false := (Lib.bytes_beq_false_iff rb fb).2 hv
            have HV : Hid ((ra, rb) ≠ (ra, fb)) := Lib.hid fun e => hv (by injection e)
            clear hv
            by_cases hz : na = 0
            · subst hz
              go_wp2
              go_quiet (fail)
              go_wp2
              go_quiet (fail)
              go_wp2
              go_roundw
              case rel => exact ⟨k + 1, by go_num, by rw [HNS.out, HNA.out, if_pos rfl, if_pos trivial]; go_num, by omega, fun j r hj hr => by
                  rcases Nat.lt_succ_iff_lt_or_eq.1 hj with h | h
                  · exact HA.out j r h hr
                  · subst h; rw [HRK.out] at hr; injection hr with hr; rw [← hr]; exact HV.out, below_dN HBR.out _⟩
              case measure => simp [intOf]; omega
            · have ez : ((na : Int) == 0) = false := by rw [beq_eq_false_iff_ne]; omega
              have HZ0 := Lib.hid hz
              clear hz
              go_wp2
              go_quiet (fail)
              go_wp2
              go_quiet (fail)
              go_wp2
              go_roundw
              case rel => exact ⟨k + 1, by go_num, by rw [HNS.out, HNA.out, if_neg HZ0.out], by omega, fun j r hj hr => by
                  rcases Nat.lt_succ_iff_lt_or_eq.1 hj with h | h
                  · exact HA.out j r h hr
                  · subst h; rw [HRK.out] at hr; injection hr with hr; rw [← hr]; exact HV.out, below_dN HBR.out _⟩
              case measure => simp [intOf]; omega
        · have en : (ra.toList == fa.toList) = false := (Lib.bytes_beq_false_iff ra fa).2 hn
          have HN := Lib.hid hn
          clear hn
          go_wp2
          go_quiet (fail)
          go_wp2
          go_roundw
          case rel => exact ⟨k + 1, by go_num, by rw [HNS.out, HNA.out, if_neg HN.out]; split <;> simp_all, by omega, fun j r hj hr => by
              rcases Nat.lt_succ_iff_lt_or_eq.1 hj with h | h
              · exact HA.out j r h hr
              · subst h; rw [HRK.out] at hr; injection hr with hr; rw [← hr]; exact fun e => HN.out (by injection e), below_dN HBR.out _⟩
          case measure => simp [intOf]; omega
      · obtain rfl : k = L.length := by omega
        have HNO := Lib.hid (findA_none HA.out)
        rw [List.take_length]
        go_wp2
        go_ret2
        rw [HNO.out]
        exact ⟨rfl, HE.out _ HBR.out⟩
end Go.Proofs.Ythpieiipddfpjaa

/- What an encoder writes, plain; the walks of hpack.number, named, never, aside. -/
namespace Go.Proofs.Ythpieiipddfpjaa
open Go.RowKit

def authB : ByteArray := ⟨#[97, 117, 116, 104, 111, 114, 105, 122, 97, 116, 105, 111, 110]⟩
def cookB : ByteArray := ⟨#[115, 101, 116, 45, 99, 111, 111, 107, 105, 101]⟩
/-- An encoder. -/
structure Enc where
  own : Int
  told : Int
  least : Int
  T : Tb
def neverF (f : Fd) : Bool := f.2 || decide (f.1.1 = authB) || decide (f.1.1 = cookB)
def fnd (T : Tb) (f : Rw) : Int × Bool := findA (statF ++ T.rows.reverse) f
def numT (T : Tb) (f : Rw) : Nat := (fnd T f).1.toNat
def namedB (fl F : Nat) (T : Tb) (f : Rw) : List UInt8 := putB fl F (numT T f) ++ (if numT T f = 0 then textB f.1.data.toList else []) ++ textB f.2.data.toList
/-- One field. -/
def encOne (T : Tb) (f : Fd) : List UInt8 × Tb :=
  if neverF f then (namedB 16 15 T f.1, T)
  else if (fnd T f.1).2 then (putB 128 127 (numT T f.1), T)
  else if T.most < (cost f.1 : Int) then (namedB 0 15 T f.1, T)
  else (namedB 64 63 T f.1, T.add f.1)
def encL : Tb → List Fd → List UInt8 × Tb
  | T, [] => ([], T)
  | T, f :: l => ((encOne T f).1 ++ (encL (encOne T f).2 l).1, (encL (encOne T f).2 l).2)
/-- What must be told of the table's most. -/
def encSz (E : Enc) : List UInt8 :=
  if E.least < E.told ∧ E.least < E.T.most then putB 32 31 E.least.toNat ++ putB 32 31 E.T.most.toNat
  else if E.T.most ≠ E.told then putB 32 31 E.T.most.toNat else []
def Enc.run (E : Enc) (l : List Fd) : List UInt8 × Enc := (encSz E ++ (encL E.T l).1, ⟨E.own, E.T.most, E.T.most, (encL E.T l).2⟩)
def enB (E : Enc) (g : Nat) : Obj := .cells #[.int .i64 E.own, .int .i64 E.told, .int .i64 E.least, .pointer (some ⟨g, 0, none⟩)] 104 (0, 0)
def EncIs (w : World) (e : Nat) (G : Nat → Prop) (N : Nat) (E : Enc) : Prop := ∃ g F, G = (fun k => k = e ∨ F k) ∧ w.heap[e]? = some (enB E g) ∧ TabIs w g F N E.T ∧ ¬ F e
theorem own_base5 {w : World} {v : Value} {base B n : Nat} {e : TypeId} {size : Nat} {xs : List Value} (h : w.ownsRow base e size v n xs) (hB : B ≤ base) : w.ownsRow B e size v n xs := by
  rcases h with ⟨hl, ⟨rfl, h0⟩ | ⟨g, cap, cur, hv, hg, hb, h3⟩⟩
  · exact ⟨hl, .inl ⟨rfl, h0⟩⟩
  · exact ⟨hl, .inr ⟨g, cap, cur, hv, Nat.le_trans hB hg, hb, h3⟩⟩
theorem OwnB.below {w w' : World} {B : Nat} {v : Value} {l : List UInt8} (h : OwnB w B v l) (hb : Below w.heap.size w w') : OwnB w' B v l := own_kept4 h (Kept.of_below (F := fun _ => False) hb) (fun _ _ h => h)
theorem OwnB.base {w : World} {B B' : Nat} {v : Value} {l : List UInt8} (h : OwnB w B v l) (hB : B' ≤ B) : OwnB w B' v l := own_base5 h hB
theorem OwnB.rd {w : World} {B : Nat} {v : Value} {l : List UInt8} (h : OwnB w B v l) : ∃ A c, v = .slice A l.length c ∧ Rd w w.heap.size 1 A l.length (bvs l) := by
  obtain ⟨A, c, hv, -, -, hr, -⟩ := own_slice h
  exact ⟨A, c, hv, hr⟩
theorem fnd_bd (T : Tb) (f : Rw) : 0 ≤ (fnd T f).1 ∧ (fnd T f).1 ≤ 61 + T.rows.length := by
  have hL : (statF ++ T.rows.reverse).length = 61 + T.rows.length := by simp [statF_length]
  unfold fnd findA
  cases h : (statF ++ T.rows.reverse).findIdx? (fun r => r = f) with
  | some i =>
    have := (List.findIdx?_eq_some_iff_getElem.1 h).1
    simp only; omega
  | none =>
    have := nearA_le (statF ++ T.rows.reverse) f.1
    simp only; omega
theorem rows_few {T : Tb} (hT : TOk T) : T.rows.length ≤ 2048 := by
  have h3 := hT.fits
  have h4 := hT.most1
  have : (T.rows.length : Int) * 32 ≤ sumc T.rows := by
    have : ∀ l : List Rw, (l.length : Int) * 32 ≤ sumc l := by
      intro l
      induction l with
      | nil => exact Int.le_refl _
      | cons r l ih => rw [sumc_cons]; simp only [List.length_cons]; unfold cost; omega
    exact this T.rows
  omega
theorem numT_bd {T : Tb} (hT : TOk T) (f : Rw) : numT T f ≤ 4096 ∧ (fnd T f).1 = (numT T f : Int) := by
  have h1 := fnd_bd T f
  have h2 := rows_few hT
  unfold numT
  omega
set_option maxHeartbeats 1000000 in
theorem num_enc (f bits n F : Nat) (w : World) (hF : Full bits F) (hf : f < 256) (hfl : f % (F + 1) = 0) (hn32 : n ≤ 65536) :
    Calls Try.prog 64 #[.int .u8 f, .int .i64 bits, .int .i64 n] w (RetB w (putB f F n)) := by
  have HP := Lib.hid (put_ok f bits n F w hF hf hfl (by omega))
  clear hfl hF
  go_enter Try.func64, Try.ntmps64
  go_wp2_with fail
  refine HP.out.mono ?_
  rintro e w1 ⟨v, rfl, ho, hb⟩
  have H1 := Lib.hid (And.intro ho hb)
  clear ho hb
  go_wp2
  go_ret
  exact ⟨v, rfl, H1.out⟩
/-- Find, in the words of the plain encoder. -/
theorem find_enc {g N : Nat} {F : Nat → Prop} {T : Tb} (f : Rw) (nv : Bool) (w : World) (h : TabIs w g F N T) (hf1 : f.1.size ≤ 1048576) (hf2 : f.2.size ≤ 1048576) :
    Calls Try.prog 17 #[.pointer (some ⟨g, 0, none⟩), .agg #[.string f.1, .string f.2, .bool nv]] w fun e w' => e = .returned (.tuple #[.int .i64 (numT T f : Int), .bool (fnd T f).2]) ∧ Below w.heap.size w w' := by
  refine (find_any f nv w h (by omega) (by omega)).mono ?_
  rw [findT_all]
  rintro e w' ⟨rfl, hb⟩
  have := (numT_bd h.tok f).2
  exact ⟨by rw [← this]; rfl, hb⟩
theorem textB_le {s : ByteArray} (h : s.size ≤ 1048576) : (textB s.data.toList).length ≤ 1048576 + 7 := by
  have hs := str_len s
  by_cases hb : nbytes s.data.toList < s.data.toList.length
  · rw [textB_bits hb, List.length_append]
    have h1 := (putB_length 128 127 (nbytes s.data.toList)).1
    have h2 := encB_length s.data.toList
    omega
  · rw [textB_raw (by omega), List.length_append]
    have h1 := (putB_length 0 127 s.data.toList.length).1
    omega
set_option maxRecDepth 100000 in
set_option maxHeartbeats 4000000 in
theorem named_any {e g N bits Fm fl : Nat} {F : Nat → Prop} {E : Enc} (f : Rw) (nv : Bool) (w : World) (hd : w.heap[e]? = some (enB E g)) (ht : TabIs w g F N E.T) (hF : Full bits Fm) (hfl : fl < 256) (hflm : fl % (Fm + 1) = 0) (hf1 : f.1.size ≤ 1048576) (hf2 : f.2.size ≤ 1048576) :
    Calls Try.prog 73 #[.pointer (some ⟨e, 0, none⟩), .int .u8 fl, .int .i64 bits, .agg #[.string f.1, .string f.2, .bool nv]] w (RetB w (namedB fl Fm E.T f)) := by
  obtain ⟨W0, hW0⟩ : ∃ W0, w.alloc (.cells #[.string f.1, .string f.2, .bool nv] 24) = W0 := ⟨_, rfl⟩
  obtain ⟨x, hx⟩ : ∃ x, w.heap.size = x := ⟨_, rfl⟩
  have b0 : Below w.heap.size w W0 := by rw [← hW0]; exact (Below.refl _ _).alloc (Nat.le_refl _) _
  have kx : W0.heap[x]? = some (.cells #[.string f.1, .string f.2, .bool nv] 24 (0, 0)) := by rw [← hW0, ← hx]; exact heapNew _ _
  have hel := (Array.getElem?_eq_some_iff.1 hd).1
  have k0 : W0.heap[e]? = some (enB E g) := (b0.block e hel).trans hd
  have c3 : W0.cell? ⟨e, 3, none⟩ = some (.pointer (some ⟨g, 0, none⟩)) := by unfold World.cell?; rw [k0]; rfl
  have x0 : W0.cell? ⟨x, 0, none⟩ = some (.string f.1) := by unfold World.cell?; rw [kx]; rfl
  have x1 : W0.cell? ⟨x, 1, none⟩ = some (.string f.2) := by unfold World.cell?; rw [kx]; rfl
  have x2 : W0.cell? ⟨x, 2, none⟩ = some (.bool nv) := by unfold World.cell?; rw [kx]; rfl
  have hxl : x < W0.heap.size := (Array.getElem?_eq_some_iff.1 kx).1
  have hel0 : e < W0.heap.size := (Array.getElem?_eq_some_iff.1 k0).1
  have HFI : Hid (∀ w', w'.heap = W0.heap → Calls Try.prog 17 #[.pointer (some ⟨g, 0, none⟩), .agg #[.string f.1, .string f.2, .bool nv]] w' fun e w2 => e = .returned (.tuple #[.int .i64 (numT E.T f : Int), .bool (fnd E.T f).2]) ∧ Below w'.heap.size w' w2) := Lib.hid fun w' hw => find_enc f nv w' (ht.keep fun k hk => by rw [hw]; exact b0.block k (ht.lt k hk)) hf1 hf2
  have hnb := (numT_bd ht.tok f).1
  obtain ⟨n, hn⟩ : ∃ n, numT E.T f = n := ⟨_, rfl⟩
  obtain ⟨wh, hwh⟩ : ∃ wh, (fnd E.T f).2 = wh := ⟨_, rfl⟩
  rw [hn, hwh] at HFI
  rw [hn] at hnb
  have HNM : Hid (namedB fl Fm E.T f = putB fl Fm n ++ (if n = 0 then textB f.1.data.toList else []) ++ textB f.2.data.toList) := Lib.hid (by unfold namedB; rw [hn])
  obtain ⟨R, hR⟩ : ∃ R, namedB fl Fm E.T f = R := ⟨_, rfl⟩
  rw [hR] at HNM ⊢
  have HNU := Lib.hid (fun w' => num_enc fl bits n Fm w' hF hfl hflm (by omega))
  have HB0 := Lib.hid b0
  have HKX := Lib.hid kx
  have HW0 := Lib.hid hW0
  have HX := Lib.hid hx
  clear hW0 hx b0 kx k0 hd ht hn hwh hR hflm hF
  go_enter Try.func73, Try.ntmps73
  go_upto_region 1 with fail
  rw [HW0.out, HX.out]
  go_region_held3 (fun w' => w'.cell? ⟨e, 3, none⟩ = some (.pointer (some ⟨g, 0, none⟩)) ∧ w'.cell? ⟨x, 0, none⟩ = some (.string f.1) ∧ w'.cell? ⟨x, 1, none⟩ = some (.string f.2) ∧ w'.cell? ⟨x, 2, none⟩ = some (.bool nv))
    (first | go_keep | exact ⟨k0, k1, k2, k3⟩)
    (first
      | (go_at_call 17; refine (HFI.out _ (by rfl)).mono ?_; rintro e1 w1 ⟨rfl, hb1⟩; have k0 := (hb1.cell (p := ⟨e, 3, none⟩) hel0).trans c3; have k1 := (hb1.cell (p := ⟨x, 0, none⟩) hxl).trans x0; have k2 := (hb1.cell (p := ⟨x, 1, none⟩) hxl).trans x1; have k3 := (hb1.cell (p := ⟨x, 2, none⟩) hxl).trans x2; have hb1' : Below W0.heap.size W0 w1 := ⟨hb1.os, hb1.tape, hb1.output, hb1.size, hb1.block⟩; have HB1 : Hid (Below W0.heap.size W0 w1) := Lib.hid hb1'; clear hb1 hb1'))
  have HBW : Hid (Below w.heap.size w w1) := Lib.hid (HB0.out.trans (HB1.out.mono HB0.out.size))
  have HKX1 : Hid (w1.heap[x]? = some (.cells #[.string f.1, .string f.2, .bool nv] 24 (0, 0))) := Lib.hid ((HB1.out.block x hxl).trans HKX.out)
  have hs1 := HBW.out.size
  clear k0 k1 k2 k3 c3 x0 x1 x2
  go_wp2_with fail
  refine (HNU.out w1).mono ?_
  rintro e2 w2 ⟨v2, rfl, ho2, hb2⟩
  have hs12 := hb2.size
  have HB2 := Lib.hid (HBW.out.trans (hb2.mono HBW.out.size))
  have HO2 := Lib.hid ho2
  have kx2 := (hb2.block x (Array.getElem?_eq_some_iff.1 HKX1.out).1).trans HKX1.out
  have HKX2 := Lib.hid kx2
  have x0 : w2.cell? ⟨x, 0, none⟩ = some (.string f.1) := by unfold World.cell?; rw [kx2]; rfl
  have x1 : w2.cell? ⟨x, 1, none⟩ = some (.string f.2) := by unfold World.cell?; rw [kx2]; rfl
  have hx2 : x < w2.heap.size := (Array.getElem?_eq_some_iff.1 kx2).1
  have hpl := (putB_length fl Fm n).1
  clear ho2 hb2 kx2
  have hl1 : (textB f.1.data.toList).length ≤ 1048576 + 7 := textB_le hf1
  have hl2 : (textB f.2.data.toList).length ≤ 1048576 + 7 := textB_le hf2
  by_cases hn0 : n = 0
  · have HP1 := Lib.hid (putText_any f.1 w2 hf1)
    have HNM2 : Hid (R = putB fl Fm n ++ textB f.1.data.toList ++ textB f.2.data.toList) := Lib.hid (by rw [HNM.out, if_pos hn0])
    subst hn0
    go_wp2_with fail
    refine HP1.out.mono ?_
    rintro e3 w3 ⟨v3, rfl, ho3, hb3⟩
    have HB3 := Lib.hid (HB2.out.trans (hb3.mono HB2.out.size))
    have HO23 := Lib.hid (HO2.out.below hb3)
    obtain ⟨A3, c3, rfl, hr3⟩ := ho3.rd
    have HR3 := Lib.hid hr3
    have kx3 := (hb3.block x hx2).trans HKX2.out
    have HKX3 := Lib.hid kx3
    have hs3 := hb3.size
    clear ho3 hb3 hr3 kx3 x0 x1
    have hx1 : x < w1.heap.size := (Array.getElem?_eq_some_iff.1 HKX1.out).1
    go_wp2_with (at_builtin; refine wpList_app (.tmp 27) (.tmp 30) tBytes rfl rfl HO23.out rfl HR3.out rfl (bvs_one _) (le_maxLen (by omega)) (by omega) (by omega) ?_; intro v4 w4 hown4 hg4 _; have kx4 : w4.heap[x]? = some (.cells #[.string f.1, .string f.2, .bool nv] 24 (0, 0)) := ((hg4.block x (by omega) (fun e => by have := (HO23.out.lt x e.symm).1; omega)).trans HKX3.out); have y1 : w4.cell? ⟨x, 1, none⟩ = some (.string f.2) := (by unfold World.cell?; rw [kx4]; rfl); have HBQ : Hid (Below w.heap.size w w4) := Lib.hid (Below.app HB3.out HO23.out hg4 hs1 (by have := HB3.out.size; omega)); have HOQ : Hid (OwnB w4 w1.heap.size v4 (putB fl Fm 0 ++ textB f.1.data.toList)) := Lib.hid (own_app hown4 (Nat.le_refl _)); have hs4 := hg4.size; clear hown4 hg4 kx4)
    have HP2 := Lib.hid (putText_any f.2 w4 hf2)
    have hlq : (putB fl Fm 0 ++ textB f.1.data.toList).length ≤ 2097200 := by rw [List.length_append]; omega
    obtain ⟨lq, hlqq⟩ : ∃ lq, putB fl Fm 0 ++ textB f.1.data.toList = lq := ⟨_, rfl⟩
    rw [hlqq] at HOQ hlq HNM2
    clear hlqq
    refine HP2.out.mono ?_
    rintro e5 w5 ⟨v5, rfl, ho5, hb5⟩
    have HB5 := Lib.hid (HBQ.out.trans (hb5.mono HBQ.out.size))
    have HOQ5 := Lib.hid (HOQ.out.below hb5)
    obtain ⟨A5, c5, rfl, hr5⟩ := ho5.rd
    have HR5 := Lib.hid hr5
    have hs5 := hb5.size
    clear ho5 hb5 hr5
    go_wp2_with (at_builtin; refine wpList_app (.tmp 32) (.tmp 35) tBytes rfl rfl HOQ5.out rfl HR5.out rfl (bvs_one _) (le_maxLen (by omega)) (by omega) (by omega) ?_; intro v6 w6 hown6 hg6 _)
    go_ret
    refine ⟨v6, rfl, ?_, Below.app HB5.out HOQ5.out hg6 (by omega) (by have := HB5.out.size; omega)⟩
    rw [HNM2.out]
    exact own_app hown6 (by omega)
  · have HNM2 : Hid (R = putB fl Fm n ++ textB f.2.data.toList) := Lib.hid (by rw [HNM.out, if_neg hn0, List.append_nil])
    have hnz : ((n : Int) == 0) = false := by rw [beq_eq_false_iff_ne]; omega
    have HP2 := Lib.hid (putText_any f.2 w2 hf2)
    have HBQ := Lib.hid HB2.out
    have HOQ := Lib.hid HO2.out
    have hlq : (putB fl Fm n).length ≤ 7 := hpl
    go_wp2_with fail
    refine HP2.out.mono ?_
    rintro e5 w5 ⟨v5, rfl, ho5, hb5⟩
    have HB5 := Lib.hid (HBQ.out.trans (hb5.mono HBQ.out.size))
    have HOQ5 := Lib.hid (HOQ.out.below hb5)
    obtain ⟨A5, c5, rfl, hr5⟩ := ho5.rd
    have HR5 := Lib.hid hr5
    have hs5 := hb5.size
    clear ho5 hb5 hr5
    go_wp2_with (at_builtin; refine wpList_app (.tmp 32) (.tmp 35) tBytes rfl rfl HOQ5.out rfl HR5.out rfl (bvs_one _) (le_maxLen (by omega)) (by omega) (by omega) ?_; intro v6 w6 hown6 hg6 _)
    go_ret
    refine ⟨v6, rfl, ?_, Below.app HB5.out HOQ5.out hg6 (by omega) (by have := HB5.out.size; omega)⟩
    rw [HNM2.out]
    exact own_app hown6 (by omega)
end Go.Proofs.Ythpieiipddfpjaa

/- The walks of hpack.Encoder's never, aside, found, kept. -/
namespace Go.Proofs.Ythpieiipddfpjaa
open Go.RowKit

/-- What writing hands back. -/
def EPost (W : World) (e : Nat) (G : Nat → Prop) (N : Nat) (E' : Enc) (l : List UInt8) (ev : Ending) (w' : World) : Prop :=
  ∃ v, ev = .returned v ∧ OwnB w' W.heap.size v l ∧ ∃ G', EncIs w' e G' N E' ∧ Kept G W w' ∧ Grew W G G' ∧ ∀ k, v.ownBlock = some k → ¬ G' k
section
variable {w w' : World} {e N N' : Nat} {G : Nat → Prop} {E : Enc} {l : List UInt8} {ev : Ending}
theorem EncIs.lt (h : EncIs w e G N E) : ∀ k, G k → k < w.heap.size := by
  obtain ⟨g, F, rfl, hd, ht, hF⟩ := h
  rintro k (rfl | hk)
  · exact (Array.getElem?_eq_some_iff.1 hd).1
  · exact ht.lt k hk
theorem EncIs.keep (h : EncIs w e G N E) (hk : ∀ k, G k → w'.heap[k]? = w.heap[k]?) : EncIs w' e G N E := by
  obtain ⟨g, F, rfl, hd, ht, hF⟩ := h
  exact ⟨g, F, rfl, (hk e (.inl rfl)).trans hd, ht.keep fun k hf => hk k (.inr hf), hF⟩
theorem EncIs.below (h : EncIs w e G N E) (hb : Below w.heap.size w w') : EncIs w' e G N E := h.keep fun k hk => hb.block k (h.lt k hk)
theorem EncIs.more (h : EncIs w e G N E) (hn : N ≤ N') (hN : N' ≤ 1099511627776) : EncIs w e G N' E := by
  obtain ⟨g, F, hG, hd, ht, hF⟩ := h
  exact ⟨g, F, hG, hd, ht.more hn hN, hF⟩
theorem EncIs.tok (h : EncIs w e G N E) : TOk E.T := by
  obtain ⟨g, F, hG, hd, ht, hF⟩ := h
  exact ht.tok
theorem EncIs.ret (h : EncIs w e G N E) (hr : RetB w l ev w') : EPost w e G N E l ev w' := by
  obtain ⟨v, he, ho, hb⟩ := hr
  exact ⟨v, he, ho, G, h.below hb, Kept.of_below hb, Grew.refl _ _, fun k hk hg => by have := (World.ownsRow.lt ho k hk).1; have := h.lt k hg; omega⟩
end
set_option maxRecDepth 100000 in
set_option maxHeartbeats 1000000 in
theorem never_any {e N : Nat} {G : Nat → Prop} {E : Enc} (f : Rw) (nv : Bool) (w : World) (h : EncIs w e G N E) (hf1 : f.1.size ≤ 1048576) (hf2 : f.2.size ≤ 1048576) :
    Calls Try.prog 65 #[.pointer (some ⟨e, 0, none⟩), .agg #[.string f.1, .string f.2, .bool nv]] w (EPost w e G N E (namedB 16 15 E.T f)) := by
  obtain ⟨W0, hW0⟩ : ∃ W0, w.alloc (.cells #[.string f.1, .string f.2, .bool nv] 24) = W0 := ⟨_, rfl⟩
  obtain ⟨x, hx⟩ : ∃ x, w.heap.size = x := ⟨_, rfl⟩
  have b0 : Below w.heap.size w W0 := by rw [← hW0]; exact (Below.refl _ _).alloc (Nat.le_refl _) _
  have kx : W0.heap[x]? = some (.cells #[.string f.1, .string f.2, .bool nv] 24 (0, 0)) := by rw [← hW0, ← hx]; exact heapNew _ _
  have x0 : W0.cell? ⟨x, 0, none⟩ = some (.string f.1) := by unfold World.cell?; rw [kx]; rfl
  have x1 : W0.cell? ⟨x, 1, none⟩ = some (.string f.2) := by unfold World.cell?; rw [kx]; rfl
  have x2 : W0.cell? ⟨x, 2, none⟩ = some (.bool nv) := by unfold World.cell?; rw [kx]; rfl
  have hr : Calls Try.prog 73 #[.pointer (some ⟨e, 0, none⟩), .int .u8 (16 : Nat), .int .i64 (4 : Nat), .agg #[.string f.1, .string f.2, .bool nv]] W0 (RetB W0 (namedB 16 15 E.T f)) := by
    obtain ⟨g, F, -, hd, ht, -⟩ := h.below b0
    exact named_any f nv W0 hd ht full4 (by omega) rfl hf1 hf2
  have HR := Lib.hid hr
  have HH := Lib.hid h
  have HB := Lib.hid b0
  have HW0 := Lib.hid hW0
  have HX := Lib.hid hx
  clear hW0 hx b0 kx hr h
  go_enter Try.func65, Try.ntmps65
  go_upto_region 1 with fail
  rw [HW0.out, HX.out]
  go_wp2_with fail
  refine HR.out.mono ?_
  rintro e1 w1 ⟨v, rfl, ho, hb⟩
  have H1 := Lib.hid (And.intro ho hb)
  clear ho hb
  go_wp2
  go_ret
  exact HH.out.ret ⟨v, rfl, H1.out.1.base HB.out.size, HB.out.trans (H1.out.2.mono HB.out.size)⟩
set_option maxRecDepth 100000 in
set_option maxHeartbeats 1000000 in
theorem aside_any {e N : Nat} {G : Nat → Prop} {E : Enc} (f : Rw) (nv : Bool) (w : World) (h : EncIs w e G N E) (hf1 : f.1.size ≤ 1048576) (hf2 : f.2.size ≤ 1048576) :
    Calls Try.prog 67 #[.pointer (some ⟨e, 0, none⟩), .agg #[.string f.1, .string f.2, .bool nv]] w (EPost w e G N E (namedB 0 15 E.T f)) := by
  obtain ⟨W0, hW0⟩ : ∃ W0, w.alloc (.cells #[.string f.1, .string f.2, .bool nv] 24) = W0 := ⟨_, rfl⟩
  obtain ⟨x, hx⟩ : ∃ x, w.heap.size = x := ⟨_, rfl⟩
  have b0 : Below w.heap.size w W0 := by rw [← hW0]; exact (Below.refl _ _).alloc (Nat.le_refl _) _
  have kx : W0.heap[x]? = some (.cells #[.string f.1, .string f.2, .bool nv] 24 (0, 0)) := by rw [← hW0, ← hx]; exact heapNew _ _
  have x0 : W0.cell? ⟨x, 0, none⟩ = some (.string f.1) := by unfold World.cell?; rw [kx]; rfl
  have x1 : W0.cell? ⟨x, 1, none⟩ = some (.string f.2) := by unfold World.cell?; rw [kx]; rfl
  have x2 : W0.cell? ⟨x, 2, none⟩ = some (.bool nv) := by unfold World.cell?; rw [kx]; rfl
  have hr : Calls Try.prog 73 #[.pointer (some ⟨e, 0, none⟩), .int .u8 (0 : Nat), .int .i64 (4 : Nat), .agg #[.string f.1, .string f.2, .bool nv]] W0 (RetB W0 (namedB 0 15 E.T f)) := by
    obtain ⟨g, F, -, hd, ht, -⟩ := h.below b0
    exact named_any f nv W0 hd ht full4 (by omega) rfl hf1 hf2
  have HR := Lib.hid hr
  have HH := Lib.hid h
  have HB := Lib.hid b0
  have HW0 := Lib.hid hW0
  have HX := Lib.hid hx
  clear hW0 hx b0 kx hr h
  go_enter Try.func67, Try.ntmps67
  go_upto_region 1 with fail
  rw [HW0.out, HX.out]
  go_wp2_with fail
  refine HR.out.mono ?_
  rintro e1 w1 ⟨v, rfl, ho, hb⟩
  have H1 := Lib.hid (And.intro ho hb)
  clear ho hb
  go_wp2
  go_ret
  exact HH.out.ret ⟨v, rfl, H1.out.1.base HB.out.size, HB.out.trans (H1.out.2.mono HB.out.size)⟩
set_option maxRecDepth 100000 in
set_option maxHeartbeats 2000000 in
theorem found_any {e N : Nat} {G : Nat → Prop} {E : Enc} (f : Rw) (nv : Bool) (w : World) (h : EncIs w e G N E) (hf1 : f.1.size ≤ 1048576) (hf2 : f.2.size ≤ 1048576) :
    Calls Try.prog 66 #[.pointer (some ⟨e, 0, none⟩), .agg #[.string f.1, .string f.2, .bool nv]] w (EPost w e G N E (putB 128 127 (numT E.T f))) := by
  obtain ⟨W0, hW0⟩ : ∃ W0, w.alloc (.cells #[.string f.1, .string f.2, .bool nv] 24) = W0 := ⟨_, rfl⟩
  obtain ⟨x, hx⟩ : ∃ x, w.heap.size = x := ⟨_, rfl⟩
  have b0 : Below w.heap.size w W0 := by rw [← hW0]; exact (Below.refl _ _).alloc (Nat.le_refl _) _
  have kx : W0.heap[x]? = some (.cells #[.string f.1, .string f.2, .bool nv] 24 (0, 0)) := by rw [← hW0, ← hx]; exact heapNew _ _
  have x0 : W0.cell? ⟨x, 0, none⟩ = some (.string f.1) := by unfold World.cell?; rw [kx]; rfl
  have x1 : W0.cell? ⟨x, 1, none⟩ = some (.string f.2) := by unfold World.cell?; rw [kx]; rfl
  have x2 : W0.cell? ⟨x, 2, none⟩ = some (.bool nv) := by unfold World.cell?; rw [kx]; rfl
  have hxl : x < W0.heap.size := (Array.getElem?_eq_some_iff.1 kx).1
  obtain ⟨g, F, -, hd, ht, -⟩ := h.below b0
  have c3 : W0.cell? ⟨e, 3, none⟩ = some (.pointer (some ⟨g, 0, none⟩)) := by unfold World.cell?; rw [hd]; rfl
  have hel0 : e < W0.heap.size := (Array.getElem?_eq_some_iff.1 hd).1
  have HFI : Hid (∀ w', w'.heap = W0.heap → Calls Try.prog 17 #[.pointer (some ⟨g, 0, none⟩), .agg #[.string f.1, .string f.2, .bool nv]] w' fun e w2 => e = .returned (.tuple #[.int .i64 (numT E.T f : Int), .bool (fnd E.T f).2]) ∧ Below w'.heap.size w' w2) := Lib.hid fun w' hw => find_enc f nv w' (ht.keep fun k hk => by rw [hw]) hf1 hf2
  have hnb := (numT_bd ht.tok f).1
  obtain ⟨n, hn⟩ : ∃ n, numT E.T f = n := ⟨_, rfl⟩
  rw [hn] at hnb HFI ⊢
  have HNU := Lib.hid (fun w' => num_enc 128 7 n 127 w' full7 (by omega) rfl (by omega))
  have HH := Lib.hid h
  have HB := Lib.hid b0
  have HW0 := Lib.hid hW0
  have HX := Lib.hid hx
  clear hW0 hx b0 kx h hd ht hn
  go_enter Try.func66, Try.ntmps66
  go_upto_region 1 with fail
  rw [HW0.out, HX.out]
  go_region_held3 (fun w' => w'.cell? ⟨e, 3, none⟩ = some (.pointer (some ⟨g, 0, none⟩)) ∧ w'.cell? ⟨x, 0, none⟩ = some (.string f.1) ∧ w'.cell? ⟨x, 1, none⟩ = some (.string f.2) ∧ w'.cell? ⟨x, 2, none⟩ = some (.bool nv))
    (first | go_keep | exact ⟨k0, k1, k2, k3⟩)
    (first
      | (go_at_call 17; refine (HFI.out _ (by rfl)).mono ?_; rintro e1 w1 ⟨rfl, hb1⟩; have k0 := (hb1.cell (p := ⟨e, 3, none⟩) hel0).trans c3; have k1 := (hb1.cell (p := ⟨x, 0, none⟩) hxl).trans x0; have k2 := (hb1.cell (p := ⟨x, 1, none⟩) hxl).trans x1; have k3 := (hb1.cell (p := ⟨x, 2, none⟩) hxl).trans x2; have hb1' : Below W0.heap.size W0 w1 := ⟨hb1.os, hb1.tape, hb1.output, hb1.size, hb1.block⟩; have HB1 : Hid (Below W0.heap.size W0 w1) := Lib.hid hb1'; clear hb1 hb1'))
  have HB1' := Lib.hid (HB.out.trans (HB1.out.mono HB.out.size))
  clear k0 k1 k2 k3 c3 x0 x1 x2
  go_wp2_with fail
  refine (HNU.out w1).mono ?_
  rintro e1 w2 ⟨v, rfl, ho, hb⟩
  have H1 := Lib.hid (And.intro ho hb)
  clear ho hb
  go_wp2
  go_ret
  exact HH.out.ret ⟨v, rfl, H1.out.1.base HB1'.out.size, HB1'.out.trans (H1.out.2.mono HB1'.out.size)⟩
end Go.Proofs.Ythpieiipddfpjaa
