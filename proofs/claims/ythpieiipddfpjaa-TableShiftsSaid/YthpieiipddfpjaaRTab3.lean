/- The walk of drawbridgeref04.Add. -/
import Derived.Test.YthpieiipddfpjaaRTab2
import Derived.Deep.RegionHeld3
namespace Go.Proofs.Ythpieiipddfpjaa
open Go.RowKit

theorem own_one (w : World) (B : Nat) (e : TypeId) (a b c : Value) (hB : B ≤ w.heap.size) : (w.alloc (.cells #[a, b, c] e)).ownsRow B e 3 (.slice (some ⟨w.heap.size, 0, none⟩) 1 1) 1 [a, b, c] :=
  ⟨by simp, .inr ⟨_, 1, #[a, b, c], rfl, hB, heapNew _ _, Nat.le_refl _, by unfold maxLen; omega, by simp, by simp⟩⟩
/-- Behind a test: the fields' cells stand. -/
def RAddMid (W : World) (g : Nat) (A : Option Addr) (c : Nat) (most : Int) (rows : List Rw) (q : Nat) (f : Rw) (b : Bool) (v : Value) (wx : World) : Prop :=
  v = .bool b ∧ RT wx g A c most rows ∧ Below W.heap.size W wx ∧ wx.cell? ⟨q, 0, none⟩ = some (.string f.1) ∧ wx.cell? ⟨q, 1, none⟩ = some (.string f.2) ∧ (∃ nv, wx.cell? ⟨q, 2, none⟩ = some (.bool nv)) ∧ q < wx.heap.size
def RAddRel (W : World) (g : Nat) (F : Nat → Prop) (most m : Int) (rows0 : List Rw) (q : Nat) (f : Rw) (nv : Bool) (k : Nat) (wr : World) : Prop :=
  ∃ F1 g1 rows, RIs wr g F1 most rows ∧ Kept F W wr ∧ Grew W F F1 ∧ shrunk m 0 rows0 = shrunk m g1 rows ∧ Small rows ∧ k = rows.length ∧
    wr.cell? ⟨q, 0, none⟩ = some (.string f.1) ∧ wr.cell? ⟨q, 1, none⟩ = some (.string f.2) ∧ wr.cell? ⟨q, 2, none⟩ = some (.bool nv) ∧ q < wr.heap.size ∧ ¬ F1 q

def BoolIs (v : Value) (d : Bool) : Prop := ∃ b, v = .bool b ∧ b = d
def raddR (most : Int) (rows : List Rw) (f : Rw) : List Rw := if most < (cost f : Int) then [] else (shrunk (most - cost f) 0 rows).2 ++ [f]
set_option maxRecDepth 100000 in
set_option maxHeartbeats 4000000 in
theorem radd_any {g : Nat} {F : Nat → Prop} {most : Int} {rows : List Rw} (f : Rw) (nv : Bool) (w : World) (h : RIs w g F most rows) (hs : Small rows) (hf1 : f.1.size ≤ 1099511627776) (hf2 : f.2.size ≤ 1099511627776) (hm0 : 0 ≤ most) (hm1 : most ≤ 65536) :
    Calls Try.prog 43 #[.pointer (some ⟨g, 0, none⟩), .agg #[.string f.1, .string f.2, .bool nv]] w (RStep w g F most (raddR most rows f)) := by
  obtain ⟨A, c, rfl, ht⟩ := h
  have hcost : (cost f : Int) = f.1.size + f.2.size + 32 := by unfold cost; omega
  obtain ⟨cr, hcr⟩ : ∃ cr : Int, (cost f : Int) = cr := ⟨_, rfl⟩
  have hcr0 : 32 ≤ cr := by omega
  have hcr1 : cr ≤ 4398046511104 := by omega
  have HCR := Lib.hid hcr
  have hgl := ht.lt g (.inl rfl)
  obtain ⟨W0, hW0⟩ : ∃ W0, w.alloc (.cells #[.string f.1, .string f.2, .bool nv] 24) = W0 := ⟨_, rfl⟩
  obtain ⟨q, hq⟩ : ∃ q, w.heap.size = q := ⟨_, rfl⟩
  have b0 : Below w.heap.size w W0 := by rw [← hW0]; exact (Below.refl _ _).alloc (Nat.le_refl _) _
  have x0 : W0.cell? ⟨q, 0, none⟩ = some (.string f.1) := by rw [← hW0, ← hq]; exact World.cell?_alloc_at _ _ _ _ rfl
  have x1 : W0.cell? ⟨q, 1, none⟩ = some (.string f.2) := by rw [← hW0, ← hq]; exact World.cell?_alloc_at _ _ _ _ rfl
  have x2 : W0.cell? ⟨q, 2, none⟩ = some (.bool nv) := by rw [← hW0, ← hq]; exact World.cell?_alloc_at _ _ _ _ rfl
  have hql : q < W0.heap.size := by rw [← hW0, ← hq]; simp
  have hg0 : g < W0.heap.size := by have := b0.size; omega
  have ht0 : RT W0 g A c most rows := ht.keep fun k hk => b0.block k (ht.lt k hk)
  have hqf : ¬ rfoot g A q := fun hf => by have := ht.lt q hf; omega
  have H0 := Lib.hid (And.intro ht0 (And.intro b0 hqf))
  have HW0 := Lib.hid hW0
  have HQ := Lib.hid hq
  have HS := Lib.hid hs
  obtain ⟨c0, -⟩ := ht0.cells
  clear hcost hcr hW0 hq b0 ht0 hqf hs ht
  go_enter Try.func43, Try.ntmps43
  go_upto_region 1 with fail
  rw [HW0.out, HQ.out]
  go_cut [10] (fun v wx => BoolIs v (decide (most < cr)) ∧ Below W0.heap.size W0 wx)
  case first =>
    go_region_held3 (fun w' => w'.cell? ⟨g, 0, none⟩ = some (.int .i64 most) ∧ w'.cell? ⟨q, 0, none⟩ = some (.string f.1) ∧ w'.cell? ⟨q, 1, none⟩ = some (.string f.2) ∧ w'.cell? ⟨q, 2, none⟩ = some (.bool nv))
      (go_keep)
      (first
        | (go_at_call 27; refine (cost_ref f nv _ (by omega) (by omega)).mono ?_; rintro e w2 ⟨rfl, rfl⟩; rw [HCR.out]))
    all_goals
      go_wp2_with fail
      go_meet
      exact ⟨⟨_, rfl, rfl⟩, ((Below.refl _ _).alloc (Nat.le_refl _) _).drew⟩
  case rest =>
    obtain ⟨⟨b0, rfl, hbd⟩, hb⟩ := hcut
    have HB := Lib.hid hb
    have hrt : RT wc g A c most rows := H0.out.1.keep fun k hk => hb.block k (H0.out.1.lt k hk)
    have hf1z := hrt.free 1
    obtain ⟨d0, d1⟩ := hrt.cells
    have HRT := Lib.hid hrt
    have y0 := (hb.cell (p := ⟨q, 0, none⟩) hql).trans x0
    have y1 := (hb.cell (p := ⟨q, 1, none⟩) hql).trans x1
    have y2 := (hb.cell (p := ⟨q, 2, none⟩) hql).trans x2
    have hk0 : Hid (Kept (rfoot g A) w wc) := Lib.hid ((Kept.of_below H0.out.2.1).same (Kept.of_below hb))
    have hqc : q < wc.heap.size := Nat.lt_of_lt_of_le hql hb.size
    clear hb hrt x0 x1 x2 c0
    by_cases hbig : most < cr
    · obtain rfl : b0 = true := by rw [hbd]; simpa using hbig
      clear hbd
      have HP := Lib.hid (show raddR most rows f = [] from if_pos (by rw [HCR.out]; exact hbig))
      go_wp2
      refine bodyPost_ret (v := .tuple #[]) (by simp [results, Try.results43, go_sem]) rfl ?_
      rw [HP.out]
      refine ⟨rfl, rfoot g none, ⟨none, 0, rfl, HRT.out.store (A4 := none) (c4 := 0) (rows' := []) rfl (base := 0) ⟨rfl, .inl ⟨rfl, rfl⟩⟩ (fun a ha => by cases ha)⟩, hk0.out.setCell (.inl rfl) _ _, fun k hk => ?_⟩
      rcases hk with rfl | ⟨a, ha, _⟩
      · exact .inl (.inl rfl)
      · cases ha
    · obtain rfl : b0 = false := by rw [hbd]; simpa using hbig
      clear hbd
      have hle : cr ≤ most := by omega
      have HP := Lib.hid (show raddR most rows f = (shrunk (most - cr) 0 rows).2 ++ [f] by unfold raddR; rw [if_neg (by rw [HCR.out]; exact hbig), HCR.out])
      clear hbig
      go_wp2
      go_loopg [23] rows.length (fun k _ wr => RAddRel w g (rfoot g A) most (most - cr) rows q f nv k wr)
      case atStart => exact ⟨rfoot g A, 0, rows, ⟨A, c, rfl, HRT.out⟩, hk0.out, Grew.refl _ _, rfl, HS.out, rfl, y0, y1, y2, hqc, H0.out.2.2⟩
      case round =>
        obtain ⟨F1, g1, rows1, hris, hkept, hgrew, hsh, hsm, hk, z0, z1, z2, hqr, hqF⟩ := hrel
        have hl := hsm.len
        have hss := sumc_nonneg rows1
        have hsu := hsm.1
        obtain ⟨A1, c1, hF1, hrt1⟩ := hris
        obtain ⟨e0, e1⟩ := hrt1.cells
        have hgr := hrt1.lt g (.inl rfl)
        have HC := Lib.hid (fun (w' : World) (hw : w'.heap = wr.heap) => rsize_any w' (show RIs w' g F1 most rows1 from ⟨A1, c1, hF1, hrt1.keep fun _ _ => by rw [hw]⟩) hsm)
        have HR := Lib.hid (And.intro hF1 (And.intro hrt1 (And.intro hkept (And.intro hgrew (And.intro hsh (And.intro hsm (And.intro hk hqF)))))))
        clear hF1 hrt1 hkept hgrew hsh hsm hk hqF hk0 y0 y1 y2 d0 d1 hf1z HB HRT hqc
        go_upto_region 3 with fail
        go_cut [23] (fun v wx => BoolIs v (decide (most < sumc rows1 + cr)) ∧ Below wr.heap.size wr wx)
        case first =>
          have s1 : IntKind.i64.wrap (sumc rows1 + cr) = sumc rows1 + cr := by rw [IntWalk.i64_in _ ⟨by omega, by omega⟩]
          go_region_held3 (fun w' => w'.cell? ⟨g, 0, none⟩ = some (.int .i64 most) ∧ w'.cell? ⟨q, 0, none⟩ = some (.string f.1) ∧ w'.cell? ⟨q, 1, none⟩ = some (.string f.2) ∧ w'.cell? ⟨q, 2, none⟩ = some (.bool nv))
            (first | go_keep | exact ⟨k0, k1, k2, k3⟩)
            (first
              | (go_at_call 22; refine (HC.out _ (by rfl)).mono ?_; rintro e w2 ⟨rfl, hb2⟩; have k0 := (hb2.cell (p := ⟨g, 0, none⟩) hgr).trans e0; have k1 := (hb2.cell (p := ⟨q, 0, none⟩) hqr).trans z0; have k2 := (hb2.cell (p := ⟨q, 1, none⟩) hqr).trans z1; have k3 := (hb2.cell (p := ⟨q, 2, none⟩) hqr).trans z2; have hgw : g < w2.heap.size := Nat.lt_of_lt_of_le hgr hb2.size; have hqw : q < w2.heap.size := Nat.lt_of_lt_of_le hqr hb2.size; have HB2 := Lib.hid hb2; have hsz2 : wr.heap.size ≤ w2.heap.size := hb2.size; clear hb2)
              | (go_at_call 27; refine (cost_ref f nv _ (by omega) (by omega)).mono ?_; rintro e w3 ⟨rfl, rfl⟩; rw [HCR.out]))
          all_goals
            go_wp2_with fail
            go_meet
            first
              | exact ⟨⟨_, rfl, rfl⟩, (((Below.refl _ _).drew.trans HB2.out).alloc hsz2 _)⟩
              | exact ⟨⟨_, rfl, rfl⟩, (((Below.refl _ _).drew.trans HB2.out).alloc hsz2 _).drew⟩
        case rest =>
          obtain ⟨⟨b1, rfl, hbd⟩, hb1⟩ := hcut
          have hrt := HR.out.2.1.keep (w' := wc) (fun k hk => hb1.block k (HR.out.2.1.lt k hk))
          have HB1 := Lib.hid hb1
          have HRT := Lib.hid hrt
          obtain ⟨-, d1⟩ := hrt.cells
          have hfz := hrt.free 1
          have hgl1 := hrt.lt g (.inl rfl)
          have v0 := (hb1.cell (p := ⟨q, 0, none⟩) hqr).trans z0
          have v1 := (hb1.cell (p := ⟨q, 1, none⟩) hqr).trans z1
          have v2 := (hb1.cell (p := ⟨q, 2, none⟩) hqr).trans z2
          have hqc : q < wc.heap.size := Nat.lt_of_lt_of_le hqr hb1.size
          have HV := Lib.hid (And.intro v0 (And.intro v1 v2))
          clear e0 e1 z0 z1 z2 hb1 HC
          by_cases hbig : most - cr < sumc rows1
          · obtain rfl : b1 = true := by rw [hbd]; simp; omega
            clear hbd
            cases rows1 with
            | nil => exact absurd hbig (by unfold sumc; simp; omega)
            | cons r l =>
              have hrd := ((hrt.row.rd rfl).pre (m := l.length) (by simp))
              rw [List.reverse_cons, ← List.length_reverse, fcs_pre, List.length_reverse] at hrd
              have HRD := Lib.hid hrd
              obtain ⟨A', c', hv, hnc, hcm, -⟩ := hrt.row.form
              injection hv with e1 e2 e3
              subst e1 e3
              simp only [List.length_cons] at d1 hnc hl
              clear hrt hrd
              have s1 : IntKind.i64.wrap (l.length : Int) = (l.length : Int) := by rw [IntWalk.i64_in _ ⟨by omega, by omega⟩]
              have hnc2 : (l.length : Int) ≤ (c1 : Int) := by omega
              go_upto_region 4 with fail
              go_region_law (first
                | (refine step_app (.tmp 25) (.tmp 36) tFields rfl rfl (own_new wc wc.heap.size 3 _ (Nat.le_refl _)) rfl (HRD.out.alloc (Nat.le_refl _) _) rfl (fcs_one _) (le_maxLen (by omega)) (by omega) (by simp) ?_; intro v4 w4 hown4 hg4 hb4; obtain ⟨A4, c4, rfl, -, -, -, hbase⟩ := own_slice hown4; have hg5 : w4.heap[g]? = wc.heap[g]? := (hg4.block g (by simp; omega) (by simp [Value.ownBlock]; omega)).trans (Below.heap_alloc wc _ g hgl1); have m1 : w4.cell? ⟨g, 1, none⟩ = some (.slice A1 (l.length + 1) c1) := (World.cell?_of_block (a := ⟨g, 1, none⟩) hg5).trans d1; have mf : w4.frozen? ⟨g, 1, none⟩ = false := (World.frozen?_of_block (a := ⟨g, 1, none⟩) hg5).trans hfz; have hq5 : w4.heap[q]? = wc.heap[q]? := (hg4.block q (by simp; omega) (by simp [Value.ownBlock]; omega)).trans (Below.heap_alloc wc _ q hqc); have H5 := Lib.hid (And.intro hown4 (And.intro hg4 (And.intro hbase (And.intro hg5 hq5)))); clear hown4 hg4 hbase hg5 hb4 hq5))
              all_goals
                go_wp2_with fail
                go_roundg l.length
                case measure => have := HR.out.2.2.2.2.2.2.1; simp at this; omega
                case rel =>
                  obtain ⟨hown4, hg4, hbase, hg5, hq5⟩ := H5.out
                  obtain ⟨hF1, hrt1, hkept, hgrew, hsh, hsm, hk, hqF⟩ := HR.out
                  simp only [Nat.zero_add, List.nil_append] at hown4 ⊢
                  have hsz1 := HB1.out.size
                  have hszw := hkept.size
                  have hszg := hg4.size
                  have hqg : q ≠ g := fun e => hqF (hF1 ▸ .inl e)
                  have hqx : ∀ o v, (w4.setCell ⟨g, 1, none⟩ v).cell? ⟨q, o, none⟩ = wc.cell? ⟨q, o, none⟩ := fun o v =>
                    (World.cell?_of_block (a := ⟨q, o, none⟩) (Below.heap_setCell _ _ _ _ (by simpa using hqg))).trans (World.cell?_of_block (a := ⟨q, o, none⟩) hq5)
                  refine ⟨rfoot g A4, g1 + 1, l, ⟨A4, c4, rfl, HRT.out.store hg5 hown4 (fun a ha => by have := hbase a ha; omega)⟩, ?_, ?_, ?_, hsm.tail, rfl, (hqx 0 _).trans HV.out.1, (hqx 1 _).trans HV.out.2.1, (hqx 2 _).trans HV.out.2.2, by simp at hszg; simp [World.setCell]; omega, ?_⟩
                  · refine Kept.setCell (Kept.grown ((hkept.same (Kept.of_below HB1.out)).alloc _).drew hg4 (fun k hk => .inr ?_)) (.inl rfl) _ _
                    simp [Value.ownBlock] at hk
                    omega
                  · intro k hk
                    rcases hk with rfl | ⟨a, ha, rfl⟩
                    · exact .inl (.inl rfl)
                    · exact .inr (by have := hbase a ha; omega)
                  · rw [hsh]; exact shrunk_go hbig
                  · rintro (e | ⟨a, ha, e⟩)
                    · exact hqg e
                    · have := hbase a ha; omega
          · obtain rfl : b1 = false := by rw [hbd]; simp; omega
            clear hbd
            have hle : sumc rows1 ≤ most - cr := by omega
            have hrd := hrt.row.rd rfl
            have HRD := Lib.hid hrd
            clear hrt hrd
            go_wp2
            go_region_law (first
              | (refine step_app (.tmp 46) (.tmp 50) tFields rfl rfl (own_one wc wc.heap.size _ _ _ _ (Nat.le_refl _)) rfl (HRD.out.alloc (Nat.le_refl _) _) rfl (fcs_one _) (le_maxLen (by omega)) (by omega) (by simp) ?_; intro v4 w4 hown4 hg4 hb4; obtain ⟨A4, c4, rfl, -, -, -, hbase⟩ := own_slice hown4; have hg5 : w4.heap[g]? = wc.heap[g]? := (hg4.block g (by simp; omega) (by simp [Value.ownBlock]; omega)).trans (Below.heap_alloc wc _ g hgl1); have m1 : w4.cell? ⟨g, 1, none⟩ = some (.slice A1 rows1.length c1) := (World.cell?_of_block (a := ⟨g, 1, none⟩) hg5).trans d1; have mf : w4.frozen? ⟨g, 1, none⟩ = false := (World.frozen?_of_block (a := ⟨g, 1, none⟩) hg5).trans hfz; have H5 := Lib.hid (And.intro hown4 (And.intro hg4 (And.intro hbase hg5))); clear hown4 hg4 hbase hg5 hb4))
            all_goals
              go_wp2_with fail
              go_end0
              obtain ⟨hown4, hg4, hbase, hg5⟩ := H5.out
              obtain ⟨hF1, hrt1, hkept, hgrew, hsh, hsm, hk, hqF⟩ := HR.out
              rw [HP.out, hsh, shrunk_stop hle]
              have hsz1 := HB1.out.size
              have hszw := hkept.size
              have e1 : 1 + rows1.length = (rows1 ++ [f]).length := by simp; omega
              have e2 : [Value.string f.1, .string f.2, .bool false] ++ fcs rows1.reverse = fcs (rows1 ++ [f]).reverse := by rw [List.reverse_append]; rfl
              rw [e1] at hown4 ⊢
              rw [e2] at hown4
              refine ⟨rfl, rfoot g A4, ⟨A4, c4, rfl, HRT.out.store hg5 hown4 (fun a ha => by have := hbase a ha; omega)⟩, ?_, ?_⟩
              · refine Kept.setCell (Kept.grown ((hkept.same (Kept.of_below HB1.out)).alloc _).drew hg4 (fun k hk => .inr ?_)) (.inl rfl) _ _
                simp [Value.ownBlock] at hk
                omega
              · intro k hk
                rcases hk with rfl | ⟨a, ha, rfl⟩
                · exact .inl (.inl rfl)
                · exact .inr (by have := hbase a ha; omega)
end Go.Proofs.Ythpieiipddfpjaa
