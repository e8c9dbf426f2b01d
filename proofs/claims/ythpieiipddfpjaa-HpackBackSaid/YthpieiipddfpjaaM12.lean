/- 10 texts in one: HEnc3, HEnc4, HEnc5, HEnc6, HEnc7, HAwakePlain, HAwake, HBrokenPlain, HOpen, BackPlain. -/
import Derived.Test.YthpieiipddfpjaaM11
import Derived.Deep.QuietTactic
import Derived.BigQuiet
import Derived.Deep.RegionLaw
import Derived.Test.YthpieiipddfpjaaM10
import Derived.Test.YthpieiipddfpjaaM7
import Derived.Test.YthpieiipddfpjaaM9
import Derived.Deep.Slices
import Derived.Deep.Fields
import Derived.ChangeSame
import Derived.Test.YthpieiipddfpjaaM2
/- The walks of hpack.Encoder's kept, way, sizes. -/
namespace Go.Proofs.Ythpieiipddfpjaa
open Go.RowKit

set_option maxRecDepth 100000 in
set_option maxHeartbeats 2000000 in
theorem kept_any {e N : Nat} {G : Nat → Prop} {E : Enc} (f : Rw) (nv : Bool) (w : World) (h : EncIs w e G N E) (hf1 : f.1.size ≤ 1048576) (hf2 : f.2.size ≤ 1048576) (hN : N + 1 ≤ 1099511627776) :
    Calls Try.prog 68 #[.pointer (some ⟨e, 0, none⟩), .agg #[.string f.1, .string f.2, .bool nv]] w (EPost w e G (N + 1) { E with T := E.T.add f } (namedB 64 63 E.T f)) := by
  obtain ⟨W0, hW0⟩ : ∃ W0, w.alloc (.cells #[.string f.1, .string f.2, .bool nv] 24) = W0 := ⟨_, rfl⟩
  obtain ⟨x, hx⟩ : ∃ x, w.heap.size = x := ⟨_, rfl⟩
  have b0 : Below w.heap.size w W0 := by rw [← hW0]; exact (Below.refl _ _).alloc (Nat.le_refl _) _
  have kx : W0.heap[x]? = some (.cells #[.string f.1, .string f.2, .bool nv] 24 (0, 0)) := by rw [← hW0, ← hx]; exact heapNew _ _
  have x0 : W0.cell? ⟨x, 0, none⟩ = some (.string f.1) := by unfold World.cell?; rw [kx]; rfl
  have x1 : W0.cell? ⟨x, 1, none⟩ = some (.string f.2) := by unfold World.cell?; rw [kx]; rfl
  have x2 : W0.cell? ⟨x, 2, none⟩ = some (.bool nv) := by unfold World.cell?; rw [kx]; rfl
  have hxl : x < W0.heap.size := (Array.getElem?_eq_some_iff.1 kx).1
  have hlt := h.lt
  obtain ⟨g, F, hG, hd, ht, hFe⟩ := h
  have hel := (Array.getElem?_eq_some_iff.1 hd).1
  have hd0 := (b0.block e hel).trans hd
  have ht0 : TabIs W0 g F N E.T := ht.keep fun k hk => b0.block k (ht.lt k hk)
  have hr : Calls Try.prog 73 #[.pointer (some ⟨e, 0, none⟩), .int .u8 (64 : Nat), .int .i64 (6 : Nat), .agg #[.string f.1, .string f.2, .bool nv]] W0 (RetB W0 (namedB 64 63 E.T f)) := named_any f nv W0 hd0 ht0 full6 (by omega) rfl hf1 hf2
  have HR := Lib.hid hr
  have HT0 := Lib.hid (And.intro hd0 ht0)
  have HFE := Lib.hid (And.intro hG (And.intro hFe hlt))
  have HFL : Hid (∀ k, F k → k < w.heap.size) := Lib.hid ht.lt
  have HB := Lib.hid b0
  have HKX := Lib.hid kx
  have HW0 := Lib.hid hW0
  have HX := Lib.hid hx
  clear hW0 hx b0 kx hr hd ht hd0 ht0 hG hFe hlt
  go_enter Try.func68, Try.ntmps68
  go_upto_region 1 with fail
  rw [HW0.out, HX.out]
  go_wp2_with fail
  refine HR.out.mono ?_
  rintro e1 w1 ⟨v, rfl, ho, hb⟩
  have HB1 := Lib.hid (HB.out.trans (hb.mono HB.out.size))
  have HO1 := Lib.hid (OwnB.base ho HB.out.size)
  have kx1 := (hb.block x hxl).trans HKX.out
  have kd1 := (hb.block e (Nat.lt_of_lt_of_le hel HB.out.size)).trans HT0.out.1
  have ht1 : TabIs w1 g F N E.T := HT0.out.2.keep fun k hk => hb.block k (HT0.out.2.lt k hk)
  have c3 : w1.cell? ⟨e, 3, none⟩ = some (.pointer (some ⟨g, 0, none⟩)) := by unfold World.cell?; rw [kd1]; rfl
  have y0 : w1.cell? ⟨x, 0, none⟩ = some (.string f.1) := by unfold World.cell?; rw [kx1]; rfl
  have y1 : w1.cell? ⟨x, 1, none⟩ = some (.string f.2) := by unfold World.cell?; rw [kx1]; rfl
  have y2 : w1.cell? ⟨x, 2, none⟩ = some (.bool nv) := by unfold World.cell?; rw [kx1]; rfl
  have HKD1 := Lib.hid kd1
  have HKX1 := Lib.hid kx1
  have HAD : Hid (∀ w', w'.heap = w1.heap → Calls Try.prog 25 #[.pointer (some ⟨g, 0, none⟩), .agg #[.string f.1, .string f.2, .bool nv]] w' (TStep w' g F (N + 1) (E.T.add f) (.tuple #[]))) := Lib.hid fun w' hw => add_any f nv w' (ht1.keep fun k _ => by rw [hw]) (by omega) (by omega) hN
  have hxF : ¬ F x := fun hf => by have := HFL.out x hf; have := HX.out; omega
  have HXF := Lib.hid hxF
  clear ho hb kx1 kd1 ht1 x0 x1 x2 hxF
  go_upto_region 2 with fail
  go_region_held3 (fun w' => w'.cell? ⟨e, 3, none⟩ = some (.pointer (some ⟨g, 0, none⟩)) ∧ w'.cell? ⟨x, 0, none⟩ = some (.string f.1) ∧ w'.cell? ⟨x, 1, none⟩ = some (.string f.2) ∧ w'.cell? ⟨x, 2, none⟩ = some (.bool nv))
    (first | go_keep | exact ⟨k0, k1, k2, k3⟩)
    (first
      | (go_at_call 25; refine (HAD.out _ (by rfl)).mono ?_; rintro e2 w3 ⟨rfl, F3, ht3, hk3, hg3⟩; have hk3' : Kept F w1 w3 := ⟨hk3.os, hk3.tape, hk3.output, hk3.size, hk3.block⟩; have hg3' : Grew w1 F F3 := hg3; have kk := (hk3'.block x (Array.getElem?_eq_some_iff.1 HKX1.out).1 HXF.out).trans HKX1.out; have ke := (hk3'.block e (Array.getElem?_eq_some_iff.1 HKD1.out).1 HFE.out.2.1).trans HKD1.out; have k0 : w3.cell? ⟨e, 3, none⟩ = some (.pointer (some ⟨g, 0, none⟩)) := (by unfold World.cell?; rw [ke]; rfl); have k1 : w3.cell? ⟨x, 0, none⟩ = some (.string f.1) := (by unfold World.cell?; rw [kk]; rfl); have k2 : w3.cell? ⟨x, 1, none⟩ = some (.string f.2) := (by unfold World.cell?; rw [kk]; rfl); have k3 : w3.cell? ⟨x, 2, none⟩ = some (.bool nv) := (by unfold World.cell?; rw [kk]; rfl); have H3 := Lib.hid (And.intro ht3 (And.intro hk3' (And.intro hg3' ke))); clear ht3 hk3 hg3 hk3' hg3' kk ke))
  all_goals
    clear k0 k1 k2 k3
    go_wp2
    go_ret
    obtain ⟨ht3, hk3, hg3, ke⟩ := H3.out
    have hs1 := HB1.out.size
    have hvF : ∀ k, v.ownBlock = some k → ¬ F k ∧ w.heap.size ≤ k ∧ k < w1.heap.size := fun k hk => by
      have := World.ownsRow.lt HO1.out k hk
      exact ⟨fun hf => by have := HFL.out k hf; omega, this.1, this.2⟩
    refine ⟨v, rfl, own_kept4 HO1.out hk3 (fun k hk => (hvF k hk).1), fun k => k = e ∨ F3 k, ⟨g, F3, rfl, ke, ht3, fun hf => (hg3 e hf).elim HFE.out.2.1 (fun hl => by omega)⟩, ?_, ?_, ?_⟩
    · rw [HFE.out.1]
      refine ⟨hk3.os.trans HB1.out.os, hk3.tape.trans HB1.out.tape, hk3.output.trans HB1.out.output, Nat.le_trans hs1 hk3.size, fun k hk hn => (hk3.block k (by omega) (fun hf => hn (.inr hf))).trans (HB1.out.block k hk)⟩
    · rw [HFE.out.1]
      exact fun k hk => hk.elim (fun e => .inl (.inl e)) (fun hf => (hg3 k hf).elim (fun h => .inl (.inr h)) (fun h => .inr (by omega)))
    · intro k hk hg
      have h1 := hvF k hk
      rcases hg with e | hf
      · omega
      · exact (hg3 k hf).elim h1.1 (fun hl => by omega)
end Go.Proofs.Ythpieiipddfpjaa

/- The walks of hpack.Encoder's way, sizes. -/
namespace Go.Proofs.Ythpieiipddfpjaa
open Go.RowKit

def wayF (T : Tb) (f : Fd) : FuncId := if neverF f then 65 else if (fnd T f.1).2 then 66 else if T.most < (cost f.1 : Int) then 67 else 68
def WayPost (w : World) (e : Nat) (K : FuncId) (ev : Ending) (w' : World) : Prop := ev = .returned (.func (.func K) #[.pointer (some ⟨e, 0, none⟩)] #[]) ∧ Below w.heap.size w w'
set_option maxRecDepth 100000 in
set_option maxHeartbeats 2000000 in
theorem way_any {e N : Nat} {G : Nat → Prop} {E : Enc} (f : Fd) (w : World) (h : EncIs w e G N E) (hf1 : f.1.1.size ≤ 1048576) (hf2 : f.1.2.size ≤ 1048576) :
    Calls Try.prog 57 #[.pointer (some ⟨e, 0, none⟩), .agg #[.string f.1.1, .string f.1.2, .bool f.2]] w (WayPost w e (wayF E.T f)) := by
  have hmf : ∀ (fn : Fn) (first cap : Array Value) (w : World), (Instr.makeFunc fn first cap).run Try.prog w = .ok (.func fn first cap) w := fun _ _ _ _ => rfl
  obtain ⟨⟨nm, vl⟩, nv⟩ := f
  simp only at hf1 hf2 ⊢
  obtain ⟨K, hK⟩ : ∃ K, wayF E.T ((nm, vl), nv) = K := ⟨_, rfl⟩
  have HK := Lib.hid hK
  rw [hK]
  obtain ⟨W0, hW0⟩ : ∃ W0, w.alloc (.cells #[.string nm, .string vl, .bool nv] 24) = W0 := ⟨_, rfl⟩
  obtain ⟨x, hx⟩ : ∃ x, w.heap.size = x := ⟨_, rfl⟩
  have b0 : Below w.heap.size w W0 := by rw [← hW0]; exact (Below.refl _ _).alloc (Nat.le_refl _) _
  have kx : W0.heap[x]? = some (.cells #[.string nm, .string vl, .bool nv] 24 (0, 0)) := by rw [← hW0, ← hx]; exact heapNew _ _
  have x0 : W0.cell? ⟨x, 0, none⟩ = some (.string nm) := by unfold World.cell?; rw [kx]; rfl
  have x1 : W0.cell? ⟨x, 1, none⟩ = some (.string vl) := by unfold World.cell?; rw [kx]; rfl
  have x2 : W0.cell? ⟨x, 2, none⟩ = some (.bool nv) := by unfold World.cell?; rw [kx]; rfl
  have hxl : x < W0.heap.size := (Array.getElem?_eq_some_iff.1 kx).1
  obtain ⟨g, F, -, hd, ht, -⟩ := h.below b0
  have c3 : W0.cell? ⟨e, 3, none⟩ = some (.pointer (some ⟨g, 0, none⟩)) := by unfold World.cell?; rw [hd]; rfl
  have hel0 : e < W0.heap.size := (Array.getElem?_eq_some_iff.1 hd).1
  have hne : ∀ a b : ByteArray, a ≠ b → (a.toList == b.toList) = false := fun a b => (Lib.bytes_beq_false_iff a b).2
  have HW0 := Lib.hid hW0
  have HX := Lib.hid hx
  have HB := Lib.hid b0
  clear hK hW0 hx b0 kx h hd
  by_cases hnv : nv = true
  · subst hnv
    have HN : Hid (K = 65) := Lib.hid (by rw [← HK.out]; rfl)
    clear hne
    go_enter Try.func57, Try.ntmps57
    go_upto_region 1 with fail
    rw [HW0.out, HX.out]
    go_wp2
    go_ret
    rw [HN.out]
    exact ⟨rfl, HB.out⟩
  obtain rfl : nv = false := by simpa using hnv
  clear hnv
  by_cases ha : nm = authB
  · subst ha
    have HN : Hid (K = 65) := Lib.hid (by rw [← HK.out]; unfold wayF neverF; simp)
    clear hne
    go_enter Try.func57, Try.ntmps57
    go_upto_region 1 with fail
    rw [HW0.out, HX.out]
    unfold authB at x0
    go_wp2
    go_ret
    rw [HN.out]
    exact ⟨rfl, HB.out⟩
  have ha2 : (nm.toList == [97, 117, 116, 104, 111, 114, 105, 122, 97, 116, 105, 111, 110]) = false := by have h2 := hne nm ⟨#[97, 117, 116, 104, 111, 114, 105, 122, 97, 116, 105, 111, 110]⟩ ha; rw [show (⟨#[97, 117, 116, 104, 111, 114, 105, 122, 97, 116, 105, 111, 110]⟩ : ByteArray).toList = [97, 117, 116, 104, 111, 114, 105, 122, 97, 116, 105, 111, 110] from by decide +kernel] at h2; exact h2
  by_cases hc : nm = cookB
  · subst hc
    have HN : Hid (K = 65) := Lib.hid (by rw [← HK.out]; unfold wayF neverF; simp)
    clear hne ha
    go_enter Try.func57, Try.ntmps57
    go_upto_region 1 with fail
    rw [HW0.out, HX.out]
    unfold cookB at x0
    go_wp2
    go_ret
    rw [HN.out]
    exact ⟨rfl, HB.out⟩
  have hc2 : (nm.toList == [115, 101, 116, 45, 99, 111, 111, 107, 105, 101]) = false := by have h2 := hne nm ⟨#[115, 101, 116, 45, 99, 111, 111, 107, 105, 101]⟩ hc; rw [show (⟨#[115, 101, 116, 45, 99, 111, 111, 107, 105, 101]⟩ : ByteArray).toList = [115, 101, 116, 45, 99, 111, 111, 107, 105, 101] from by decide +kernel] at h2; exact h2
  have HNN : Hid (neverF ((nm, vl), false) = false) := Lib.hid (by unfold neverF; simp [ha, hc])
  clear hne ha hc
  go_enter Try.func57, Try.ntmps57
  have HFI : Hid (∀ w', w'.heap = W0.heap → Calls Try.prog 17 #[.pointer (some ⟨g, 0, none⟩), .agg #[.string nm, .string vl, .bool false]] w' fun e w2 => e = .returned (.tuple #[.int .i64 (numT E.T (nm, vl) : Int), .bool (fnd E.T (nm, vl)).2]) ∧ Below w'.heap.size w' w2) := Lib.hid fun w' hw => find_enc (nm, vl) false w' (ht.keep fun k hk => by rw [hw]) hf1 hf2
  have HTM := Lib.hid ht
  have htk := ht.tok
  obtain ⟨mo, hmo⟩ : ∃ mo, E.T.most = mo := ⟨_, rfl⟩
  have hmo0 := htk.most0
  have hmo1 := htk.most1
  rw [hmo] at hmo0 hmo1
  have HMO : Hid (∀ w', Below W0.heap.size W0 w' → ∀ w2, w2.heap = w'.heap → Calls Try.prog 20 #[.pointer (some ⟨g, 0, none⟩)] w2 fun e w3 => e = .returned (.int .i64 mo) ∧ w3 = w2) := Lib.hid fun w' hb w2 hw => by
    have := most_any w2 (ht.keep (w' := w2) fun k hk => by rw [hw]; exact hb.block k (ht.lt k hk))
    rw [hmo] at this
    exact this.mono fun e w3 h => ⟨h.1, h.2.symm⟩
  obtain ⟨n, hn⟩ : ∃ n, numT E.T (nm, vl) = n := ⟨_, rfl⟩
  obtain ⟨wh, hwh⟩ : ∃ wh, (fnd E.T (nm, vl)).2 = wh := ⟨_, rfl⟩
  rw [hn, hwh] at HFI
  have HWF : Hid (K = if wh then 66 else if mo < (cost (nm, vl) : Int) then 67 else 68) := Lib.hid (by rw [← HK.out]; unfold wayF; rw [HNN.out]; simp only [Bool.false_eq_true, if_false]; rw [hwh, hmo])
  have hcost : (cost (nm, vl) : Int) = nm.size + vl.size + 32 := by unfold cost; simp only; omega
  have HCO := Lib.hid hcost
  clear hn hwh ht hmo hcost
  go_upto_region 1 with fail
  rw [HW0.out, HX.out]
  go_upto_region 3 with fail
  go_region_held3 (fun w' => w'.cell? ⟨e, 3, none⟩ = some (.pointer (some ⟨g, 0, none⟩)) ∧ w'.cell? ⟨x, 0, none⟩ = some (.string nm) ∧ w'.cell? ⟨x, 1, none⟩ = some (.string vl) ∧ w'.cell? ⟨x, 2, none⟩ = some (.bool false))
    (first | go_keep | exact ⟨k0, k1, k2, k3⟩)
    (first
      | (go_at_call 17; refine (HFI.out _ (by rfl)).mono ?_; rintro e1 w1 ⟨rfl, hb1⟩; have k0 := (hb1.cell (p := ⟨e, 3, none⟩) hel0).trans c3; have k1 := (hb1.cell (p := ⟨x, 0, none⟩) hxl).trans x0; have k2 := (hb1.cell (p := ⟨x, 1, none⟩) hxl).trans x1; have k3 := (hb1.cell (p := ⟨x, 2, none⟩) hxl).trans x2; have hb1' : Below W0.heap.size W0 w1 := ⟨hb1.os, hb1.tape, hb1.output, hb1.size, hb1.block⟩; have HB1 : Hid (Below W0.heap.size W0 w1) := Lib.hid hb1'; clear hb1 hb1'))
  all_goals
    clear c3 x0 x1 x2
    have HMQ := Lib.hid (fun d => HMO.out w1 HB1.out (w1.drewN d) rfl)
    have HBW := Lib.hid (HB.out.trans (HB1.out.mono HB.out.size))
    cases wh with
    | true =>
      have HN : Hid (K = 66) := Lib.hid (by rw [HWF.out]; rfl)
      go_wp2
      go_ret
      rw [HN.out]
      exact ⟨rfl, HBW.out⟩
    | false =>
      by_cases hbig : mo < (nm.size : Int) + vl.size + 32
      · have HN : Hid (K = 67) := Lib.hid (by rw [HWF.out, HCO.out]; simp only [Bool.false_eq_true, if_false]; rw [if_pos hbig])
        go_wp2
        go_quiet ((go_at_call 20; exact Calls.quiet_of_same (HMQ.out _)))
        go_wp2
        go_ret
        rw [HN.out]
        exact ⟨rfl, below_dN HBW.out _⟩
      · have HN : Hid (K = 68) := Lib.hid (by rw [HWF.out, HCO.out]; simp only [Bool.false_eq_true, if_false]; rw [if_neg hbig])
        go_wp2
        go_quiet ((go_at_call 20; exact Calls.quiet_of_same (HMQ.out _)))
        go_wp2
        go_ret
        rw [HN.out]
        exact ⟨rfl, below_dN HBW.out _⟩
end Go.Proofs.Ythpieiipddfpjaa

/- The walks of hpack.Encoder's sizes, Limit, Rows; NewEncoder. -/
namespace Go.Proofs.Ythpieiipddfpjaa
open Go.RowKit

theorem OwnB.none (w : World) (B : Nat) : OwnB w B (.slice none 0 0) [] := ⟨rfl, .inl ⟨rfl, rfl⟩⟩
theorem enB_free {w : World} {e g : Nat} {E : Enc} (h : w.heap[e]? = some (enB E g)) (o : Nat) : w.frozen? ⟨e, o, none⟩ = false := by unfold World.frozen?; rw [h]; simp [enB]
theorem sz_end {w : World} {e g N : Nat} {F : Nat → Prop} {E : Enc} {td le : Int} (he : w.heap[e]? = some (enB ⟨E.own, td, le, E.T⟩ g)) (ht : TabIs w g F N E.T) (hF : ¬ F e) :
    EncIs ((w.setCell ⟨e, 1, none⟩ (.int .i64 E.T.most)).setCell ⟨e, 2, none⟩ (.int .i64 E.T.most)) e (fun k => k = e ∨ F k) N ⟨E.own, E.T.most, E.T.most, E.T⟩ ∧ Kept (fun k => k = e) w ((w.setCell ⟨e, 1, none⟩ (.int .i64 E.T.most)).setCell ⟨e, 2, none⟩ (.int .i64 E.T.most)) := by
  have hk := (((Kept.refl (fun k => k = e) w).setCell rfl 1 (.int .i64 E.T.most)).setCell rfl 2 (.int .i64 E.T.most))
  refine ⟨⟨g, F, rfl, ?_, ht.keep fun k hf => hk.block k (ht.lt k hf) (fun h => hF (h ▸ hf)), hF⟩, hk⟩
  have h1 := set_b (o := 1) (.int .i64 E.T.most) he
  exact set_b (o := 2) (.int .i64 E.T.most) h1
def SzPost (W : World) (e : Nat) (G : Nat → Prop) (N : Nat) (E : Enc) (ev : Ending) (w' : World) : Prop :=
  ∃ v, ev = .returned v ∧ OwnB w' W.heap.size v (encSz E) ∧ EncIs w' e G N ⟨E.own, E.T.most, E.T.most, E.T⟩ ∧ Kept (fun k => k = e) W w'
set_option maxRecDepth 100000 in
set_option maxHeartbeats 2000000 in
theorem sizes_any {e N : Nat} {G : Nat → Prop} {E : Enc} (w : World) (h : EncIs w e G N E) (hl0 : 0 ≤ E.least) (hl1 : E.least ≤ 65536) :
    Calls Try.prog 56 #[.pointer (some ⟨e, 0, none⟩)] w (SzPost w e G N E) := by
  obtain ⟨g, F, rfl, hd, ht, hF⟩ := h
  have htk := ht.tok
  have hm0 := htk.most0
  have hm1 := htk.most1
  have HM := Lib.hid (most_any w ht)
  have c1 : w.cell? ⟨e, 1, none⟩ = some (.int .i64 E.told) := by unfold World.cell?; rw [hd]; rfl
  have c2 : w.cell? ⟨e, 2, none⟩ = some (.int .i64 E.least) := by unfold World.cell?; rw [hd]; rfl
  have c3 : w.cell? ⟨e, 3, none⟩ = some (.pointer (some ⟨g, 0, none⟩)) := by unfold World.cell?; rw [hd]; rfl
  have HEND := Lib.hid (And.intro hd (And.intro ht hF))
  obtain ⟨R, hR⟩ : ∃ R, encSz E = R := ⟨_, rfl⟩
  have HSZ : Hid (R = if E.least < E.told ∧ E.least < E.T.most then putB 32 31 E.least.toNat ++ putB 32 31 E.T.most.toNat
      else if E.T.most ≠ E.told then putB 32 31 E.T.most.toNat else []) := Lib.hid hR.symm
  unfold SzPost
  rw [hR]
  have hel := (Array.getElem?_eq_some_iff.1 hd).1
  clear hd ht hF htk hR
  have hcase : (E.least < E.told ∧ E.least < E.T.most) ∨ (¬ (E.least < E.told ∧ E.least < E.T.most)) := by omega
  rcases hcase with hA | hA
  · have HR : Hid (R = putB 32 31 E.least.toNat ++ putB 32 31 E.T.most.toNat) := Lib.hid (by rw [HSZ.out, if_pos hA])
    obtain ⟨h1, h2⟩ := hA
    have hne : (E.T.most == E.least) = false := by rw [beq_eq_false_iff_ne]; omega
    have hne2 : (E.T.most != E.least) = true := by rw [bne_iff_ne]; omega
    have HN1 := Lib.hid (fun w' => num_enc 32 5 E.least.toNat 31 w' full5 (by omega) rfl (by omega))
    have HN2 := Lib.hid (fun w' => num_enc 32 5 E.T.most.toNat 31 w' full5 (by omega) rfl (by omega))
    have hl3 : ((E.least.toNat : Nat) : Int) = E.least := by omega
    have hl4 : ((E.T.most.toNat : Nat) : Int) = E.T.most := by omega
    rw [hl3] at HN1
    rw [hl4] at HN2
    clear hl3 hl4
    go_enter Try.func56, Try.ntmps56
    go_wp2_with fail
    refine HM.out.mono ?_
    rintro e1 w1 ⟨rfl, rfl⟩
    go_wp2_with fail
    go_region
    obtain ⟨W1, hW1⟩ : ∃ W1, w.drew = W1 := ⟨_, rfl⟩
    rw [hW1]
    have hb1 : Below w.heap.size w W1 := by rw [← hW1]; exact (Below.refl _ _).drew
    have d1 := (hb1.cell (p := ⟨e, 1, none⟩) hel).trans c1
    have d2 := (hb1.cell (p := ⟨e, 2, none⟩) hel).trans c2
    have HB1 := Lib.hid hb1
    clear hW1 hb1
    go_wp2_with fail
    refine (HN1.out W1).mono ?_
    rintro e2 w2 ⟨v2, rfl, ho2, hb2⟩
    obtain ⟨A2, k2, rfl, hr2⟩ := ho2.rd
    have hpl := (putB_length 32 31 E.least.toNat).1
    have HR2 := Lib.hid hr2
    have HB2 := Lib.hid (HB1.out.trans (hb2.mono HB1.out.size))
    have hs2 := HB2.out.size
    clear ho2 hb2 hr2 d1 d2
    go_wp2_with (at_builtin; refine wpList_app (.tmp 27) (.tmp 32) tBytes rfl rfl (OwnB.none w2 w.heap.size) rfl HR2.out rfl (bvs_one _) (le_maxLen (by simp; omega)) (by simp; omega) hs2 ?_; intro v3 w3 hown3 hg3 _; have HB3 : Hid (Below w.heap.size w w3) := Lib.hid (Below.app HB2.out (OwnB.none w2 w.heap.size) hg3 (Nat.le_refl _) hs2); have HO3 : Hid (OwnB w3 w.heap.size v3 ([] ++ putB 32 31 E.least.toNat)) := Lib.hid (own_app hown3 (Nat.le_refl _)); have ke3 := (HB3.out.block e hel).trans HEND.out.1; have z1 := enB_free ke3 1; clear ke3; have q1 := (HB3.out.cell (p := ⟨e, 1, none⟩) hel).trans c1; have q2 := (HB3.out.cell (p := ⟨e, 2, none⟩) hel).trans c2; clear c1 c2 hown3 hg3)
    clear q1 q2 z1
    obtain ⟨W4, hW4⟩ : ∃ W4, w3.setCell ⟨e, 1, none⟩ (.int .i64 E.least) = W4 := ⟨_, rfl⟩
    rw [hW4]
    have hk4 : Kept (fun k => k = e) w3 W4 := by rw [← hW4]; exact (Kept.refl (fun k => k = e) w3).setCell (g := e) rfl 1 (.int .i64 E.least)
    have ke3 := (HB3.out.block e hel).trans HEND.out.1
    have ke4 : W4.heap[e]? = some (enB ⟨E.own, E.least, E.least, E.T⟩ g) := by rw [← hW4]; exact set_b (o := 1) (.int .i64 E.least) ke3
    have HO4 : Hid (OwnB W4 w.heap.size v3 (putB 32 31 E.least.toNat)) := Lib.hid (own_kept4 HO3.out hk4 (fun k hk h => by have := (World.ownsRow.lt HO3.out k hk).1; omega))
    have HE4 := Lib.hid ke4
    have HK4 := Lib.hid hk4
    clear hW4 hk4 ke3 ke4
    refine (HN2.out W4).mono ?_
    rintro e5 w5 ⟨v5, rfl, ho5, hb5⟩
    obtain ⟨A5, k5, rfl, hr5⟩ := ho5.rd
    have hpl2 := (putB_length 32 31 E.T.most.toNat).1
    have HR5 := Lib.hid hr5
    have HO5 := Lib.hid (HO4.out.below hb5)
    have hs5 := hb5.size
    have hs4 := HK4.out.size
    have hs3 := HB3.out.size
    have HB5 := Lib.hid hb5
    clear ho5 hb5 hr5
    go_wp2_with (at_builtin; refine wpList_app (.tmp 47) (.tmp 49) tBytes rfl rfl HO5.out rfl HR5.out rfl (bvs_one _) (le_maxLen (by omega)) (by omega) (by omega) ?_; intro v6 w6 hown6 hg6 _; have HO6 : Hid (OwnB w6 w.heap.size v6 (putB 32 31 E.least.toNat ++ putB 32 31 E.T.most.toNat)) := Lib.hid (own_app hown6 (Nat.le_refl _)); have HG6 := Lib.hid hg6; have ke6 := (hg6.block e (by omega) (fun h => by have := (World.ownsRow.lt HO5.out e h.symm).1; omega)).trans ((HB5.out.block e (by omega)).trans HE4.out); have z1 := enB_free ke6 1; have z2 := enB_free ke6 2; have q1 : w6.cell? ⟨e, 1, none⟩ = some (.int .i64 E.least) := (by unfold World.cell?; rw [ke6]; rfl); have q2 : w6.cell? ⟨e, 2, none⟩ = some (.int .i64 E.least) := (by unfold World.cell?; rw [ke6]; rfl); have HE6 := Lib.hid ke6; clear hown6 hg6 ke6)
    go_ret
    have hk6 : Kept (fun k => k = e) w w6 := by
      have k1 : Kept (fun k => k = e) w w3 := Kept.of_below HB3.out
      have k2 := (k1.same HK4.out).same (Kept.of_below HB5.out)
      exact k2.grown HG6.out (fun k hk => .inr (World.ownsRow.lt HO5.out k hk).1)
    have ht6 : TabIs w6 g F N E.T := HEND.out.2.1.keep fun k hk => hk6.block k (HEND.out.2.1.lt k hk) (fun h => HEND.out.2.2 (h ▸ hk))
    obtain ⟨r1, r2⟩ := sz_end HE6.out ht6 HEND.out.2.2
    refine ⟨v6, rfl, ?_, r1, hk6.same r2⟩
    rw [HR.out]
    exact own_kept4 HO6.out r2 (fun k hk h => by have := (World.ownsRow.lt HO6.out k hk).1; omega)
  · have HCS : Hid (¬ E.least < E.told ∨ (E.least < E.told ∧ ¬ E.least < E.T.most)) := Lib.hid (by omega)
    by_cases hB : E.T.most = E.told
    · have HR : Hid (R = []) := Lib.hid (by rw [HSZ.out, if_neg hA, if_neg (by omega)])
      have hne : (E.T.most == E.told) = true := by rw [beq_iff_eq]; exact hB
      have hne2 : (E.T.most != E.told) = false := by rw [bne_eq_false_iff_eq]; exact hB
      have f1 := enB_free HEND.out.1 1
      have f2 := enB_free HEND.out.1 2
      have HBB := Lib.hid hB
      clear hA hB
      rcases HCS.out with h1 | ⟨h1, h2⟩
      all_goals
        clear HCS
        try (have h1' : E.told ≤ E.least := by omega)
        try (have h1d : decide (E.least < E.told) = false := by rw [decide_eq_false_iff_not]; omega)
        go_enter Try.func56, Try.ntmps56
        go_wp2_with fail
        refine HM.out.mono ?_
        rintro e1 w1 ⟨rfl, rfl⟩
        go_wp2_with fail
        go_region
        obtain ⟨W1, hW1⟩ : ∃ W1, w.drew = W1 := ⟨_, rfl⟩
        rw [hW1]
        have hb1 : Below w.heap.size w W1 := by rw [← hW1]; exact (Below.refl _ _).drew
        have ke6 := (hb1.block e hel).trans HEND.out.1
        have z1 := enB_free ke6 1
        have z2 := enB_free ke6 2
        have q1 := (hb1.cell (p := ⟨e, 1, none⟩) hel).trans c1
        have q2 := (hb1.cell (p := ⟨e, 2, none⟩) hel).trans c2
        have HE6 := Lib.hid ke6
        have HB6 := Lib.hid hb1
        clear hW1 hb1 ke6 c1 c2 c3 f1 f2
        go_wp2
        go_ret
        have hk6 : Kept (fun k => k = e) w W1 := Kept.of_below HB6.out
        have ht6 : TabIs W1 g F N E.T := HEND.out.2.1.keep fun k hk => hk6.block k (HEND.out.2.1.lt k hk) (fun h => HEND.out.2.2 (h ▸ hk))
        obtain ⟨r1, r2⟩ := sz_end HE6.out ht6 HEND.out.2.2
        refine ⟨_, rfl, ?_, r1, hk6.same r2⟩
        rw [HR.out]
        exact OwnB.none _ _
    · have HR : Hid (R = putB 32 31 E.T.most.toNat) := Lib.hid (by rw [HSZ.out, if_neg hA, if_pos hB])
      have hne : (E.T.most == E.told) = false := by rw [beq_eq_false_iff_ne]; exact hB
      have hne2 : (E.T.most != E.told) = true := by rw [bne_iff_ne]; exact hB
      have HN2 := Lib.hid (fun w' => num_enc 32 5 E.T.most.toNat 31 w' full5 (by omega) rfl (by omega))
      have hl4 : ((E.T.most.toNat : Nat) : Int) = E.T.most := by omega
      rw [hl4] at HN2
      clear hA hB hl4
      rcases HCS.out with h1 | ⟨h1, h2⟩
      all_goals
        clear HCS
        try (have h1' : E.told ≤ E.least := by omega)
        try (have h1d : decide (E.least < E.told) = false := by rw [decide_eq_false_iff_not]; omega)
        go_enter Try.func56, Try.ntmps56
        go_wp2_with fail
        refine HM.out.mono ?_
        rintro e1 w1 ⟨rfl, rfl⟩
        go_wp2_with fail
        go_region
        obtain ⟨W1, hW1⟩ : ∃ W1, w.drew = W1 := ⟨_, rfl⟩
        rw [hW1]
        have hb1 : Below w.heap.size w W1 := by rw [← hW1]; exact (Below.refl _ _).drew
        have q1 := (hb1.cell (p := ⟨e, 1, none⟩) hel).trans c1
        have HB1 := Lib.hid hb1
        clear hW1 hb1
        go_wp2_with fail
        refine (HN2.out W1).mono ?_
        rintro e5 w5 ⟨v5, rfl, ho5, hb5⟩
        obtain ⟨A5, k5, rfl, hr5⟩ := ho5.rd
        have hpl2 := (putB_length 32 31 E.T.most.toNat).1
        have HR5 := Lib.hid hr5
        have HB5 := Lib.hid (HB1.out.trans (hb5.mono HB1.out.size))
        have hs5 := HB5.out.size
        clear ho5 hb5 hr5 q1
        go_wp2_with (at_builtin; refine wpList_app (.tmp 47) (.tmp 49) tBytes rfl rfl (OwnB.none w5 w.heap.size) rfl HR5.out rfl (bvs_one _) (le_maxLen (by simp; omega)) (by simp; omega) hs5 ?_; intro v6 w6 hown6 hg6 _; have HO6 : Hid (OwnB w6 w.heap.size v6 ([] ++ putB 32 31 E.T.most.toNat)) := Lib.hid (own_app hown6 (Nat.le_refl _)); have HB6 : Hid (Below w.heap.size w w6) := Lib.hid (Below.app HB5.out (OwnB.none w5 w.heap.size) hg6 (Nat.le_refl _) hs5); have ke6 := (HB6.out.block e hel).trans HEND.out.1; have z1 := enB_free ke6 1; have z2 := enB_free ke6 2; have q1 := (HB6.out.cell (p := ⟨e, 1, none⟩) hel).trans c1; have q2 := (HB6.out.cell (p := ⟨e, 2, none⟩) hel).trans c2; have HE6 := Lib.hid ke6; clear hown6 hg6 ke6 c1 c2 c3)
        go_ret
        have hk6 : Kept (fun k => k = e) w w6 := Kept.of_below HB6.out
        have ht6 : TabIs w6 g F N E.T := HEND.out.2.1.keep fun k hk => hk6.block k (HEND.out.2.1.lt k hk) (fun h => HEND.out.2.2 (h ▸ hk))
        obtain ⟨r1, r2⟩ := sz_end HE6.out ht6 HEND.out.2.2
        refine ⟨v6, rfl, ?_, r1, hk6.same r2⟩
        rw [HR.out]
        exact own_kept4 HO6.out r2 (fun k hk h => by have := (World.ownsRow.lt HO6.out k hk).1; omega)
end Go.Proofs.Ythpieiipddfpjaa

/- The walks of hpack.Encoder's Limit, Rows; NewEncoder. -/
namespace Go.Proofs.Ythpieiipddfpjaa
open Go.RowKit

def NewEncPost (own : Int) (w : World) (ev : Ending) (w' : World) : Prop := ∃ e G, ev = .returned (.tuple #[.pointer (some ⟨e, 0, none⟩), .int .i64 0]) ∧ EncIs w' e G 0 ⟨own, 4096, min own 4096, ⟨min own 4096, 0, []⟩⟩ ∧ (∀ k, G k → w.heap.size ≤ k) ∧ Below w.heap.size w w'
set_option maxHeartbeats 1000000 in
theorem newenc_any (own : Int) (w : World) (h0 : 0 ≤ own) (h1 : own ≤ 65536) :
    Calls Try.prog 38 #[.int .i64 own] w (NewEncPost own w) := by
  have HT := Lib.hid (tnew_any (min own 4096) w (by omega) (by omega))
  go_enter Try.func38, Try.ntmps38
  go_wp2_with fail
  refine HT.out.mono ?_
  rintro e w1 ⟨g, F, rfl, ht, hF, hb⟩
  have H1 := Lib.hid (And.intro ht (And.intro hF hb))
  clear ht hF hb
  go_wp2
  go_ret2
  obtain ⟨ht, hF, hb⟩ := H1.out
  refine ⟨w1.heap.size, fun k => k = w1.heap.size ∨ F k, rfl, ⟨g, F, rfl, heapNew _ _, ht.keep (fun k hk => Below.heap_alloc _ _ _ (ht.lt k hk)), fun hf => Nat.lt_irrefl _ (ht.lt _ hf)⟩, ?_, hb.alloc hb.size _⟩
  rintro k (rfl | hk)
  · exact hb.size
  · exact hF k hk
set_option maxRecDepth 100000 in
theorem erows_any {e N : Nat} {G : Nat → Prop} {E : Enc} (w : World) (h : EncIs w e G N E) :
    Calls Try.prog 40 #[.pointer (some ⟨e, 0, none⟩)] w (RowsPost w E.T) := by
  obtain ⟨g, F, -, hd, ht, -⟩ := h
  have c3 : w.cell? ⟨e, 3, none⟩ = some (.pointer (some ⟨g, 0, none⟩)) := by unfold World.cell?; rw [hd]; rfl
  have H := Lib.hid (rowsOf_any w ht)
  clear hd ht
  go_enter Try.func40, Try.ntmps40
  go_wp2_with fail
  refine H.out.mono ?_
  rintro e w1 ⟨A, c, rfl, ho, hb⟩
  have H1 := Lib.hid (And.intro ho hb)
  clear ho hb
  go_wp2
  go_ret
  exact ⟨A, c, rfl, H1.out⟩
theorem erows_nil (w : World) : Calls Try.prog 40 #[.pointer none] w fun e w' => e = .returned (.slice none 0 0) ∧ w = w' := by
  go_enter Try.func40, Try.ntmps40
  go_wp2; go_ret; exact ⟨rfl, rfl⟩
theorem limit_nil (n : Int) (w : World) : Calls Try.prog 42 #[.pointer none, .int .i64 n] w fun e w' => e = .returned (.int .i64 1) ∧ w = w' := by
  go_enter Try.func42, Try.ntmps42
  go_wp2; go_ret; exact ⟨rfl, rfl⟩
theorem limit_bad {e : Nat} (n : Int) (w : World) (hn : n < 0) : Calls Try.prog 42 #[.pointer (some ⟨e, 0, none⟩), .int .i64 n] w fun e w' => e = .returned (.int .i64 1) ∧ w = w' := by
  go_enter Try.func42, Try.ntmps42
  go_wp2; go_ret; exact ⟨rfl, rfl⟩
/-- The encoder behind a new limit. -/
def Enc.limit (E : Enc) (n : Int) : Enc := ⟨E.own, E.told, min E.least (min n E.own), E.T.resize (min n E.own)⟩
def LimPost (W : World) (e : Nat) (G : Nat → Prop) (N : Nat) (E' : Enc) (ev : Ending) (w' : World) : Prop :=
  ev = .returned (.int .i64 0) ∧ ∃ G', EncIs w' e G' N E' ∧ Kept G W w' ∧ Grew W G G'
set_option maxRecDepth 100000 in
set_option maxHeartbeats 2000000 in
theorem limit_any {e N : Nat} {G : Nat → Prop} {E : Enc} (n : Int) (w : World) (h : EncIs w e G N E) (hn : 0 ≤ n) (ho0 : 0 ≤ E.own) (ho1 : E.own ≤ 65536) :
    Calls Try.prog 42 #[.pointer (some ⟨e, 0, none⟩), .int .i64 n] w (LimPost w e G N (E.limit n)) := by
  obtain ⟨g, F, rfl, hd, ht, hF⟩ := h
  have c0 : w.cell? ⟨e, 0, none⟩ = some (.int .i64 E.own) := by unfold World.cell?; rw [hd]; rfl
  have c3 : w.cell? ⟨e, 3, none⟩ = some (.pointer (some ⟨g, 0, none⟩)) := by unfold World.cell?; rw [hd]; rfl
  have HRZ : Hid (∀ w', w'.heap = w.heap → Calls Try.prog 26 #[.pointer (some ⟨g, 0, none⟩), .int .i64 (min n E.own)] w' (TStep w' g F N (E.T.resize (min n E.own)) (.int .i64 0))) := Lib.hid fun w' hw => resize_any (min n E.own) w' (ht.keep fun k _ => by rw [hw]) (by omega) (by omega)
  have HEND := Lib.hid (And.intro hd (And.intro ht hF))
  have hel := (Array.getElem?_eq_some_iff.1 hd).1
  clear hd ht hF
  go_enter Try.func42, Try.ntmps42
  go_upto_region 3 with fail
  go_region_held3 (fun w' => w'.cell? ⟨e, 3, none⟩ = some (.pointer (some ⟨g, 0, none⟩)) ∧ w'.cell? ⟨e, 0, none⟩ = some (.int .i64 E.own))
    (first | go_keep | exact ⟨k0, k1⟩)
    (first
      | (go_at_call 26; refine (HRZ.out _ (by rfl)).mono ?_; rintro e2 w3 ⟨rfl, F3, ht3, hk3, hg3⟩; have hk3' : Kept F w w3 := ⟨hk3.os, hk3.tape, hk3.output, hk3.size, hk3.block⟩; have hg3' : Grew w F F3 := hg3; have ke := (hk3'.block e hel HEND.out.2.2).trans HEND.out.1; have k0 : w3.cell? ⟨e, 3, none⟩ = some (.pointer (some ⟨g, 0, none⟩)) := (by unfold World.cell?; rw [ke]; rfl); have k1 : w3.cell? ⟨e, 0, none⟩ = some (.int .i64 E.own) := (by unfold World.cell?; rw [ke]; rfl); have H3 := Lib.hid (And.intro ht3 (And.intro hk3' (And.intro hg3' ke))); clear ht3 hk3 hg3 hk3' hg3' ke))
  all_goals
    clear c0 c3
    have c2 : w3.cell? ⟨e, 2, none⟩ = some (.int .i64 E.least) := by unfold World.cell?; rw [H3.out.2.2.2]; rfl
    have f2 := enB_free H3.out.2.2.2 2
    have HMO : Hid (∀ w', w'.heap = w3.heap → Calls Try.prog 20 #[.pointer (some ⟨g, 0, none⟩)] w' fun e w2 => e = .returned (.int .i64 (min n E.own)) ∧ w' = w2) := Lib.hid fun w' hw => most_any w' (H3.out.1.keep (w' := w') fun k _ => by rw [hw])
    go_upto_region 4 with fail
    go_region_law (first
      | (go_simp; go_at_call 20; refine (HMO.out _ (by rfl)).mono ?_; rintro e w2 ⟨rfl, rfl⟩))
    all_goals
      go_wp2
      go_ret
      obtain ⟨ht3, hk3, hg3, ke⟩ := H3.out
      have hFe3 : ¬ F3 e := fun hf => (hg3 e hf).elim HEND.out.2.2 (fun h => by omega)
      refine ⟨rfl, fun k => k = e ∨ F3 k, ⟨g, F3, rfl, set_b (o := 2) (.int .i64 (min E.least (min n E.own))) ke, ht3.keep fun k hk => Below.heap_setCell _ _ _ _ (fun h => hFe3 ((show k = e from h) ▸ hk)), hFe3⟩, ?_, ?_⟩
      · exact Kept.setCell (Kept.drew (hk3.mono (fun k hk => .inr hk))) (.inl rfl) 2 _
      · exact fun k hk => hk.elim (fun h => .inl (.inl h)) (fun hf => (hg3 k hf).elim (fun h => .inl (.inr h)) .inr)
end Go.Proofs.Ythpieiipddfpjaa

/- The walk of hpack.Encoder's Encode. -/
namespace Go.Proofs.Ythpieiipddfpjaa
open Go.RowKit

theorem encL_snoc (T : Tb) (l : List Fd) (f : Fd) : encL T (l ++ [f]) = ((encL T l).1 ++ (encOne (encL T l).2 f).1, (encOne (encL T l).2 f).2) := by
  induction l generalizing T with
  | nil => simp [encL]
  | cons a l ih => simp only [List.cons_append, encL, ih, List.append_assoc]
theorem add_most (T : Tb) (f : Rw) : (T.add f).most = T.most := by unfold Tb.add; split <;> rfl
theorem encOne_most (T : Tb) (f : Fd) : (encOne T f).2.most = T.most := by
  unfold encOne
  repeat' split
  all_goals first | rfl | exact add_most _ _
theorem encL_most (T : Tb) (l : List Fd) : (encL T l).2.most = T.most := by
  induction l generalizing T with
  | nil => rfl
  | cons f l ih => simp only [encL]; rw [ih, encOne_most]
theorem namedB_le (fl F : Nat) (T : Tb) (f : Rw) (h1 : f.1.size ≤ 1048576) (h2 : f.2.size ≤ 1048576) : (namedB fl F T f).length ≤ 2097200 := by
  have h3 := (putB_length fl F (numT T f)).1
  have h4 := textB_le h1
  have h5 := textB_le h2
  unfold namedB
  split <;> simp only [List.length_append, List.length_nil] <;> omega
theorem encOne_le (T : Tb) (f : Fd) (h1 : f.1.1.size ≤ 1048576) (h2 : f.1.2.size ≤ 1048576) : (encOne T f).1.length ≤ 2097200 := by
  have h3 := (putB_length 128 127 (numT T f.1)).1
  unfold encOne
  repeat' split
  all_goals first | exact namedB_le _ _ _ _ h1 h2 | (simp only; omega)
theorem encSz_le (E : Enc) : (encSz E).length ≤ 14 := by
  have h3 := (putB_length 32 31 E.least.toNat).1
  have h4 := (putB_length 32 31 E.T.most.toNat).1
  unfold encSz
  repeat' split
  all_goals (try simp only [List.length_append, List.length_nil]); omega
theorem encL_le (T : Tb) (l : List Fd) (h : ∀ f ∈ l, f.1.1.size ≤ 1048576 ∧ f.1.2.size ≤ 1048576) : (encL T l).1.length ≤ l.length * 2097200 := by
  induction l generalizing T with
  | nil => simp [encL]
  | cons f l ih =>
    have h1 := ih (encOne T f).2 (fun g hg => h g (List.mem_cons_of_mem _ hg))
    have h2 := encOne_le T f (h f (List.mem_cons_self ..)).1 (h f (List.mem_cons_self ..)).2
    simp only [encL, List.length_append, List.length_cons]
    omega
/-- The way's function, whichever it is. -/
theorem step_way {e N : Nat} {G : Nat → Prop} {E : Enc} (f : Fd) (w : World) (h : EncIs w e G N E) (hf1 : f.1.1.size ≤ 1048576) (hf2 : f.1.2.size ≤ 1048576) (hN : N + 1 ≤ 1099511627776) :
    Calls Try.prog (wayF E.T f) #[.pointer (some ⟨e, 0, none⟩), .agg #[.string f.1.1, .string f.1.2, .bool f.2]] w (EPost w e G (N + 1) { E with T := (encOne E.T f).2 } (encOne E.T f).1) := by
  have hmore : ∀ {l : List UInt8} {ev : Ending} {w' : World}, EPost w e G N E l ev w' → EPost w e G (N + 1) E l ev w' := by
    rintro l ev w' ⟨v, h1, h2, G', h3, h4⟩
    exact ⟨v, h1, h2, G', h3.more (Nat.le_succ _) hN, h4⟩
  unfold wayF encOne
  by_cases c1 : neverF f = true
  · rw [if_pos c1, if_pos c1]
    exact (never_any f.1 f.2 w h hf1 hf2).mono fun _ _ hp => hmore hp
  · rw [if_neg c1, if_neg c1]
    by_cases c2 : (fnd E.T f.1).2 = true
    · rw [if_pos c2, if_pos c2]
      exact (found_any f.1 f.2 w h hf1 hf2).mono fun _ _ hp => hmore hp
    · rw [if_neg c2, if_neg c2]
      by_cases c3 : E.T.most < (cost f.1 : Int)
      · rw [if_pos c3, if_pos c3]
        exact (aside_any f.1 f.2 w h hf1 hf2).mono fun _ _ hp => hmore hp
      · rw [if_neg c3, if_neg c3]
        exact kept_any f.1 f.2 w h hf1 hf2 hN
theorem wayF_cases (T : Tb) (f : Fd) : wayF T f = 65 ∨ wayF T f = 66 ∨ wayF T f = 67 ∨ wayF T f = 68 := by
  unfold wayF
  repeat' split
  all_goals simp
/-- The relation at the loop's head. -/
def EnRel (W : World) (e : Nat) (G : Nat → Prop) (N : Nat) (E : Enc) (l : List Fd) (ov iv : Value) (wr : World) : Prop :=
  ∃ (k : Nat) (G' : Nat → Prop), iv = .int .i64 k ∧ k ≤ l.length ∧ OwnB wr W.heap.size ov (encSz E ++ (encL E.T (l.take k)).1) ∧ EncIs wr e G' (N + k) ⟨E.own, E.T.most, E.T.most, (encL E.T (l.take k)).2⟩ ∧ Kept G W wr ∧ Grew W G G' ∧ (∀ q, ov.ownBlock = some q → ¬ G' q)
set_option maxRecDepth 100000 in
set_option maxHeartbeats 4000000 in
theorem encode_any {e N n c : Nat} {G : Nat → Prop} {E : Enc} {A : Option Addr} (l : List Fd) (w : World) (h : EncIs w e G N E) (hr : Rd w w.heap.size 3 A n (fds l)) (hAG : 0 < n → ∀ a, A = some a → ¬ G a.block) (hl0 : 0 ≤ E.least) (hl1 : E.least ≤ 65536) (hN : N + n ≤ 1099511627776) (hn : n ≤ 1048576) (hln : l.length = n)
    (hf : ∀ f ∈ l, f.1.1.size ≤ 1048576 ∧ f.1.2.size ≤ 1048576) :
    Calls Try.prog 39 #[.pointer (some ⟨e, 0, none⟩), .slice A n c] w (EPost w e G (N + n) (E.run l).2 (E.run l).1) := by
  have HS := Lib.hid (sizes_any w h hl0 hl1)
  have HH := Lib.hid h
  have HR := Lib.hid hr
  have HF := Lib.hid hf
  clear h hr
  go_enter Try.func39, Try.ntmps39
  go_wp2_with fail
  refine HS.out.mono ?_
  rintro e1 w1 ⟨v1, rfl, ho1, he1, hk1⟩
  have HO1 := Lib.hid ho1
  have HE1 := Lib.hid he1
  have HK1 := Lib.hid hk1
  clear ho1 he1 hk1
  go_wp2_with fail
  go_loopw [5, 15] (fun ov iv wr => EnRel w e G N E l ov iv wr) (fun _ iv _ => n - (intOf iv).toNat)
  case atStart =>
    refine ⟨0, G, rfl, Nat.zero_le _, ?_, HE1.out, HK1.out.mono fun k hk => ?_, Grew.refl _ _, ?_⟩
    · simp only [List.take_zero, encL, List.append_nil]; exact HO1.out
    · obtain ⟨g, F, hG, -⟩ := HH.out
      rw [hG]; exact .inl hk
    · intro q hq hg
      have := (World.ownsRow.lt HO1.out q hq).1
      have := HH.out.lt q hg
      omega
  case round =>
    obtain ⟨k, G', rfl, hk, ho, he, hkp, hgr, hov⟩ := hrel
    have HO := Lib.hid ho
    have HE := Lib.hid he
    have HK := Lib.hid hkp
    have HG := Lib.hid hgr
    have HV := Lib.hid hov
    have hsz := hkp.size
    have hr1 : Rd wr wr.heap.size 3 A n (fds l) := HR.out.kept hkp hAG
    clear ho he hkp hgr hov
    rw [hln] at hk
    by_cases hlt : k < n
    · obtain ⟨hl', b, o, rfl, hb, hc⟩ := fd_at hr1 (by omega)
      obtain ⟨f, hfk⟩ : ∃ f, l[k]? = some f := ⟨_, List.getElem?_eq_getElem (by omega)⟩
      obtain ⟨q0, q1, q2⟩ := hc k f hfk
      have hbd := hf f (List.mem_of_getElem? hfk)
      have n1 : (k : Int) < n := by omega
      have HFK := Lib.hid hfk
      clear hc hr1 hl' hf hfk
      go_upto_region 7 with fail
      obtain ⟨Wz, hWz⟩ : ∃ Wz, wr.alloc (.cells #[.string f.1.1, .string f.1.2, .bool f.2] 24) = Wz := ⟨_, rfl⟩
      obtain ⟨x, hx⟩ : ∃ x, wr.heap.size = x := ⟨_, rfl⟩
      rw [hWz, hx]
      have bz : Below wr.heap.size wr Wz := by rw [← hWz]; exact (Below.refl _ _).alloc (Nat.le_refl _) _
      have kx : Wz.heap[x]? = some (.cells #[.string f.1.1, .string f.1.2, .bool f.2] 24 (0, 0)) := by rw [← hWz, ← hx]; exact heapNew _ _
      have x0 : Wz.cell? ⟨x, 0, none⟩ = some (.string f.1.1) := by unfold World.cell?; rw [kx]; rfl
      have x1 : Wz.cell? ⟨x, 1, none⟩ = some (.string f.1.2) := by unfold World.cell?; rw [kx]; rfl
      have x2 : Wz.cell? ⟨x, 2, none⟩ = some (.bool f.2) := by unfold World.cell?; rw [kx]; rfl
      have hxl : x < Wz.heap.size := (Array.getElem?_eq_some_iff.1 kx).1
      obtain ⟨Ek, hEk⟩ : ∃ Ek : Enc, (⟨E.own, E.T.most, E.T.most, (encL E.T (l.take k)).2⟩ : Enc) = Ek := ⟨_, rfl⟩
      have HEK := Lib.hid hEk
      have hez := HE.out.below bz
      rw [hEk] at hez
      have HEZ := Lib.hid hez
      have HWAY := Lib.hid (way_any f Wz hez hbd.1 hbd.2)
      obtain ⟨K, hK⟩ : ∃ K, wayF Ek.T f = K := ⟨_, rfl⟩
      have hKc := wayF_cases Ek.T f
      rw [hK] at HWAY hKc
      have HST : Hid (∀ w3, Below Wz.heap.size Wz w3 → Calls Try.prog K #[.pointer (some ⟨e, 0, none⟩), .agg #[.string f.1.1, .string f.1.2, .bool f.2]] w3 (EPost w3 e G' (N + k + 1) { Ek with T := (encOne Ek.T f).2 } (encOne Ek.T f).1)) := Lib.hid fun w3 hb3 => by
        rw [← hK]
        exact step_way f w3 (hez.below hb3) hbd.1 hbd.2 (by omega)
      have hle1 := encOne_le Ek.T f hbd.1 hbd.2
      have hle2 := encSz_le E
      have hle3 : (encL E.T (l.take k)).1.length ≤ k * 2097200 := Nat.le_trans (encL_le E.T (l.take k) (fun g hg => HF.out g (List.mem_of_mem_take hg))) (Nat.mul_le_mul_right _ (by rw [List.length_take]; omega))
      obtain ⟨b0, hb0⟩ : ∃ b0, encSz E ++ (encL E.T (l.take k)).1 = b0 := ⟨_, rfl⟩
      have HB0 := Lib.hid hb0
      have hlb : b0.length ≤ 14 + k * 2097200 := by rw [← hb0, List.length_append]; omega
      rw [hb0] at HO
      obtain ⟨b1, hb1⟩ : ∃ b1, (encOne Ek.T f).1 = b1 := ⟨_, rfl⟩
      have HB1 := Lib.hid hb1
      rw [hb1] at HST hle1
      have HBZ := Lib.hid bz
      have HKX := Lib.hid kx
      have HXX := Lib.hid hx
      clear hWz hx bz kx hEk hez hK hle2 hle3 hb0 hb1 q0 q1 q2 hbd
      go_wp2_with fail
      refine HWAY.out.mono ?_
      rintro e2 w3 ⟨rfl, hb3⟩
      have HST3 := Lib.hid (HST.out w3 hb3)
      have y0 := (hb3.cell (p := ⟨x, 0, none⟩) hxl).trans x0
      have y1 := (hb3.cell (p := ⟨x, 1, none⟩) hxl).trans x1
      have y2 := (hb3.cell (p := ⟨x, 2, none⟩) hxl).trans x2
      have HBW3 : Hid (Below wr.heap.size wr w3) := Lib.hid (HBZ.out.trans (hb3.mono HBZ.out.size))
      have hs3 := HBW3.out.size
      clear hb3 HST HWAY x0 x1 x2
      rcases hKc with rfl | rfl | rfl | rfl
      all_goals
        go_wp2_with fail
        refine HST3.out.mono ?_
        rintro e4 w4 ⟨v4, rfl, ho4, G4, he4, hk4, hg4, hv4⟩
        have HO4 : Hid (OwnB w4 w.heap.size u5 b0) := Lib.hid (own_kept4 (own_kept4 HO.out (Kept.of_below (F := fun _ => False) HBW3.out) (fun _ _ h => h)) hk4 (fun q hq => HV.out q hq))
        obtain ⟨A4, c4, rfl, hr4⟩ := ho4.rd
        have HR4 := Lib.hid hr4
        have H4 := Lib.hid (And.intro he4 (And.intro hk4 hg4))
        have hs4 := hk4.size
        clear ho4 he4 hk4 hg4 hv4 hr4 y0 y1 y2
        go_wp2_with (at_builtin; refine wpList_app (.tmp 22) (.tmp 25) tBytes rfl rfl HO4.out rfl HR4.out rfl (bvs_one _) (le_maxLen (by omega)) (by omega) (by omega) ?_; intro v5 w5 hown5 hg5 hv5)
        go_roundw
        case rel =>
          have hu : ∀ q, u5.ownBlock = some q → ¬ G4 q := fun q hq hG => (H4.out.2.2 q hG).elim (HV.out q hq) (fun h => by have := (World.ownsRow.lt HO.out q hq).2; omega)
          have hsn : encL E.T (l.take (k + 1)) = ((encL E.T (l.take k)).1 ++ b1, (encOne Ek.T f).2) := by
            rw [List.take_add_one, HFK.out, Option.toList_some, encL_snoc, ← HB1.out, ← HEK.out]
          refine ⟨k + 1, G4, by go_num, by omega, ?_, ?_, ?_, ?_, ?_⟩
          · rw [hsn, ← List.append_assoc, HB0.out]
            exact own_app hown5 (Nat.le_refl _)
          · rw [hsn]
            have := H4.out.1.keep (w' := w5) (fun q hq => hg5.block q (H4.out.1.lt q hq) (fun h => hu q h.symm hq))
            have hEE : ({ Ek with T := (encOne Ek.T f).2 } : Enc) = ⟨E.own, E.T.most, E.T.most, (encOne Ek.T f).2⟩ := by rw [← HEK.out]
            rw [hEE] at this
            exact this
          · exact (HK.out.trans ((Kept.of_below HBW3.out).same H4.out.2.1) HG.out).grown hg5 (fun q hq => .inr (World.ownsRow.lt HO.out q hq).1)
          · exact fun q hq => (H4.out.2.2 q hq).elim (fun h => HG.out q h) (fun h => .inr (by omega))
          · intro q hq
            rcases hv5 with h | h
            · exact hu q (h ▸ hq)
            · rw [h] at hq
              injection hq with hq
              intro hG
              have := H4.out.1.lt q hG
              omega
        case measure => simp [intOf]; omega
    · obtain rfl : k = n := by omega
      have hlt' : l.take l.length = l := List.take_length
      go_wp2
      go_ret
      rw [hln.symm, hlt'] at HO HE
      exact ⟨_, rfl, HO.out, G', by rw [← hln]; exact HE.out, HK.out, HG.out, HV.out⟩
end Go.Proofs.Ythpieiipddfpjaa

/- What law05.awake asks, plain. -/
namespace Go.Proofs.Ythpieiipddfpjaa
open Go.RowKit

def awakeL : List Fd := [((⟨#[58, 109, 101, 116, 104, 111, 100]⟩, ⟨#[71, 69, 84]⟩), false), ((⟨#[97]⟩, ⟨#[98]⟩), false)]
def encNew (own : Int) : Enc := ⟨own, 4096, min own 4096, ⟨min own 4096, 0, []⟩⟩
set_option maxRecDepth 100000 in
theorem awake_enc : ((encNew 4096).run awakeL).1 = [130, 64, 1, 97, 1, 98] := by decide +kernel
set_option maxRecDepth 100000 in
theorem awake_dec : (outD 4096 1000 ⟨4096, 0, []⟩ [130, 64, 1, 97, 1, 98]).1 = awakeL ∧ (outD 4096 1000 ⟨4096, 0, []⟩ [130, 64, 1, 97, 1, 98]).2.1 = 0 := by decide +kernel
end Go.Proofs.Ythpieiipddfpjaa

/- The walk of law05.awake; Encode of none. -/
namespace Go.Proofs.Ythpieiipddfpjaa
open Go.RowKit

theorem encode_nil (v : Value) (w : World) : Calls Try.prog 39 #[.pointer none, v] w fun e w' => e = .returned (.slice none 0 0) ∧ w = w' := by
  go_enter Try.func39, Try.ntmps39
  go_wp2; go_ret; exact ⟨rfl, rfl⟩
set_option maxRecDepth 100000 in
set_option maxHeartbeats 2000000 in
theorem awake_any (w : World) : Calls Try.prog 28 #[] w fun e w' => e = .returned (.bool true) ∧ Below w.heap.size w w' := by
  have HNE := Lib.hid (newenc_any 4096 w (by omega) (by omega))
  go_enter Try.func28, Try.ntmps28
  go_wp2_with fail
  refine HNE.out.mono ?_
  rintro e1 w1 ⟨e, G, rfl, he, hG, hb1⟩
  have HND := Lib.hid (newdec_any 4096 1000 w1 (by omega) (by omega) (by omega))
  have HE := Lib.hid (And.intro he (And.intro hG hb1))
  clear he hG hb1
  go_wp2_with fail
  refine HND.out.mono ?_
  rintro e2 w2 ⟨d, GD, rfl, hd, hGD, hb2⟩
  have HD := Lib.hid (And.intro hd (And.intro hGD hb2))
  clear hd hGD hb2
  go_upto_region 5 with fail
  go_wp2_with fail
  obtain ⟨W3, hW3⟩ : ∃ W3, w2.alloc (.cells #[.string ⟨#[58, 109, 101, 116, 104, 111, 100]⟩, .string ⟨#[71, 69, 84]⟩, .bool false, .string ⟨#[97]⟩, .string ⟨#[98]⟩, .bool false] 24) = W3 := ⟨_, rfl⟩
  obtain ⟨x, hx⟩ : ∃ x, w2.heap.size = x := ⟨_, rfl⟩
  rw [hW3, hx]
  have b3 : Below w2.heap.size w2 W3 := by rw [← hW3]; exact (Below.refl _ _).alloc (Nat.le_refl _) _
  have kx : W3.heap[x]? = some (.cells #[.string ⟨#[58, 109, 101, 116, 104, 111, 100]⟩, .string ⟨#[71, 69, 84]⟩, .bool false, .string ⟨#[97]⟩, .string ⟨#[98]⟩, .bool false] 24 (0, 0)) := by rw [← hW3, ← hx]; exact heapNew _ _
  have hxl : x < W3.heap.size := (Array.getElem?_eq_some_iff.1 kx).1
  have hrd : Rd W3 W3.heap.size 3 (some ⟨x, 0, none⟩) 2 (fds awakeL) := by
    refine ⟨rfl, fun _ => ⟨x, 0, rfl, hxl, fun j hj => ?_⟩⟩
    unfold World.cell?
    rw [kx]
    have hj6 : j < 6 := hj
    match j, hj6 with
    | 0, _ => rfl
    | 1, _ => rfl
    | 2, _ => rfl
    | 3, _ => rfl
    | 4, _ => rfl
    | 5, _ => rfl
  have he3 : EncIs W3 e G 0 (encNew 4096) := (HE.out.1.below HD.out.2.2).below b3
  have hxG : ∀ k, G k → k < x := fun k hk => by have := HE.out.1.lt k hk; have := HD.out.2.2.size; omega
  have HEN := Lib.hid (encode_any (c := 2) awakeL W3 he3 hrd (fun _ a ha hg => by injection ha with ha; subst ha; have := hxG _ hg; simp only at this; omega) (by decide) (by decide) (by omega) (by omega) rfl (by decide))
  rw [awake_enc] at HEN
  have HB3 := Lib.hid (And.intro b3 hx)
  clear hW3 hx b3 kx hrd he3 hxG
  refine HEN.out.mono ?_
  rintro e3 w4 ⟨v4, rfl, ho4, G4, he4, hk4, hg4, hv4⟩
  obtain ⟨A4, c4, rfl, hc4, hm4, hr4, hA4⟩ := own_slice ho4
  have hs1 := HE.out.2.2.size
  have hs2 := HD.out.2.2.size
  have hs3 := HB3.out.1.size
  have hs4 := hk4.size
  have hd4 : DecIs w4 d GD 0 4096 1000 ⟨4096, 0, []⟩ false := by
    have hdl := DecIs.lt HD.out.1
    have hd3 : DecIs W3 d GD 0 4096 1000 ⟨4096, 0, []⟩ false := DecIs.keep HD.out.1 fun k hk => HB3.out.1.block k (hdl k hk)
    refine DecIs.keep hd3 fun k hk => hk4.block k (DecIs.lt hd3 k hk) (fun hg => ?_)
    have h1 := HE.out.1.lt k hg
    have h2 := HD.out.2.1 k hk
    omega
  obtain ⟨R, hR⟩ : ∃ R, outD 4096 1000 ⟨4096, 0, []⟩ [130, 64, 1, 97, 1, 98] = R := ⟨_, rfl⟩
  have hR1 := awake_dec.1
  have hR2 := awake_dec.2
  have hblk : 0 < 6 → ∀ a, A4 = some a → ¬ GD a.block := fun _ a ha hg => by have h1 := hA4 a ha; have h2 := DecIs.lt HD.out.1 a.block hg; omega
  have hde := decode_any w4 hd4 hr4 hc4 hm4 (by decide) hblk (by omega) (by decide)
  rw [hR] at hR1 hR2 hde
  obtain ⟨fl, er, tb⟩ := R
  simp only at hR1 hR2
  subst hR1 hR2
  have HDE := Lib.hid hde
  have HR4 := Lib.hid (And.intro hr4 hblk)
  have HB4 : Hid (Below w.heap.size w w4) := Lib.hid (((HE.out.2.2.trans (HD.out.2.2.mono hs1)).trans (HB3.out.1.mono (by omega))).trans (hk4.below HE.out.2.1 (by omega)))
  clear hde hR hd4 ho4 hr4 hblk hA4 he4 hk4 hg4 hv4
  go_wp2_with fail
  refine HDE.out.mono ?_
  rintro e5 w5 ⟨A5, c5, rfl, ho5, G5, T5, hd5, -, -, hk5, hg5⟩
  have hr5 : Rd w5 w5.heap.size 1 A4 6 (bvs [130, 64, 1, 97, 1, 98]) := HR4.out.1.kept hk5 HR4.out.2
  obtain ⟨A6, c6, hv6, -, -, hr6, -⟩ := own_slice ho5
  injection hv6 with hv6
  subst hv6
  obtain ⟨hl6, b6, o6, rfl, hb6, q6⟩ := fd_at hr6 (by show 0 < 2; omega)
  obtain ⟨b5, o5, rfl, hb5, q5⟩ := hr5.2 (by decide)
  have z0 : w5.cell? ⟨b5, o5, none⟩ = some (.int .u8 130) := q5 0 (by decide)
  have z1 : w5.cell? ⟨b5, o5 + 1, none⟩ = some (.int .u8 64) := q5 1 (by decide)
  have y0 : w5.cell? ⟨b6, o6 + 3 + 1, none⟩ = some (.string ⟨#[98]⟩) := (q6 1 _ rfl).2.1
  have hal : awakeL.length = 2 := rfl
  clear q5 q6 hl6 hr5
  simp only [hal]
  clear hal
  go_wp2
  go_ret
  refine ⟨rfl, HB4.out.trans (hk5.below (fun k hk => by have := HD.out.2.1 k hk; omega) (by omega))⟩
end Go.Proofs.Ythpieiipddfpjaa

/- What a decoder's reading hands back: no fault says 'not now'; behind a fault it is broken. In plain Lean. No program in sight. -/
namespace Go.Proofs.Ythpieiipddfpjaa
open Go.RowKit

theorem takeTail_ne5 : ∀ (k a n t : Nat) (l : List UInt8), (takeTail k a n t l).2.2 ≠ 5
  | 0, a, n, t, l => by simp [takeTail]
  | k + 1, a, n, t, [] => by simp [takeTail]
  | k + 1, a, n, t, c :: l => by
    rw [takeTail]
    split
    · split <;> simp
    · exact takeTail_ne5 k _ _ _ l
theorem takeI_ne5 (F : Nat) (l : List UInt8) : (takeI F l).2.2 ≠ 5 := by
  cases l with
  | nil => simp [takeI]
  | cons c t =>
    simp only [takeI]
    split
    · simp
    · exact takeTail_ne5 _ _ _ _ _
theorem takeT_ne5 (l : List UInt8) : (takeT l).2.2 ≠ 5 := by
  unfold takeT
  split
  · exact takeI_ne5 _ _
  · split
    · simp
    · split
      · simp
      · split
        · simp
        · split
          · simp
          · split <;> simp
theorem takeS_bad {l : List UInt8} {e : Nat} (h : takeS l = .error e) : e ≠ 0 ∧ e ≠ 5 := by
  refine ⟨(takeS_err h).1, ?_⟩
  unfold takeS at h
  split at h
  · injection h with h; subst h; exact takeT_ne5 l
  · cases h
theorem litP_bad {T : Tb} {n : Nat} {l : List UInt8} {e : Nat} (h : litP T n l = .error e) : e ≠ 0 ∧ e ≠ 5 := by
  unfold litP at h
  split at h
  · rename_i e1 h1
    injection h with h
    subst h
    unfold takeN at h1
    split at h1
    · split at h1
      · injection h1 with h1; subst h1; decide
      · cases h1
    · exact takeS_bad h1
  · split at h
    · rename_i e2 h2
      injection h with h
      subst h
      exact takeS_bad h2
    · cases h
theorem afterP_bad {mo : Int} {c n e : Nat} {l : List UInt8} {S : HSt} (h : afterP mo c n l S = .error e) : e ≠ 0 ∧ e ≠ 5 := by
  unfold afterP at h
  split at h
  · split at h
    · injection h with h; subst h; decide
    · cases h
  · split at h
    · split at h
      · rename_i h2; injection h with h; subst h; exact litP_bad h2
      · cases h
    · split at h
      · split at h
        · injection h with h; subst h; decide
        · cases h
      · split at h
        · rename_i h2; injection h with h; subst h; exact litP_bad h2
        · cases h
theorem partP_bad {mo : Int} {S : HSt} {e : Nat} (h : partP mo S = .error e) : e ≠ 0 ∧ e ≠ 5 := by
  unfold partP at h
  split at h
  · rename_i h0
    injection h with h
    subst h
    exact ⟨h0, takeI_ne5 _ _⟩
  · exact afterP_bad h
theorem decP_bad {mo : Int} {e : Nat} : ∀ (k : Nat) (S : HSt), decP mo k S = .error e → e ≠ 0 ∧ e ≠ 5
  | 0, S, h => by cases h
  | k + 1, S, h => by
    unfold decP at h
    split at h
    · cases h
    · split at h
      · rename_i h2; injection h with h; subst h; exact partP_bad h2
      · exact decP_bad k _ h
theorem decP_ok2 {mo : Int} (hmo : mo ≤ 65536) {L : Nat} : ∀ (k : Nat) (S S' : HSt), HOk L S → decP mo k S = .ok S' → HOk L S'
  | 0, S, S', hok, h => by injection h with h; subst h; exact hok
  | k + 1, S, S', hok, h => by
    unfold decP at h
    split at h
    · injection h with h; subst h; exact hok
    · split at h
      · cases h
      · rename_i S1 h1
        exact decP_ok2 hmo k _ _ (hok.part hmo h1).1 h
theorem outD_ne5 (mo li : Int) (T : Tb) (l : List UInt8) : (outD mo li T l).2.1 ≠ 5 := by
  unfold outD
  split
  · rename_i h; exact (decP_bad _ _ h).2
  · split <;> simp
theorem outD_good {mo li : Int} {T : Tb} {l : List UInt8} (h : (outD mo li T l).2.1 = 0) : (outD mo li T l).2.2.isNone = false := by
  unfold outD at h ⊢
  split at h
  · rename_i h2; exact absurd h (decP_bad _ _ h2).1
  · split at h
    · simp at h
    · rename_i h2 h3; simp [h3]
theorem outD_fell {mo li : Int} {T : Tb} (hT : TOk T) (hmo : mo ≤ 65536) {l : List UInt8} (hl : (131104 * l.length : Int) ≤ li) (h : (outD mo li T l).2.1 ≠ 0) : (outD mo li T l).2.2.isNone = true := by
  unfold outD at h ⊢
  split at h
  · rfl
  · rename_i S h2
    have hok := decP_ok2 hmo _ _ _ (HOk.start hT l) h2
    have hc := hok.costle
    have hn := hok.len
    rw [if_neg (by omega)] at h
    exact absurd rfl h
end Go.Proofs.Ythpieiipddfpjaa

/- A []api.Field, a [][]byte, a []drawbridgelaw05.Do that came in: in memory. -/
namespace Go.Proofs.Ythpieiipddfpjaa
open Go.ChangeShapes Go.WideShapes Go.ChangeAt Go.RowKit Go.WideMaps Go.ChangeMaps Go.Deep
set_option maxRecDepth 100000

theorem weightsAll_mem {H : Type} {P : Program} {e : TypeId} : ∀ {l : List (DataW H)} {d : DataW H}, d ∈ l → ∀ n ∈ d.weights P e, n ∈ DataW.weightsAll P e l
  | a :: l, d, hd, n, hn => by
    simp only [DataW.weightsAll, List.mem_append]
    rcases List.mem_cons.1 hd with rfl | h
    · exact Or.inl hn
    · exact Or.inr (weightsAll_mem h n hn)
/-- Within the form's reach. -/
def Near {H : Type} (t : TypeId) (d : DataW H) : Prop := ∀ n ∈ d.weights Try.prog t, n ≤ reachBytes
theorem near_of {H : Type} {ts : List TypeId} {ds : List (DataW H)} (hsz : (DataW.weightsEach Try.prog ts ds).all (· ≤ reachBytes) = true) {j : Nat} {t : TypeId} {d : DataW H} (ht : ts[j]? = some t) (hd : ds[j]? = some d) : Near t d :=
  fun n hn => of_decide_eq_true (List.all_eq_true.1 hsz _ (DataW.weights_mem_each ht hd n hn))
theorem Near.elem {H : Type} {t e : TypeId} {elems spare : List (DataW H)} (h : Near t (.slice elems spare)) (hu : Try.prog.underlying t = some (.slice e)) {d : DataW H} (hd : d ∈ elems) : Near e d := fun n hn =>
  h n (by simp only [DataW.weights, hu, List.mem_cons, List.mem_append]; exact .inr (.inl (weightsAll_mem hd n hn)))
theorem Near.len {H : Type} {t e : TypeId} {elems spare : List (DataW H)} (h : Near t (.slice elems spare)) (hu : Try.prog.underlying t = some (.slice e)) : (elems.length + spare.length) * Try.prog.bytesOf e ≤ reachBytes :=
  h _ (by simp [DataW.weights, hu])

section
variable {H : Type} {enc : TypeId × Value → H} {W : World}
/-- A field's three cells. -/
theorem field5 {cs : List Value} {x : DataW H × List MemPlace} {n : Nat} (h : DataW.trod enc Try.prog W 0 (fun _ => true) true n 24 cs = some x) (hw : Near 24 x.1) :
    ∃ f : Fd, cs = [.string f.1.1, .string f.1.2, .bool f.2] ∧ f.1.1.size ≤ 140737488351232 ∧ f.1.2.size ≤ 140737488351232 := by
  obtain ⟨xs, m, _, hd0, hl, hx, hf⟩ := DataW.trod_struct Try.underlying24 h
  rw [show Try.prog.cellsOf 24 = 3 by kernel_rfl] at hl
  have cb : Try.prog.cellsOf 4 = 1 := by kernel_rfl
  have cs1 : Try.prog.cellsOf 9 = 1 := by kernel_rfl
  match cs, hl with
  | [c0, c1, c2], _ =>
    match xs, hx with
    | [x0, x1, x2], _ =>
      have f0 := hf 0 _ rfl
      have f1 := hf 1 _ rfl
      have f2 := hf 2 _ rfl
      change DataW.trod enc Try.prog W 0 _ true m 9 (List.take (Try.prog.cellsOf 9) (List.drop 0 [c0, c1, c2])) = some x0 at f0
      change DataW.trod enc Try.prog W 0 _ true m 9 (List.take (Try.prog.cellsOf 9) (List.drop 1 [c0, c1, c2])) = some x1 at f1
      change DataW.trod enc Try.prog W 0 _ true m 4 (List.take (Try.prog.cellsOf 4) (List.drop 2 [c0, c1, c2])) = some x2 at f2
      rw [cb] at f2
      rw [cs1] at f0 f1
      obtain ⟨a, e0, y0, w0⟩ := DataW.trod_string Try.underlying9 f0
      obtain ⟨b, e1, y1, w1⟩ := DataW.trod_string Try.underlying9 f1
      obtain ⟨v, e2, -⟩ := DataW.trod_bool Try.underlying4 f2
      simp at e0 e1 e2
      subst e0 e1 e2 y0 y1
      rw [hd0] at hw
      refine ⟨((a, b), v), rfl, ?_, ?_⟩
      · have h2 := hw a.data.toList.length (by simp [DataW.weights, Try.underlying24, DataW.weightsEach])
        have h3 : a.data.toList.length = a.size := by simp
        unfold reachBytes at h2
        show a.size ≤ _
        omega
      · have h2 := hw b.data.toList.length (by simp [DataW.weights, Try.underlying24, DataW.weightsEach])
        have h3 : b.data.toList.length = b.size := by simp
        unfold reachBytes at h2
        show b.size ≤ _
        omega
theorem fds_of (F : Nat → Fd) (n : Nat) : ∀ i, i < n → ∀ j, j < 3 → (fds ((List.range n).map F))[i * 3 + j]? = [Value.string (F i).1.1, .string (F i).1.2, .bool (F i).2][j]? := by
  intro i hi j hj
  have hg : ((List.range n).map F)[i]? = some (F i) := by simp [hi]
  have e := fds_get hg
  match j, hj with
  | 0, _ => exact e.1
  | 1, _ => exact e.2.1
  | 2, _ => exact e.2.2
/-- A []api.Field's cell. -/
theorem fds5 {cs : List Value} {x : DataW H × List MemPlace} {fuel B : Nat} (h : DataW.trod enc Try.prog W 0 (fun _ => true) true fuel 32 cs = some x) (hw : Near 32 x.1) (hlt : ∀ y ∈ x.2, y.block < B) :
    ∃ A n c l, cs = [.slice A n c] ∧ n ≤ c ∧ c ≤ maxLen ∧ n ≤ 140737488351232 ∧ l.length = n ∧ Rd W B 3 A n (fds l) ∧ ∀ f ∈ l, f.1.1.size ≤ 140737488351232 ∧ f.1.2.size ≤ 140737488351232 := by
  rcases open_slice Try.underlying32 h with ⟨hcs, hx⟩ | ⟨a, len, cap, m, k, D, Pl, hcs, _, hl, hm, hmm, hx, hi⟩
  · exact ⟨none, 0, 0, [], hcs, Nat.le_refl _, Nat.zero_le _, by omega, rfl, Rd.none_ _ _ _ _, fun f hf => by cases hf⟩
  · have hmc : m = cap := by simpa using hmm
    subst hmc
    subst hx
    have hC : Try.prog.cellsOf 24 = 3 := by kernel_rfl
    have hreach := hw.len Try.underlying32
    rw [show Try.prog.bytesOf 24 = 40 by kernel_rfl] at hreach
    simp [reachBytes] at hreach
    have hall : ∀ i, i < len → ∃ f : Fd, (∀ j, j < 3 → W.cell? (a.add (i * 3 + j)) = [Value.string f.1.1, .string f.1.2, .bool f.2][j]?) ∧ f.1.1.size ≤ 140737488351232 ∧ f.1.2.size ≤ 140737488351232 := by
      intro i hil
      obtain ⟨cs', hc, ht'⟩ := hi i (by omega)
      rw [hC] at hc
      obtain ⟨f, rfl, s1, s2⟩ := field5 ht' (hw.elem Try.underlying32 (by simp only [List.mem_map, List.mem_range]; exact ⟨i, hil, rfl⟩))
      obtain ⟨_, _, hat⟩ := World.cells?_some hc
      exact ⟨f, fun j hj => by rw [← Go.Deep.add_add]; exact hat j hj, s1, s2⟩
    obtain ⟨F, hF⟩ := choose_lt (α := Fd) hall
    refine ⟨some a, len, m, (List.range len).map F, hcs, hl, hm, by omega, by simp, ⟨by rw [fds_length]; simp, fun hn => ?_⟩, fun f hf => ?_⟩
    · obtain ⟨ab, ao, spot⟩ := a
      have hspot : spot = none := by
        have := (hF 0 hn).1 0 (by omega)
        simpa [Addr.add] using World.cell?_spot this
      subst hspot
      refine ⟨ab, ao, rfl, ?_, fun j hj => ?_⟩
      · exact hlt (.cell ab ao) (List.mem_append_left _ (by rw [hC]; simp only [MemPlace.row, List.mem_map, List.mem_range]; exact ⟨0, by omega, rfl⟩))
      · have hd := Nat.div_add_mod j 3
        have h1 : j / 3 < len := by omega
        have h2 : j % 3 < 3 := by omega
        have := (hF (j / 3) h1).1 (j % 3) h2
        rw [← fds_of F len (j / 3) h1 (j % 3) h2, show j / 3 * 3 + j % 3 = j by omega, Addr.add_lit] at this
        exact this
    · obtain ⟨i, hi', rfl⟩ := List.mem_map.1 hf
      exact (hF i (List.mem_range.1 hi')).2
/-- A []byte's cell. -/
theorem bts5 {cs : List Value} {x : DataW H × List MemPlace} {fuel B : Nat} (h : DataW.trod enc Try.prog W 0 (fun _ => true) true fuel 52 cs = some x) (hw : Near 52 x.1) (hlt : ∀ y ∈ x.2, y.block < B) :
    ∃ A n c l, cs = [.slice A n c] ∧ n ≤ c ∧ c ≤ maxLen ∧ n ≤ 140737488351232 ∧ Rd W B 1 A n (bvs l) := by
  rcases open_ints Try.underlying52 Try.underlying5 (by kernel_rfl) h with ⟨hcs, hx⟩ | ⟨a, len, cap, zs, hcs, _, hl, hm, hz, hx, hcell, hwz⟩
  · exact ⟨none, 0, 0, [], hcs, Nat.le_refl _, Nat.zero_le _, by omega, Rd.none_ _ _ _ _⟩
  · subst hx
    simp only [if_true] at hz
    have hreach := hw.len Try.underlying52
    rw [show Try.prog.bytesOf 5 = 1 by kernel_rfl] at hreach
    simp only [lits, List.length_map, List.length_take, List.length_drop, reachBytes] at hreach
    refine ⟨some a, len, cap, (zs.take len).map fun n => UInt8.ofNat n.toNat, hcs, hl, hm, by omega, by simp [bvs]; omega, fun hn => ?_⟩
    obtain ⟨ab, ao, spot⟩ := a
    have hspot : spot = none := by simpa [Addr.add] using World.cell?_spot (hcell 0 (by omega))
    subst hspot
    refine ⟨ab, ao, rfl, ?_, fun i hi => ?_⟩
    · exact hlt (.cell ab ao) (by simp only [MemPlace.row, List.mem_map, List.mem_range]; exact ⟨0, by omega, rfl⟩)
    · have hcj := hcell i (by omega)
      rw [Addr.add_lit] at hcj
      have hb := range_u8 hwz i
      rw [hcj]
      show some (Value.int .u8 (zs[i]?.getD 0)) = _
      rw [bv_of hb.1 (by omega)]
      simp [bvs, show i < len by omega, List.getElem?_eq_getElem (show i < zs.length by omega)]
/-- A row of bytes, as a value and what it reads as. -/
structure Bt where
  A : Option Addr
  n : Nat
  c : Nat
  l : List UInt8
def BtAt (w : World) (B b o : Nat) (x : Bt) : Prop := w.cell? ⟨b, o, none⟩ = some (.slice x.A x.n x.c) ∧ x.n ≤ x.c ∧ x.c ≤ maxLen ∧ x.n ≤ 140737488351232 ∧ Rd w B 1 x.A x.n (bvs x.l)
def Bts (w : World) (B : Nat) (A : Option Addr) (n : Nat) (D : Nat → Bt) : Prop := 0 < n → ∃ b o, A = some ⟨b, o, none⟩ ∧ b < B ∧ ∀ i, i < n → BtAt w B b (o + i) (D i)
theorem Bts.below {w w' : World} {B : Nat} {A : Option Addr} {n : Nat} {D : Nat → Bt} (h : Bts w B A n D) (hb : Below B w w') : Bts w' B A n D := by
  intro hn
  obtain ⟨b, o, hA, hlt, hc⟩ := h hn
  refine ⟨b, o, hA, hlt, fun i hi => ?_⟩
  obtain ⟨h1, h2, h3, h4, h5⟩ := hc i hi
  exact ⟨(hb.cell (p := ⟨b, o + i, none⟩) hlt).trans h1, h2, h3, h4, h5.below hb (Nat.le_refl _)⟩
theorem btss5 {cs : List Value} {x : DataW H × List MemPlace} {fuel B : Nat} (h : DataW.trod enc Try.prog W 0 (fun _ => true) true fuel 51 cs = some x) (hw : Near 51 x.1) (hlt : ∀ y ∈ x.2, y.block < B) :
    ∃ A n c D, cs = [.slice A n c] ∧ n ≤ c ∧ c ≤ maxLen ∧ n ≤ 140737488351232 ∧ Bts W B A n D := by
  rcases open_slice1 Try.underlying51 (by kernel_rfl) h with ⟨hcs, hx⟩ | ⟨a, len, cap, m, k, V, D, Pl, hcs, _, hl, hm, hmm, hx, hi⟩
  · exact ⟨none, 0, 0, fun _ => ⟨none, 0, 0, []⟩, hcs, Nat.le_refl _, Nat.zero_le _, by omega, fun h => absurd h (by omega)⟩
  · have hmc : m = cap := by simpa using hmm
    subst hmc
    subst hx
    have hreach := hw.len Try.underlying51
    rw [show Try.prog.bytesOf 52 = 24 by kernel_rfl] at hreach
    simp [reachBytes] at hreach
    have hall : ∀ i, i < len → ∃ y : Bt, W.cell? (a.add i) = some (.slice y.A y.n y.c) ∧ y.n ≤ y.c ∧ y.c ≤ maxLen ∧ y.n ≤ 140737488351232 ∧ Rd W B 1 y.A y.n (bvs y.l) := by
      intro i hil
      obtain ⟨hc, ht'⟩ := hi i (by omega)
      obtain ⟨A', n', c', l', hv, r1, r2, r3, r4⟩ := bts5 (B := B) ht' (hw.elem Try.underlying51 (by simp only [List.mem_map, List.mem_range]; exact ⟨i, hil, rfl⟩)) (fun y hy => hlt y (List.mem_append_right _ (List.mem_flatMap.2 ⟨i, List.mem_range.2 (by omega), hy⟩)))
      simp at hv
      exact ⟨⟨A', n', c', l'⟩, by rw [hc, hv], r1, r2, r3, r4⟩
    rcases Nat.eq_zero_or_pos len with h0 | hpos
    · exact ⟨some a, len, m, fun _ => ⟨none, 0, 0, []⟩, hcs, hl, hm, by omega, fun h => absurd h (by omega)⟩
    have : Inhabited Bt := ⟨⟨none, 0, 0, []⟩⟩
    obtain ⟨F, hF⟩ := choose_lt (α := Bt) hall
    refine ⟨some a, len, m, F, hcs, hl, hm, by omega, fun hn => ?_⟩
    obtain ⟨ab, ao, spot⟩ := a
    have hspot : spot = none := by simpa [Addr.add] using World.cell?_spot (hF 0 hn).1
    subst hspot
    refine ⟨ab, ao, rfl, ?_, fun i hi => ?_⟩
    · exact hlt (.cell ab ao) (List.mem_append_left _ (by simp only [MemPlace.row, List.mem_map, List.mem_range]; exact ⟨0, by omega, rfl⟩))
    · obtain ⟨h1, h2⟩ := hF i hi
      rw [Addr.add_lit] at h1
      exact ⟨h1, h2⟩
/-- A step: is the limit set; the limit; the list. -/
structure Do5 where
  st : Bool
  lim : Int
  A : Option Addr
  n : Nat
  c : Nat
  l : List Fd
structure DoOk (W : World) (B : Nat) (x : Do5) : Prop where
  lo : -9223372036854775808 ≤ x.lim
  hi : x.lim ≤ 9223372036854775807
  nc : x.n ≤ x.c
  cm : x.c ≤ maxLen
  nr : x.n ≤ 140737488351232
  len : x.l.length = x.n
  rd : Rd W B 3 x.A x.n (fds x.l)
  sz : ∀ f ∈ x.l, f.1.1.size ≤ 140737488351232 ∧ f.1.2.size ≤ 140737488351232
def DoAt (w : World) (B b o : Nat) (x : Do5) : Prop := (w.cell? ⟨b, o, none⟩ = some (.bool x.st) ∧ w.cell? ⟨b, o + 1, none⟩ = some (.int .i64 x.lim) ∧ w.cell? ⟨b, o + 2, none⟩ = some (.slice x.A x.n x.c)) ∧ DoOk w B x
def Dos5 (w : World) (B : Nat) (A : Option Addr) (n : Nat) (D : Nat → Do5) : Prop := 0 < n → ∃ b o, A = some ⟨b, o, none⟩ ∧ b < B ∧ ∀ i, i < n → DoAt w B b (o + i * 3) (D i)
theorem Dos5.below {w w' : World} {B : Nat} {A : Option Addr} {n : Nat} {D : Nat → Do5} (h : Dos5 w B A n D) (hb : Below B w w') : Dos5 w' B A n D := by
  intro hn
  obtain ⟨b, o, hA, hlt, hc⟩ := h hn
  refine ⟨b, o, hA, hlt, fun i hi => ?_⟩
  obtain ⟨⟨h1, h2, h3⟩, ok⟩ := hc i hi
  have e : ∀ j, w'.cell? ⟨b, j, none⟩ = w.cell? ⟨b, j, none⟩ := fun j => hb.cell (p := ⟨b, j, none⟩) hlt
  exact ⟨⟨(e _).trans h1, (e _).trans h2, (e _).trans h3⟩, { ok with rd := ok.rd.below hb (Nat.le_refl _) }⟩
theorem do5 {cs : List Value} {x : DataW H × List MemPlace} {fuel B : Nat} (h : DataW.trod enc Try.prog W 0 (fun _ => true) true fuel 76 cs = some x) (hw : Near 76 x.1) (hlt : ∀ y ∈ x.2, y.block < B) :
    ∃ y : Do5, cs = [.bool y.st, .int .i64 y.lim, .slice y.A y.n y.c] ∧ DoOk W B y := by
  obtain ⟨xs, m, _, hd0, hl, hx, hf⟩ := DataW.trod_struct Try.underlying76 h
  rw [show Try.prog.cellsOf 76 = 3 by kernel_rfl] at hl
  have cb : Try.prog.cellsOf 4 = 1 := by kernel_rfl
  have ci : Try.prog.cellsOf 3 = 1 := by kernel_rfl
  have cf : Try.prog.cellsOf 32 = 1 := by kernel_rfl
  match cs, hl with
  | [c0, c1, c2], _ =>
    match xs, hx with
    | [x0, x1, x2], _ =>
      have f0 := hf 0 _ rfl
      have f1 := hf 1 _ rfl
      have f2 := hf 2 _ rfl
      change DataW.trod enc Try.prog W 0 _ true m 4 (List.take (Try.prog.cellsOf 4) (List.drop 0 [c0, c1, c2])) = some x0 at f0
      change DataW.trod enc Try.prog W 0 _ true m 3 (List.take (Try.prog.cellsOf 3) (List.drop 1 [c0, c1, c2])) = some x1 at f1
      change DataW.trod enc Try.prog W 0 _ true m 32 (List.take (Try.prog.cellsOf 32) (List.drop 2 [c0, c1, c2])) = some x2 at f2
      rw [cb] at f0
      rw [ci] at f1
      rw [cf] at f2
      obtain ⟨v, e0, -⟩ := DataW.trod_bool Try.underlying4 f0
      obtain ⟨k, e1, -, w1⟩ := DataW.trod_int Try.underlying3 f1
      have hk := wf_i64 w1
      obtain ⟨A, n, c, l, e2, r1, r2, r3, r4, r5, r6⟩ := fds5 (B := B) f2 (fun q hq => hw q (by rw [hd0]; simp [DataW.weights, Try.underlying76, DataW.weightsEach, hq])) (fun y hy => hlt y (by rw [hd0]; simp [hy]))
      simp at e0 e1 e2
      exact ⟨⟨v, k, A, n, c, l⟩, by rw [e0, e1, e2], hk.1, hk.2, r1, r2, r3, r4, r5, r6⟩
theorem dos5 {cs : List Value} {x : DataW H × List MemPlace} {fuel B : Nat} (h : DataW.trod enc Try.prog W 0 (fun _ => true) true fuel 73 cs = some x) (hw : Near 73 x.1) (hlt : ∀ y ∈ x.2, y.block < B) :
    ∃ A n c D, cs = [.slice A n c] ∧ n ≤ c ∧ c ≤ maxLen ∧ n ≤ 140737488351232 ∧ Dos5 W B A n D := by
  rcases open_slice Try.underlying73 h with ⟨hcs, hx⟩ | ⟨a, len, cap, m, k, D, Pl, hcs, _, hl, hm, hmm, hx, hi⟩
  · exact ⟨none, 0, 0, fun _ => ⟨false, 0, none, 0, 0, []⟩, hcs, Nat.le_refl _, Nat.zero_le _, by omega, fun h => absurd h (by omega)⟩
  · have hmc : m = cap := by simpa using hmm
    subst hmc
    subst hx
    have hC : Try.prog.cellsOf 76 = 3 := by kernel_rfl
    have hreach := hw.len Try.underlying73
    rw [show Try.prog.bytesOf 76 = 40 by kernel_rfl] at hreach
    simp [reachBytes] at hreach
    have hall : ∀ i, i < len → ∃ y : Do5, (W.cell? (a.add (i * 3)) = some (.bool y.st) ∧ W.cell? (a.add (i * 3 + 1)) = some (.int .i64 y.lim) ∧ W.cell? (a.add (i * 3 + 2)) = some (.slice y.A y.n y.c)) ∧ DoOk W B y := by
      intro i hil
      obtain ⟨cs', hc, ht'⟩ := hi i (by omega)
      rw [hC] at hc
      obtain ⟨y, rfl, ok⟩ := do5 (B := B) ht' (hw.elem Try.underlying73 (by simp only [List.mem_map, List.mem_range]; exact ⟨i, hil, rfl⟩)) (fun y hy => hlt y (List.mem_append_right _ (List.mem_flatMap.2 ⟨i, List.mem_range.2 (by omega), hy⟩)))
      obtain ⟨_, _, hat⟩ := World.cells?_some hc
      exact ⟨y, ⟨by have := hat 0 (by simp); rwa [Go.Deep.add_add] at this, by have := hat 1 (by simp); rwa [Go.Deep.add_add] at this, by have := hat 2 (by simp); rwa [Go.Deep.add_add] at this⟩, ok⟩
    rcases Nat.eq_zero_or_pos len with h0 | hpos
    · exact ⟨some a, len, m, fun _ => ⟨false, 0, none, 0, 0, []⟩, hcs, hl, hm, by omega, fun h => absurd h (by omega)⟩
    have : Inhabited Do5 := ⟨⟨false, 0, none, 0, 0, []⟩⟩
    obtain ⟨F, hF⟩ := choose_lt (α := Do5) hall
    refine ⟨some a, len, m, F, hcs, hl, hm, by omega, fun hn => ?_⟩
    obtain ⟨ab, ao, spot⟩ := a
    have hspot : spot = none := by simpa [Addr.add] using World.cell?_spot (hF 0 hn).1.1
    subst hspot
    refine ⟨ab, ao, rfl, ?_, fun i hi => ?_⟩
    · exact hlt (.cell ab ao) (List.mem_append_left _ (by rw [hC]; simp only [MemPlace.row, List.mem_map, List.mem_range]; exact ⟨0, by omega, rfl⟩))
    · obtain ⟨⟨h1, h2, h3⟩, ok⟩ := hF i hi
      simp only [Addr.add_lit, ← Nat.add_assoc] at h1 h2 h3
      exact ⟨⟨h1, h2, h3⟩, ok⟩
end
section
variable {H : Type} {enc : TypeId × Value → H} {W : World} {base : Nat}
theorem open_fds {v : Value} {d : DataW H} {p : List MemPlace} (hval : Value.okWide Try.prog W .any base 32 v) (h : DataW.Trod enc Try.prog W 0 (fun _ => true) true 32 v d p)
    (hlt : ∀ x ∈ p, x.block < W.heap.size) {ts : List TypeId} {ds : List (DataW H)} (hsz : (DataW.weightsEach Try.prog ts ds).all (· ≤ reachBytes) = true) {j : Nat} (ht : ts[j]? = some 32) (hd : ds[j]? = some d) :
    ∃ A n c l, v = .slice A n c ∧ n ≤ c ∧ c ≤ maxLen ∧ n ≤ 140737488351232 ∧ l.length = n ∧ Rd W W.heap.size 3 A n (fds l) ∧ ∀ f ∈ l, f.1.1.size ≤ 140737488351232 ∧ f.1.2.size ≤ 140737488351232 := by
  obtain ⟨a1, len, cap, rfl⟩ := okWide_slice Try.underlying32 hval
  obtain ⟨fuel, hf⟩ := h
  obtain ⟨A, n, c, l, hv, hr⟩ := fds5 hf (near_of hsz ht hd) hlt
  simp [Value.cells] at hv
  obtain ⟨rfl, rfl, rfl⟩ := hv
  exact ⟨_, _, _, l, rfl, hr⟩
theorem open_btss {v : Value} {d : DataW H} {p : List MemPlace} (hval : Value.okWide Try.prog W .any base 51 v) (h : DataW.Trod enc Try.prog W 0 (fun _ => true) true 51 v d p)
    (hlt : ∀ x ∈ p, x.block < W.heap.size) {ts : List TypeId} {ds : List (DataW H)} (hsz : (DataW.weightsEach Try.prog ts ds).all (· ≤ reachBytes) = true) {j : Nat} (ht : ts[j]? = some 51) (hd : ds[j]? = some d) :
    ∃ A n c D, v = .slice A n c ∧ n ≤ c ∧ c ≤ maxLen ∧ n ≤ 140737488351232 ∧ Bts W W.heap.size A n D := by
  obtain ⟨a1, len, cap, rfl⟩ := okWide_slice Try.underlying51 hval
  obtain ⟨fuel, hf⟩ := h
  obtain ⟨A, n, c, l, hv, hr⟩ := btss5 hf (near_of hsz ht hd) hlt
  simp [Value.cells] at hv
  obtain ⟨rfl, rfl, rfl⟩ := hv
  exact ⟨_, _, _, l, rfl, hr⟩
theorem open_dos5 {v : Value} {d : DataW H} {p : List MemPlace} (hval : Value.okWide Try.prog W .any base 73 v) (h : DataW.Trod enc Try.prog W 0 (fun _ => true) true 73 v d p)
    (hlt : ∀ x ∈ p, x.block < W.heap.size) {ts : List TypeId} {ds : List (DataW H)} (hsz : (DataW.weightsEach Try.prog ts ds).all (· ≤ reachBytes) = true) {j : Nat} (ht : ts[j]? = some 73) (hd : ds[j]? = some d) :
    ∃ A n c D, v = .slice A n c ∧ n ≤ c ∧ c ≤ maxLen ∧ n ≤ 140737488351232 ∧ Dos5 W W.heap.size A n D := by
  obtain ⟨a1, len, cap, rfl⟩ := okWide_slice Try.underlying73 hval
  obtain ⟨fuel, hf⟩ := h
  obtain ⟨A, n, c, l, hv, hr⟩ := dos5 hf (near_of hsz ht hd) hlt
  simp [Value.cells] at hv
  obtain ⟨rfl, rfl, rfl⟩ := hv
  exact ⟨_, _, _, l, rfl, hr⟩
end
end Go.Proofs.Ythpieiipddfpjaa

/- A text that is written is read as it was; without its last byte it is short. In plain Lean. No program in sight. -/
namespace Go.Proofs.Ythpieiipddfpjaa
open Go.RowKit

theorem ba_putB {f n : Nat} (hf : f + 127 < 256) (rest : List UInt8) : ba (putB f 127 n ++ rest) 0 = f + min n 127 := by
  unfold putB
  by_cases h : n < 127
  · rw [if_pos h, Nat.min_eq_left (by omega)]
    simp only [ba, List.cons_append, List.getD_cons_zero, toNat_ofNat (show f + n < 256 by omega)]
  · rw [if_neg h, Nat.min_eq_right (by omega)]
    simp only [ba, List.cons_append, List.getD_cons_zero, toNat_ofNat (show f + 127 < 256 by omega)]

section
variable {f : Nat} {body rest : List UInt8} (hf : f = 0 ∨ f = 128) (hb : body.length ≤ 4096)
include hf hb
theorem takeI_text : takeI 127 (putB f 127 body.length ++ body ++ rest) = (body.length, (putB f 127 body.length).length, 0) := by
  rw [List.append_assoc]
  exact takeI_putB ⟨by omega, by omega⟩ (by omega) (by omega) (by omega) _
theorem cut_text : takeT ((putB f 127 body.length ++ body).take ((putB f 127 body.length ++ body).length - 1)) = ([], 0, 12) := by
  rcases Nat.eq_zero_or_pos body.length with h0 | h0
  · have hn : body = [] := List.eq_nil_of_length_eq_zero h0
    subst hn
    rw [List.append_nil]
    exact takeT_err (m := 0) (a := 0) (takeI_cut ⟨by omega, by omega⟩ (by omega) (by omega) (by omega)) (by omega)
  · have e : (putB f 127 body.length ++ body).take ((putB f 127 body.length ++ body).length - 1) = putB f 127 body.length ++ body.take (body.length - 1) := by
      rw [List.length_append, List.take_append, List.take_of_length_le (by omega)]
      congr 2
      omega
    rw [e]
    refine takeT_short (takeI_putB (F := 127) ⟨by omega, by omega⟩ (by omega) (by omega) (by omega) _) rfl hb ?_
    simp; omega
end

theorem piece_text (p body rest : List UInt8) : ((p ++ body ++ rest).drop p.length).take body.length = body := by
  rw [List.append_assoc, List.drop_left, List.take_left]

theorem back_text {l : List UInt8} (h : l.length ≤ 4096) (rest : List UInt8) : takeT (textB l ++ rest) = (l, (textB l).length, 0) := by
  by_cases hb : nbytes l < l.length
  · rw [textB_bits hb]
    have hE := encB_length l
    rw [← hE] at hb ⊢
    have ht := takeI_text (f := 128) (body := encB l) (rest := rest) (.inr rfl) (by omega)
    rw [takeT_bits ht rfl (by omega) (by simp) (by rw [List.append_assoc, ba_putB (by omega)]; omega), piece_text, dec_enc]
    simp only
    rw [if_neg (by omega), List.length_append]
  · rw [textB_raw (by omega)]
    have ht := takeI_text (f := 0) (body := l) (rest := rest) (.inl rfl) h
    rw [takeT_raw ht rfl h (by simp) (by rw [List.append_assoc, ba_putB (by omega)]; omega), piece_text, List.length_append]
theorem back_cut {l : List UInt8} (h : l.length ≤ 4096) : takeT ((textB l).take ((textB l).length - 1)) = ([], 0, 12) := by
  by_cases hb : nbytes l < l.length
  · rw [textB_bits hb]
    have hE := encB_length l
    rw [← hE] at hb ⊢
    exact cut_text (.inr rfl) (by omega)
  · rw [textB_raw (by omega)]
    exact cut_text (.inl rfl) h
theorem textB_length (l : List UInt8) (h : l.length ≤ 4096) : 1 ≤ (textB l).length ∧ (textB l).length ≤ l.length + 7 := by
  by_cases hb : nbytes l < l.length
  · rw [textB_bits hb, List.length_append, encB_length]
    have := putB_length 128 127 (nbytes l)
    omega
  · rw [textB_raw (by omega), List.length_append]
    have := putB_length 0 127 l.length
    omega
end Go.Proofs.Ythpieiipddfpjaa
