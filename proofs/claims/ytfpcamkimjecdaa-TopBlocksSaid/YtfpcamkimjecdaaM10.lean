/- 9 texts in one: HEnc3, HEnc4, HEnc5, HEnc6, HEnc7, Fr4, Fr5, Fr6, Fr7. -/
import Derived.Test.YtfpcamkimjecdaaM9
import Derived.Deep.QuietTactic
import Derived.BigQuiet
import Derived.Deep.RegionLaw
import Derived.Test.YtfpcamkimjecdaaM1
import Derived.Deep.RegionHeld3
/- The walks of hpack.Encoder's kept, way, sizes. -/
namespace Go.Proofs.Ytfpcamkimjecdaa
open Go.RowKit

set_option maxRecDepth 100000 in
set_option maxHeartbeats 2000000 in
theorem kept_any {e N : Nat} {G : Nat → Prop} {E : Enc} (f : Rw) (nv : Bool) (w : World) (h : EncIs w e G N E) (hf1 : f.1.size ≤ 1048576) (hf2 : f.2.size ≤ 1048576) (hN : N + 1 ≤ 1099511627776) :
    Calls Try.prog 37 #[.pointer (some ⟨e, 0, none⟩), .agg #[.string f.1, .string f.2, .bool nv]] w (EPost w e G (N + 1) { E with T := E.T.add f } (namedB 64 63 E.T f)) := by
  obtain ⟨W0, hW0⟩ : ∃ W0, w.alloc (.cells #[.string f.1, .string f.2, .bool nv] 43) = W0 := ⟨_, rfl⟩
  obtain ⟨x, hx⟩ : ∃ x, w.heap.size = x := ⟨_, rfl⟩
  have b0 : Below w.heap.size w W0 := by rw [← hW0]; exact (Below.refl _ _).alloc (Nat.le_refl _) _
  have kx : W0.heap[x]? = some (.cells #[.string f.1, .string f.2, .bool nv] 43 (0, 0)) := by rw [← hW0, ← hx]; exact heapNew _ _
  have x0 : W0.cell? ⟨x, 0, none⟩ = some (.string f.1) := by unfold World.cell?; rw [kx]; rfl
  have x1 : W0.cell? ⟨x, 1, none⟩ = some (.string f.2) := by unfold World.cell?; rw [kx]; rfl
  have x2 : W0.cell? ⟨x, 2, none⟩ = some (.bool nv) := by unfold World.cell?; rw [kx]; rfl
  have hxl : x < W0.heap.size := (Array.getElem?_eq_some_iff.1 kx).1
  have hlt := h.lt
  obtain ⟨g, F, hG, hd, ht, hFe⟩ := h
  have hel := (Array.getElem?_eq_some_iff.1 hd).1
  have hd0 := (b0.block e hel).trans hd
  have ht0 : TabIs W0 g F N E.T := ht.keep fun k hk => b0.block k (ht.lt k hk)
  have hr : Calls Try.prog 49 #[.pointer (some ⟨e, 0, none⟩), .int .u8 (64 : Nat), .int .i64 (6 : Nat), .agg #[.string f.1, .string f.2, .bool nv]] W0 (RetB W0 (namedB 64 63 E.T f)) := named_any f nv W0 hd0 ht0 full6 (by omega) rfl hf1 hf2
  have HR := Lib.hid hr
  have HT0 := Lib.hid (And.intro hd0 ht0)
  have HFE := Lib.hid (And.intro hG (And.intro hFe hlt))
  have HFL : Hid (∀ k, F k → k < w.heap.size) := Lib.hid ht.lt
  have HB := Lib.hid b0
  have HKX := Lib.hid kx
  have HW0 := Lib.hid hW0
  have HX := Lib.hid hx
  clear hW0 hx b0 kx hr hd ht hd0 ht0 hG hFe hlt
  go_enter Try.func37, Try.ntmps37
  go_upto_region 1 with fail
  rw [HW0.out, HX.out]
  go_wp2_with fail
  refine HR.out.mono ?_
  rintro e1 w1 ⟨v, rfl, ho, hb⟩
  have HB1 := Lib.hid (HB.out.trans (hb.mono HB.out.size))
  have HO1 := Lib.hid (OwnB.base ho HB.out.size)
  have kx1 := (hb.block x hxl).trans HKX.out
  have kd1 := (hb.block e (Nat.lt_of_lt_of_le hel HB.out.size)).trans HT0.out.1
  have ht1 : TabIs w1 g F N E.T := HT0.out.2.keep fun k hk => hb.block k (HT0.out.2.lt k hk)
  have c3 : w1.cell? ⟨e, 3, none⟩ = some (.pointer (some ⟨g, 0, none⟩)) := by unfold World.cell?; rw [kd1]; rfl
  have y0 : w1.cell? ⟨x, 0, none⟩ = some (.string f.1) := by unfold World.cell?; rw [kx1]; rfl
  have y1 : w1.cell? ⟨x, 1, none⟩ = some (.string f.2) := by unfold World.cell?; rw [kx1]; rfl
  have y2 : w1.cell? ⟨x, 2, none⟩ = some (.bool nv) := by unfold World.cell?; rw [kx1]; rfl
  have HKD1 := Lib.hid kd1
  have HKX1 := Lib.hid kx1
  have HAD : Hid (∀ w', w'.heap = w1.heap → Calls Try.prog 52 #[.pointer (some ⟨g, 0, none⟩), .agg #[.string f.1, .string f.2, .bool nv]] w' (TStep w' g F (N + 1) (E.T.add f) (.tuple #[]))) := Lib.hid fun w' hw => add_any f nv w' (ht1.keep fun k _ => by rw [hw]) (by omega) (by omega) hN
  have hxF : ¬ F x := fun hf => by have := HFL.out x hf; have := HX.out; omega
  have HXF := Lib.hid hxF
  clear ho hb kx1 kd1 ht1 x0 x1 x2 hxF
  go_upto_region 2 with fail
  go_region_held3 (fun w' => w'.cell? ⟨e, 3, none⟩ = some (.pointer (some ⟨g, 0, none⟩)) ∧ w'.cell? ⟨x, 0, none⟩ = some (.string f.1) ∧ w'.cell? ⟨x, 1, none⟩ = some (.string f.2) ∧ w'.cell? ⟨x, 2, none⟩ = some (.bool nv))
    (first | go_keep | exact ⟨k0, k1, k2, k3⟩)
    (first
      | (go_at_call 52; refine (HAD.out _ (by rfl)).mono ?_; rintro e2 w3 ⟨rfl, F3, ht3, hk3, hg3⟩; have hk3' : Kept F w1 w3 := ⟨hk3.os, hk3.tape, hk3.output, hk3.size, hk3.block⟩; have hg3' : Grew w1 F F3 := hg3; have kk := (hk3'.block x (Array.getElem?_eq_some_iff.1 HKX1.out).1 HXF.out).trans HKX1.out; have ke := (hk3'.block e (Array.getElem?_eq_some_iff.1 HKD1.out).1 HFE.out.2.1).trans HKD1.out; have k0 : w3.cell? ⟨e, 3, none⟩ = some (.pointer (some ⟨g, 0, none⟩)) := (by unfold World.cell?; rw [ke]; rfl); have k1 : w3.cell? ⟨x, 0, none⟩ = some (.string f.1) := (by unfold World.cell?; rw [kk]; rfl); have k2 : w3.cell? ⟨x, 1, none⟩ = some (.string f.2) := (by unfold World.cell?; rw [kk]; rfl); have k3 : w3.cell? ⟨x, 2, none⟩ = some (.bool nv) := (by unfold World.cell?; rw [kk]; rfl); have H3 := Lib.hid (And.intro ht3 (And.intro hk3' (And.intro hg3' ke))); clear ht3 hk3 hg3 hk3' hg3' kk ke))
  all_goals
    clear k0 k1 k2 k3
    go_wp2
    go_ret
    obtain ⟨ht3, hk3, hg3, ke⟩ := H3.out
    have hs1 := HB1.out.size
    have hvF : ∀ k, v.ownBlock = some k → ¬ F k ∧ w.heap.size ≤ k ∧ k < w1.heap.size := fun k hk => by
      have := World.ownsRow.lt HO1.out k hk
      exact ⟨fun hf => by have := HFL.out k hf; omega, this.1, this.2⟩
    refine ⟨v, rfl, own_kept4 HO1.out hk3 (fun k hk => (hvF k hk).1), fun k => k = e ∨ F3 k, ⟨g, F3, rfl, ke, ht3, fun hf => (hg3 e hf).elim HFE.out.2.1 (fun hl => by omega)⟩, ?_, ?_, ?_⟩
    · rw [HFE.out.1]
      refine ⟨hk3.os.trans HB1.out.os, hk3.tape.trans HB1.out.tape, hk3.output.trans HB1.out.output, Nat.le_trans hs1 hk3.size, fun k hk hn => (hk3.block k (by omega) (fun hf => hn (.inr hf))).trans (HB1.out.block k hk)⟩
    · rw [HFE.out.1]
      exact fun k hk => hk.elim (fun e => .inl (.inl e)) (fun hf => (hg3 k hf).elim (fun h => .inl (.inr h)) (fun h => .inr (by omega)))
    · intro k hk hg
      have h1 := hvF k hk
      rcases hg with e | hf
      · omega
      · exact (hg3 k hf).elim h1.1 (fun hl => by omega)
end Go.Proofs.Ytfpcamkimjecdaa

/- The walks of hpack.Encoder's way, sizes. -/
namespace Go.Proofs.Ytfpcamkimjecdaa
open Go.RowKit

def wayF (T : Tb) (f : Fd) : FuncId := if neverF f then 33 else if (fnd T f.1).2 then 35 else if T.most < (cost f.1 : Int) then 36 else 37
def WayPost (w : World) (e : Nat) (K : FuncId) (ev : Ending) (w' : World) : Prop := ev = .returned (.func (.func K) #[.pointer (some ⟨e, 0, none⟩)] #[]) ∧ Below w.heap.size w w'
set_option maxRecDepth 100000 in
set_option maxHeartbeats 2000000 in
theorem way_any {e N : Nat} {G : Nat → Prop} {E : Enc} (f : Fd) (w : World) (h : EncIs w e G N E) (hf1 : f.1.1.size ≤ 1048576) (hf2 : f.1.2.size ≤ 1048576) :
    Calls Try.prog 20 #[.pointer (some ⟨e, 0, none⟩), .agg #[.string f.1.1, .string f.1.2, .bool f.2]] w (WayPost w e (wayF E.T f)) := by
  have hmf : ∀ (fn : Fn) (first cap : Array Value) (w : World), (Instr.makeFunc fn first cap).run Try.prog w = .ok (.func fn first cap) w := fun _ _ _ _ => rfl
  obtain ⟨⟨nm, vl⟩, nv⟩ := f
  simp only at hf1 hf2 ⊢
  obtain ⟨K, hK⟩ : ∃ K, wayF E.T ((nm, vl), nv) = K := ⟨_, rfl⟩
  have HK := Lib.hid hK
  rw [hK]
  obtain ⟨W0, hW0⟩ : ∃ W0, w.alloc (.cells #[.string nm, .string vl, .bool nv] 43) = W0 := ⟨_, rfl⟩
  obtain ⟨x, hx⟩ : ∃ x, w.heap.size = x := ⟨_, rfl⟩
  have b0 : Below w.heap.size w W0 := by rw [← hW0]; exact (Below.refl _ _).alloc (Nat.le_refl _) _
  have kx : W0.heap[x]? = some (.cells #[.string nm, .string vl, .bool nv] 43 (0, 0)) := by rw [← hW0, ← hx]; exact heapNew _ _
  have x0 : W0.cell? ⟨x, 0, none⟩ = some (.string nm) := by unfold World.cell?; rw [kx]; rfl
  have x1 : W0.cell? ⟨x, 1, none⟩ = some (.string vl) := by unfold World.cell?; rw [kx]; rfl
  have x2 : W0.cell? ⟨x, 2, none⟩ = some (.bool nv) := by unfold World.cell?; rw [kx]; rfl
  have hxl : x < W0.heap.size := (Array.getElem?_eq_some_iff.1 kx).1
  obtain ⟨g, F, -, hd, ht, -⟩ := h.below b0
  have c3 : W0.cell? ⟨e, 3, none⟩ = some (.pointer (some ⟨g, 0, none⟩)) := by unfold World.cell?; rw [hd]; rfl
  have hel0 : e < W0.heap.size := (Array.getElem?_eq_some_iff.1 hd).1
  have hne : ∀ a b : ByteArray, a ≠ b → (a.toList == b.toList) = false := fun a b => (Lib.bytes_beq_false_iff a b).2
  have HW0 := Lib.hid hW0
  have HX := Lib.hid hx
  have HB := Lib.hid b0
  clear hK hW0 hx b0 kx h hd
  by_cases hnv : nv = true
  · subst hnv
    have HN : Hid (K = 33) := Lib.hid (by rw [← HK.out]; rfl)
    clear hne
    go_enter Try.func20, Try.ntmps20
    go_upto_region 1 with fail
    rw [HW0.out, HX.out]
    go_wp2
    go_ret
    rw [HN.out]
    exact ⟨rfl, HB.out⟩
  obtain rfl : nv = false := by simpa using hnv
  clear hnv
  by_cases ha : nm = authB
  · subst ha
    have HN : Hid (K = 33) := Lib.hid (by rw [← HK.out]; unfold wayF neverF; simp)
    clear hne
    go_enter Try.func20, Try.ntmps20
    go_upto_region 1 with fail
    rw [HW0.out, HX.out]
    unfold authB at x0
    go_wp2
    go_ret
    rw [HN.out]
    exact ⟨rfl, HB.out⟩
  have ha2 : (nm.toList == [97, 117, 116, 104, 111, 114, 105, 122, 97, 116, 105, 111, 110]) = false := by have h2 := hne nm ⟨#[97, 117, 116, 104, 111, 114, 105, 122, 97, 116, 105, 111, 110]⟩ ha; rw [show (⟨#[97, 117, 116, 104, 111, 114, 105, 122, 97, 116, 105, 111, 110]⟩ : ByteArray).toList = [97, 117, 116, 104, 111, 114, 105, 122, 97, 116, 105, 111, 110] from by decide +kernel] at h2; exact h2
  by_cases hc : nm = cookB
  · subst hc
    have HN : Hid (K = 33) := Lib.hid (by rw [← HK.out]; unfold wayF neverF; simp)
    clear hne ha
    go_enter Try.func20, Try.ntmps20
    go_upto_region 1 with fail
    rw [HW0.out, HX.out]
    unfold cookB at x0
    go_wp2
    go_ret
    rw [HN.out]
    exact ⟨rfl, HB.out⟩
  have hc2 : (nm.toList == [115, 101, 116, 45, 99, 111, 111, 107, 105, 101]) = false := by have h2 := hne nm ⟨#[115, 101, 116, 45, 99, 111, 111, 107, 105, 101]⟩ hc; rw [show (⟨#[115, 101, 116, 45, 99, 111, 111, 107, 105, 101]⟩ : ByteArray).toList = [115, 101, 116, 45, 99, 111, 111, 107, 105, 101] from by decide +kernel] at h2; exact h2
  have HNN : Hid (neverF ((nm, vl), false) = false) := Lib.hid (by unfold neverF; simp [ha, hc])
  clear hne ha hc
  go_enter Try.func20, Try.ntmps20
  have HFI : Hid (∀ w', w'.heap = W0.heap → Calls Try.prog 34 #[.pointer (some ⟨g, 0, none⟩), .agg #[.string nm, .string vl, .bool false]] w' fun e w2 => e = .returned (.tuple #[.int .i64 (numT E.T (nm, vl) : Int), .bool (fnd E.T (nm, vl)).2]) ∧ Below w'.heap.size w' w2) := Lib.hid fun w' hw => find_enc (nm, vl) false w' (ht.keep fun k hk => by rw [hw]) hf1 hf2
  have HTM := Lib.hid ht
  have htk := ht.tok
  obtain ⟨mo, hmo⟩ : ∃ mo, E.T.most = mo := ⟨_, rfl⟩
  have hmo0 := htk.most0
  have hmo1 := htk.most1
  rw [hmo] at hmo0 hmo1
  have HMO : Hid (∀ w', Below W0.heap.size W0 w' → ∀ w2, w2.heap = w'.heap → Calls Try.prog 31 #[.pointer (some ⟨g, 0, none⟩)] w2 fun e w3 => e = .returned (.int .i64 mo) ∧ w3 = w2) := Lib.hid fun w' hb w2 hw => by
    have := most_any w2 (ht.keep (w' := w2) fun k hk => by rw [hw]; exact hb.block k (ht.lt k hk))
    rw [hmo] at this
    exact this.mono fun e w3 h => ⟨h.1, h.2.symm⟩
  obtain ⟨n, hn⟩ : ∃ n, numT E.T (nm, vl) = n := ⟨_, rfl⟩
  obtain ⟨wh, hwh⟩ : ∃ wh, (fnd E.T (nm, vl)).2 = wh := ⟨_, rfl⟩
  rw [hn, hwh] at HFI
  have HWF : Hid (K = if wh then 35 else if mo < (cost (nm, vl) : Int) then 36 else 37) := Lib.hid (by rw [← HK.out]; unfold wayF; rw [HNN.out]; simp only [Bool.false_eq_true, if_false]; rw [hwh, hmo])
  have hcost : (cost (nm, vl) : Int) = nm.size + vl.size + 32 := by unfold cost; simp only; omega
  have HCO := Lib.hid hcost
  clear hn hwh ht hmo hcost
  go_upto_region 1 with fail
  rw [HW0.out, HX.out]
  go_upto_region 3 with fail
  go_region_held3 (fun w' => w'.cell? ⟨e, 3, none⟩ = some (.pointer (some ⟨g, 0, none⟩)) ∧ w'.cell? ⟨x, 0, none⟩ = some (.string nm) ∧ w'.cell? ⟨x, 1, none⟩ = some (.string vl) ∧ w'.cell? ⟨x, 2, none⟩ = some (.bool false))
    (first | go_keep | exact ⟨k0, k1, k2, k3⟩)
    (first
      | (go_at_call 34; refine (HFI.out _ (by rfl)).mono ?_; rintro e1 w1 ⟨rfl, hb1⟩; have k0 := (hb1.cell (p := ⟨e, 3, none⟩) hel0).trans c3; have k1 := (hb1.cell (p := ⟨x, 0, none⟩) hxl).trans x0; have k2 := (hb1.cell (p := ⟨x, 1, none⟩) hxl).trans x1; have k3 := (hb1.cell (p := ⟨x, 2, none⟩) hxl).trans x2; have hb1' : Below W0.heap.size W0 w1 := ⟨hb1.os, hb1.tape, hb1.output, hb1.size, hb1.block⟩; have HB1 : Hid (Below W0.heap.size W0 w1) := Lib.hid hb1'; clear hb1 hb1'))
  all_goals
    clear c3 x0 x1 x2
    have HMQ := Lib.hid (fun d => HMO.out w1 HB1.out (w1.drewN d) rfl)
    have HBW := Lib.hid (HB.out.trans (HB1.out.mono HB.out.size))
    cases wh with
    | true =>
      have HN : Hid (K = 35) := Lib.hid (by rw [HWF.out]; rfl)
      go_wp2
      go_ret
      rw [HN.out]
      exact ⟨rfl, HBW.out⟩
    | false =>
      by_cases hbig : mo < (nm.size : Int) + vl.size + 32
      · have HN : Hid (K = 36) := Lib.hid (by rw [HWF.out, HCO.out]; simp only [Bool.false_eq_true, if_false]; rw [if_pos hbig])
        go_wp2
        go_quiet ((go_at_call 31; exact Calls.quiet_of_same (HMQ.out _)))
        go_wp2
        go_ret
        rw [HN.out]
        exact ⟨rfl, below_dN HBW.out _⟩
      · have HN : Hid (K = 37) := Lib.hid (by rw [HWF.out, HCO.out]; simp only [Bool.false_eq_true, if_false]; rw [if_neg hbig])
        go_wp2
        go_quiet ((go_at_call 31; exact Calls.quiet_of_same (HMQ.out _)))
        go_wp2
        go_ret
        rw [HN.out]
        exact ⟨rfl, below_dN HBW.out _⟩
end Go.Proofs.Ytfpcamkimjecdaa

/- The walks of hpack.Encoder's sizes, Limit, Rows; NewEncoder. -/
namespace Go.Proofs.Ytfpcamkimjecdaa
open Go.RowKit

theorem OwnB.none (w : World) (B : Nat) : OwnB w B (.slice none 0 0) [] := ⟨rfl, .inl ⟨rfl, rfl⟩⟩
theorem enB_free {w : World} {e g : Nat} {E : Enc} (h : w.heap[e]? = some (enB E g)) (o : Nat) : w.frozen? ⟨e, o, none⟩ = false := by unfold World.frozen?; rw [h]; simp [enB]
theorem sz_end {w : World} {e g N : Nat} {F : Nat → Prop} {E : Enc} {td le : Int} (he : w.heap[e]? = some (enB ⟨E.own, td, le, E.T⟩ g)) (ht : TabIs w g F N E.T) (hF : ¬ F e) :
    EncIs ((w.setCell ⟨e, 1, none⟩ (.int .i64 E.T.most)).setCell ⟨e, 2, none⟩ (.int .i64 E.T.most)) e (fun k => k = e ∨ F k) N ⟨E.own, E.T.most, E.T.most, E.T⟩ ∧ Kept (fun k => k = e) w ((w.setCell ⟨e, 1, none⟩ (.int .i64 E.T.most)).setCell ⟨e, 2, none⟩ (.int .i64 E.T.most)) := by
  have hk := (((Kept.refl (fun k => k = e) w).setCell rfl 1 (.int .i64 E.T.most)).setCell rfl 2 (.int .i64 E.T.most))
  refine ⟨⟨g, F, rfl, ?_, ht.keep fun k hf => hk.block k (ht.lt k hf) (fun h => hF (h ▸ hf)), hF⟩, hk⟩
  have h1 := set_b (o := 1) (.int .i64 E.T.most) he
  exact set_b (o := 2) (.int .i64 E.T.most) h1
def SzPost (W : World) (e : Nat) (G : Nat → Prop) (N : Nat) (E : Enc) (ev : Ending) (w' : World) : Prop :=
  ∃ v, ev = .returned v ∧ OwnB w' W.heap.size v (encSz E) ∧ EncIs w' e G N ⟨E.own, E.T.most, E.T.most, E.T⟩ ∧ Kept (fun k => k = e) W w'
set_option maxRecDepth 100000 in
set_option maxHeartbeats 2000000 in
theorem sizes_any {e N : Nat} {G : Nat → Prop} {E : Enc} (w : World) (h : EncIs w e G N E) (hl0 : 0 ≤ E.least) (hl1 : E.least ≤ 65536) :
    Calls Try.prog 19 #[.pointer (some ⟨e, 0, none⟩)] w (SzPost w e G N E) := by
  obtain ⟨g, F, rfl, hd, ht, hF⟩ := h
  have htk := ht.tok
  have hm0 := htk.most0
  have hm1 := htk.most1
  have HM := Lib.hid (most_any w ht)
  have c1 : w.cell? ⟨e, 1, none⟩ = some (.int .i64 E.told) := by unfold World.cell?; rw [hd]; rfl
  have c2 : w.cell? ⟨e, 2, none⟩ = some (.int .i64 E.least) := by unfold World.cell?; rw [hd]; rfl
  have c3 : w.cell? ⟨e, 3, none⟩ = some (.pointer (some ⟨g, 0, none⟩)) := by unfold World.cell?; rw [hd]; rfl
  have HEND := Lib.hid (And.intro hd (And.intro ht hF))
  obtain ⟨R, hR⟩ : ∃ R, encSz E = R := ⟨_, rfl⟩
  have HSZ : Hid (R = if E.least < E.told ∧ E.least < E.T.most then putB 32 31 E.least.toNat ++ putB 32 31 E.T.most.toNat
      else if E.T.most ≠ E.told then putB 32 31 E.T.most.toNat else []) := Lib.hid hR.symm
  unfold SzPost
  rw [hR]
  have hel := (Array.getElem?_eq_some_iff.1 hd).1
  clear hd ht hF htk hR
  have hcase : (E.least < E.told ∧ E.least < E.T.most) ∨ (¬ (E.least < E.told ∧ E.least < E.T.most)) := by omega
  rcases hcase with hA | hA
  · have HR : Hid (R = putB 32 31 E.least.toNat ++ putB 32 31 E.T.most.toNat) := Lib.hid (by rw [HSZ.out, if_pos hA])
    obtain ⟨h1, h2⟩ := hA
    have hne : (E.T.most == E.least) = false := by rw [beq_eq_false_iff_ne]; omega
    have hne2 : (E.T.most != E.least) = true := by rw [bne_iff_ne]; omega
    have HN1 := Lib.hid (fun w' => num_enc 32 5 E.least.toNat 31 w' full5 (by omega) rfl (by omega))
    have HN2 := Lib.hid (fun w' => num_enc 32 5 E.T.most.toNat 31 w' full5 (by omega) rfl (by omega))
    have hl3 : ((E.least.toNat : Nat) : Int) = E.least := by omega
    have hl4 : ((E.T.most.toNat : Nat) : Int) = E.T.most := by omega
    rw [hl3] at HN1
    rw [hl4] at HN2
    clear hl3 hl4
    go_enter Try.func19, Try.ntmps19
    go_wp2_with fail
    refine HM.out.mono ?_
    rintro e1 w1 ⟨rfl, rfl⟩
    go_wp2_with fail
    go_region
    obtain ⟨W1, hW1⟩ : ∃ W1, w.drew = W1 := ⟨_, rfl⟩
    rw [hW1]
    have hb1 : Below w.heap.size w W1 := by rw [← hW1]; exact (Below.refl _ _).drew
    have d1 := (hb1.cell (p := ⟨e, 1, none⟩) hel).trans c1
    have d2 := (hb1.cell (p := ⟨e, 2, none⟩) hel).trans c2
    have HB1 := Lib.hid hb1
    clear hW1 hb1
    go_wp2_with fail
    refine (HN1.out W1).mono ?_
    rintro e2 w2 ⟨v2, rfl, ho2, hb2⟩
    obtain ⟨A2, k2, rfl, hr2⟩ := ho2.rd
    have hpl := (putB_length 32 31 E.least.toNat).1
    have HR2 := Lib.hid hr2
    have HB2 := Lib.hid (HB1.out.trans (hb2.mono HB1.out.size))
    have hs2 := HB2.out.size
    clear ho2 hb2 hr2 d1 d2
    go_wp2_with (at_builtin; refine wpList_app (.tmp 27) (.tmp 32) tBytes rfl rfl (OwnB.none w2 w.heap.size) rfl HR2.out rfl (bvs_one _) (le_maxLen (by simp; omega)) (by simp; omega) hs2 ?_; intro v3 w3 hown3 hg3 _; have HB3 : Hid (Below w.heap.size w w3) := Lib.hid (Below.app HB2.out (OwnB.none w2 w.heap.size) hg3 (Nat.le_refl _) hs2); have HO3 : Hid (OwnB w3 w.heap.size v3 ([] ++ putB 32 31 E.least.toNat)) := Lib.hid (own_app hown3 (Nat.le_refl _)); have ke3 := (HB3.out.block e hel).trans HEND.out.1; have z1 := enB_free ke3 1; clear ke3; have q1 := (HB3.out.cell (p := ⟨e, 1, none⟩) hel).trans c1; have q2 := (HB3.out.cell (p := ⟨e, 2, none⟩) hel).trans c2; clear c1 c2 hown3 hg3)
    clear q1 q2 z1
    obtain ⟨W4, hW4⟩ : ∃ W4, w3.setCell ⟨e, 1, none⟩ (.int .i64 E.least) = W4 := ⟨_, rfl⟩
    rw [hW4]
    have hk4 : Kept (fun k => k = e) w3 W4 := by rw [← hW4]; exact (Kept.refl (fun k => k = e) w3).setCell (g := e) rfl 1 (.int .i64 E.least)
    have ke3 := (HB3.out.block e hel).trans HEND.out.1
    have ke4 : W4.heap[e]? = some (enB ⟨E.own, E.least, E.least, E.T⟩ g) := by rw [← hW4]; exact set_b (o := 1) (.int .i64 E.least) ke3
    have HO4 : Hid (OwnB W4 w.heap.size v3 (putB 32 31 E.least.toNat)) := Lib.hid (own_kept4 HO3.out hk4 (fun k hk h => by have := (World.ownsRow.lt HO3.out k hk).1; omega))
    have HE4 := Lib.hid ke4
    have HK4 := Lib.hid hk4
    clear hW4 hk4 ke3 ke4
    refine (HN2.out W4).mono ?_
    rintro e5 w5 ⟨v5, rfl, ho5, hb5⟩
    obtain ⟨A5, k5, rfl, hr5⟩ := ho5.rd
    have hpl2 := (putB_length 32 31 E.T.most.toNat).1
    have HR5 := Lib.hid hr5
    have HO5 := Lib.hid (HO4.out.below hb5)
    have hs5 := hb5.size
    have hs4 := HK4.out.size
    have hs3 := HB3.out.size
    have HB5 := Lib.hid hb5
    clear ho5 hb5 hr5
    go_wp2_with (at_builtin; refine wpList_app (.tmp 47) (.tmp 49) tBytes rfl rfl HO5.out rfl HR5.out rfl (bvs_one _) (le_maxLen (by omega)) (by omega) (by omega) ?_; intro v6 w6 hown6 hg6 _; have HO6 : Hid (OwnB w6 w.heap.size v6 (putB 32 31 E.least.toNat ++ putB 32 31 E.T.most.toNat)) := Lib.hid (own_app hown6 (Nat.le_refl _)); have HG6 := Lib.hid hg6; have ke6 := (hg6.block e (by omega) (fun h => by have := (World.ownsRow.lt HO5.out e h.symm).1; omega)).trans ((HB5.out.block e (by omega)).trans HE4.out); have z1 := enB_free ke6 1; have z2 := enB_free ke6 2; have q1 : w6.cell? ⟨e, 1, none⟩ = some (.int .i64 E.least) := (by unfold World.cell?; rw [ke6]; rfl); have q2 : w6.cell? ⟨e, 2, none⟩ = some (.int .i64 E.least) := (by unfold World.cell?; rw [ke6]; rfl); have HE6 := Lib.hid ke6; clear hown6 hg6 ke6)
    go_ret
    have hk6 : Kept (fun k => k = e) w w6 := by
      have k1 : Kept (fun k => k = e) w w3 := Kept.of_below HB3.out
      have k2 := (k1.same HK4.out).same (Kept.of_below HB5.out)
      exact k2.grown HG6.out (fun k hk => .inr (World.ownsRow.lt HO5.out k hk).1)
    have ht6 : TabIs w6 g F N E.T := HEND.out.2.1.keep fun k hk => hk6.block k (HEND.out.2.1.lt k hk) (fun h => HEND.out.2.2 (h ▸ hk))
    obtain ⟨r1, r2⟩ := sz_end HE6.out ht6 HEND.out.2.2
    refine ⟨v6, rfl, ?_, r1, hk6.same r2⟩
    rw [HR.out]
    exact own_kept4 HO6.out r2 (fun k hk h => by have := (World.ownsRow.lt HO6.out k hk).1; omega)
  · have HCS : Hid (¬ E.least < E.told ∨ (E.least < E.told ∧ ¬ E.least < E.T.most)) := Lib.hid (by omega)
    by_cases hB : E.T.most = E.told
    · have HR : Hid (R = []) := Lib.hid (by rw [HSZ.out, if_neg hA, if_neg (by omega)])
      have hne : (E.T.most == E.told) = true := by rw [beq_iff_eq]; exact hB
      have hne2 : (E.T.most != E.told) = false := by rw [bne_eq_false_iff_eq]; exact hB
      have f1 := enB_free HEND.out.1 1
      have f2 := enB_free HEND.out.1 2
      have HBB := Lib.hid hB
      clear hA hB
      rcases HCS.out with h1 | ⟨h1, h2⟩
      all_goals
        clear HCS
        try (have h1' : E.told ≤ E.least := by omega)
        try (have h1d : decide (E.least < E.told) = false := by rw [decide_eq_false_iff_not]; omega)
        go_enter Try.func19, Try.ntmps19
        go_wp2_with fail
        refine HM.out.mono ?_
        rintro e1 w1 ⟨rfl, rfl⟩
        go_wp2_with fail
        go_region
        obtain ⟨W1, hW1⟩ : ∃ W1, w.drew = W1 := ⟨_, rfl⟩
        rw [hW1]
        have hb1 : Below w.heap.size w W1 := by rw [← hW1]; exact (Below.refl _ _).drew
        have ke6 := (hb1.block e hel).trans HEND.out.1
        have z1 := enB_free ke6 1
        have z2 := enB_free ke6 2
        have q1 := (hb1.cell (p := ⟨e, 1, none⟩) hel).trans c1
        have q2 := (hb1.cell (p := ⟨e, 2, none⟩) hel).trans c2
        have HE6 := Lib.hid ke6
        have HB6 := Lib.hid hb1
        clear hW1 hb1 ke6 c1 c2 c3 f1 f2
        go_wp2
        go_ret
        have hk6 : Kept (fun k => k = e) w W1 := Kept.of_below HB6.out
        have ht6 : TabIs W1 g F N E.T := HEND.out.2.1.keep fun k hk => hk6.block k (HEND.out.2.1.lt k hk) (fun h => HEND.out.2.2 (h ▸ hk))
        obtain ⟨r1, r2⟩ := sz_end HE6.out ht6 HEND.out.2.2
        refine ⟨_, rfl, ?_, r1, hk6.same r2⟩
        rw [HR.out]
        exact OwnB.none _ _
    · have HR : Hid (R = putB 32 31 E.T.most.toNat) := Lib.hid (by rw [HSZ.out, if_neg hA, if_pos hB])
      have hne : (E.T.most == E.told) = false := by rw [beq_eq_false_iff_ne]; exact hB
      have hne2 : (E.T.most != E.told) = true := by rw [bne_iff_ne]; exact hB
      have HN2 := Lib.hid (fun w' => num_enc 32 5 E.T.most.toNat 31 w' full5 (by omega) rfl (by omega))
      have hl4 : ((E.T.most.toNat : Nat) : Int) = E.T.most := by omega
      rw [hl4] at HN2
      clear hA hB hl4
      rcases HCS.out with h1 | ⟨h1, h2⟩
      all_goals
        clear HCS
        try (have h1' : E.told ≤ E.least := by omega)
        try (have h1d : decide (E.least < E.told) = false := by rw [decide_eq_false_iff_not]; omega)
        go_enter Try.func19, Try.ntmps19
        go_wp2_with fail
        refine HM.out.mono ?_
        rintro e1 w1 ⟨rfl, rfl⟩
        go_wp2_with fail
        go_region
        obtain ⟨W1, hW1⟩ : ∃ W1, w.drew = W1 := ⟨_, rfl⟩
        rw [hW1]
        have hb1 : Below w.heap.size w W1 := by rw [← hW1]; exact (Below.refl _ _).drew
        have q1 := (hb1.cell (p := ⟨e, 1, none⟩) hel).trans c1
        have HB1 := Lib.hid hb1
        clear hW1 hb1
        go_wp2_with fail
        refine (HN2.out W1).mono ?_
        rintro e5 w5 ⟨v5, rfl, ho5, hb5⟩
        obtain ⟨A5, k5, rfl, hr5⟩ := ho5.rd
        have hpl2 := (putB_length 32 31 E.T.most.toNat).1
        have HR5 := Lib.hid hr5
        have HB5 := Lib.hid (HB1.out.trans (hb5.mono HB1.out.size))
        have hs5 := HB5.out.size
        clear ho5 hb5 hr5 q1
        go_wp2_with (at_builtin; refine wpList_app (.tmp 47) (.tmp 49) tBytes rfl rfl (OwnB.none w5 w.heap.size) rfl HR5.out rfl (bvs_one _) (le_maxLen (by simp; omega)) (by simp; omega) hs5 ?_; intro v6 w6 hown6 hg6 _; have HO6 : Hid (OwnB w6 w.heap.size v6 ([] ++ putB 32 31 E.T.most.toNat)) := Lib.hid (own_app hown6 (Nat.le_refl _)); have HB6 : Hid (Below w.heap.size w w6) := Lib.hid (Below.app HB5.out (OwnB.none w5 w.heap.size) hg6 (Nat.le_refl _) hs5); have ke6 := (HB6.out.block e hel).trans HEND.out.1; have z1 := enB_free ke6 1; have z2 := enB_free ke6 2; have q1 := (HB6.out.cell (p := ⟨e, 1, none⟩) hel).trans c1; have q2 := (HB6.out.cell (p := ⟨e, 2, none⟩) hel).trans c2; have HE6 := Lib.hid ke6; clear hown6 hg6 ke6 c1 c2 c3)
        go_ret
        have hk6 : Kept (fun k => k = e) w w6 := Kept.of_below HB6.out
        have ht6 : TabIs w6 g F N E.T := HEND.out.2.1.keep fun k hk => hk6.block k (HEND.out.2.1.lt k hk) (fun h => HEND.out.2.2 (h ▸ hk))
        obtain ⟨r1, r2⟩ := sz_end HE6.out ht6 HEND.out.2.2
        refine ⟨v6, rfl, ?_, r1, hk6.same r2⟩
        rw [HR.out]
        exact own_kept4 HO6.out r2 (fun k hk h => by have := (World.ownsRow.lt HO6.out k hk).1; omega)
end Go.Proofs.Ytfpcamkimjecdaa

/- The walks of hpack.Encoder's Limit, Rows; NewEncoder. -/
namespace Go.Proofs.Ytfpcamkimjecdaa
open Go.RowKit

def NewEncPost (own : Int) (w : World) (ev : Ending) (w' : World) : Prop := ∃ e G, ev = .returned (.tuple #[.pointer (some ⟨e, 0, none⟩), .int .i64 0]) ∧ EncIs w' e G 0 ⟨own, 4096, min own 4096, ⟨min own 4096, 0, []⟩⟩ ∧ (∀ k, G k → w.heap.size ≤ k) ∧ Below w.heap.size w w'
set_option maxHeartbeats 1000000 in
theorem newenc_any (own : Int) (w : World) (h0 : 0 ≤ own) (h1 : own ≤ 65536) :
    Calls Try.prog 7 #[.int .i64 own] w (NewEncPost own w) := by
  have HT := Lib.hid (tnew_any (min own 4096) w (by omega) (by omega))
  go_enter Try.func7, Try.ntmps7
  go_wp2_with fail
  refine HT.out.mono ?_
  rintro e w1 ⟨g, F, rfl, ht, hF, hb⟩
  have H1 := Lib.hid (And.intro ht (And.intro hF hb))
  clear ht hF hb
  go_wp2
  go_ret2
  obtain ⟨ht, hF, hb⟩ := H1.out
  refine ⟨w1.heap.size, fun k => k = w1.heap.size ∨ F k, rfl, ⟨g, F, rfl, heapNew _ _, ht.keep (fun k hk => Below.heap_alloc _ _ _ (ht.lt k hk)), fun hf => Nat.lt_irrefl _ (ht.lt _ hf)⟩, ?_, hb.alloc hb.size _⟩
  rintro k (rfl | hk)
  · exact hb.size
  · exact hF k hk
set_option maxRecDepth 100000 in
theorem erows_any {e N : Nat} {G : Nat → Prop} {E : Enc} (w : World) (h : EncIs w e G N E) :
    Calls Try.prog 14 #[.pointer (some ⟨e, 0, none⟩)] w (RowsPost w E.T) := by
  obtain ⟨g, F, -, hd, ht, -⟩ := h
  have c3 : w.cell? ⟨e, 3, none⟩ = some (.pointer (some ⟨g, 0, none⟩)) := by unfold World.cell?; rw [hd]; rfl
  have H := Lib.hid (rowsOf_any w ht)
  clear hd ht
  go_enter Try.func14, Try.ntmps14
  go_wp2_with fail
  refine H.out.mono ?_
  rintro e w1 ⟨A, c, rfl, ho, hb⟩
  have H1 := Lib.hid (And.intro ho hb)
  clear ho hb
  go_wp2
  go_ret
  exact ⟨A, c, rfl, H1.out⟩
theorem erows_nil (w : World) : Calls Try.prog 14 #[.pointer none] w fun e w' => e = .returned (.slice none 0 0) ∧ w = w' := by
  go_enter Try.func14, Try.ntmps14
  go_wp2; go_ret; exact ⟨rfl, rfl⟩
/-- The encoder behind a new limit. -/
def Enc.limit (E : Enc) (n : Int) : Enc := ⟨E.own, E.told, min E.least (min n E.own), E.T.resize (min n E.own)⟩
def LimPost (W : World) (e : Nat) (G : Nat → Prop) (N : Nat) (E' : Enc) (ev : Ending) (w' : World) : Prop :=
  ev = .returned (.int .i64 0) ∧ ∃ G', EncIs w' e G' N E' ∧ Kept G W w' ∧ Grew W G G'
end Go.Proofs.Ytfpcamkimjecdaa

/- The walk of hpack.Encoder's Encode. -/
namespace Go.Proofs.Ytfpcamkimjecdaa
open Go.RowKit

theorem encL_snoc (T : Tb) (l : List Fd) (f : Fd) : encL T (l ++ [f]) = ((encL T l).1 ++ (encOne (encL T l).2 f).1, (encOne (encL T l).2 f).2) := by
  induction l generalizing T with
  | nil => simp [encL]
  | cons a l ih => simp only [List.cons_append, encL, ih, List.append_assoc]
theorem add_most (T : Tb) (f : Rw) : (T.add f).most = T.most := by unfold Tb.add; split <;> rfl
theorem encOne_most (T : Tb) (f : Fd) : (encOne T f).2.most = T.most := by
  unfold encOne
  repeat' split
  all_goals first | rfl | exact add_most _ _
theorem encL_most (T : Tb) (l : List Fd) : (encL T l).2.most = T.most := by
  induction l generalizing T with
  | nil => rfl
  | cons f l ih => simp only [encL]; rw [ih, encOne_most]
theorem namedB_le (fl F : Nat) (T : Tb) (f : Rw) (h1 : f.1.size ≤ 1048576) (h2 : f.2.size ≤ 1048576) : (namedB fl F T f).length ≤ 2097200 := by
  have h3 := (putB_length fl F (numT T f)).1
  have h4 := textB_le h1
  have h5 := textB_le h2
  unfold namedB
  split <;> simp only [List.length_append, List.length_nil] <;> omega
theorem encOne_le (T : Tb) (f : Fd) (h1 : f.1.1.size ≤ 1048576) (h2 : f.1.2.size ≤ 1048576) : (encOne T f).1.length ≤ 2097200 := by
  have h3 := (putB_length 128 127 (numT T f.1)).1
  unfold encOne
  repeat' split
  all_goals first | exact namedB_le _ _ _ _ h1 h2 | (simp only; omega)
theorem encSz_le (E : Enc) : (encSz E).length ≤ 14 := by
  have h3 := (putB_length 32 31 E.least.toNat).1
  have h4 := (putB_length 32 31 E.T.most.toNat).1
  unfold encSz
  repeat' split
  all_goals (try simp only [List.length_append, List.length_nil]); omega
theorem encL_le (T : Tb) (l : List Fd) (h : ∀ f ∈ l, f.1.1.size ≤ 1048576 ∧ f.1.2.size ≤ 1048576) : (encL T l).1.length ≤ l.length * 2097200 := by
  induction l generalizing T with
  | nil => simp [encL]
  | cons f l ih =>
    have h1 := ih (encOne T f).2 (fun g hg => h g (List.mem_cons_of_mem _ hg))
    have h2 := encOne_le T f (h f (List.mem_cons_self ..)).1 (h f (List.mem_cons_self ..)).2
    simp only [encL, List.length_append, List.length_cons]
    omega
/-- The way's function, whichever it is. -/
theorem step_way {e N : Nat} {G : Nat → Prop} {E : Enc} (f : Fd) (w : World) (h : EncIs w e G N E) (hf1 : f.1.1.size ≤ 1048576) (hf2 : f.1.2.size ≤ 1048576) (hN : N + 1 ≤ 1099511627776) :
    Calls Try.prog (wayF E.T f) #[.pointer (some ⟨e, 0, none⟩), .agg #[.string f.1.1, .string f.1.2, .bool f.2]] w (EPost w e G (N + 1) { E with T := (encOne E.T f).2 } (encOne E.T f).1) := by
  have hmore : ∀ {l : List UInt8} {ev : Ending} {w' : World}, EPost w e G N E l ev w' → EPost w e G (N + 1) E l ev w' := by
    rintro l ev w' ⟨v, h1, h2, G', h3, h4⟩
    exact ⟨v, h1, h2, G', h3.more (Nat.le_succ _) hN, h4⟩
  unfold wayF encOne
  by_cases c1 : neverF f = true
  · rw [if_pos c1, if_pos c1]
    exact (never_any f.1 f.2 w h hf1 hf2).mono fun _ _ hp => hmore hp
  · rw [if_neg c1, if_neg c1]
    by_cases c2 : (fnd E.T f.1).2 = true
    · rw [if_pos c2, if_pos c2]
      exact (found_any f.1 f.2 w h hf1 hf2).mono fun _ _ hp => hmore hp
    · rw [if_neg c2, if_neg c2]
      by_cases c3 : E.T.most < (cost f.1 : Int)
      · rw [if_pos c3, if_pos c3]
        exact (aside_any f.1 f.2 w h hf1 hf2).mono fun _ _ hp => hmore hp
      · rw [if_neg c3, if_neg c3]
        exact kept_any f.1 f.2 w h hf1 hf2 hN
theorem wayF_cases (T : Tb) (f : Fd) : wayF T f = 33 ∨ wayF T f = 35 ∨ wayF T f = 36 ∨ wayF T f = 37 := by
  unfold wayF
  repeat' split
  all_goals simp
/-- The relation at the loop's head. -/
def EnRel (W : World) (e : Nat) (G : Nat → Prop) (N : Nat) (E : Enc) (l : List Fd) (ov iv : Value) (wr : World) : Prop :=
  ∃ (k : Nat) (G' : Nat → Prop), iv = .int .i64 k ∧ k ≤ l.length ∧ OwnB wr W.heap.size ov (encSz E ++ (encL E.T (l.take k)).1) ∧ EncIs wr e G' (N + k) ⟨E.own, E.T.most, E.T.most, (encL E.T (l.take k)).2⟩ ∧ Kept G W wr ∧ Grew W G G' ∧ (∀ q, ov.ownBlock = some q → ¬ G' q)
set_option maxRecDepth 100000 in
set_option maxHeartbeats 4000000 in
theorem encode_any {e N n c : Nat} {G : Nat → Prop} {E : Enc} {A : Option Addr} (l : List Fd) (w : World) (h : EncIs w e G N E) (hr : Rd w w.heap.size 3 A n (fds l)) (hAG : 0 < n → ∀ a, A = some a → ¬ G a.block) (hl0 : 0 ≤ E.least) (hl1 : E.least ≤ 65536) (hN : N + n ≤ 1099511627776) (hn : n ≤ 1048576) (hln : l.length = n)
    (hf : ∀ f ∈ l, f.1.1.size ≤ 1048576 ∧ f.1.2.size ≤ 1048576) :
    Calls Try.prog 10 #[.pointer (some ⟨e, 0, none⟩), .slice A n c] w (EPost w e G (N + n) (E.run l).2 (E.run l).1) := by
  have HS := Lib.hid (sizes_any w h hl0 hl1)
  have HH := Lib.hid h
  have HR := Lib.hid hr
  have HF := Lib.hid hf
  clear h hr
  go_enter Try.func10, Try.ntmps10
  go_wp2_with fail
  refine HS.out.mono ?_
  rintro e1 w1 ⟨v1, rfl, ho1, he1, hk1⟩
  have HO1 := Lib.hid ho1
  have HE1 := Lib.hid he1
  have HK1 := Lib.hid hk1
  clear ho1 he1 hk1
  go_wp2_with fail
  go_loopw [5, 15] (fun ov iv wr => EnRel w e G N E l ov iv wr) (fun _ iv _ => n - (intOf iv).toNat)
  case atStart =>
    refine ⟨0, G, rfl, Nat.zero_le _, ?_, HE1.out, HK1.out.mono fun k hk => ?_, Grew.refl _ _, ?_⟩
    · simp only [List.take_zero, encL, List.append_nil]; exact HO1.out
    · obtain ⟨g, F, hG, -⟩ := HH.out
      rw [hG]; exact .inl hk
    · intro q hq hg
      have := (World.ownsRow.lt HO1.out q hq).1
      have := HH.out.lt q hg
      omega
  case round =>
    obtain ⟨k, G', rfl, hk, ho, he, hkp, hgr, hov⟩ := hrel
    have HO := Lib.hid ho
    have HE := Lib.hid he
    have HK := Lib.hid hkp
    have HG := Lib.hid hgr
    have HV := Lib.hid hov
    have hsz := hkp.size
    have hr1 : Rd wr wr.heap.size 3 A n (fds l) := HR.out.kept hkp hAG
    clear ho he hkp hgr hov
    rw [hln] at hk
    by_cases hlt : k < n
    · obtain ⟨hl', b, o, rfl, hb, hc⟩ := fd_at hr1 (by omega)
      obtain ⟨f, hfk⟩ : ∃ f, l[k]? = some f := ⟨_, List.getElem?_eq_getElem (by omega)⟩
      obtain ⟨q0, q1, q2⟩ := hc k f hfk
      have hbd := hf f (List.mem_of_getElem? hfk)
      have n1 : (k : Int) < n := by omega
      have HFK := Lib.hid hfk
      clear hc hr1 hl' hf hfk
      go_upto_region 7 with fail
      obtain ⟨Wz, hWz⟩ : ∃ Wz, wr.alloc (.cells #[.string f.1.1, .string f.1.2, .bool f.2] 43) = Wz := ⟨_, rfl⟩
      obtain ⟨x, hx⟩ : ∃ x, wr.heap.size = x := ⟨_, rfl⟩
      rw [hWz, hx]
      have bz : Below wr.heap.size wr Wz := by rw [← hWz]; exact (Below.refl _ _).alloc (Nat.le_refl _) _
      have kx : Wz.heap[x]? = some (.cells #[.string f.1.1, .string f.1.2, .bool f.2] 43 (0, 0)) := by rw [← hWz, ← hx]; exact heapNew _ _
      have x0 : Wz.cell? ⟨x, 0, none⟩ = some (.string f.1.1) := by unfold World.cell?; rw [kx]; rfl
      have x1 : Wz.cell? ⟨x, 1, none⟩ = some (.string f.1.2) := by unfold World.cell?; rw [kx]; rfl
      have x2 : Wz.cell? ⟨x, 2, none⟩ = some (.bool f.2) := by unfold World.cell?; rw [kx]; rfl
      have hxl : x < Wz.heap.size := (Array.getElem?_eq_some_iff.1 kx).1
      obtain ⟨Ek, hEk⟩ : ∃ Ek : Enc, (⟨E.own, E.T.most, E.T.most, (encL E.T (l.take k)).2⟩ : Enc) = Ek := ⟨_, rfl⟩
      have HEK := Lib.hid hEk
      have hez := HE.out.below bz
      rw [hEk] at hez
      have HEZ := Lib.hid hez
      have HWAY := Lib.hid (way_any f Wz hez hbd.1 hbd.2)
      obtain ⟨K, hK⟩ : ∃ K, wayF Ek.T f = K := ⟨_, rfl⟩
      have hKc := wayF_cases Ek.T f
      rw [hK] at HWAY hKc
      have HST : Hid (∀ w3, Below Wz.heap.size Wz w3 → Calls Try.prog K #[.pointer (some ⟨e, 0, none⟩), .agg #[.string f.1.1, .string f.1.2, .bool f.2]] w3 (EPost w3 e G' (N + k + 1) { Ek with T := (encOne Ek.T f).2 } (encOne Ek.T f).1)) := Lib.hid fun w3 hb3 => by
        rw [← hK]
        exact step_way f w3 (hez.below hb3) hbd.1 hbd.2 (by omega)
      have hle1 := encOne_le Ek.T f hbd.1 hbd.2
      have hle2 := encSz_le E
      have hle3 : (encL E.T (l.take k)).1.length ≤ k * 2097200 := Nat.le_trans (encL_le E.T (l.take k) (fun g hg => HF.out g (List.mem_of_mem_take hg))) (Nat.mul_le_mul_right _ (by rw [List.length_take]; omega))
      obtain ⟨b0, hb0⟩ : ∃ b0, encSz E ++ (encL E.T (l.take k)).1 = b0 := ⟨_, rfl⟩
      have HB0 := Lib.hid hb0
      have hlb : b0.length ≤ 14 + k * 2097200 := by rw [← hb0, List.length_append]; omega
      rw [hb0] at HO
      obtain ⟨b1, hb1⟩ : ∃ b1, (encOne Ek.T f).1 = b1 := ⟨_, rfl⟩
      have HB1 := Lib.hid hb1
      rw [hb1] at HST hle1
      have HBZ := Lib.hid bz
      have HKX := Lib.hid kx
      have HXX := Lib.hid hx
      clear hWz hx bz kx hEk hez hK hle2 hle3 hb0 hb1 q0 q1 q2 hbd
      go_wp2_with fail
      refine HWAY.out.mono ?_
      rintro e2 w3 ⟨rfl, hb3⟩
      have HST3 := Lib.hid (HST.out w3 hb3)
      have y0 := (hb3.cell (p := ⟨x, 0, none⟩) hxl).trans x0
      have y1 := (hb3.cell (p := ⟨x, 1, none⟩) hxl).trans x1
      have y2 := (hb3.cell (p := ⟨x, 2, none⟩) hxl).trans x2
      have HBW3 : Hid (Below wr.heap.size wr w3) := Lib.hid (HBZ.out.trans (hb3.mono HBZ.out.size))
      have hs3 := HBW3.out.size
      clear hb3 HST HWAY x0 x1 x2
      rcases hKc with rfl | rfl | rfl | rfl
      all_goals
        go_wp2_with fail
        refine HST3.out.mono ?_
        rintro e4 w4 ⟨v4, rfl, ho4, G4, he4, hk4, hg4, hv4⟩
        have HO4 : Hid (OwnB w4 w.heap.size u5 b0) := Lib.hid (own_kept4 (own_kept4 HO.out (Kept.of_below (F := fun _ => False) HBW3.out) (fun _ _ h => h)) hk4 (fun q hq => HV.out q hq))
        obtain ⟨A4, c4, rfl, hr4⟩ := ho4.rd
        have HR4 := Lib.hid hr4
        have H4 := Lib.hid (And.intro he4 (And.intro hk4 hg4))
        have hs4 := hk4.size
        clear ho4 he4 hk4 hg4 hv4 hr4 y0 y1 y2
        go_wp2_with (at_builtin; refine wpList_app (.tmp 22) (.tmp 25) tBytes rfl rfl HO4.out rfl HR4.out rfl (bvs_one _) (le_maxLen (by omega)) (by omega) (by omega) ?_; intro v5 w5 hown5 hg5 hv5)
        go_roundw
        case rel =>
          have hu : ∀ q, u5.ownBlock = some q → ¬ G4 q := fun q hq hG => (H4.out.2.2 q hG).elim (HV.out q hq) (fun h => by have := (World.ownsRow.lt HO.out q hq).2; omega)
          have hsn : encL E.T (l.take (k + 1)) = ((encL E.T (l.take k)).1 ++ b1, (encOne Ek.T f).2) := by
            rw [List.take_add_one, HFK.out, Option.toList_some, encL_snoc, ← HB1.out, ← HEK.out]
          refine ⟨k + 1, G4, by go_num, by omega, ?_, ?_, ?_, ?_, ?_⟩
          · rw [hsn, ← List.append_assoc, HB0.out]
            exact own_app hown5 (Nat.le_refl _)
          · rw [hsn]
            have := H4.out.1.keep (w' := w5) (fun q hq => hg5.block q (H4.out.1.lt q hq) (fun h => hu q h.symm hq))
            have hEE : ({ Ek with T := (encOne Ek.T f).2 } : Enc) = ⟨E.own, E.T.most, E.T.most, (encOne Ek.T f).2⟩ := by rw [← HEK.out]
            rw [hEE] at this
            exact this
          · exact (HK.out.trans ((Kept.of_below HBW3.out).same H4.out.2.1) HG.out).grown hg5 (fun q hq => .inr (World.ownsRow.lt HO.out q hq).1)
          · exact fun q hq => (H4.out.2.2 q hq).elim (fun h => HG.out q h) (fun h => .inr (by omega))
          · intro q hq
            rcases hv5 with h | h
            · exact hu q (h ▸ hq)
            · rw [h] at hq
              injection hq with hq
              intro hG
              have := H4.out.1.lt q hG
              omega
        case measure => simp [intOf]; omega
    · obtain rfl : k = n := by omega
      have hlt' : l.take l.length = l := List.take_length
      go_wp2
      go_ret
      rw [hln.symm, hlt'] at HO HE
      exact ⟨_, rfl, HO.out, G', by rw [← hln]; exact HE.out, HK.out, HG.out, HV.out⟩
end Go.Proofs.Ytfpcamkimjecdaa

/- The walk of frame.payload. -/
namespace Go.Proofs.Ytfpcamkimjecdaa
open Go.RowKit

def payL (f : Fr) (pd : Bool) : List UInt8 := (if f.ty ≠ 9 ∧ pd = true then [UInt8.ofNat f.pad] else []) ++ f.data.data.toList ++ List.replicate f.pad 0
theorem own_of {w : World} {B n : Nat} {v : Value} {l : List UInt8} (h : w.ownsRow B 5 1 v n (bvs l)) : OwnB w B v l := by
  have h1 := h.1
  rw [bvs_length, Nat.mul_one] at h1
  unfold OwnB
  rw [h1]
  exact h
/-- The payload's end: the data, then the noughts. -/
theorem pay_end {w W wA w4 w5 : World} {base n m : Nat} {vA v4 v5 : Value} {l l' k : List UInt8} (hB : Below w.heap.size w wA) (hs0 : w.heap.size ≤ base) (hsz : base ≤ wA.heap.size) (hW : W = wA ∨ W = wA.drew) (hA : wA.ownsRow base 5 1 vA n (bvs l))
    (hg4 : W.grownBy w4 vA.ownBlock) (h4 : w4.ownsRow base 5 1 v4 m (bvs l ++ bvs k)) (hg5 : w4.grownBy w5 v4.ownBlock) {m5 : Nat} (h5 : w5.ownsRow base 5 1 v5 m5 (bvs l ++ bvs k ++ bvs l')) : RetB w (l ++ k ++ l') (.returned v5) w5 := by
  have hbb : Below w.heap.size w w4 := by
    rcases hW with rfl | rfl
    · exact Below.app hB hA hg4 hs0 hB.size
    · exact Below.app (w := wA.drew) hB.drew hA hg4 hs0 hB.size
  refine ⟨v5, rfl, ?_, Below.app hbb h4 hg5 hs0 hbb.size⟩
  rw [← bvs_append, ← bvs_append] at h5
  exact (own_of h5).base hs0
theorem bvs_pad {p : Nat} (hp : p ≤ 255) : bvs [UInt8.ofNat p] = bvs [] ++ [Value.int .u8 (p : Int)] := by
  rw [bv_of (by omega) (by omega)]; rfl
theorem payL_pad {ty : Nat} (h : ty ≠ 9) (fl st : Nat) (data : ByteArray) (pad : Nat) : payL ⟨ty, fl, st, data, pad⟩ true = [UInt8.ofNat pad] ++ data.data.toList ++ List.replicate pad 0 := by simp [payL, h]
theorem payL_no (ty fl st : Nat) (data : ByteArray) (pad : Nat) : payL ⟨ty, fl, st, data, pad⟩ false = [] ++ data.data.toList ++ List.replicate pad 0 := by simp [payL]
theorem payL_nine (fl st : Nat) (data : ByteArray) (pd : Bool) : payL ⟨9, fl, st, data, 0⟩ pd = [] ++ data.data.toList := by simp [payL]
theorem wp_named {P : Program} {c : Code} {Q : Exit → Act → World → Prop} {a : Act} {W : World} (h : ∀ W3, W3 = W → c.wp P Q a W3) : c.wp P Q a W := h W rfl
structure FrAt (w : World) (x : Nat) (f : Fr) : Prop where
  c0 : w.cell? ⟨x, 0, none⟩ = some (.int .i64 f.ty)
  c1 : w.cell? ⟨x, 1, none⟩ = some (.int .i64 f.fl)
  c2 : w.cell? ⟨x, 2, none⟩ = some (.int .i64 f.st)
  c3 : w.cell? ⟨x, 3, none⟩ = some (.string f.data)
  c4 : w.cell? ⟨x, 4, none⟩ = some (.int .i64 f.pad)
  c5 : w.cell? ⟨x, 5, none⟩ = some (.slice none 0 0)
  c6 : w.cell? ⟨x, 6, none⟩ = some (.int .i64 0)
  c7 : w.cell? ⟨x, 7, none⟩ = some (.int .i64 0)
  c8 : w.cell? ⟨x, 8, none⟩ = some (.int .i64 0)
  c9 : w.cell? ⟨x, 9, none⟩ = some (.int .i64 0)
  c10 : w.cell? ⟨x, 10, none⟩ = some (.int .i64 0)
  c11 : w.cell? ⟨x, 11, none⟩ = some (.bool false)
  lt : x < w.heap.size
theorem FrAt.of {w : World} {x : Nat} {f : Fr} (kx : w.heap[x]? = some (.cells f.cells 49 (0, 0))) : FrAt w x f := by
  refine ⟨?_, ?_, ?_, ?_, ?_, ?_, ?_, ?_, ?_, ?_, ?_, ?_, (Array.getElem?_eq_some_iff.1 kx).1⟩ <;> (unfold World.cell?; rw [kx]; rfl)
theorem FrAt.keep {w w' : World} {x : Nat} {f : Fr} (h : FrAt w x f) (hs : w.heap.size ≤ w'.heap.size) (hb : w'.heap[x]? = w.heap[x]?) : FrAt w' x f := by
  have e : ∀ j, w'.cell? ⟨x, j, none⟩ = w.cell? ⟨x, j, none⟩ := fun j => World.cell?_of_block (a := ⟨x, j, none⟩) hb
  exact ⟨(e _).trans h.c0, (e _).trans h.c1, (e _).trans h.c2, (e _).trans h.c3, (e _).trans h.c4, (e _).trans h.c5, (e _).trans h.c6, (e _).trans h.c7, (e _).trans h.c8, (e _).trans h.c9, (e _).trans h.c10, (e _).trans h.c11, Nat.lt_of_lt_of_le h.lt hs⟩
theorem FrAt.below {w w' : World} {x : Nat} {f : Fr} (h : FrAt w x f) (hb : Below w.heap.size w w') : FrAt w' x f := h.keep hb.size (hb.block x h.lt)
set_option maxRecDepth 100000 in
set_option maxHeartbeats 4000000 in
theorem payload_any (f : Fr) (pd : Bool) (w : World) (hf : FrOk f pd) :
    Calls Try.prog 25 #[frV f] w (RetB w (payL f pd)) := by
  obtain ⟨W0, hW0⟩ : ∃ W0, w.alloc (.cells f.cells 49) = W0 := ⟨_, rfl⟩
  obtain ⟨x, hx⟩ : ∃ x, w.heap.size = x := ⟨_, rfl⟩
  have b0 : Below w.heap.size w W0 := by rw [← hW0]; exact (Below.refl _ _).alloc (Nat.le_refl _) _
  have kx : W0.heap[x]? = some (.cells f.cells 49 (0, 0)) := by rw [← hW0, ← hx]; exact heapNew _ _
  have HF := Lib.hid (FrAt.of kx)
  obtain ⟨ty, fl, st, data, pad⟩ := f
  have hty := hf.ty
  have hpad := hf.pad
  have h8 := hf.f8
  have h32 := hf.f32
  have hnp := hf.np
  have hc9 := hf.c9
  have hda := hf.data
  obtain ⟨c0, c1, c2, c3, c4, c5, c6, c7, c8, c9, c10, c11, hxl⟩ := HF.out
  simp only at hty h8 h32 hnp hc9 hpad hda c0 c1 c2 c3 c4
  unfold frV
  simp only [Fr.cells] at hW0 ⊢
  have HB := Lib.hid b0
  have HW0 := Lib.hid hW0
  have HX := Lib.hid hx
  clear hW0 hx b0 kx hf
  have hs0 := HB.out.size
  rcases hty with rfl | rfl | rfl
  · clear h32 hc9
    cases pd with
    | false =>
      have hp := hnp rfl
      subst hp
      simp only [Bool.false_eq_true, if_false] at h8
      clear hnp
      go_enter Try.func25, Try.ntmps25
      go_upto_region 1 with fail
      refine wp_named ?_
      intro W3 hW3
      obtain rfl : W3 = W0 := hW3.trans HW0.out
      rw [HX.out]
      clear hW3
      have HOW : Hid (W3.ownsRow W3.heap.size 5 1 (.slice none 0 0) 0 (bvs [])) := Lib.hid (OwnB.none W3 W3.heap.size)
      have HF2 := Lib.hid HF.out
      have HB2 := Lib.hid HB.out
      have hszz : W3.heap.size ≤ W3.heap.size := Nat.le_refl W3.heap.size
      go_upto_region 9 with fail
      go_region_law (first
        | (refine step_app_str (.tmp 34) (.tmp 36) rfl rfl HOW.out rfl data rfl (by omega) hszz ?_; intro v4 w4 hown4 hg4; have k4 : w4.cell? ⟨x, 4, none⟩ = some (.int .i64 (0 : Nat)) := (World.cell?_of_block (a := ⟨x, 4, none⟩) (hg4.block x (Nat.lt_of_lt_of_le hxl hszz) (fun e => by have := (World.ownsRow.lt HOW.out x e.symm).1; omega))).trans HF2.out.c4; have HO4 := Lib.hid (And.intro hown4 hg4); have hsz4 : W3.heap.size ≤ w4.heap.size := hg4.size; clear hown4 hg4)
        | (refine step_app_zeros (.tmp 37) (.tmp 39) rfl rfl HO4.out.1 rfl 0 rfl (by omega) (by omega) (Nat.le_trans hszz hsz4) ?_; intro v5 w5 hown5 hg5; have HO5 := Lib.hid (And.intro hown5 hg5); clear hown5 hg5))
      all_goals
        go_wp2_with fail
        go_ret
        rw [payL_no]
        exact pay_end HB2.out hs0 hszz (by first | exact .inl rfl | exact .inr rfl) HOW.out HO4.out.2 HO4.out.1 HO5.out.2 HO5.out.1
    | true =>
      simp only [if_true] at h8
      clear hnp
      go_enter Try.func25, Try.ntmps25
      go_upto_region 1 with fail
      refine wp_named ?_
      intro W3 hW3
      obtain rfl : W3 = W0 := hW3.trans HW0.out
      rw [HX.out]
      clear hW3
      go_upto_region 6 with fail
      have HOW0 : Hid (W3.ownsRow W3.heap.size 5 1 (.slice none 0 0) 0 (bvs [])) := Lib.hid (OwnB.none W3 W3.heap.size)
      go_wp2_with (at_builtin; refine wpList_app (.tmp 15) (.tmp 19) tBytes rfl rfl (World.ownsRow.alloc HOW0.out _) rfl (Rd.one W3 _ _) rfl (by simp [Value.oneCell']) (le_maxLen (by omega)) (by omega) (by simp) ?_; intro v2 w2 hown2 hg2 _; have hx2 : w2.heap[x]? = W3.heap[x]? := ((hg2.block x (by simp; omega) (fun e => by cases e)).trans (Below.heap_alloc W3 _ x hxl)); have HF2 := Lib.hid (HF.out.keep (by have := hg2.size; simp at this; omega) hx2); have HB2 := Lib.hid (Below.app (HB.out.alloc hs0 _) (World.ownsRow.alloc HOW0.out _) hg2 hs0 (by simp; omega)); have hsz2 := hg2.size; have HOW : Hid (w2.ownsRow W3.heap.size 5 1 v2 (0 + 1) (bvs [UInt8.ofNat pad])) := Lib.hid (by rw [bvs_pad hpad]; exact hown2); simp at hsz2; have hszz : W3.heap.size ≤ w2.heap.size := (by omega); obtain ⟨c0, c1, c2, c3, c4, c5, c6, c7, c8, c9, c10, c11, hxl2⟩ := HF2.out; clear hown2 hg2 hx2; go_upto_region 9 with fail)
      go_region_law (first
        | (refine step_app_str (.tmp 34) (.tmp 36) rfl rfl HOW.out rfl data rfl (by omega) hszz ?_; intro v4 w4 hown4 hg4; have k4 : w4.cell? ⟨x, 4, none⟩ = some (.int .i64 (pad : Nat)) := (World.cell?_of_block (a := ⟨x, 4, none⟩) (hg4.block x (Nat.lt_of_lt_of_le hxl hszz) (fun e => by have := (World.ownsRow.lt HOW.out x e.symm).1; omega))).trans HF2.out.c4; have HO4 := Lib.hid (And.intro hown4 hg4); have hsz4 : w2.heap.size ≤ w4.heap.size := hg4.size; clear hown4 hg4)
        | (refine step_app_zeros (.tmp 37) (.tmp 39) rfl rfl HO4.out.1 rfl pad rfl (by omega) (by omega) (Nat.le_trans hszz hsz4) ?_; intro v5 w5 hown5 hg5; have HO5 := Lib.hid (And.intro hown5 hg5); clear hown5 hg5))
      all_goals
        go_wp2_with fail
        go_ret
        rw [payL_pad (by omega)]
        exact pay_end HB2.out hs0 hszz (by first | exact .inl rfl | exact .inr rfl) HOW.out HO4.out.2 HO4.out.1 HO5.out.2 HO5.out.1
  · have h33 := h32 rfl
    clear h32 hc9
    cases pd with
    | false =>
      have hp := hnp rfl
      subst hp
      simp only [Bool.false_eq_true, if_false] at h8
      clear hnp
      go_enter Try.func25, Try.ntmps25
      go_upto_region 1 with fail
      refine wp_named ?_
      intro W3 hW3
      obtain rfl : W3 = W0 := hW3.trans HW0.out
      rw [HX.out]
      clear hW3
      have HOW : Hid (W3.ownsRow W3.heap.size 5 1 (.slice none 0 0) 0 (bvs [])) := Lib.hid (OwnB.none W3 W3.heap.size)
      have HF2 := Lib.hid HF.out
      have HB2 := Lib.hid HB.out
      have hszz : W3.heap.size ≤ W3.heap.size := Nat.le_refl W3.heap.size
      go_upto_region 9 with fail
      go_region_law (first
        | (refine step_app_str (.tmp 34) (.tmp 36) rfl rfl HOW.out rfl data rfl (by omega) hszz ?_; intro v4 w4 hown4 hg4; have k4 : w4.cell? ⟨x, 4, none⟩ = some (.int .i64 (0 : Nat)) := (World.cell?_of_block (a := ⟨x, 4, none⟩) (hg4.block x (Nat.lt_of_lt_of_le hxl hszz) (fun e => by have := (World.ownsRow.lt HOW.out x e.symm).1; omega))).trans HF2.out.c4; have HO4 := Lib.hid (And.intro hown4 hg4); have hsz4 : W3.heap.size ≤ w4.heap.size := hg4.size; clear hown4 hg4)
        | (refine step_app_zeros (.tmp 37) (.tmp 39) rfl rfl HO4.out.1 rfl 0 rfl (by omega) (by omega) (Nat.le_trans hszz hsz4) ?_; intro v5 w5 hown5 hg5; have HO5 := Lib.hid (And.intro hown5 hg5); clear hown5 hg5))
      all_goals
        go_wp2_with fail
        go_ret
        rw [payL_no]
        exact pay_end HB2.out hs0 hszz (by first | exact .inl rfl | exact .inr rfl) HOW.out HO4.out.2 HO4.out.1 HO5.out.2 HO5.out.1
    | true =>
      simp only [if_true] at h8
      clear hnp
      go_enter Try.func25, Try.ntmps25
      go_upto_region 1 with fail
      refine wp_named ?_
      intro W3 hW3
      obtain rfl : W3 = W0 := hW3.trans HW0.out
      rw [HX.out]
      clear hW3
      go_upto_region 6 with fail
      have HOW0 : Hid (W3.ownsRow W3.heap.size 5 1 (.slice none 0 0) 0 (bvs [])) := Lib.hid (OwnB.none W3 W3.heap.size)
      go_wp2_with (at_builtin; refine wpList_app (.tmp 15) (.tmp 19) tBytes rfl rfl (World.ownsRow.alloc HOW0.out _) rfl (Rd.one W3 _ _) rfl (by simp [Value.oneCell']) (le_maxLen (by omega)) (by omega) (by simp) ?_; intro v2 w2 hown2 hg2 _; have hx2 : w2.heap[x]? = W3.heap[x]? := ((hg2.block x (by simp; omega) (fun e => by cases e)).trans (Below.heap_alloc W3 _ x hxl)); have HF2 := Lib.hid (HF.out.keep (by have := hg2.size; simp at this; omega) hx2); have HB2 := Lib.hid (Below.app (HB.out.alloc hs0 _) (World.ownsRow.alloc HOW0.out _) hg2 hs0 (by simp; omega)); have hsz2 := hg2.size; have HOW : Hid (w2.ownsRow W3.heap.size 5 1 v2 (0 + 1) (bvs [UInt8.ofNat pad])) := Lib.hid (by rw [bvs_pad hpad]; exact hown2); simp at hsz2; have hszz : W3.heap.size ≤ w2.heap.size := (by omega); obtain ⟨c0, c1, c2, c3, c4, c5, c6, c7, c8, c9, c10, c11, hxl2⟩ := HF2.out; clear hown2 hg2 hx2; go_upto_region 9 with fail)
      go_region_law (first
        | (refine step_app_str (.tmp 34) (.tmp 36) rfl rfl HOW.out rfl data rfl (by omega) hszz ?_; intro v4 w4 hown4 hg4; have k4 : w4.cell? ⟨x, 4, none⟩ = some (.int .i64 (pad : Nat)) := (World.cell?_of_block (a := ⟨x, 4, none⟩) (hg4.block x (Nat.lt_of_lt_of_le hxl hszz) (fun e => by have := (World.ownsRow.lt HOW.out x e.symm).1; omega))).trans HF2.out.c4; have HO4 := Lib.hid (And.intro hown4 hg4); have hsz4 : w2.heap.size ≤ w4.heap.size := hg4.size; clear hown4 hg4)
        | (refine step_app_zeros (.tmp 37) (.tmp 39) rfl rfl HO4.out.1 rfl pad rfl (by omega) (by omega) (Nat.le_trans hszz hsz4) ?_; intro v5 w5 hown5 hg5; have HO5 := Lib.hid (And.intro hown5 hg5); clear hown5 hg5))
      all_goals
        go_wp2_with fail
        go_ret
        rw [payL_pad (by omega)]
        exact pay_end HB2.out hs0 hszz (by first | exact .inl rfl | exact .inr rfl) HOW.out HO4.out.2 HO4.out.1 HO5.out.2 HO5.out.1
  · have hp := hc9 rfl
    subst hp
    clear h32 hc9 hnp
    go_enter Try.func25, Try.ntmps25
    go_upto_region 1 with fail
    refine wp_named ?_
    intro W3 hW3
    obtain rfl : W3 = W0 := hW3.trans HW0.out
    rw [HX.out]
    clear hW3
    have HOW : Hid (W3.ownsRow W3.heap.size 5 1 (.slice none 0 0) 0 (bvs [])) := Lib.hid (OwnB.none W3 W3.heap.size)
    go_wp2_with (at_builtin; refine wpList_app_str (.tmp 85) (.tmp 87) rfl rfl HOW.out rfl data rfl (by omega) (Nat.le_refl _) ?_; intro v4 w4 hown4 hg4; have HO4 := Lib.hid (And.intro hown4 hg4); clear hown4 hg4)
    go_ret
    rw [payL_nine]
    refine ⟨v4, rfl, ?_, Below.app HB.out HOW.out HO4.out.2 hs0 hs0⟩
    have h4 := HO4.out.1
    rw [← bvs_append] at h4
    exact (own_of h4).base hs0
end Go.Proofs.Ytfpcamkimjecdaa

/- The walk of frame.Put. -/
namespace Go.Proofs.Ytfpcamkimjecdaa
open Go.RowKit

/-- A frame's bytes. -/
def frB (f : Fr) (pd : Bool) : List UInt8 := be 3 (payL f pd).length ++ [UInt8.ofNat f.ty, UInt8.ofNat f.fl] ++ be 4 f.st ++ payL f pd
theorem payL_length (f : Fr) (pd : Bool) : (payL f pd).length ≤ f.data.size + f.pad + 1 := by
  unfold payL
  have hd : f.data.data.toList.length = f.data.size := by simp
  rw [List.length_append, List.length_append, List.length_replicate, hd]
  split
  · simp only [List.length_cons, List.length_nil]; omega
  · simp only [List.length_nil]; omega
theorem own_be {w : World} {B k n : Nat} {v : Value} (h : OwnB w B v (be k n)) : w.ownsRow B 5 1 v k (bvs (be k n)) := by unfold OwnB at h; rwa [be_length] at h
theorem bvs_two {a b : Nat} (ha : a < 256) (hb : b < 256) : bvs [UInt8.ofNat a, UInt8.ofNat b] = [Value.int .u8 (a : Int), .int .u8 (b : Int)] := by
  rw [bv_of (by omega) (by omega), bv_of (by omega) (by omega)]; rfl
set_option maxRecDepth 100000 in
set_option maxHeartbeats 8000000 in
theorem fput_any (f : Fr) (pd : Bool) (w : World) (hf : FrOk f pd) :
    Calls Try.prog 15 #[frV f] w (RetBE w (frB f pd) 0) := by
  obtain ⟨W0, hW0⟩ : ∃ W0, w.alloc (.cells f.cells 49) = W0 := ⟨_, rfl⟩
  obtain ⟨x, hx⟩ : ∃ x, w.heap.size = x := ⟨_, rfl⟩
  have b0 : Below w.heap.size w W0 := by rw [← hW0]; exact (Below.refl _ _).alloc (Nat.le_refl _) _
  have kx : W0.heap[x]? = some (.cells f.cells 49 (0, 0)) := by rw [← hW0, ← hx]; exact heapNew _ _
  have HF := Lib.hid (FrAt.of kx)
  have HMA := Lib.hid (may_any f pd W0 hf)
  have HPA := Lib.hid (fun w => payload_any f pd w hf)
  have hpl := payL_length f pd
  obtain ⟨P, hP⟩ : ∃ P, payL f pd = P := ⟨_, rfl⟩
  have HFB : Hid (frB f pd = be 3 P.length ++ [UInt8.ofNat f.ty, UInt8.ofNat f.fl] ++ be 4 f.st ++ P) := Lib.hid (by unfold frB; rw [hP])
  rw [hP] at HPA hpl
  obtain ⟨R, hR⟩ : ∃ R, frB f pd = R := ⟨_, rfl⟩
  rw [hR] at HFB ⊢
  clear hP hR
  obtain ⟨ty, fl, st, data, pad⟩ := f
  have hty := hf.ty
  have hty2 : ty < 256 := by have := hf.ty; simp only at this; omega
  have hfl := hf.fl
  have hst := hf.st
  have hpad := hf.pad
  have hda := hf.data
  obtain ⟨c0, c1, c2, c3, c4, c5, c6, c7, c8, c9, c10, c11, hxl⟩ := HF.out
  simp only at hty hfl hst hpad hda c0 c1 c2 c3 c4 hpl
  unfold frV at HMA HPA ⊢
  simp only [Fr.cells] at hW0 HMA HPA ⊢
  have HB := Lib.hid b0
  have HW0 := Lib.hid hW0
  have HX := Lib.hid hx
  clear hW0 hx b0 kx hf hty
  have hs0 := HB.out.size
  go_enter Try.func15, Try.ntmps15
  go_upto_region 1 with fail
  refine wp_named ?_
  intro W3 hW3
  obtain rfl : W3 = W0 := hW3.trans HW0.out
  rw [HX.out]
  clear hW3
  go_wp2_with fail
  refine HMA.out.mono ?_
  rintro e1 w1 ⟨rfl, hb1⟩
  have HF1 := Lib.hid (HF.out.below hb1)
  have HB1 := Lib.hid (HB.out.trans (hb1.mono hs0))
  obtain ⟨d0, d1, d2, d3, d4, d5, d6, d7, d8, d9, d10, d11, dl⟩ := HF1.out
  simp only at d0 d1 d2 d3 d4
  have hsz1 : W3.heap.size ≤ w1.heap.size := hb1.size
  clear hb1 c0 c1 c2 c3 c4 c5 c6 c7 c8 c9 c10 c11 HMA
  go_wp2_with fail
  refine (HPA.out _).mono ?_
  rintro e2 w2 ⟨v2, rfl, ho2, hb2⟩
  have HF2 := Lib.hid (HF1.out.below hb2)
  have HB2 := Lib.hid (HB1.out.trans (hb2.mono HB1.out.size))
  have hsz2 : w1.heap.size ≤ w2.heap.size := hb2.size
  obtain ⟨A2, c2', rfl, hr2⟩ := ho2.rd
  have HR2 := Lib.hid (And.intro ho2 hr2)
  clear hb2 ho2 hr2 d0 d1 d2 d3 d4 d5 d6 d7 d8 d9 d10 d11 HPA
  obtain ⟨c0, c1, c2, -, -, -, -, -, -, -, -, -, hxl2⟩ := HF2.out
  simp only at c0 c1 c2
  go_upto_region 6 with fail
  have ew : IntKind.u32.wrap (P.length : Int) = P.length := by rw [IntKind.wrap_u32]; omega
  have ew1 : IntKind.u8.wrap (ty : Int) = ty := by rw [IntKind.wrap_u8]; omega
  have ew2 : IntKind.u8.wrap (fl : Int) = fl := by rw [IntKind.wrap_u8]; omega
  have HPU : Hid (∀ w, Calls Try.prog 26 #[.int .u32 (P.length : Int), .int .i64 3] w (RetB w (be 3 P.length))) := Lib.hid fun w => oput_any P.length 3 w (by omega) (by omega) (by omega)
  have HTW := Lib.hid (bvs_two hty2 hfl)
  obtain ⟨cs, hcs⟩ : ∃ cs : Array Value, (#[.int .u8 (ty : Int), .int .u8 (fl : Int)] : Array Value) = cs := ⟨_, rfl⟩
  have HCS := Lib.hid hcs
  clear hcs
  go_cut [5] (fun y wx => OwnB wx w2.heap.size y (be 3 P.length ++ [UInt8.ofNat ty, UInt8.ofNat fl]) ∧ Below w2.heap.size w2 wx)
  case first =>
    have hone : ∀ u ∈ [Value.int .u8 (ty : Int), .int .u8 (fl : Int)], u.oneCell' = true := by simp [Value.oneCell']
    go_region_held3 (fun w' => w'.cell? ⟨x, 0, none⟩ = some (.int .i64 ty) ∧ w'.cell? ⟨x, 1, none⟩ = some (.int .i64 fl))
      (first | go_keep | exact ⟨k0, k1⟩)
      (first
        | (go_at_call 26; refine (HPU.out w2.drew).mono ?_; rintro e3 w3 ⟨v3, rfl, ho3, hb3⟩; have hb3' : Below w2.heap.size w2 w3 := ⟨hb3.os, hb3.tape, hb3.output, hb3.size, hb3.block⟩; have k0 := (hb3'.cell (p := ⟨x, 0, none⟩) hxl2).trans c0; have k1 := (hb3'.cell (p := ⟨x, 1, none⟩) hxl2).trans c1; have hxl3 : x < w3.heap.size := Nat.lt_of_lt_of_le hxl2 hb3'.size; have HO3 : Hid (w3.ownsRow w2.heap.size 5 1 v3 3 (bvs (be 3 P.length))) := Lib.hid (own_be ho3); have HB3 := Lib.hid hb3'; clear ho3 hb3 hb3')
        | (go_at_call 26; refine (HPU.out (w2.alloc (.cells #[.int .u8 (ty : Int), .int .u8 (fl : Int)] 5)).drew).mono ?_; rintro e3 w3 ⟨v3, rfl, ho3, hb3⟩; have hb4' : Below (w2.alloc (.cells #[.int .u8 (ty : Int), .int .u8 (fl : Int)] 5)).heap.size (w2.alloc (.cells #[.int .u8 (ty : Int), .int .u8 (fl : Int)] 5)) w3 := ⟨hb3.os, hb3.tape, hb3.output, hb3.size, hb3.block⟩; have hb3' : Below w2.heap.size w2 w3 := ((Below.refl _ w2).alloc (Nat.le_refl _) _).trans (hb4'.mono (by simp)); have k0 := (hb3'.cell (p := ⟨x, 0, none⟩) hxl2).trans c0; have k1 := (hb3'.cell (p := ⟨x, 1, none⟩) hxl2).trans c1; have HRS : Hid (Rd w3 w3.heap.size 1 (some ⟨w2.heap.size, 0, none⟩) 2 [Value.int .u8 (ty : Int), .int .u8 (fl : Int)]) := Lib.hid (((Rd.lit w2 #[.int .u8 (ty : Int), .int .u8 (fl : Int)] 5 2 rfl).below hb4' (by simp)).more (by have := hb4'.size; simp at this; omega)); have HO3 : Hid (w3.ownsRow w2.heap.size 5 1 v3 3 (bvs (be 3 P.length))) := Lib.hid (own_base5 (own_be ho3) (by show w2.heap.size ≤ (w2.alloc _).heap.size; simp)); have HB3 := Lib.hid hb3'; clear ho3 hb3 hb3' hb4')
        | (refine step_app (.tmp 17) (.tmp 24) tBytes rfl rfl (World.ownsRow.alloc HO3.out _) rfl (Rd.lit2 w3 #[.int .u8 (ty : Int), .int .u8 (fl : Int)] 5 2 (k := w3.heap.size) rfl rfl) rfl hone (le_maxLen (by omega)) (by omega) (by have := HB3.out.size; simp; omega) ?_; intro v4 w4 hown4 hg4 _; have HO4 : Hid (w4.ownsRow w2.heap.size 5 1 v4 (3 + 2) (bvs (be 3 P.length) ++ [Value.int .u8 (ty : Int), .int .u8 (fl : Int)]) ∧ Below w2.heap.size w2 w4) := Lib.hid ⟨hown4, Below.app (HB3.out.alloc HB3.out.size _) (World.ownsRow.alloc HO3.out _) hg4 (Nat.le_refl _) (by have := HB3.out.size; simp; omega)⟩; clear hown4 hg4; have j0 := (HO4.out.2.cell (p := ⟨x, 0, none⟩) hxl2).trans c0; have j1 := (HO4.out.2.cell (p := ⟨x, 1, none⟩) hxl2).trans c1; clear k0 k1; have k0 := j0; have k1 := j1)
        | (refine step_app (.tmp 17) (.tmp 24) tBytes rfl rfl HO3.out rfl HRS.out rfl hone (le_maxLen (by omega)) (by omega) HB3.out.size ?_; intro v4 w4 hown4 hg4 _; have HO4 : Hid (w4.ownsRow w2.heap.size 5 1 v4 (3 + 2) (bvs (be 3 P.length) ++ [Value.int .u8 (ty : Int), .int .u8 (fl : Int)]) ∧ Below w2.heap.size w2 w4) := Lib.hid ⟨hown4, Below.app HB3.out HO3.out hg4 (Nat.le_refl _) HB3.out.size⟩; clear hown4 hg4; have j0 := (HO4.out.2.cell (p := ⟨x, 0, none⟩) hxl2).trans c0; have j1 := (HO4.out.2.cell (p := ⟨x, 1, none⟩) hxl2).trans c1; clear k0 k1; have k0 := j0; have k1 := j1))
    all_goals
      go_wp2_with fail
      go_meet
      refine ⟨?_, HO4.out.2⟩
      have h4 := HO4.out.1
      rw [← HTW.out, ← bvs_append] at h4
      exact own_of h4
  case rest =>
    obtain ⟨ho5, hb5⟩ := hcut
    have HF5 := Lib.hid (HF2.out.below hb5)
    have HB5 := Lib.hid (HB2.out.trans (hb5.mono HB2.out.size))
    have HR5 := Lib.hid (HR2.out.2.below hb5 (Nat.le_refl _))
    have hsz5 : w2.heap.size ≤ wc.heap.size := hb5.size
    have hL3 : (be 3 P.length ++ [UInt8.ofNat ty, UInt8.ofNat fl]).length = 5 := by rw [List.length_append, be_length]; rfl
    have HO5 : Hid (wc.ownsRow w2.heap.size 5 1 u5 5 (bvs (be 3 P.length ++ [UInt8.ofNat ty, UInt8.ofNat fl]))) := Lib.hid (by unfold OwnB at ho5; rwa [hL3] at ho5)
    clear hb5 ho5 hL3 c0 c1 c2
    have e2 := HF5.out.c2
    simp only at e2
    go_wp2_with fail
    refine (four_any st _ (by omega)).mono ?_
    rintro e6 w6 ⟨v6, rfl, ho6, hb6⟩
    have HO6 : Hid (w6.ownsRow w2.heap.size 5 1 u5 5 (bvs (be 3 P.length ++ [UInt8.ofNat ty, UInt8.ofNat fl]))) := Lib.hid (own_kept4 HO5.out (Kept.of_below (F := fun _ => False) hb6) (fun _ _ h => h))
    have HR6 := Lib.hid (HR5.out.below (hb6.mono hsz5) (Nat.le_refl _))
    have HB6 := Lib.hid (HB5.out.trans (hb6.mono HB5.out.size))
    have hsz6 : wc.heap.size ≤ w6.heap.size := hb6.size
    obtain ⟨A6, c6, rfl, hr6⟩ := ho6.rd
    have hr6' : Rd w6 w6.heap.size 1 A6 4 (bvs (be 4 st)) := by rw [be_length] at hr6; exact hr6
    have HS6 := Lib.hid hr6'
    rw [be_length]
    have hs2w : w.heap.size ≤ w2.heap.size := HB2.out.size
    clear hb6 ho6 hr6 hr6' e2
    go_wp2_with (first
      | (at_builtin; refine wpList_app (.tmp 26) (.tmp 29) tBytes rfl rfl HO6.out rfl HS6.out rfl (bvs_one _) (le_maxLen (by omega)) (by omega) (by omega) ?_; intro v7 w7 hown7 hg7 _; have HO7 := Lib.hid (And.intro hown7 hg7); have HR7 := Lib.hid (HR6.out.grown hg7 (by omega) (fun g hg => (World.ownsRow.lt HO6.out g hg).1)); have hsz7 : w6.heap.size ≤ w7.heap.size := hg7.size; clear hown7 hg7)
      | (at_builtin; refine wpList_app (.tmp 30) (.tmp 31) tBytes rfl rfl HO7.out.1 rfl HR7.out rfl (bvs_one _) (le_maxLen (by omega)) (by omega) (by omega) ?_; intro v8 w8 hown8 hg8 _; have HO8 := Lib.hid (And.intro hown8 hg8); clear hown8 hg8))
    go_ret2
    refine ⟨v8, rfl, ?_, Below.app (Below.app HB6.out HO6.out HO7.out.2 hs2w (by omega)) HO7.out.1 HO8.out.2 hs2w (by omega)⟩
    have h8 := HO8.out.1
    rw [← bvs_append, ← bvs_append] at h8
    rw [HFB.out]
    exact (own_of h8).base hs2w
end Go.Proofs.Ytfpcamkimjecdaa

/- The walks of frame.misplaced, ahead, missized, unfit (no settings). -/
namespace Go.Proofs.Ytfpcamkimjecdaa
open Go.RowKit

def faultV (is : Bool) (code st : Int) : Value := .agg #[.bool is, .int .i64 code, .int .i64 st]
theorem infoFault : (Try.prog.info? 55).map (·.size) = some 3 := by kernel_rfl
set_option maxRecDepth 100000 in
set_option maxHeartbeats 4000000 in
theorem misplaced_any (ty st : Nat) (w : World) (hty : ty = 0 ∨ ty = 1 ∨ ty = 9) (hst : 0 < st) :
    Calls Try.prog 61 #[.int .i64 ty, .int .i64 st] w fun e w' => e = .returned (.bool false) ∧ w = w' := by
  have h1 : ((st : Int) == 0) = false := by rw [beq_eq_false_iff_ne]; omega
  rcases hty with rfl | rfl | rfl
  all_goals
    go_enter Try.func61, Try.ntmps61
    go_wp2
    go_ret
    exact ⟨rfl, rfl⟩
set_option maxRecDepth 100000 in
set_option maxHeartbeats 4000000 in
theorem ahead_any (ty fl : Nat) (pd : Bool) (w : World) (hty : ty = 0 ∨ ty = 1) (h8 : Go.bits .and .i64 (fl : Int) 8 = if pd then 8 else 0) (h32 : ty = 1 → Go.bits .and .i64 (fl : Int) 32 = 0) :
    Calls Try.prog 71 #[.int .i64 ty, .int .i64 fl] w fun e w' => e = .returned (.int .i64 (if pd then 1 else 0)) ∧ w = w' := by
  cases pd
  · simp only [Bool.false_eq_true, if_false] at h8 ⊢
    rcases hty with rfl | rfl
    · clear h32
      go_enter Try.func71, Try.ntmps71
      go_wp2
      go_ret
      exact ⟨rfl, rfl⟩
    · have h33 := h32 rfl
      clear h32
      go_enter Try.func71, Try.ntmps71
      go_wp2
      go_ret
      exact ⟨rfl, rfl⟩
  · simp only [if_true] at h8 ⊢
    rcases hty with rfl | rfl
    · clear h32
      go_enter Try.func71, Try.ntmps71
      go_wp2
      go_ret
      exact ⟨rfl, rfl⟩
    · have h33 := h32 rfl
      clear h32
      go_enter Try.func71, Try.ntmps71
      go_wp2
      go_ret
      exact ⟨rfl, rfl⟩
set_option maxRecDepth 100000 in
set_option maxHeartbeats 4000000 in
theorem missized_any (ty fl n : Nat) (pd : Bool) (w : World) (hty : ty = 0 ∨ ty = 1 ∨ ty = 9) (h8 : Go.bits .and .i64 (fl : Int) 8 = if pd then 8 else 0) (h32 : ty = 1 → Go.bits .and .i64 (fl : Int) 32 = 0) (hn : ty ≠ 9 → pd = true → 1 ≤ n) :
    Calls Try.prog 62 #[.int .i64 ty, .int .i64 fl, .int .i64 n] w fun e w' => e = .returned (.bool false) ∧ Below w.heap.size w w' := by
  by_cases h9 : ty = 9
  · subst h9
    clear h8 h32 hn hty
    go_enter Try.func62, Try.ntmps62
    go_wp2_with fail
    go_ret
    exact ⟨rfl, (Below.refl _ _).alloc (Nat.le_refl _) _⟩
  · have hty' : ty = 0 ∨ ty = 1 := by omega
    have HA := Lib.hid (fun w => ahead_any ty fl pd w hty' h8 h32)
    have hn2 := hn h9
    clear h8 h32 hn hty h9
    cases pd
    · simp only [Bool.false_eq_true, if_false] at HA
      clear hn2
      rcases hty' with rfl | rfl
      all_goals
        go_enter Try.func62, Try.ntmps62
        go_wp2_with fail
        refine (HA.out _).mono ?_
        rintro e w1 ⟨rfl, rfl⟩
        go_wp2_with fail
        go_ret
        exact ⟨rfl, (Below.refl _ _).alloc (Nat.le_refl _) _⟩
    · simp only [if_true] at HA
      have hn3 : 1 ≤ (n : Int) := by have := hn2 rfl; omega
      clear hn2
      rcases hty' with rfl | rfl
      all_goals
        go_enter Try.func62, Try.ntmps62
        go_wp2_with fail
        refine (HA.out _).mono ?_
        rintro e w1 ⟨rfl, rfl⟩
        go_wp2_with fail
        go_ret
        refine ⟨?_, (Below.refl _ _).alloc (Nat.le_refl _) _⟩
        show Ending.returned (.bool (decide ((n : Int) < 1))) = _
        rw [decide_eq_false (by omega)]
def UnRel (W : World) (iv : Value) (wr : World) : Prop := iv = .int .i64 0 ∧ wr = W
set_option maxRecDepth 100000 in
set_option maxHeartbeats 4000000 in
theorem unfit_nil (w : World) :
    Calls Try.prog 64 #[.slice none 0 0] w fun e w' => e = .returned (faultV false 0 0) ∧ Below w.heap.size w w' := by
  go_enter Try.func64, Try.ntmps64
  go_upto_region 1 with fail
  refine wp_named ?_
  intro W0 hW0
  have kx : W0.heap[w.heap.size]? = some (.cells #[.bool false, .int .i64 0, .int .i64 0] 55 (0, 0)) := by rw [hW0]; exact heapNew _ _
  have b0 : Below w.heap.size w W0 := by rw [hW0]; exact (Below.refl _ _).alloc (Nat.le_refl _) _
  have HK := Lib.hid (And.intro kx b0)
  clear hW0 kx b0
  go_wp2_with fail
  go_loopw [4, 7] (fun _ iv wr => UnRel W0 iv wr) (fun _ iv _ => 0)
  case atStart => exact ⟨rfl, rfl⟩
  case round =>
    obtain ⟨rfl, rfl⟩ := hrel
    go_wp2_with (refine wpList_store_rowTo rfl 55 (.tmp 2) (.tmp 45) rfl rfl w.heap.size #[.bool false, .int .i64 0, .int .i64 0] rfl rfl 55 _ HK.out.1 infoFault rfl (by simp [Value.oneCell']) ?_)
    refine bodyPost_ret (results_cell_row rfl _ _ w.heap.size 55 _ (0, 0) _ rfl (setRow_heap _ _ _ _ _ _ HK.out.1) Try.underlying55 rfl infoFault) rfl ?_
    exact ⟨rfl, HK.out.2.trans ⟨rfl, rfl, rfl, by simp, fun k hk => setRow_other _ _ _ _ (by omega)⟩⟩
end Go.Proofs.Ytfpcamkimjecdaa

/- The walk of frame.open. -/
namespace Go.Proofs.Ytfpcamkimjecdaa
open Go.RowKit

def Fr.bare (f : Fr) : Fr := ⟨f.ty, f.fl, f.st, ⟨#[]⟩, 0⟩
def OpenPost (w : World) (x : Nat) (f : Fr) (e : Ending) (w' : World) : Prop := e = .returned (.bool true) ∧ w'.heap[x]? = some (.cells f.cells 49 (0, 0)) ∧ Kept (fun k => k = x) w w'
theorem toStr (s : ByteArray) : (⟨s.data.toList.toArray⟩ : ByteArray) = s := by cases s; simp
set_option maxRecDepth 100000 in
set_option maxHeartbeats 4000000 in
theorem open_nine {A : Option Addr} {n cap x : Nat} (f : Fr) (pd : Bool) (w : World) (hf : FrOk f pd) (h9 : f.ty = 9) (kx : w.heap[x]? = some (.cells f.bare.cells 49 (0, 0))) (hr : Rd w w.heap.size 1 A n (bvs (payL f pd))) :
    Calls Try.prog 63 #[.pointer (some ⟨x, 0, none⟩), .slice A n cap] w (OpenPost w x f) := by
  obtain ⟨ty, fl, st, data, pad⟩ := f
  have hp := hf.c9 h9
  simp only at h9 hp
  subst h9 hp
  rw [payL_nine, List.nil_append] at hr
  have e1 := run_str Try.underlying23 Try.underlying5 Try.underlying9 hr cap
  rw [toStr] at e1
  have HK := Lib.hid kx
  obtain ⟨c0, c1, c2, c3, c4, c5, c6, c7, c8, c9, c10, c11, hxl⟩ := FrAt.of kx
  simp only [Fr.bare] at c0 c1 c2 c3 c4
  have fz : w.frozen? ⟨x, 3, none⟩ = false := by unfold World.frozen?; rw [kx]; rfl
  clear kx hr hf
  go_enter Try.func63, Try.ntmps63
  go_wp2_with fail
  go_ret
  refine ⟨rfl, ?_, (Kept.refl (fun k => k = x) w).setCell (g := x) rfl 3 _⟩
  rw [set_b7 _ HK.out]
  rfl
set_option maxRecDepth 100000 in
set_option maxHeartbeats 4000000 in
theorem open_plain {A : Option Addr} {n cap x : Nat} (f : Fr) (w : World) (hf : FrOk f false) (h9 : f.ty = 0 ∨ f.ty = 1) (kx : w.heap[x]? = some (.cells f.bare.cells 49 (0, 0))) (hr : Rd w w.heap.size 1 A n (bvs (payL f false))) (hc : n ≤ cap) (hm : cap ≤ maxLen) :
    Calls Try.prog 63 #[.pointer (some ⟨x, 0, none⟩), .slice A n cap] w (OpenPost w x f) := by
  obtain ⟨ty, fl, st, data, pad⟩ := f
  have hp := hf.np rfl
  have h8 := hf.f8
  have h32 := hf.f32
  simp only [Bool.false_eq_true, if_false] at h9 hp h8 h32
  subst hp
  rw [payL_no, List.nil_append, List.replicate_zero, List.append_nil] at hr
  have e1 := run_str Try.underlying23 Try.underlying5 Try.underlying9 hr cap
  rw [toStr] at e1
  have HK := Lib.hid kx
  obtain ⟨c0, c1, c2, c3, c4, c5, c6, c7, c8, c9, c10, c11, hxl⟩ := FrAt.of kx
  simp only [Fr.bare] at c0 c1 c2 c3 c4
  have fz : w.frozen? ⟨x, 3, none⟩ = false := by unfold World.frozen?; rw [kx]; rfl
  have hcm : cap ≤ 9223372036854775807 := by unfold maxLen at hm; exact hm
  clear kx hr hf hm
  rcases h9 with rfl | rfl
  · clear h32
    go_enter Try.func63, Try.ntmps63
    go_wp2_with fail
    go_ret
    refine ⟨rfl, ?_, (Kept.refl (fun k => k = x) w).setCell (g := x) rfl 3 _⟩
    rw [set_b7 _ HK.out]
    rfl
  · have h33 := h32 rfl
    clear h32
    go_enter Try.func63, Try.ntmps63
    go_wp2_with fail
    go_ret
    refine ⟨rfl, ?_, (Kept.refl (fun k => k = x) w).setCell (g := x) rfl 3 _⟩
    rw [set_b7 _ HK.out]
    rfl
set_option maxRecDepth 100000 in
set_option maxHeartbeats 4000000 in
theorem open_padded {A : Option Addr} {n cap x : Nat} (f : Fr) (w : World) (hf : FrOk f true) (h1 : 1 ≤ f.pad) (h9 : f.ty = 0 ∨ f.ty = 1) (kx : w.heap[x]? = some (.cells f.bare.cells 49 (0, 0))) (hr : Rd w w.heap.size 1 A n (bvs (payL f true))) (hc : n ≤ cap) (hm : cap ≤ maxLen) (hx : ∀ a, A = some a → a.block ≠ x) :
    Calls Try.prog 63 #[.pointer (some ⟨x, 0, none⟩), .slice A n cap] w (OpenPost w x f) := by
  obtain ⟨ty, fl, st, data, pad⟩ := f
  have hpad := hf.pad
  have h8 := hf.f8
  have h32 := hf.f32
  simp only [if_true] at h9 h8 h32 h1 hpad
  rw [payL_pad (by omega)] at hr
  have hln := hr.blen
  have hd : data.data.toList.length = data.size := by simp
  simp only [List.length_append, List.length_cons, List.length_nil, List.length_replicate, hd] at hln
  obtain ⟨-, b, o, rfl, hb, hcc⟩ := hr.bas (by omega)
  have hbx : b ≠ x := hx _ rfl
  have p0 : w.cell? ⟨b, o, none⟩ = some (.int .u8 pad) := by
    have := hcc 0 (by omega)
    rw [Nat.add_zero] at this
    rw [this]
    congr 2
    show ((UInt8.ofNat pad).toNat : Int) = pad
    rw [toNat_ofNat (by omega)]
  have hr1 := hr.lh (lo := 1) (hi := 1 + data.size) (by omega) (by omega) hc
  rw [if_neg (by omega), show 1 + data.size - 1 = data.size by omega] at hr1
  have e1 : ((([UInt8.ofNat pad] ++ data.data.toList ++ List.replicate pad 0).drop 1).take data.size) = data.data.toList := by
    simp only [List.cons_append, List.drop_succ_cons, List.drop_zero]
    rw [← hd]; exact List.take_left
  rw [e1] at hr1
  have HK := Lib.hid kx
  obtain ⟨c0, c1, c2, c3, c4, c5, c6, c7, c8, c9, c10, c11, hxl⟩ := FrAt.of kx
  simp only [Fr.bare] at c0 c1 c2 c3 c4
  have fz : ∀ o, w.frozen? ⟨x, o, none⟩ = false := fun o => by unfold World.frozen?; rw [kx]; rfl
  have fz4 := fz 4
  have fz3 := fz 3
  have hcm : cap ≤ 9223372036854775807 := by unfold maxLen at hm; exact hm
  have hcv : (convert 23 9 (.slice (some ⟨b, o + 1, none⟩) (n - 1 - pad) (cap - 1))).run Try.prog (w.setCell ⟨x, 4, none⟩ (.int .i64 pad)).drew = .ok (.string data) (w.setCell ⟨x, 4, none⟩ (.int .i64 pad)).drew := by
    have hr2 : Rd (w.setCell ⟨x, 4, none⟩ (.int .i64 pad)).drew w.heap.size 1 (some ⟨b, o + 1, none⟩) (n - 1 - pad) (bvs data.data.toList) := by
      rw [show n - 1 - pad = data.size by omega]
      refine ⟨hr1.1, fun h0 => ?_⟩
      obtain ⟨b', o', he, hb', hc'⟩ := hr1.2 h0
      simp [Addr.add_lit] at he
      obtain ⟨rfl, rfl⟩ := he
      exact ⟨_, _, rfl, hb', fun j hj => (World.cell?_setCell_other w _ ⟨b, o + 1 + j, none⟩ _ (fun e => hbx (by injection e with e1; exact e1.symm))).trans (hc' j hj)⟩
    have := run_str Try.underlying23 Try.underlying5 Try.underlying9 hr2 (cap - 1)
    rwa [toStr] at this
  clear kx hr hf hm hr1 e1 hd hcc hx fz
  rcases h9 with rfl | rfl
  · clear h32
    go_enter Try.func63, Try.ntmps63
    go_upto_region 5 with fail
    go_region
    all_goals
      go_wp2_with fail
      go_ret
      refine ⟨rfl, ?_, (((Kept.refl (fun k => k = x) w).setCell (g := x) rfl 4 _).setCell (g := x) rfl 3 _).drew⟩
      show ((w.setCell ⟨x, 4, none⟩ (.int .i64 pad)).setCell ⟨x, 3, none⟩ (.string data)).heap[x]? = _
      rw [set_b7 _ (set_b7 (w := w) _ HK.out)]
      rfl
  · have h33 := h32 rfl
    clear h32
    go_enter Try.func63, Try.ntmps63
    go_upto_region 5 with fail
    go_region
    all_goals
      go_wp2_with fail
      go_ret
      refine ⟨rfl, ?_, (((Kept.refl (fun k => k = x) w).setCell (g := x) rfl 4 _).setCell (g := x) rfl 3 _).drew⟩
      show ((w.setCell ⟨x, 4, none⟩ (.int .i64 pad)).setCell ⟨x, 3, none⟩ (.string data)).heap[x]? = _
      rw [set_b7 _ (set_b7 (w := w) _ HK.out)]
      rfl
end Go.Proofs.Ytfpcamkimjecdaa
