/- 9 texts in one: HDec2, HDec3, HDec4, HDec5, RTab4, HTab1, HTab2, HTab3, HTab4. -/
import Derived.Test.YtpkmciohehaboaaGreatDoorM5
import Derived.Deep.RegionLaw
import Derived.Deep.RegionHeld3
import Derived.Deep.DeepCutAuto
import Derived.StillTailTactics
import Derived.Defers
import Derived.Recover
import Derived.Test.YtpkmciohehaboaaGreatDoorM3
import Derived.IntWalk
/- The walks of hpack.reader's put, resize. -/
namespace Go.Proofs.YtpkmciohehaboaaGreatDoor
open Go.RowKit

theorem Rd.one3 (w : World) (x y z : Value) (t : TypeId) : Rd (w.alloc (.cells #[x, y, z] t)) (w.heap.size + 1) 3 (some ⟨w.heap.size, 0, none⟩) 1 [x, y, z] := by
  refine ⟨rfl, fun _ => ⟨_, _, rfl, by omega, fun j hj => ?_⟩⟩
  rw [World.cell?_alloc_at _ _ _ _ rfl]
  simp
/-- One field more. -/
theorem RdS.app {W w w4 : World} {p d g N cl : Nat} {F0 F : Nat → Prop} {mo li : Int} {S : HSt} {AL : Option Addr} {fv v4 : Value} {o : Obj} (f : Fd) (h : RdS W w p d g N F0 F mo li S AL cl fv) (hown : w4.ownsRow W.heap.size 26 3 v4 (S.fields.length + 1) (fds S.fields ++ [.string f.1.1, .string f.1.2, .bool f.2]))
    (hg : (w.alloc o).drew.grownBy w4 fv.ownBlock) (hb : v4.ownBlock = fv.ownBlock ∨ v4.ownBlock = some (w.alloc o).drew.heap.size) :
    RdS W (w4.setCell ⟨p, 2, none⟩ v4) p d g N F0 F mo li { S with fields := S.fields ++ [f] } AL cl v4 := by
  have hsz : w.heap.size + 1 ≤ w4.heap.size := by have := hg.size; simpa [World.drew] using this
  have hkw : Kept (fun k => fv.ownBlock = some k) w w4 := ((Kept.refl _ _).alloc o).drew.grown hg (fun k hk => .inl hk)
  have hold : ∀ k, k < w.heap.size → fv.ownBlock ≠ some k → k ≠ p → (w4.setCell ⟨p, 2, none⟩ v4).heap[k]? = w.heap[k]? := fun k hk hn hp =>
    (Below.heap_setCell _ _ _ _ hp).trans (hkw.block k hk hn)
  have hfF : ∀ k, v4.ownBlock = some k → ¬ F k ∧ k ≠ p := fun k hk => by
    rcases hb with e | e
    · exact h.fF k (e ▸ hk)
    · rw [e] at hk
      injection hk with hk
      simp [World.drew] at hk
      exact ⟨fun hf => by have := h.tab.lt k hf; omega, by have := h.pw; omega⟩
  have hkc : Kept (fun k => k = p ∨ fv.ownBlock = some k) w (w4.setCell ⟨p, 2, none⟩ v4) := (hkw.mono (fun k hk => .inr hk)).setCell (.inl rfl) _ _
  exact
  { tab := h.tab.keep fun k hk => hold k (h.tab.lt k hk) (fun e => (h.fF k e).1 hk) (fun e => h.pF (e ▸ hk))
    dec := (hold d h.dw (fun e => by have := (h.fld.lt d e).1; have := h.dl; omega) (fun e => by have := h.dl; have := h.pl; omega)).trans h.dec
    rdr := by
      have hp4 : w4.heap[p]? = some (rdB d AL S.left.length cl fv S.cost S.changes) := (hkw.block p h.pw (fun e => (h.fF p e).2 rfl)).trans h.rdr
      rw [set_b _ hp4]
      rfl
    left := h.left.kept hkc (fun h0 a ha e => by
      have h1 := (h.lF h0 a ha).2.2
      rcases e with e | e
      · have := h.pl; omega
      · have := (h.fld.lt _ e).1; omega)
    lcap := h.lcap
    lF := h.lF
    fld := by
      rw [List.length_append, fds_app]
      exact own_kept4 hown ((Kept.refl (fun k => k = p) w4).setCell rfl 2 v4) (fun q hq e => (hfF q hq).2 e)
    fF := hfF
    grew := h.grew
    kept := ⟨hkc.os.trans h.kept.os, hkc.tape.trans h.kept.tape, hkc.output.trans h.kept.output, Nat.le_trans h.kept.size hkc.size, fun k hk1 hn => (hkc.block k (Nat.lt_of_lt_of_le hk1 h.kept.size) (fun e => by
      rcases e with e | e
      · have := h.pl; omega
      · have := (h.fld.lt _ e).1; omega)).trans (h.kept.block k hk1 hn)⟩
    dl := h.dl
    dF := h.dF
    pl := h.pl
    pF := h.pF }
set_option maxRecDepth 100000 in
set_option maxHeartbeats 2000000 in
theorem put_any {W w : World} {p d g N cl L : Nat} {F0 F : Nat → Prop} {mo li : Int} {S : HSt} {AL : Option Addr} {fv : Value} (f : Fd) (h : RdS W w p d g N F0 F mo li S AL cl fv) (hok : HOk L S) (hL : L ≤ 1048576) (h1 : f.1.1.size ≤ 65536) (h2 : f.1.2.size ≤ 65536) :
    Calls Tryz.prog 201 #[.pointer (some ⟨p, 0, none⟩), .agg #[.string f.1.1, .string f.1.2, .bool f.2]] w fun e w' => e = .returned (.tuple #[]) ∧ ∃ fv', RdS W w' p d g N F0 F mo li (S.put S.left f) AL cl fv' ∧ Mv w w' p F F fv fv' := by
  obtain ⟨W0, hW0⟩ : ∃ W0, w.alloc (.cells #[.string f.1.1, .string f.1.2, .bool f.2] 26) = W0 := ⟨_, rfl⟩
  obtain ⟨q, hq⟩ : ∃ q, w.heap.size = q := ⟨_, rfl⟩
  have b0 : Below w.heap.size w W0 := by rw [← hW0]; exact (Below.refl _ _).alloc (Nat.le_refl _) _
  have h0 := h.below b0
  have k0 : W0.heap[q]? = some (.cells #[.string f.1.1, .string f.1.2, .bool f.2] 26 (0, 0)) := by rw [← hW0, ← hq]; exact heapNew _ _
  have g0 : W0.cell? ⟨q, 0, none⟩ = some (.string f.1.1) := by unfold World.cell?; rw [k0]; rfl
  have g1 : W0.cell? ⟨q, 1, none⟩ = some (.string f.1.2) := by unfold World.cell?; rw [k0]; rfl
  have g2 : W0.cell? ⟨q, 2, none⟩ = some (.bool f.2) := by unfold World.cell?; rw [k0]; rfl
  obtain ⟨-, -, -, c3, -⟩ := h0.cells
  have f3 := h0.free 3
  have hpq : p ≠ q := by have := h.pw; omega
  have hc := hok.costle
  have hcl := hok.len
  have HW0 := Lib.hid hW0
  have HQ := Lib.hid hq
  have H0 := Lib.hid h0
  have HB0 := Lib.hid b0
  have HK := Lib.hid k0
  clear hW0 hq b0 h0 k0 h
  go_enter Tryz.func201, Tryz.ntmps201
  go_upto_region 1 with fail
  rw [HW0.out, HQ.out]
  go_region
  obtain ⟨W1, hW1⟩ : ∃ W1, (W0.setCell ⟨p, 3, none⟩ (.int .i64 ((S.cost : Int) + ((f.1.1.size : Int) + f.1.2.size + 32)))).drew = W1 := ⟨_, rfl⟩
  have h1 : RdS W W1 p d g N F0 F mo li { S with cost := S.cost + cost f.1 } AL cl fv := by
    rw [← hW1]
    have hkw := ((Kept.refl (fun q => q = p) W0).setCell (g := p) rfl 3 (.int .i64 ((S.cost : Int) + ((f.1.1.size : Int) + f.1.2.size + 32)))).drew
    refine H0.out.turn (S' := { S with cost := S.cost + cost f.1 }) rfl hkw ?_ rfl (H0.out.left.kept hkw (fun h0 a ha e => by have := (H0.out.lF h0 a ha).2.2; have := H0.out.pl; omega)) H0.out.lcap (fun h0 a ha => ⟨a, ha, rfl, h0⟩)
    show (W0.setCell ⟨p, 3, none⟩ _).heap[p]? = _
    rw [set_b _ H0.out.rdr]
    rfl
  have hq1 : W1.heap[q]? = W0.heap[q]? := by rw [← hW1]; exact Below.heap_setCell _ _ _ _ (fun e => hpq e.symm)
  have HM1 : Hid (Mv w W1 p F F fv fv) := Lib.hid (by rw [← hW1]; exact (((Mv.refl w p F fv).below HB0.out).trans (Mv.set _ _ _ _ _ _)).below (Below.refl _ _).drew)
  rw [hW1]
  clear hW1
  have k1 := hq1.trans HK.out
  have e0 : W1.cell? ⟨q, 0, none⟩ = some (.string f.1.1) := by unfold World.cell?; rw [k1]; rfl
  have e1 : W1.cell? ⟨q, 1, none⟩ = some (.string f.1.2) := by unfold World.cell?; rw [k1]; rfl
  have e2 : W1.cell? ⟨q, 2, none⟩ = some (.bool f.2) := by unfold World.cell?; rw [k1]; rfl
  obtain ⟨-, -, c2, -, -⟩ := h1.cells
  have f2 := h1.free 2
  have hpw := h1.pw
  obtain ⟨A9, c9, hv9, -⟩ := own_slice h1.fld
  simp only at hv9
  subst hv9
  have H1 := Lib.hid h1
  obtain ⟨n, hn⟩ : ∃ n, S.fields.length = n := ⟨_, rfl⟩
  have HN := Lib.hid hn
  have hown := h1.fld
  simp only at hown
  rw [hn] at hcl hown hc c2
  have HOWN := Lib.hid hown
  clear g0 g1 g2 c3 f3 hq1 k1 h1 hn hown
  go_upto_region 2 with fail
  go_region_law (first
    | (refine step_app (.tmp 23) (.tmp 25) tFields rfl rfl (HOWN.out.alloc _) rfl (Rd.one3 W1 _ _ _ _) rfl (fds_one [f]) (le_maxLen (by omega)) (by omega) (by have := H1.out.kept.size; simp; omega) ?_; intro v4 w4 hown4 hg4 hb4; obtain ⟨A4, c4, rfl, -, -, -, hbase⟩ := own_slice hown4; have hp5 : w4.heap[p]? = W1.heap[p]? := (hg4.block p (by simp; omega) (fun e => (H1.out.fF p (by rw [HN.out]; exact e.symm)).2 rfl)).trans (Below.heap_alloc W1 _ p hpw); have m1 : w4.cell? ⟨p, 2, none⟩ = some (.slice A9 n c9) := (World.cell?_of_block (a := ⟨p, 2, none⟩) hp5).trans c2; have mf : w4.frozen? ⟨p, 2, none⟩ = false := (World.frozen?_of_block (a := ⟨p, 2, none⟩) hp5).trans f2; have H5 := Lib.hid (And.intro hown4 (And.intro hg4 (And.intro hb4 hp5))); clear hown4 hg4 hbase hp5 hb4))
  all_goals
    go_wp2_with fail
    go_end0
    obtain ⟨hown4, hg4, hb4, hp5⟩ := H5.out
    have h9 := H1.out.app f (by rw [HN.out]; exact hown4) (by rw [HN.out]; exact hg4) (by rw [HN.out]; exact hb4)
    have hm : Mv W1 (w4.setCell ⟨p, 2, none⟩ (.slice A4 (n + 1) c4)) p F F (.slice A9 S.fields.length c9) (.slice A4 (n + 1) c4) := by
      have hgg : (W1.alloc (.cells #[.string f.1.1, .string f.1.2, .bool f.2] 26)).drew.grownBy w4 (Value.slice A9 S.fields.length c9).ownBlock := by rw [HN.out]; exact hg4
      refine ⟨((((Kept.refl _ W1).alloc _).drew).grown hgg (fun k hk => .inl (.inr (.inr hk)))).setCell (.inl rfl) _ _, Grew.refl _ _, fun k hk => ?_⟩
      rcases hb4 with e | e
      · left; rw [HN.out]; rw [← e]; exact hk
      · right
        rw [e] at hk
        injection hk with hk
        simp [World.drew] at hk
        omega
    first
      | exact ⟨rfl, _, h9, HM1.out.trans hm⟩
      | exact ⟨rfl, _, h9.below ((Below.refl _ _).drew), (HM1.out.trans hm).below ((Below.refl _ _).drew)⟩
/-- A change of size. -/
def rszP (mo : Int) (S : HSt) : Except Nat HSt :=
  if (takeI 31 S.left).2.2 ≠ 0 then .error (takeI 31 S.left).2.2
  else if 0 < S.fields.length ∨ 2 < S.changes + 1 ∨ mo < ((takeI 31 S.left).1 : Int) then .error 50
  else .ok { S with T := S.T.resize (takeI 31 S.left).1, left := S.left.drop (takeI 31 S.left).2.1, changes := S.changes + 1 }
def PartPost (W w : World) (p d g N : Nat) (F0 F : Nat → Prop) (mo li : Int) (fv : Value) (r : Except Nat HSt) (e : Ending) (w' : World) : Prop :=
  match r with
  | .error z => e = errP z ∧ ∃ S' F' AL cl fv', RdS W w' p d g N F0 F' mo li S' AL cl fv' ∧ Mv w w' p F F' fv fv'
  | .ok S' => e = .returned (.tuple #[]) ∧ ∃ F' AL cl fv', RdS W w' p d g N F0 F' mo li S' AL cl fv' ∧ Mv w w' p F F' fv fv'
theorem RdS.setChg {W w : World} {p d g N cl : Nat} {F0 F : Nat → Prop} {mo li : Int} {S : HSt} {AL : Option Addr} {fv : Value} (h : RdS W w p d g N F0 F mo li S AL cl fv) {k : Nat} {v : Int} (hv : v = (k : Int)) : RdS W (w.setCell ⟨p, 4, none⟩ (.int .i64 v)) p d g N F0 F mo li { S with changes := k } AL cl fv := by
  subst hv
  have hkw := (Kept.refl (fun q => q = p) w).setCell (g := p) rfl 4 (.int .i64 (k : Int))
  refine h.turn (S' := { S with changes := k }) rfl hkw ?_ rfl (h.left.kept hkw (fun h0 a ha e => by have := (h.lF h0 a ha).2.2; have := h.pl; omega)) h.lcap (fun h0 a ha => ⟨a, ha, rfl, h0⟩)
  rw [set_b _ h.rdr]
  rfl
theorem full5 : Full 5 31 := by constructor <;> decide
set_option maxRecDepth 100000 in
set_option maxHeartbeats 2000000 in
theorem resize_any2 {W w : World} {p d g N cl L : Nat} {F0 F : Nat → Prop} {mo li : Int} {S : HSt} {AL : Option Addr} {fv : Value} (h : RdS W w p d g N F0 F mo li S AL cl fv) (hok : HOk L S) (hmo : mo ≤ 65536) :
    Calls Tryz.prog 206 #[.pointer (some ⟨p, 0, none⟩)] w (PartPost W w p d g N F0 F mo li fv (rszP mo S)) := by
  have HN := Lib.hid (number_any2 full5 h)
  have hchg := hok.chg
  have hlen := hok.len
  have hbd := takeI_bd (show 31 ≤ 255 by omega) S.left
  obtain ⟨⟨n, a, z⟩, hv⟩ : ∃ r, takeI 31 S.left = r := ⟨_, rfl⟩
  have E0 : Hid (z ≠ 0 → rszP mo S = .error z) := Lib.hid fun h => by unfold rszP; rw [hv]; exact if_pos h
  have E1 : Hid (z = 0 → (0 < S.fields.length ∨ 2 < S.changes + 1 ∨ mo < (n : Int)) → rszP mo S = .error 50) := Lib.hid fun h h2 => by unfold rszP; rw [hv]; rw [if_neg (by simpa using h)]; exact if_pos h2
  have E2 : Hid (z = 0 → ¬ (0 < S.fields.length ∨ 2 < S.changes + 1 ∨ mo < (n : Int)) → rszP mo S = .ok { S with T := S.T.resize n, left := S.left.drop a, changes := S.changes + 1 }) := Lib.hid fun h h2 => by unfold rszP; rw [hv]; rw [if_neg (by simpa using h)]; exact if_neg h2
  rw [hv] at HN hbd
  simp only at hbd
  clear hv h hok
  go_enter Tryz.func206, Tryz.ntmps206
  go_wp2_with fail
  refine HN.out.mono ?_
  rintro e w1 ⟨hm1, ⟨hz, rfl, AL1, cl1, h1⟩ | ⟨hz, rfl, AL1, cl1, h1⟩⟩
  · simp only at hz
    have H1 := Lib.hid h1
    have HZ := Lib.hid hz
    have HM1 := Lib.hid hm1
    clear h1 hbd hz hm1
    unfold errP
    go_wp2
    rw [E0.out HZ.out]
    exact ⟨rfl, rfl, _, _, _, _, _, H1.out, HM1.out⟩
  · simp only at hz
    subst hz
    simp only at h1
    obtain ⟨h31, -, -, -⟩ := hbd rfl
    obtain ⟨-, -, -, -, c4⟩ := h1.cells
    have f4 := h1.free 4
    have H2 := Lib.hid (h1.setChg (k := S.changes + 1) (v := (S.changes : Int) + 1) (by omega))
    clear h1 hbd
    simp only at c4
    obtain ⟨w2, hw2⟩ : ∃ w2, w1.setCell ⟨p, 4, none⟩ (.int .i64 ((S.changes : Int) + 1)) = w2 := ⟨_, rfl⟩
    rw [hw2] at H2
    have HM2 : Hid (Mv w w2 p F F fv fv) := Lib.hid (by rw [← hw2]; exact hm1.trans (Mv.set _ _ _ _ _ _))
    clear hm1
    obtain ⟨d0, -, d2, -, d4⟩ := H2.out.cells
    obtain ⟨e0, -, e2, -⟩ := H2.out.dcells
    simp only at d2 d4
    obtain ⟨A9, c9, hv9, -⟩ := own_slice H2.out.fld
    simp only at hv9
    subst hv9
    obtain ⟨fl, hfl⟩ : ∃ fl, S.fields.length = fl := ⟨_, rfl⟩
    rw [hfl] at d2 hlen E1 E2
    obtain ⟨ch, hch⟩ : ∃ ch, S.changes + 1 = ch := ⟨_, rfl⟩
    have hch1 : (S.changes : Int) + 1 = ch := by omega
    have HW2 := Lib.hid hw2
    rw [hch] at d4 E1 E2 H2
    have HCH := Lib.hid hch1
    clear hfl hch hw2 hch1
    go_upto_region 2 with fail
    rw [HW2.out]
    have hcase : 0 < fl ∨ (¬ 0 < fl ∧ 2 < ch) ∨ (¬ 0 < fl ∧ ¬ 2 < ch ∧ mo < n) ∨ (¬ 0 < fl ∧ ¬ 2 < ch ∧ ¬ mo < n) := by omega
    clear c4 f4
    rcases hcase with q1 | ⟨q1, q2⟩ | ⟨q1, q2, q3⟩ | ⟨q1, q2, q3⟩
    · have E9 := Lib.hid (E1.out (by trivial) (.inl q1))
      have q4 : (0 : Int) < fl := by omega
      clear q1
      go_wp2
      rw [E9.out]
      exact ⟨rfl, rfl, _, _, _, _, _, H2.out, HM2.out⟩
    · have E9 := Lib.hid (E1.out (by trivial) (.inr (.inl q2)))
      have q4 : ¬ (0 : Int) < fl := by omega
      have q5 : (2 : Int) < ch := by omega
      clear q1 q2
      go_wp2
      rw [E9.out]
      exact ⟨rfl, rfl, _, _, _, _, _, H2.out, HM2.out⟩
    · have E9 := Lib.hid (E1.out (by trivial) (.inr (.inr q3)))
      have q4 : ¬ (0 : Int) < fl := by omega
      have q5 : ¬ (2 : Int) < ch := by omega
      clear q1 q2
      go_wp2
      rw [E9.out]
      exact ⟨rfl, rfl, _, _, _, _, _, H2.out, HM2.out⟩
    · have E9 := Lib.hid (E2.out (by trivial) (by omega))
      have q4 : ¬ (0 : Int) < fl := by omega
      have q5 : ¬ (2 : Int) < ch := by omega
      have HR := Lib.hid (resize_any (n : Int) w2 H2.out.tab (by omega) (by omega))
      clear q1 q2
      go_wp2_with fail
      refine HR.out.mono ?_
      rintro e w3 ⟨rfl, F3, ht3, hk3, hg3⟩
      have H3 := Lib.hid (H2.out.tabStep ht3 hk3 hg3)
      have HM3 := Lib.hid (HM2.out.trans (⟨hk3.mono (fun _ h => .inr (.inl h)), hg3, fun _ h => .inl h⟩ : Mv w2 w3 p F F3 _ _))
      clear ht3 hk3 hg3
      go_wp2_with fail
      go_end0
      rw [E9.out]
      exact ⟨rfl, _, _, _, _, H3.out, HM3.out⟩
end Go.Proofs.YtpkmciohehaboaaGreatDoor

/- The walk of hpack.reader's literal. -/
namespace Go.Proofs.YtpkmciohehaboaaGreatDoor
open Go.RowKit

def litR (Fm : Nat) (T : Tb) (l : List UInt8) : Except Nat (Rw × List UInt8) := if (takeI Fm l).2.2 ≠ 0 then .error (takeI Fm l).2.2 else litP T (takeI Fm l).1 (l.drop (takeI Fm l).2.1)
def LitPost (W w : World) (p d g N : Nat) (F0 F : Nat → Prop) (mo li : Int) (S : HSt) (fv : Value) (nv : Bool) (r : Except Nat (Rw × List UInt8)) (e : Ending) (w' : World) : Prop :=
  Mv w w' p F F fv fv ∧ match r with
  | .error z => e = errP z ∧ ∃ S' AL cl, RdS W w' p d g N F0 F mo li S' AL cl fv
  | .ok (f, l) => e = .returned (fieldV f nv) ∧ ∃ AL cl, RdS W w' p d g N F0 F mo li { S with left := l } AL cl fv
section
variable {W w w' w0 : World} {p d g N cl b b' : Nat} {F0 F F' : Nat → Prop} {mo li : Int} {S : HSt} {AL : Option Addr} {fv fv' : Value} {o : Option Obj}
/-- Another block has turned. -/
theorem RdS.aside (h : RdS W w p d g N F0 F mo li S AL cl fv) (hb : By w p F fv b o) (hW : W.heap.size ≤ b) (j : Nat) (v : Value) : RdS W (w.setCell ⟨b, j, none⟩ v) p d g N F0 F mo li S AL cl fv := by
  have hkw : Kept (fun k => k = b) w (w.setCell ⟨b, j, none⟩ v) := (Kept.refl (fun k => k = b) w).setCell rfl j v
  exact
  { tab := h.tab.keep fun k hk => hkw.block k (h.tab.lt k hk) (fun e => hb.nF (e ▸ hk))
    dec := (hkw.block d h.dw (fun e => by have := h.dl; omega)).trans h.dec
    rdr := (hkw.block p h.pw (fun e => hb.np e.symm)).trans h.rdr
    left := h.left.kept hkw (fun h0 a ha e => by have := (h.lF h0 a ha).2.2; omega)
    lcap := h.lcap
    lF := h.lF
    fld := own_kept4 h.fld hkw (fun q hq e => hb.nv (by rw [hq, e]))
    fF := h.fF
    grew := h.grew
    kept := ⟨hkw.os.trans h.kept.os, hkw.tape.trans h.kept.tape, hkw.output.trans h.kept.output, Nat.le_trans h.kept.size hkw.size, fun k hk1 hn => (hkw.block k (Nat.lt_of_lt_of_le hk1 h.kept.size) (fun e => by omega)).trans (h.kept.block k hk1 hn)⟩
    dl := h.dl
    dF := h.dF
    pl := h.pl
    pF := h.pF }
theorem Mv.aside (h : Mv w0 w p F F' fv fv') (hb : w0.heap.size ≤ b) (j : Nat) (v : Value) : Mv w0 (w.setCell ⟨b, j, none⟩ v) p F F' fv fv' :=
  ⟨⟨h.kept.os, h.kept.tape, h.kept.output, by have := h.kept.size; simpa [World.setCell] using this, fun k hk hn => (Below.heap_setCell _ ⟨b, j, none⟩ v _ (by show k ≠ b; omega)).trans (h.kept.block k hk hn)⟩, h.grew, h.own⟩
theorem By.other (h : By w p F fv b o) (hne : b ≠ b') (j : Nat) (v : Value) : By (w.setCell ⟨b', j, none⟩ v) p F fv b o :=
  ⟨by simpa [World.setCell] using h.lt, h.np, h.nF, h.nv, (Below.heap_setCell _ ⟨b', j, none⟩ v _ hne).trans h.at_⟩
theorem By.set {cs : Array Value} {t : TypeId} (h : By w p F fv b (some (.cells cs t (0, 0)))) (j : Nat) (v : Value) : By (w.setCell ⟨b, j, none⟩ v) p F fv b (some (.cells (cs.setIfInBounds j v) t (0, 0))) :=
  ⟨by simpa [World.setCell] using h.lt, h.np, h.nF, h.nv, set_b v h.at_⟩
theorem By.below (h : By w p F fv b o) (hb : Below w.heap.size w w') : By w' p F fv b o := ⟨Nat.lt_of_lt_of_le h.lt hb.size, h.np, h.nF, h.nv, (hb.block b h.lt).trans h.at_⟩
end
def zeroF : Obj := .cells #[.string emptyB, .string emptyB, .bool false] 26 (0, 0)
set_option maxRecDepth 100000 in
set_option maxHeartbeats 4000000 in
theorem literal_any {W w : World} {p d g N cl bits Fm : Nat} {F0 F : Nat → Prop} {mo li : Int} {S : HSt} {AL : Option Addr} {fv : Value} (nv : Bool) (hF : Full bits Fm) (h : RdS W w p d g N F0 F mo li S AL cl fv) (hl : S.left.length ≤ 1048576) :
    Calls Tryz.prog 204 #[.pointer (some ⟨p, 0, none⟩), .int .i64 bits, .bool nv] w (LitPost W w p d g N F0 F mo li S fv nv (litR Fm S.T S.left)) := by
  have run_skip : ∀ (x y z : Value) (w : World), (Instr.field 26 (.agg #[x, y, z]) 0).run Tryz.prog w = .ok x w := fun _ _ _ _ => rfl
  obtain ⟨W0, hW0⟩ : ∃ W0, w.alloc (.cells #[.string emptyB, .string emptyB, .bool false] 26) = W0 := ⟨_, rfl⟩
  obtain ⟨q, hq⟩ : ∃ q, w.heap.size = q := ⟨_, rfl⟩
  have b0 : Below w.heap.size w W0 := by rw [← hW0]; exact (Below.refl _ _).alloc (Nat.le_refl _) _
  have hby0 : By W0 p F fv q (some zeroF) := by rw [← hW0, ← hq]; exact By.new h _
  have hm0 := Lib.hid ((Mv.refl w p F fv).below b0)
  have hqW : W.heap.size ≤ q := by rw [← hq]; exact h.kept.size
  have HQL : Hid (w.heap.size ≤ q) := Lib.hid (Nat.le_of_eq hq)
  have HN := Lib.hid (number_any2 hF (h.below b0))
  have hbd := takeI_bd hF.le.2 S.left
  have HW0 := Lib.hid hW0
  have HQ := Lib.hid hq
  have HBY0 := Lib.hid hby0
  obtain ⟨⟨n, a, z⟩, hv⟩ : ∃ r, takeI Fm S.left = r := ⟨_, rfl⟩
  have E0 : Hid (z ≠ 0 → litR Fm S.T S.left = .error z) := Lib.hid fun h => by unfold litR; rw [hv]; exact if_pos h
  have E1 : Hid (z = 0 → litR Fm S.T S.left = litP S.T n (S.left.drop a)) := Lib.hid fun h => by unfold litR; rw [hv]; rw [if_neg (by simpa using h)]
  rw [hv] at HN hbd
  obtain ⟨R, hR⟩ : ∃ R, litR Fm S.T S.left = R := ⟨_, rfl⟩
  rw [hR] at E0 E1 ⊢
  clear hv h hW0 hq hby0 b0 hR
  go_enter Tryz.func204, Tryz.ntmps204
  go_upto_region 1 with fail
  rw [show (w.alloc (.cells #[.string ⟨#[]⟩, .string ⟨#[]⟩, .bool false] 26)) = W0 from HW0.out, HQ.out]
  go_wp2_with fail
  refine HN.out.mono ?_
  rintro e w1 ⟨hm1, ⟨hz, rfl, AL1, cl1, h1⟩ | ⟨hz, rfl, AL1, cl1, h1⟩⟩
  · simp only at hz
    have H1 := Lib.hid h1
    have HZ := Lib.hid hz
    have HM1 := Lib.hid (hm0.out.trans hm1)
    clear h1 hbd hz hm1
    unfold errP
    go_wp2
    rw [E0.out HZ.out]
    exact ⟨rfl, HM1.out, rfl, _, _, _, H1.out⟩
  simp only at hz
  subst hz
  obtain ⟨h31, ha1, han, -⟩ := hbd rfl
  simp only at h1 h31 ha1 han
  have HM1 := Lib.hid (hm0.out.trans hm1)
  have HBY1 := Lib.hid (HBY0.out.mv hm1)
  have e1 := E1.out (by trivial)
  clear hm1 hbd E0 E1 HBY0
  obtain ⟨W2, hW2⟩ : ∃ W2, w1.alloc (.cells #[.string emptyB, .string emptyB, .bool false] 26) = W2 := ⟨_, rfl⟩
  obtain ⟨x, hx⟩ : ∃ x, w1.heap.size = x := ⟨_, rfl⟩
  have b2 : Below w1.heap.size w1 W2 := by rw [← hW2]; exact (Below.refl _ _).alloc (Nat.le_refl _) _
  have HBX : Hid (By W2 p F fv x (some zeroF)) := Lib.hid (by rw [← hW2, ← hx]; exact By.new h1 _)
  have HBY2 := Lib.hid (HBY1.out.below b2)
  have HM2 := Lib.hid (HM1.out.below b2)
  have hqx : q ≠ x := by have := HBY1.out.lt; omega
  have hxw : w.heap.size ≤ x := by rw [← hx]; exact HM1.out.kept.size
  have hxW : W.heap.size ≤ x := by have := HQL.out; have := HBY1.out.lt; omega
  have H2 := Lib.hid (h1.below b2)
  have HW2 := Lib.hid hW2
  have HX := Lib.hid hx
  clear h1 b2 hW2 hx HM1 HBY1
  go_upto_region 3 with fail
  rw [show (w1.alloc (.cells #[.string ⟨#[]⟩, .string ⟨#[]⟩, .bool false] 26)) = W2 from HW2.out, HX.out]
  have HT0 := Lib.hid hqW
  have HT1 := Lib.hid hqx
  have HT2 := Lib.hid hxw
  have HT3 := Lib.hid hxW
  clear hqW hqx hxw hxW HW2 HX
  by_cases hn0 : 0 < n
  · have n0 : (0 : Int) < n := by omega
    have HR := Lib.hid (row_any (n : Int) H2.out (by omega))
    simp only at HR
    cases hat : atRows S.T.rows n with
    | none =>
      have E9 : Hid (R = .error 40) := Lib.hid (by rw [e1]; unfold litP takeN; rw [if_pos hn0, hat])
      rw [hat] at HR
      clear e1 hat hn0
      go_wp2_with fail
      refine HR.out.mono ?_
      rintro e w3 ⟨hb3, h3, rfl⟩
      have H3 := Lib.hid h3
      have HM3 := Lib.hid (HM2.out.below hb3)
      clear h3 hb3
      simp only
      unfold errP
      go_wp2
      rw [E9.out]
      exact ⟨rfl, HM3.out, rfl, _, _, _, H3.out⟩
    | some r =>
      have E9 : Hid (R = match takeS (S.left.drop a) with
        | .error e => .error e
        | .ok (v, l2) => .ok ((r.1, v), l2)) := Lib.hid (by rw [e1]; unfold litP takeN; rw [if_pos hn0, hat]; rfl)
      rw [hat] at HR
      clear e1 hat hn0
      go_wp2_with fail
      refine HR.out.mono ?_
      rintro e w3 ⟨hb3, h3, rfl⟩
      have HM3 := Lib.hid (HM2.out.below hb3)
      have HBX3 := Lib.hid (HBX.out.below hb3)
      have HBY3 := Lib.hid (HBY2.out.below hb3)
      have H3 := Lib.hid h3
      obtain ⟨l1, hl1⟩ : ∃ l, S.left.drop a = l := ⟨_, rfl⟩
      have HLL : Hid (l1.length ≤ 1048576) := Lib.hid (by rw [← hl1, List.length_drop]; omega)
      rw [hl1] at E9 H3
      obtain ⟨nm, hnm⟩ : ∃ nm, r.1 = nm := ⟨_, rfl⟩
      rw [hnm] at E9
      have k3 := HBX3.out.at_
      have x0 : w3.cell? ⟨x, 0, none⟩ = some (.string emptyB) := by unfold World.cell?; rw [k3]; rfl
      have fx : w3.frozen? ⟨x, 0, none⟩ = false := by unfold World.frozen?; rw [k3]; simp [zeroF]
      clear hb3 h3 hl1 k3
      simp only
      unfold fieldV
      rw [hnm]
      clear hnm
      go_upto_region 6 with fail
      obtain ⟨W4, hW4⟩ : ∃ W4, w3.setCell ⟨x, 0, none⟩ (.string nm) = W4 := ⟨_, rfl⟩
      have H4 : Hid (RdS W W4 p d g N F0 F mo li { S with left := l1 } AL1 cl1 fv) := Lib.hid (by rw [← hW4]; exact H3.out.aside HBX3.out HT3.out _ _)
      have HBX4 : Hid (By W4 p F fv x (some (.cells #[.string nm, .string emptyB, .bool false] 26 (0, 0)))) := Lib.hid (by rw [← hW4]; exact HBX3.out.set 0 _)
      have HBY4 : Hid (By W4 p F fv q (some zeroF)) := Lib.hid (by rw [← hW4]; exact HBY3.out.other HT1.out _ _)
      have HM4 : Hid (Mv w W4 p F F fv fv) := Lib.hid (by rw [← hW4]; exact HM3.out.aside HT2.out _ _)
      rw [hW4]
      have HTX := Lib.hid (text_any H4.out HLL.out)
      simp only at HTX
      clear hW4 x0 fx
      obtain ⟨tr, htr⟩ : ∃ tr, takeS l1 = tr := ⟨_, rfl⟩
      rw [htr] at HTX E9
      cases tr with
      | error z5 =>
        go_wp2_with fail
        refine HTX.out.mono ?_
        rintro e w5 ⟨hm5, rfl, AL5, cl5, h5⟩
        have H5 := Lib.hid h5
        have HM5 := Lib.hid (HM4.out.trans hm5)
        clear h5 hm5 htr
        unfold errP
        go_wp2
        rw [E9.out]
        exact ⟨rfl, HM5.out, rfl, _, _, _, H5.out⟩
      | ok sl =>
        obtain ⟨vl, l5⟩ := sl
        go_wp2_with fail
        refine HTX.out.mono ?_
        rintro e w5 ⟨hm5, rfl, AL5, cl5, h5⟩
        simp only at h5
        have H5 := Lib.hid h5
        have HM5 := Lib.hid (HM4.out.trans hm5)
        have HBX5 := Lib.hid (HBX4.out.mv hm5)
        have HBY5 := Lib.hid (HBY4.out.mv hm5)
        have k5 := HBX5.out.at_
        have y0 : w5.cell? ⟨x, 0, none⟩ = some (.string nm) := by unfold World.cell?; rw [k5]; rfl
        have y1 : w5.cell? ⟨x, 1, none⟩ = some (.string emptyB) := by unfold World.cell?; rw [k5]; rfl
        have y2 : w5.cell? ⟨x, 2, none⟩ = some (.bool false) := by unfold World.cell?; rw [k5]; rfl
        have fy : ∀ o, w5.frozen? ⟨x, o, none⟩ = false := fun o => by unfold World.frozen?; rw [k5]; simp
        have k6 := HBY5.out.at_
        have u0 : w5.cell? ⟨q, 0, none⟩ = some (.string emptyB) := by unfold World.cell?; rw [k6]; rfl
        have u1 : w5.cell? ⟨q, 1, none⟩ = some (.string emptyB) := by unfold World.cell?; rw [k6]; rfl
        have u2 : w5.cell? ⟨q, 2, none⟩ = some (.bool false) := by unfold World.cell?; rw [k6]; rfl
        have fu : ∀ o, w5.frozen? ⟨q, o, none⟩ = false := fun o => by unfold World.frozen?; rw [k6]; simp [zeroF]
        have hqx : q ≠ x := HT1.out
        have hxq : x ≠ q := fun e => hqx e.symm
        clear h5 hm5 htr k5 k6
        go_wp2
        refine bodyPost_ret (v := fieldV (nm, vl) nv) (by simp [results, Tryz.results204, go_sem, fieldV, u0, u1, u2]) rfl ?_
        rw [E9.out]
        have hs5 := HBX5.out.set 1 (.string vl)
        have hq5 := HBY5.out.other HT1.out 1 (.string vl)
        have hr5 := H5.out.aside HBX5.out HT3.out 1 (.string vl)
        have hs6 := hs5.set 2 (.bool nv)
        have hq6 := hq5.other HT1.out 2 (.bool nv)
        have hr6 := hr5.aside hs5 HT3.out 2 (.bool nv)
        have hq7 := By.set (cs := #[.string emptyB, .string emptyB, .bool false]) hq6 0 (.string nm)
        have hr7 := hr6.aside hq6 HT0.out 0 (.string nm)
        have hq8 := hq7.set 1 (.string vl)
        have hr8 := hr7.aside hq7 HT0.out 1 (.string vl)
        have hr9 := hr8.aside hq8 HT0.out 2 (.bool nv)
        exact ⟨((((HM5.out.aside HT2.out _ _).aside HT2.out _ _).aside HQL.out _ _).aside HQL.out _ _).aside HQL.out _ _, rfl, _, _, hr9⟩
  · obtain rfl : n = 0 := by omega
    have n0 : ¬ (0 : Int) < ((0 : Nat) : Int) := by omega
    have HR := Lib.hid (text_any H2.out (by show (S.left.drop a).length ≤ 1048576; rw [List.length_drop]; omega))
    simp only at HR
    obtain ⟨tr0, htr0⟩ : ∃ tr, takeS (S.left.drop a) = tr := ⟨_, rfl⟩
    rw [htr0] at HR
    cases tr0 with
    | error z3 =>
      have E9 : Hid (R = .error z3) := Lib.hid (by rw [e1]; unfold litP takeN; rw [if_neg (by omega), htr0])
      clear e1 htr0 hn0
      go_wp2_with fail
      refine HR.out.mono ?_
      rintro e w3 ⟨hm3, rfl, AL3, cl3, h3⟩
      have H3 := Lib.hid h3
      have HM3 := Lib.hid (HM2.out.trans hm3)
      clear h3 hm3
      unfold errP
      go_wp2
      rw [E9.out]
      exact ⟨rfl, HM3.out, rfl, _, _, _, H3.out⟩
    | ok sl =>
      obtain ⟨nm, l1⟩ := sl
      have E9 : Hid (R = match takeS l1 with
        | .error e => .error e
        | .ok (v, l2) => .ok ((nm, v), l2)) := Lib.hid (by rw [e1]; unfold litP takeN; rw [if_neg (by omega), htr0]; rfl)
      have HLL : Hid (l1.length ≤ 1048576) := Lib.hid (by have := (takeS_ok htr0).2; rw [List.length_drop] at this; omega)
      clear e1 htr0 hn0
      go_wp2_with fail
      refine HR.out.mono ?_
      rintro e w3 ⟨hm3, rfl, AL3, cl3, h3⟩
      simp only at h3
      have H3 := Lib.hid h3
      have HM3 := Lib.hid (HM2.out.trans hm3)
      have HBX3 := Lib.hid (HBX.out.mv hm3)
      have HBY3 := Lib.hid (HBY2.out.mv hm3)
      have k3 := HBX3.out.at_
      have x0 : w3.cell? ⟨x, 0, none⟩ = some (.string emptyB) := by unfold World.cell?; rw [k3]; rfl
      have fx : w3.frozen? ⟨x, 0, none⟩ = false := by unfold World.frozen?; rw [k3]; simp [zeroF]
      clear h3 hm3 k3
      go_upto_region 6 with fail
      obtain ⟨W4, hW4⟩ : ∃ W4, w3.setCell ⟨x, 0, none⟩ (.string nm) = W4 := ⟨_, rfl⟩
      have H4 : Hid (RdS W W4 p d g N F0 F mo li { S with left := l1 } AL3 cl3 fv) := Lib.hid (by rw [← hW4]; exact H3.out.aside HBX3.out HT3.out _ _)
      have HBX4 : Hid (By W4 p F fv x (some (.cells #[.string nm, .string emptyB, .bool false] 26 (0, 0)))) := Lib.hid (by rw [← hW4]; exact HBX3.out.set 0 _)
      have HBY4 : Hid (By W4 p F fv q (some zeroF)) := Lib.hid (by rw [← hW4]; exact HBY3.out.other HT1.out _ _)
      have HM4 : Hid (Mv w W4 p F F fv fv) := Lib.hid (by rw [← hW4]; exact HM3.out.aside HT2.out _ _)
      rw [hW4]
      have HTX := Lib.hid (text_any H4.out HLL.out)
      simp only at HTX
      clear hW4 x0 fx
      obtain ⟨tr, htr⟩ : ∃ tr, takeS l1 = tr := ⟨_, rfl⟩
      rw [htr] at HTX E9
      cases tr with
      | error z5 =>
        go_wp2_with fail
        refine HTX.out.mono ?_
        rintro e w5 ⟨hm5, rfl, AL5, cl5, h5⟩
        have H5 := Lib.hid h5
        have HM5 := Lib.hid (HM4.out.trans hm5)
        clear h5 hm5 htr
        unfold errP
        go_wp2
        rw [E9.out]
        exact ⟨rfl, HM5.out, rfl, _, _, _, H5.out⟩
      | ok sl =>
        obtain ⟨vl, l5⟩ := sl
        go_wp2_with fail
        refine HTX.out.mono ?_
        rintro e w5 ⟨hm5, rfl, AL5, cl5, h5⟩
        simp only at h5
        have H5 := Lib.hid h5
        have HM5 := Lib.hid (HM4.out.trans hm5)
        have HBX5 := Lib.hid (HBX4.out.mv hm5)
        have HBY5 := Lib.hid (HBY4.out.mv hm5)
        have k5 := HBX5.out.at_
        have y0 : w5.cell? ⟨x, 0, none⟩ = some (.string nm) := by unfold World.cell?; rw [k5]; rfl
        have y1 : w5.cell? ⟨x, 1, none⟩ = some (.string emptyB) := by unfold World.cell?; rw [k5]; rfl
        have y2 : w5.cell? ⟨x, 2, none⟩ = some (.bool false) := by unfold World.cell?; rw [k5]; rfl
        have fy : ∀ o, w5.frozen? ⟨x, o, none⟩ = false := fun o => by unfold World.frozen?; rw [k5]; simp
        have k6 := HBY5.out.at_
        have u0 : w5.cell? ⟨q, 0, none⟩ = some (.string emptyB) := by unfold World.cell?; rw [k6]; rfl
        have u1 : w5.cell? ⟨q, 1, none⟩ = some (.string emptyB) := by unfold World.cell?; rw [k6]; rfl
        have u2 : w5.cell? ⟨q, 2, none⟩ = some (.bool false) := by unfold World.cell?; rw [k6]; rfl
        have fu : ∀ o, w5.frozen? ⟨q, o, none⟩ = false := fun o => by unfold World.frozen?; rw [k6]; simp [zeroF]
        have hqx : q ≠ x := HT1.out
        have hxq : x ≠ q := fun e => hqx e.symm
        clear h5 hm5 htr k5 k6
        go_wp2
        refine bodyPost_ret (v := fieldV (nm, vl) nv) (by simp [results, Tryz.results204, go_sem, fieldV, u0, u1, u2]) rfl ?_
        rw [E9.out]
        have hs5 := HBX5.out.set 1 (.string vl)
        have hq5 := HBY5.out.other HT1.out 1 (.string vl)
        have hr5 := H5.out.aside HBX5.out HT3.out 1 (.string vl)
        have hs6 := hs5.set 2 (.bool nv)
        have hq6 := hq5.other HT1.out 2 (.bool nv)
        have hr6 := hr5.aside hs5 HT3.out 2 (.bool nv)
        have hq7 := By.set (cs := #[.string emptyB, .string emptyB, .bool false]) hq6 0 (.string nm)
        have hr7 := hr6.aside hq6 HT0.out 0 (.string nm)
        have hq8 := hq7.set 1 (.string vl)
        have hr8 := hr7.aside hq7 HT0.out 1 (.string vl)
        have hr9 := hr8.aside hq8 HT0.out 2 (.bool nv)
        exact ⟨((((HM5.out.aside HT2.out _ _).aside HT2.out _ _).aside HQL.out _ _).aside HQL.out _ _).aside HQL.out _ _, rfl, _, _, hr9⟩
end Go.Proofs.YtpkmciohehaboaaGreatDoor

/- The walk of hpack.reader's part. -/
namespace Go.Proofs.YtpkmciohehaboaaGreatDoor
open Go.RowKit

section
variable {mo : Int} {S : HSt} {c : Nat}
theorem partP_128 (hc : ba S.left 0 = c) (h : 128 ≤ c) : ((takeI 127 S.left).2.2 ≠ 0 → partP mo S = .error (takeI 127 S.left).2.2) ∧
    ((takeI 127 S.left).2.2 = 0 → atRows S.T.rows (takeI 127 S.left).1 = none → partP mo S = .error 40) ∧
    (∀ r, (takeI 127 S.left).2.2 = 0 → atRows S.T.rows (takeI 127 S.left).1 = some r → partP mo S = .ok (S.put (S.left.drop (takeI 127 S.left).2.1) (r, false))) := by
  have e : prefF c = 127 := by unfold prefF; rw [if_pos h]
  unfold partP
  rw [hc, e]
  refine ⟨fun h1 => if_pos h1, fun h1 h2 => ?_, fun r h1 h2 => ?_⟩
  · rw [if_neg (by simpa using h1)]; unfold afterP; rw [if_pos h, h2]
  · rw [if_neg (by simpa using h1)]; unfold afterP; rw [if_pos h, h2]
theorem partP_64 (hc : ba S.left 0 = c) (h1 : ¬ 128 ≤ c) (h : 64 ≤ c) : (∀ z, litR 63 S.T S.left = .error z → partP mo S = .error z) ∧
    (∀ f l2, litR 63 S.T S.left = .ok (f, l2) → partP mo S = .ok ({ S with T := S.T.add f }.put l2 (f, false))) := by
  have e : prefF c = 63 := by unfold prefF; rw [if_neg h1, if_pos h]
  unfold partP litR
  rw [hc, e]
  by_cases hz : (takeI 63 S.left).2.2 ≠ 0
  · rw [if_pos hz, if_pos hz]
    exact ⟨fun z hq => by injection hq with hq; rw [hq], fun f l2 hq => by cases hq⟩
  · rw [if_neg hz, if_neg hz]
    unfold afterP
    rw [if_neg h1, if_pos h]
    exact ⟨fun z hq => by rw [hq], fun f l2 hq => by rw [hq]⟩
theorem partP_32 (hc : ba S.left 0 = c) (h1 : ¬ 128 ≤ c) (h2 : ¬ 64 ≤ c) (h : 32 ≤ c) : partP mo S = rszP mo S := by
  have e : prefF c = 31 := by unfold prefF; rw [if_neg h1, if_neg h2, if_pos h]
  unfold partP rszP
  rw [hc, e]
  unfold afterP
  rw [if_neg h1, if_neg h2, if_pos h]
theorem partP_0 (hc : ba S.left 0 = c) (h : ¬ 32 ≤ c) : (∀ z, litR 15 S.T S.left = .error z → partP mo S = .error z) ∧
    (∀ f l2, litR 15 S.T S.left = .ok (f, l2) → partP mo S = .ok (S.put l2 (f, decide (16 ≤ c)))) := by
  have h1 : ¬ 128 ≤ c := by omega
  have h2 : ¬ 64 ≤ c := by omega
  have e : prefF c = 15 := by unfold prefF; rw [if_neg h1, if_neg h2, if_neg h]
  unfold partP litR
  rw [hc, e]
  by_cases hz : (takeI 15 S.left).2.2 ≠ 0
  · rw [if_pos hz, if_pos hz]
    exact ⟨fun z hq => by injection hq with hq; rw [hq], fun f l2 hq => by cases hq⟩
  · rw [if_neg hz, if_neg hz]
    unfold afterP
    rw [if_neg h1, if_neg h2, if_neg h]
    exact ⟨fun z hq => by rw [hq], fun f l2 hq => by rw [hq]⟩
end
theorem litR_ok {T : Tb} (hT : TOk T) {Fm : Nat} (hF : Fm ≤ 255) {l l2 : List UInt8} {f : Rw} (h : litR Fm T l = .ok (f, l2)) : f.1.size ≤ 65536 ∧ f.2.size ≤ 4096 ∧ l2.length < l.length := by
  unfold litR at h
  split at h
  · cases h
  · rename_i h0
    have := takeI_bd hF l (by simpa using h0)
    have h2 := litP_ok hT h
    rw [List.length_drop] at h2
    omega
theorem full4 : Full 4 15 := by constructor <;> decide
theorem full6 : Full 6 63 := by constructor <;> decide
set_option maxRecDepth 100000 in
set_option maxHeartbeats 4000000 in
theorem part_any {W w : World} {p d g N cl L : Nat} {F0 F : Nat → Prop} {mo li : Int} {S : HSt} {AL : Option Addr} {fv : Value} (h : RdS W w p d g N F0 F mo li S AL cl fv) (hok : HOk L S) (hL : L ≤ 1048576) (hmo : mo ≤ 65536) (h0 : 0 < S.left.length) (hN : N + 1 ≤ 1099511627776) :
    Calls Tryz.prog 191 #[.pointer (some ⟨p, 0, none⟩)] w (PartPost W w p d g (N + 1) F0 F mo li fv (partP mo S)) := by
  obtain ⟨hlen, b, o, rfl, hbw, hcs⟩ := h.left.bas h0
  have q0 := hcs 0 h0
  rw [Nat.add_zero] at q0
  have hba := ba_lt S.left 0
  obtain ⟨c, hc⟩ : ∃ c, ba S.left 0 = c := ⟨_, rfl⟩
  rw [hc] at q0 hba
  obtain ⟨-, c1, -, -, -⟩ := h.cells
  have H := Lib.hid h
  have HOK := Lib.hid hok
  have HC := Lib.hid hc
  have hl20 : S.left.length ≤ 1048576 := by have := hok.len; omega
  have HL20 := Lib.hid hl20
  obtain ⟨R, hR⟩ : ∃ R, partP mo S = R := ⟨_, rfl⟩
  have HR := Lib.hid hR
  obtain ⟨ln, hln⟩ : ∃ ln, S.left.length = ln := ⟨_, rfl⟩
  have HLN := Lib.hid hln
  rw [hR]
  rw [hln] at c1 h0
  have n0 : (0 : Int) < ln := by omega
  clear hR hcs h hok hc hl20 hln
  by_cases hc1 : 128 ≤ c
  · have E := partP_128 (mo := mo) HC.out hc1
    rw [HR.out] at E
    have HE := Lib.hid E
    have hbd := takeI_bd (show 127 ≤ 255 by omega) S.left
    have HNU := Lib.hid (number_any2 full7 H.out)
    obtain ⟨⟨n, a, z⟩, hv⟩ : ∃ r, takeI 127 S.left = r := ⟨_, rfl⟩
    rw [hv] at HE HNU hbd
    have g1 : (128 : Int) ≤ c := by omega
    clear E hv hc1
    go_enter Tryz.func191, Tryz.ntmps191
    go_wp2_with fail
    refine HNU.out.mono ?_
    rintro e w1 ⟨hm1, ⟨hz, rfl, AL1, cl1, h1⟩ | ⟨hz, rfl, AL1, cl1, h1⟩⟩
    · simp only at hz
      have H1 := Lib.hid (h1.more (Nat.le_succ N) hN)
      have HZ := Lib.hid hz
      have HM1 := Lib.hid hm1
      clear h1 hbd hz hm1
      unfold errP
      go_wp2
      rw [HE.out.1 HZ.out]
      exact ⟨rfl, rfl, _, _, _, _, _, H1.out, HM1.out⟩
    · simp only at hz
      subst hz
      obtain ⟨h31, ha1, han, -⟩ := hbd rfl
      simp only at h1 h31 ha1 han
      have HRW := Lib.hid (row_any (n : Int) h1 (by omega))
      have HM1 := Lib.hid hm1
      simp only at HRW
      clear hm1 hbd h1
      cases hat : atRows S.T.rows n with
      | none =>
        have E9 := Lib.hid (HE.out.2.1 (by trivial) hat)
        rw [hat] at HRW
        clear hat
        go_wp2_with fail
        refine HRW.out.mono ?_
        rintro e w3 ⟨hb3, h3, rfl⟩
        have H3 := Lib.hid (h3.more (Nat.le_succ N) hN)
        have HM3 := Lib.hid (HM1.out.below hb3)
        clear h3 hb3
        simp only
        unfold errP
        go_wp2
        rw [E9.out]
        exact ⟨rfl, rfl, _, _, _, _, _, H3.out, HM3.out⟩
      | some r =>
        have E9 := Lib.hid (HE.out.2.2 r (by trivial) hat)
        have hrs := atRows_size HOK.out.tok hat
        rw [hat] at HRW
        clear hat
        go_wp2_with fail
        refine HRW.out.mono ?_
        rintro e w3 ⟨hb3, h3, rfl⟩
        have HM3 := Lib.hid (HM1.out.below hb3)
        have hok3 : HOk L { S with left := S.left.drop a } := { tok := HOK.out.tok, sz := HOK.out.sz, cost := HOK.out.cost, len := by have := HOK.out.len; simp only [List.length_drop]; omega, chg := HOK.out.chg }
        have HP := Lib.hid (put_any (r, false) (h3.more (Nat.le_succ N) hN) hok3 hL hrs.1 hrs.2)
        simp only at HP
        clear h3 hb3 hok3
        simp only
        unfold fieldV
        go_wp2_with fail
        refine HP.out.mono ?_
        rintro e w4 ⟨rfl, fv4, h4, hm4⟩
        have H4 := Lib.hid h4
        have HM4 := Lib.hid (HM3.out.trans hm4)
        clear h4 hm4
        go_wp2_with fail
        go_end0
        rw [E9.out]
        exact ⟨rfl, _, _, _, _, H4.out, HM4.out⟩
  by_cases hc2 : 64 ≤ c
  · have E := partP_64 (mo := mo) HC.out hc1 hc2
    rw [HR.out] at E
    have HE := Lib.hid E
    have g1 : ¬ (128 : Int) ≤ c := by omega
    have g2 : (64 : Int) ≤ c := by omega
    have HLT := Lib.hid (literal_any false full6 H.out HL20.out)
    obtain ⟨lr, hlr⟩ : ∃ lr, litR 63 S.T S.left = lr := ⟨_, rfl⟩
    rw [hlr] at HLT HE
    have HLR := Lib.hid hlr
    clear hc1 hc2 E hlr
    go_enter Tryz.func191, Tryz.ntmps191
    go_wp2_with fail
    refine HLT.out.mono ?_
    cases lr with
    | error z =>
      rintro e w1 ⟨hm1, rfl, S1, AL1, cl1, h1⟩
      have H1 := Lib.hid (h1.more (Nat.le_succ N) hN)
      have HM1 := Lib.hid hm1
      clear h1 hm1
      unfold errP
      go_wp2
      rw [HE.out.1 z rfl]
      exact ⟨rfl, rfl, _, _, _, _, _, H1.out, HM1.out⟩
    | ok fl =>
      obtain ⟨f, l2⟩ := fl
      have hfs := litR_ok HOK.out.tok (by omega) HLR.out
      rintro e w1 ⟨hm1, rfl, AL1, cl1, h1⟩
      obtain ⟨W2, hW2⟩ : ∃ W2, w1.alloc (.cells #[.string f.1, .string f.2, .bool false] 26) = W2 := ⟨_, rfl⟩
      obtain ⟨x, hx⟩ : ∃ x, w1.heap.size = x := ⟨_, rfl⟩
      have b2 : Below w1.heap.size w1 W2 := by rw [← hW2]; exact (Below.refl _ _).alloc (Nat.le_refl _) _
      have HBX : Hid (By W2 p F fv x (some (.cells #[.string f.1, .string f.2, .bool false] 26 (0, 0)))) := Lib.hid (by rw [← hW2, ← hx]; exact By.new h1 _)
      have HM2 := Lib.hid (hm1.below b2)
      have h2 := h1.below b2
      have hdx : d ≠ x := by have := h1.dw; omega
      obtain ⟨d0, -, -, -, -⟩ := h2.cells
      obtain ⟨-, -, e2, -⟩ := h2.dcells
      have k2 := HBX.out.at_
      have x0 : W2.cell? ⟨x, 0, none⟩ = some (.string f.1) := by unfold World.cell?; rw [k2]; rfl
      have x1 : W2.cell? ⟨x, 1, none⟩ = some (.string f.2) := by unfold World.cell?; rw [k2]; rfl
      have x2 : W2.cell? ⟨x, 2, none⟩ = some (.bool false) := by unfold World.cell?; rw [k2]; rfl
      have H2 := Lib.hid h2
      have HA : Hid (∀ w', w'.heap = W2.heap → Calls Tryz.prog 205 #[.pointer (some ⟨g, 0, none⟩), .agg #[.string f.1, .string f.2, .bool false]] w' (TStep w' g F (N + 1) (S.T.add f) (.tuple #[]))) := Lib.hid fun w' hw => add_any f false w' (h2.tab.keep fun k _ => by rw [hw]) (by omega) (by omega) hN
      have HW2 := Lib.hid hW2
      have HX := Lib.hid hx
      clear h1 hm1 hW2 hx b2 h2 k2 c1
      unfold fieldV
      go_upto_region 6 with fail
      rw [HW2.out, HX.out]
      go_region_held3 (fun w' => w'.cell? ⟨p, 0, none⟩ = some (.pointer (some ⟨d, 0, none⟩)) ∧ w'.cell? ⟨d, 2, none⟩ = some (.pointer (some ⟨g, 0, none⟩)) ∧ w'.cell? ⟨x, 0, none⟩ = some (.string f.1) ∧ w'.cell? ⟨x, 1, none⟩ = some (.string f.2) ∧ w'.cell? ⟨x, 2, none⟩ = some (.bool false))
        (first | go_keep | exact ⟨k0, k1, k2, k3, k4⟩)
        (first
          | (go_at_call 205; refine (HA.out _ (by rfl)).mono ?_; rintro e w3 ⟨rfl, F3, ht3, hk3, hg3⟩; have hk3' : Kept F W2 w3 := ⟨hk3.os, hk3.tape, hk3.output, hk3.size, hk3.block⟩; have hg3' : Grew W2 F F3 := hg3; have h3 := H2.out.tabStep ht3 hk3' hg3'; have hm3 : Mv W2 w3 p F F3 fv fv := ⟨hk3'.mono (fun _ h => .inr (.inl h)), hg3', fun _ h => .inl h⟩; have hb3 := HBX.out.mv hm3; obtain ⟨k0, -, -, -, -⟩ := h3.cells; obtain ⟨-, -, k1, -⟩ := h3.dcells; have kk := hb3.at_; have k2 : w3.cell? ⟨x, 0, none⟩ = some (.string f.1) := (by unfold World.cell?; rw [kk]; rfl); have k3 : w3.cell? ⟨x, 1, none⟩ = some (.string f.2) := (by unfold World.cell?; rw [kk]; rfl); have k4 : w3.cell? ⟨x, 2, none⟩ = some (.bool false) := (by unfold World.cell?; rw [kk]; rfl); have H3 := Lib.hid (And.intro h3 (And.intro hm3 hb3)); clear ht3 hk3 hg3 hk3' hg3' h3 hm3 hb3 kk))
      all_goals
        have hok3 : HOk L { S with T := S.T.add f, left := l2 } := { tok := HOK.out.tok.add (by omega) (by omega), sz := HOK.out.sz, cost := HOK.out.cost, len := by have := HOK.out.len; simp only; omega, chg := HOK.out.chg }
        have HP : Hid (∀ w', Below w3.heap.size w3 w' → Calls Tryz.prog 201 #[.pointer (some ⟨p, 0, none⟩), .agg #[.string f.1, .string f.2, .bool false]] w' fun e w4 => e = .returned (.tuple #[]) ∧ ∃ fv4, RdS W w4 p d g (N + 1) F0 F3 mo li ({ S with T := S.T.add f }.put l2 (f, false)) AL1 cl1 fv4 ∧ Mv w w4 p F F3 fv fv4) := Lib.hid fun w' hb => by
          refine (put_any (f, false) (H3.out.1.below hb) hok3 hL hfs.1 (by simp only; omega)).mono ?_
          rintro e w4 ⟨rfl, fv4, h4, hm4⟩
          exact ⟨rfl, fv4, h4, (HM2.out.trans (H3.out.2.1.below hb)).trans hm4⟩
        clear hok3 x0 x1 x2 d0 e2
        go_wp2_with fail
        refine (HP.out _ (by first | exact Below.refl _ _ | exact (Below.refl _ _).drew)).mono ?_
        rintro e w4 ⟨rfl, fv4, h4, hm4⟩
        have H4 := Lib.hid h4
        have HM4 := Lib.hid hm4
        clear h4 hm4
        go_wp2_with fail
        go_end0
        rw [HE.out.2 f l2 rfl]
        exact ⟨rfl, _, _, _, _, H4.out, HM4.out⟩
  by_cases hc3 : 32 ≤ c
  · have E9 : Hid (R = rszP mo S) := Lib.hid (HR.out.symm.trans (partP_32 HC.out hc1 hc2 hc3))
    have HS := Lib.hid (resize_any2 H.out HOK.out hmo)
    have g1 : ¬ (128 : Int) ≤ c := by omega
    have g2 : ¬ (64 : Int) ≤ c := by omega
    have g3 : (32 : Int) ≤ c := by omega
    obtain ⟨R2, hR2⟩ : ∃ R2, rszP mo S = R2 := ⟨_, rfl⟩
    rw [hR2] at HS E9
    clear hc1 hc2 hc3 hR2
    go_enter Tryz.func191, Tryz.ntmps191
    go_wp2_with fail
    refine HS.out.mono ?_
    cases R2 with
    | error z =>
      rintro e w1 ⟨rfl, S1, F1, AL1, cl1, fv1, h1, hm1⟩
      have H1 := Lib.hid (h1.more (Nat.le_succ N) hN)
      have HM1 := Lib.hid hm1
      clear h1 hm1
      unfold errP
      go_wp2
      rw [E9.out]
      exact ⟨rfl, rfl, _, _, _, _, _, H1.out, HM1.out⟩
    | ok S1 =>
      rintro e w1 ⟨rfl, F1, AL1, cl1, fv1, h1, hm1⟩
      have H1 := Lib.hid (h1.more (Nat.le_succ N) hN)
      have HM1 := Lib.hid hm1
      clear h1 hm1
      go_wp2_with fail
      go_end0
      rw [E9.out]
      exact ⟨rfl, _, _, _, _, H1.out, HM1.out⟩
  · have E := partP_0 (mo := mo) HC.out hc3
    rw [HR.out] at E
    have HE := Lib.hid E
    have g1 : ¬ (128 : Int) ≤ c := by omega
    have g2 : ¬ (64 : Int) ≤ c := by omega
    have g3 : ¬ (32 : Int) ≤ c := by omega
    obtain ⟨nv, hnv⟩ : ∃ nv, decide (16 ≤ c) = nv := ⟨_, rfl⟩
    have hnv2 : decide ((16 : Int) ≤ c) = nv := by rw [← hnv]; congr 1; simp; omega
    rw [hnv] at HE
    have HLT := Lib.hid (literal_any nv full4 H.out HL20.out)
    obtain ⟨lr, hlr⟩ : ∃ lr, litR 15 S.T S.left = lr := ⟨_, rfl⟩
    rw [hlr] at HLT HE
    have HLR := Lib.hid hlr
    clear hc1 hc2 hc3 hnv E hlr
    go_enter Tryz.func191, Tryz.ntmps191
    go_wp2_with fail
    refine HLT.out.mono ?_
    cases lr with
    | error z =>
      rintro e w1 ⟨hm1, rfl, S1, AL1, cl1, h1⟩
      have H1 := Lib.hid (h1.more (Nat.le_succ N) hN)
      have HM1 := Lib.hid hm1
      clear h1 hm1
      unfold errP
      go_wp2
      rw [HE.out.1 z rfl]
      exact ⟨rfl, rfl, _, _, _, _, _, H1.out, HM1.out⟩
    | ok fl =>
      obtain ⟨f, l2⟩ := fl
      have hfs := litR_ok HOK.out.tok (by omega) HLR.out
      rintro e w1 ⟨hm1, rfl, AL1, cl1, h1⟩
      have HM1 := Lib.hid hm1
      have hok3 : HOk L { S with left := l2 } := { tok := HOK.out.tok, sz := HOK.out.sz, cost := HOK.out.cost, len := by have := HOK.out.len; simp only; omega, chg := HOK.out.chg }
      have HP := Lib.hid (put_any (f, nv) (h1.more (Nat.le_succ N) hN) hok3 hL hfs.1 (by simp only; omega))
      simp only at HP
      clear h1 hm1 hok3
      unfold fieldV
      go_wp2_with fail
      refine HP.out.mono ?_
      rintro e w4 ⟨rfl, fv4, h4, hm4⟩
      have H4 := Lib.hid h4
      have HM4 := Lib.hid (HM1.out.trans hm4)
      clear h4 hm4
      go_wp2_with fail
      go_end0
      rw [HE.out.2 f l2 rfl]
      exact ⟨rfl, _, _, _, _, H4.out, HM4.out⟩
end Go.Proofs.YtpkmciohehaboaaGreatDoor

/- The walks of hpack.Decoder's Decode and of what it defers. -/
namespace Go.Proofs.YtpkmciohehaboaaGreatDoor
open Go.RowKit

theorem wpOpsS_recover {P : Program} {o0 o1 : Oper} {K : Exit → Act → List Frame → World → Prop} {a : Act} {c₀ : Frame} {cs : List Frame} {w : World} {v : Value} {older : List PanicEntry} {d0 d1 : Nat}
    (h0 : o0.op = .call { callee := .builtin .recover, args := #[], argTypes := #[] }) (g0 : o0.guard = none) (hd : o0.dst = some d0) (h1 : o1.op = .assign (.tmp d0)) (g1 : o1.guard = none) (hd1 : o1.dst = some d1)
    (hm : c₀.mode = .panicking ({ v := v, recovered := false } :: older)) (hsz : d0 < a.tmps.size)
    (h : K .normal ((a.put (some d0) v).put (some d1) v) ({ c₀ with mode := .panicking ({ v := v, recovered := true } :: older) } :: cs) w) : wpOpsS P #[o0, o1] K (List.range 2) a (c₀ :: cs) w := by
  have e : List.range 2 = [0, 1] := rfl
  rw [e]
  simp [wpOpsS, Region.wanted, g0, g1, execOp, h0, h1, hd, hd1, go_sem, recoverD, hm, hsz]
  exact h
theorem run_asF (v : Value) (w : World) : (Instr.typeAssert (.iface 258 v) 20 258 true).run Tryz.prog w = .ok (.tuple #[v, .bool true]) w := by
  simp [Instr.typeAssert, run_underlying Tryz.underlying258, go_sem, Result.andThen]
theorem wp_at {P : Program} {c : Code} {Q : Exit → Act → World → Prop} {a a' : Act} {w : World} (h : a = a') (h2 : c.wp P Q a' w) : c.wp P Q a w := h ▸ h2
/-- What giving up has turned: the decoder is broken; the results. -/
structure Cat (w w' : World) (d x4 x5 : Nat) (mo li : Int) (g z : Nat) : Prop where
  dec : w'.heap[d]? = some (deB mo li g true)
  r4 : w'.heap[x4]? = some (.cells #[.slice none 0 0] 22 (0, 0))
  r5 : w'.heap[x5]? = some (.cells #[.int .i64 (z : Int)] 29 (0, 0))
  kept : Kept (fun k => k = d ∨ k = x4 ∨ k = x5) w w'
set_option maxRecDepth 100000 in
set_option maxHeartbeats 1000000 in
theorem catch_panicking (x2 x4 x5 d : Nat) (mo li : Int) (g z : Nat) (v4 : Value) (v5 : Int) (older : List PanicEntry) (w : World)
    (h2 : w.heap[x2]? = some (.cells #[.pointer (some ⟨d, 0, none⟩)] 95 (0, 0))) (h4 : w.heap[x4]? = some (.cells #[v4] 22 (0, 0))) (h5 : w.heap[x5]? = some (.cells #[.int .i64 v5] 29 (0, 0)))
    (hd : w.heap[d]? = some (deB mo li g false)) (n4 : d ≠ x4) (n5 : d ≠ x5) (n6 : x4 ≠ x5) :
    CallsD Tryz.prog 190 #[.pointer (some ⟨x2, 0, none⟩), .pointer (some ⟨x4, 0, none⟩), .pointer (some ⟨x5, 0, none⟩)] (.panicking ({ v := .iface 258 (.agg #[.int .i64 (z : Int)]), recovered := false } :: older)) w fun e u' w' =>
      e = .returned (.tuple #[]) ∧ u' = .panicking ({ v := .iface 258 (.agg #[.int .i64 (z : Int)]), recovered := true } :: older) ∧ Cat w w' d x4 x5 mo li g z := by
  refine callsD_of_wpS Tryz.func190 rfl fun c₀ cs hu => ?_
  have c2 : w.cell? ⟨x2, 0, none⟩ = some (.pointer (some ⟨d, 0, none⟩)) := by unfold World.cell?; rw [h2]; rfl
  have c4 : w.cell? ⟨x4, 0, none⟩ = some v4 := by unfold World.cell?; rw [h4]; rfl
  have c5 : w.cell? ⟨x5, 0, none⟩ = some (.int .i64 v5) := by unfold World.cell?; rw [h5]; rfl
  have cd : w.cell? ⟨d, 3, none⟩ = some (.bool false) := by unfold World.cell?; rw [hd]; rfl
  have f4 : w.frozen? ⟨x4, 0, none⟩ = false := by unfold World.frozen?; rw [h4]; simp
  have f5 : w.frozen? ⟨x5, 0, none⟩ = false := by unfold World.frozen?; rw [h5]; simp
  have fd : w.frozen? ⟨d, 3, none⟩ = false := by unfold World.frozen?; rw [hd]; simp [deB]
  refine wpS_seq (wpS_region (wpOpsS_recover rfl rfl rfl rfl rfl rfl hu (by simp [Tryz.ntmps190]) ?_))
  refine wpS_of_wp ?_
  refine Code.wp_mono (Q := fun e a' w' => e = .normal ∧ a'.defers = [] ∧ Cat w w' d x4 x5 mo li g z) ?_ ?_
  · rintro e a w' ⟨rfl, had, hc⟩
    exact ⟨had, _, rfl, .tuple #[], by simp [results, Tryz.results190, go_sem], rfl, rfl, hc⟩
  rw [Tryz.ntmps190]
  refine wp_at (a' := { tmps := #[.pointer (some ⟨x2, 0, none⟩), .pointer (some ⟨x4, 0, none⟩), .pointer (some ⟨x5, 0, none⟩), .iface 258 (.agg #[.int .i64 (z : Int)]), undef, undef, .iface 258 (.agg #[.int .i64 (z : Int)]), undef, undef, undef, undef, undef, undef, undef, undef, undef, undef, undef, undef, undef, undef, undef], defers := [] }) (by kernel_rfl) ?_
  have hasf := run_asF
  obtain ⟨Q, hQ⟩ : ∃ Q : World → Prop, (fun w' => Cat w w' d x4 x5 mo li g z) = Q := ⟨_, rfl⟩
  have HQ := Lib.hid hQ
  have l2 := (Array.getElem?_eq_some_iff.1 h2).1
  have l4 := (Array.getElem?_eq_some_iff.1 h4).1
  have l5 := (Array.getElem?_eq_some_iff.1 h5).1
  have ld := (Array.getElem?_eq_some_iff.1 hd).1
  have H2 := Lib.hid h2
  have H4 := Lib.hid h4
  have H5 := Lib.hid h5
  have HD := Lib.hid hd
  clear hQ h2 h4 h5 hd
  go_wp2
  go_region
  obtain ⟨W1, hW1⟩ : ∃ W1, w.setCell ⟨d, 3, none⟩ (.bool true) = W1 := ⟨_, rfl⟩
  have a1 : W1.heap[d]? = some (deB mo li g true) := by rw [← hW1, set_b _ HD.out]; rfl
  have o1 : ∀ k, k ≠ d → W1.heap[k]? = w.heap[k]? := fun k hk => by rw [← hW1]; exact Below.heap_setCell _ _ _ _ hk
  have k1 : Kept (fun k => k = d ∨ k = x4 ∨ k = x5) w W1 := by rw [← hW1]; exact (Kept.refl (fun k => k = d ∨ k = x4 ∨ k = x5) w).setCell (.inl rfl) _ _
  rw [hW1]
  obtain ⟨W2, hW2⟩ : ∃ W2, W1.setCell ⟨x4, 0, none⟩ (.slice none 0 0) = W2 := ⟨_, rfl⟩
  have a2 : W2.heap[x4]? = some (.cells #[.slice none 0 0] 22 (0, 0)) := by rw [← hW2, set_b _ ((o1 x4 (Ne.symm n4)).trans H4.out)]; rfl
  have o2 : ∀ k, k ≠ x4 → W2.heap[k]? = W1.heap[k]? := fun k hk => by rw [← hW2]; exact Below.heap_setCell _ _ _ _ hk
  have k2 : Kept (fun k => k = d ∨ k = x4 ∨ k = x5) w W2 := by rw [← hW2]; exact k1.setCell (.inr (.inl rfl)) _ _
  rw [hW2]
  obtain ⟨W3, hW3⟩ : ∃ W3, W2.setCell ⟨x5, 0, none⟩ (.int .i64 (z : Int)) = W3 := ⟨_, rfl⟩
  have a3 : W3.heap[x5]? = some (.cells #[.int .i64 (z : Int)] 29 (0, 0)) := by rw [← hW3, set_b _ (((o2 x5 (Ne.symm n6)).trans (o1 x5 (Ne.symm n5))).trans H5.out)]; rfl
  have o3 : ∀ k, k ≠ x5 → W3.heap[k]? = W2.heap[k]? := fun k hk => by rw [← hW3]; exact Below.heap_setCell _ _ _ _ hk
  have k3 : Kept (fun k => k = d ∨ k = x4 ∨ k = x5) w W3 := by rw [← hW3]; exact k2.setCell (.inr (.inr rfl)) _ _
  rw [hW3]
  have hs := k3.size
  have hal : ∀ k (o : Obj), k < W3.heap.size → (W3.alloc o).drew.heap[k]? = W3.heap[k]? := fun k o hk => Below.heap_alloc W3 o k hk
  exact ⟨rfl, rfl, (hal d _ (by omega)).trans (((o3 d n5).trans (o2 d n4)).trans a1), (hal x4 _ (by omega)).trans ((o3 x4 n6).trans a2), (hal x5 _ (by omega)).trans a3, (k3.alloc _).drew⟩
theorem wpOpsS_idle {P : Program} {o0 o1 : Oper} {K : Exit → Act → List Frame → World → Prop} {a : Act} {c₀ : Frame} {cs : List Frame} {w : World} {d0 d1 : Nat}
    (h0 : o0.op = .call { callee := .builtin .recover, args := #[], argTypes := #[] }) (g0 : o0.guard = none) (hd : o0.dst = some d0) (h1 : o1.op = .assign (.tmp d0)) (g1 : o1.guard = none) (hd1 : o1.dst = some d1)
    (hm : c₀.mode = .returning) (hsz : d0 < a.tmps.size)
    (h : K .normal ((a.put (some d0) .nilIface).put (some d1) .nilIface) (c₀ :: cs) w) : wpOpsS P #[o0, o1] K (List.range 2) a (c₀ :: cs) w := by
  have e : List.range 2 = [0, 1] := rfl
  rw [e]
  simp [wpOpsS, Region.wanted, g0, g1, execOp, h0, h1, hd, hd1, go_sem, recoverD, hm, hsz]
  exact h
set_option maxRecDepth 100000 in
set_option maxHeartbeats 1000000 in
theorem catch_idle (x2 x4 x5 : Nat) (w : World) :
    CallsD Tryz.prog 190 #[.pointer (some ⟨x2, 0, none⟩), .pointer (some ⟨x4, 0, none⟩), .pointer (some ⟨x5, 0, none⟩)] .returning w fun e u' w' =>
      e = .returned (.tuple #[]) ∧ u' = .returning ∧ w' = w := by
  refine callsD_of_wpS Tryz.func190 rfl fun c₀ cs hu => ?_
  refine wpS_seq (wpS_region (wpOpsS_idle rfl rfl rfl rfl rfl rfl hu (by simp [Tryz.ntmps190]) ?_))
  refine wpS_of_wp ?_
  refine Code.wp_mono (Q := fun e a' w' => e = .normal ∧ a'.defers = [] ∧ w' = w) ?_ ?_
  · rintro e a w' ⟨rfl, had, rfl⟩
    refine ⟨had, .returning, by rw [← hu], .tuple #[], by simp [results, Tryz.results190, go_sem], rfl, rfl, rfl⟩
  rw [Tryz.ntmps190]
  refine wp_at (a' := { tmps := #[.pointer (some ⟨x2, 0, none⟩), .pointer (some ⟨x4, 0, none⟩), .pointer (some ⟨x5, 0, none⟩), .nilIface, undef, undef, .nilIface, undef, undef, undef, undef, undef, undef, undef, undef, undef, undef, undef, undef, undef, undef, undef], defers := [] }) (by kernel_rfl) ?_
  go_wp2
/-- A decoder in memory. -/
def DecIs (w : World) (d : Nat) (G : Nat → Prop) (N : Nat) (mo li : Int) (T : Tb) (br : Bool) : Prop :=
  ∃ g F, G = (fun k => k = d ∨ F k) ∧ w.heap[d]? = some (deB mo li g br) ∧ TabIs w g F N T ∧ ¬ F d
theorem DecIs.lt {w : World} {d N : Nat} {G : Nat → Prop} {mo li : Int} {T : Tb} {br : Bool} (h : DecIs w d G N mo li T br) : ∀ k, G k → k < w.heap.size := by
  obtain ⟨g, F, rfl, hd, ht, hF⟩ := h
  rintro k (rfl | hk)
  · exact (Array.getElem?_eq_some_iff.1 hd).1
  · exact ht.lt k hk
theorem DecIs.keep {w w' : World} {d N : Nat} {G : Nat → Prop} {mo li : Int} {T : Tb} {br : Bool} (h : DecIs w d G N mo li T br) (hk : ∀ k, G k → w'.heap[k]? = w.heap[k]?) : DecIs w' d G N mo li T br := by
  obtain ⟨g, F, rfl, hd, ht, hF⟩ := h
  exact ⟨g, F, rfl, (hk d (.inl rfl)).trans hd, ht.keep fun k hf => hk k (.inr hf), hF⟩
theorem DecIs.more {w : World} {d N N' : Nat} {G : Nat → Prop} {mo li : Int} {T : Tb} {br : Bool} (h : DecIs w d G N mo li T br) (hn : N ≤ N') (hN : N' ≤ 1099511627776) : DecIs w d G N' mo li T br := by
  obtain ⟨g, F, hG, hd, ht, hF⟩ := h
  exact ⟨g, F, hG, hd, ht.more hn hN, hF⟩
theorem TabIs.tok {w : World} {g N : Nat} {F : Nat → Prop} {T : Tb} (h : TabIs w g F N T) : TOk T := by
  obtain ⟨h1, h2, h3, h4, h5, h6, h7⟩ := h.inv
  exact ⟨h2, h3, h7, h1⟩
theorem DecIs.tok {w : World} {d N : Nat} {G : Nat → Prop} {mo li : Int} {T : Tb} {br : Bool} (h : DecIs w d G N mo li T br) : TOk T := by
  obtain ⟨g, F, hG, hd, ht, hF⟩ := h
  exact ht.tok
/-- What a block's reading hands back. -/
def DPost (W : World) (d : Nat) (G : Nat → Prop) (N : Nat) (mo li : Int) (out : List Fd × Nat × Option Tb) (e : Ending) (w' : World) : Prop :=
  ∃ A c, e = .returned (.tuple #[.slice A out.1.length c, .int .i64 (out.2.1 : Int)]) ∧ w'.ownsRow W.heap.size 26 3 (.slice A out.1.length c) out.1.length (fds out.1) ∧
    ∃ G' T', DecIs w' d G' N mo li T' out.2.2.isNone ∧ (∀ T1, out.2.2 = some T1 → T' = T1) ∧ (∀ a, A = some a → ¬ G' a.block) ∧ Kept G W w' ∧ Grew W G G'
def HDRel (W : World) (p d g N L : Nat) (F : Nat → Prop) (mo li : Int) (x2 x4 x5 : Nat) (S0 : HSt) (k : Nat) (wr : World) : Prop :=
  ∃ S N' F' AL cl fv, k = S.left.length ∧ RdS W wr p d g N' F F' mo li S AL cl fv ∧ HOk L S ∧ decP mo L S0 = decP mo S.left.length S ∧ N' + S.left.length ≤ N + L ∧
    By wr p F' fv x2 (some (.cells #[.pointer (some ⟨d, 0, none⟩)] 95 (0, 0))) ∧ By wr p F' fv x4 (some (.cells #[.slice none 0 0] 22 (0, 0))) ∧ By wr p F' fv x5 (some (.cells #[.int .i64 0] 29 (0, 0)))
section
variable {mo li : Int} {T : Tb} {l : List UInt8} {S : HSt} {z : Nat}
theorem outD_err (h : decP mo l.length ⟨T, l, [], 0, 0⟩ = .error z) : outD mo li T l = ([], z, none) := by unfold outD; rw [h]
theorem outD_list (h : decP mo l.length ⟨T, l, [], 0, 0⟩ = .ok S) (h2 : li < (S.cost : Int)) : outD mo li T l = ([], 51, some S.T) := by unfold outD; rw [h]; exact if_pos h2
theorem outD_ok (h : decP mo l.length ⟨T, l, [], 0, 0⟩ = .ok S) (h2 : ¬ li < (S.cost : Int)) : outD mo li T l = (S.fields, 0, some S.T) := by unfold outD; rw [h]; exact if_neg h2
end
theorem Kept.but {F : Nat → Prop} {w w1 w2 : World} {x4 x5 d : Nat} (h : Kept (fun k => k = d ∨ F k) w w1) (h2 : Kept (fun k => k = d ∨ k = x4 ∨ k = x5) w1 w2) (h4 : w.heap.size ≤ x4) (h5 : w.heap.size ≤ x5) : Kept (fun k => k = d ∨ F k) w w2 :=
  ⟨h2.os.trans h.os, h2.tape.trans h.tape, h2.output.trans h.output, Nat.le_trans h.size h2.size, fun k hk hn => (h2.block k (Nat.lt_of_lt_of_le hk h.size) (fun e => by
    rcases e with e | e | e
    · exact hn (.inl e)
    · omega
    · omega)).trans (h.block k hk hn)⟩
set_option maxRecDepth 100000 in
set_option maxHeartbeats 4000000 in
theorem decode_any {d N n cap : Nat} {G : Nat → Prop} {mo li : Int} {T : Tb} {A : Option Addr} {l : List UInt8} (w : World) (h : DecIs w d G N mo li T false) (hr : Rd w w.heap.size 1 A n (bvs l)) (hcap : n ≤ cap) (hm : cap ≤ maxLen) (hn : n ≤ 1048576) (hA : 0 < n → ∀ a, A = some a → ¬ G a.block) (hmo : mo ≤ 65536) (hN : N + n ≤ 1099511627776) :
    Calls Tryz.prog 169 #[.pointer (some ⟨d, 0, none⟩), .slice A n cap] w (DPost w d G (N + n) mo li (outD mo li T l)) := by
  have hmf : ∀ (fn : Fn) (first cap : Array Value) (w : World), (Instr.makeFunc fn first cap).run Tryz.prog w = .ok (.func fn first cap) w := fun _ _ _ _ => rfl
  obtain ⟨g, F, hG, hd, ht, hF⟩ := h
  have hln := hr.blen
  have hdl := (Array.getElem?_eq_some_iff.1 hd).1
  have c3 : w.cell? ⟨d, 3, none⟩ = some (.bool false) := by unfold World.cell?; rw [hd]; rfl
  obtain ⟨W3, hW3⟩ : ∃ W3, ((w.alloc (.cells #[.pointer (some ⟨d, 0, none⟩)] 95)).alloc (.cells #[.slice none 0 0] 22)).alloc (.cells #[.int .i64 0] 29) = W3 := ⟨_, rfl⟩
  have b3 : Below w.heap.size w W3 := by rw [← hW3]; exact (((Below.refl _ w).alloc (Nat.le_refl _) _).alloc (by simp) _).alloc (by simp; omega) _
  have s3 : W3.heap.size = w.heap.size + 1 + 1 + 1 := by rw [← hW3]; simp
  have k3 : W3.heap[d]? = some (deB mo li g false) := (b3.block d hdl).trans hd
  have c3 : W3.cell? ⟨d, 3, none⟩ = some (.bool false) := by unfold World.cell?; rw [k3]; rfl
  have e2 : W3.heap[w.heap.size]? = some (.cells #[.pointer (some ⟨d, 0, none⟩)] 95 (0, 0)) := by
    rw [← hW3]
    exact ((Below.heap_alloc _ _ _ (by simp; omega)).trans (Below.heap_alloc _ _ _ (by simp))).trans (heapNew _ _)
  have e4 : W3.heap[w.heap.size + 1]? = some (.cells #[.slice none 0 0] 22 (0, 0)) := by
    rw [← hW3]
    exact (Below.heap_alloc _ _ _ (by simp)).trans (heapNew1 _ _ _)
  have e5 : W3.heap[w.heap.size + 1 + 1]? = some (.cells #[.int .i64 0] 29 (0, 0)) := by
    rw [← hW3]
    have := heapNew ((w.alloc (.cells #[.pointer (some ⟨d, 0, none⟩)] 95)).alloc (.cells #[.slice none 0 0] 22)) (.cells #[.int .i64 0] 29)
    simpa using this
  have hlw : w.heap.size ≤ W3.heap.size := b3.size
  obtain ⟨W4, hW4⟩ : ∃ W4, W3.alloc (.cells #[.pointer (some ⟨d, 0, none⟩), .slice A n cap, .slice none 0 0, .int .i64 0, .int .i64 0] 262) = W4 := ⟨_, rfl⟩
  have b4 : Below W3.heap.size W3 W4 := by rw [← hW4]; exact (Below.refl _ _).alloc (Nat.le_refl _) _
  have b34 : Below w.heap.size w W4 := b3.trans (b4.mono hlw)
  have hr4 := hr.kept (Kept.of_below (F := fun _ => False) b34) (fun _ _ _ h => h)
  have hrd0 : RdS w W4 W3.heap.size d g N F F mo li ⟨T, l, [], 0, 0⟩ A cap (.slice none 0 0) :=
    { tab := ht.keep fun k hk => b34.block k (ht.lt k hk)
      dec := (b34.block d hdl).trans hd
      rdr := by rw [← hW4, hln]; exact heapNew _ _
      left := by rw [hln]; exact hr4
      lcap := by rw [hln]; exact ⟨hcap, hm⟩
      lF := fun h0 a ha => by
        rw [hln] at h0
        have h1 := hA h0 a ha
        rw [hG] at h1
        obtain ⟨b, o, e, hb, -⟩ := hr.2 (by omega)
        rw [e] at ha
        injection ha with ha
        subst ha
        exact ⟨fun hf => h1 (.inr hf), fun hf => h1 (.inl hf), hb⟩
      fld := World.ownsRow_nil _ _ _ _
      fF := fun k hk => by cases hk
      grew := Grew.refl _ _
      kept := Kept.of_below b34
      dl := hdl
      dF := hF
      pl := hlw
      pF := fun hf => by have := ht.lt _ hf; omega }
  have hby : ∀ b o, w.heap.size ≤ b → b < W3.heap.size → W3.heap[b]? = o → By W4 W3.heap.size F (.slice none 0 0) b o := fun b o h1 h2 h3 =>
    ⟨Nat.lt_of_lt_of_le h2 b4.size, by omega, fun hf => by have := ht.lt _ hf; omega, by simp [Value.ownBlock], (b4.block b h2).trans h3⟩
  have hy2 := hby _ _ (Nat.le_refl _) (by omega) e2
  have hy4 := hby _ _ (by omega) (by omega) e4
  have hy5 := hby _ _ (by omega) (by omega) e5
  obtain ⟨x2, hx2⟩ : ∃ x, w.heap.size = x := ⟨_, rfl⟩
  have hx2' : w.heap.size ≤ x2 := by omega
  rw [hx2] at e2 hy2 hy4 hy5
  have q2 : W3.cell? ⟨x2, 0, none⟩ = some (.pointer (some ⟨d, 0, none⟩)) := by unfold World.cell?; rw [e2]; rfl
  obtain ⟨x4, hx4⟩ : ∃ x, x2 + 1 = x := ⟨_, rfl⟩
  obtain ⟨x5, hx5⟩ : ∃ x, x4 + 1 = x := ⟨_, rfl⟩
  rw [hx4] at hy4 hy5
  rw [hx5] at hy5
  obtain ⟨p, hp⟩ : ∃ p, W3.heap.size = p := ⟨_, rfl⟩
  rw [hp] at hrd0 hy2 hy4 hy5
  have HX := Lib.hid (And.intro hx2' (And.intro hx4 hx5))
  have HTOK := Lib.hid (DecIs.tok (d := d) ⟨g, F, rfl, hd, ht, hF⟩ : TOk T)
  have HRD := Lib.hid hrd0
  have HBY := Lib.hid (And.intro hy2 (And.intro hy4 hy5))
  have HW3 := Lib.hid hW3
  have HW4 := Lib.hid hW4
  have HX2 := Lib.hid hx2
  have HX4 := Lib.hid hx4
  have HX5 := Lib.hid hx5
  have HP := Lib.hid hp
  have HG := Lib.hid hG
  have HLN := Lib.hid hln
  clear hd k3 e2 e4 e5 hW3 b3 hx2 hW4 b4 b34 hr4 hrd0 hby hy2 hy4 hy5 hx4 hx5 hp hlw s3 ht hF hr hA hx2' hG hln
  go_enter_defers Tryz.func169, Tryz.ntmps169
  go_upto_region 1 with fail
  rw [HW3.out, HX2.out]
  rw [HX4.out]
  rw [HX5.out]
  go_wp2_with fail
  rw [HW4.out, HP.out]
  go_loopg [27] n (fun k _ wr => HDRel w p d g N n F mo li x2 x4 x5 ⟨T, l, [], 0, 0⟩ k wr)
  case atStart => 
    refine ⟨_, N, F, A, cap, _, HLN.out.symm, HRD.out, ?_, ?_, ?_, HBY.out⟩
    · rw [← HLN.out]; exact HOk.start HTOK.out l
    · rw [← HLN.out]
    · rw [HLN.out]; exact Nat.le_refl _
  case round =>
    obtain ⟨S, N', F', AL, cl, fv, hk, hrd, hok, hdec, hNN, hy2, hy4, hy5⟩ := hrel
    obtain ⟨Af, cf, rfl, -⟩ := own_slice hrd.fld
    obtain ⟨-, r1, r2, r3, -⟩ := hrd.cells
    have hne : x5 ≠ x4 := by have := HX.out.2.2; omega
    have hne2 : x4 ≠ x5 := fun e => hne e.symm
    obtain ⟨-, d1, -, -⟩ := hrd.dcells
    have z2 : wr.cell? ⟨x2, 0, none⟩ = some (.pointer (some ⟨d, 0, none⟩)) := by unfold World.cell?; rw [hy2.at_]; rfl
    have z4 : wr.cell? ⟨x4, 0, none⟩ = some (.slice none 0 0) := by unfold World.cell?; rw [hy4.at_]; rfl
    have z5 : wr.cell? ⟨x5, 0, none⟩ = some (.int .i64 0) := by unfold World.cell?; rw [hy5.at_]; rfl
    have fz4 : wr.frozen? ⟨x4, 0, none⟩ = false := by unfold World.frozen?; rw [hy4.at_]; simp
    have fz5 : wr.frozen? ⟨x5, 0, none⟩ = false := by unfold World.frozen?; rw [hy5.at_]; simp
    rw [← HLN.out] at hdec
    have HRW := Lib.hid hrd
    have HOKW := Lib.hid hok
    have HDEC := Lib.hid hdec
    have HY := Lib.hid (And.intro hy2 (And.intro hy4 hy5))
    have hlen := hok.len
    obtain ⟨ln, hlnn⟩ : ∃ ln, S.left.length = ln := ⟨_, rfl⟩
    have HLL := Lib.hid hlnn
    rw [hlnn] at hk r1 hNN hlen
    have HK := Lib.hid hk
    by_cases h0 : 0 < ln
    · have HPA := Lib.hid (part_any hrd hok hn hmo (by rw [hlnn]; exact h0) (by omega))
      have n0 : (0 : Int) < ln := by omega
      cases hpp : partP mo S with
      | error z =>
        have HE := Lib.hid (outD_err (li := li) (HDEC.out.trans (decP_fail (by rw [hlnn]; exact h0) hpp)))
        rw [hpp] at HPA
        clear hrd hok hdec hy2 hy4 hy5 hpp hlnn hk z4 z5 fz4 fz5
        go_wp2_with fail
        refine HPA.out.mono ?_
        rintro e w5 ⟨rfl, S1, F1, AL1, cl1, fv1, h1, hm1⟩
        have H1 := Lib.hid h1
        have HY2 := Lib.hid (HY.out.1.mv hm1)
        have HY4 := Lib.hid (HY.out.2.1.mv hm1)
        have HY5 := Lib.hid (HY.out.2.2.mv hm1)
        clear h1 hm1
        unfold errP
        go_wp2
        refine leaves_cons (f := 190) (args := #[.pointer (some ⟨x2, 0, none⟩), .pointer (some ⟨x4, 0, none⟩), .pointer (some ⟨x5, 0, none⟩)]) (by simp) (by simp [go_sem]) ?_
        have hd4 : d ≠ x4 := by have := HX.out; omega
        have hd5 : d ≠ x5 := by have := HX.out; omega
        refine (catch_panicking x2 x4 x5 d mo li g z (.slice none 0 0) 0 [] w5 HY2.out.at_ HY4.out.at_ HY5.out.at_ H1.out.dec hd4 hd5 hne2).mono ?_
        rintro e u' w6 ⟨rfl, rfl, hcat⟩
        have t4 : w6.cell? ⟨x4, 0, none⟩ = some (.slice none 0 0) := by unfold World.cell?; rw [hcat.r4]; rfl
        have t5 : w6.cell? ⟨x5, 0, none⟩ = some (.int .i64 (z : Int)) := by unfold World.cell?; rw [hcat.r5]; rfl
        refine (show Leaves _ _ _ _ [] .returning w6 from ⟨_, (by simp [results, Tryz.results169, go_sem, t4, t5]; rfl), ?_⟩)
        rw [HE.out]
        have hH := H1.out
        refine ⟨none, 0, rfl, World.ownsRow_nil _ _ _ _, fun k => k = d ∨ F1 k, S1.T, ⟨g, F1, rfl, hcat.dec, (hH.tab.keep fun k hk => hcat.kept.block k (hH.tab.lt k hk) (fun e => ?_)).more (by omega) hN, hH.dF⟩, (fun T1 h => by cases h), (fun a ha => by cases ha), ?_, ?_⟩
        · rcases e with e | e | e
          · exact hH.dF (e ▸ hk)
          · exact HY4.out.nF (e ▸ hk)
          · exact HY5.out.nF (e ▸ hk)
        · rw [HG.out]
          exact hH.kept.but hcat.kept (by have := HX.out; omega) (by have := HX.out; omega)
        · rw [HG.out]
          exact fun k hk => hk.elim (fun e => .inl (.inl e)) (fun hf => (hH.grew k hf).imp .inr id)
      | ok S' =>
        have hnext := HOKW.out.part hmo hpp
        have HST := Lib.hid (decP_step hmo HOKW.out (by rw [hlnn]; exact h0) hpp)
        have HNX := Lib.hid hnext
        have hln2 := hnext.2
        rw [hlnn] at hln2
        rw [hpp] at HPA
        clear hrd hok hdec hy2 hy4 hy5 hpp hlnn hk z4 z5 fz4 fz5 hnext
        go_wp2_with fail
        refine HPA.out.mono ?_
        rintro e w5 ⟨rfl, F1, AL1, cl1, fv1, h1, hm1⟩
        have H1 := Lib.hid h1
        have HY2 := Lib.hid (HY.out.1.mv hm1)
        have HY4 := Lib.hid (HY.out.2.1.mv hm1)
        have HY5 := Lib.hid (HY.out.2.2.mv hm1)
        clear h1 hm1
        go_wp2_with fail
        go_roundg S'.left.length
        case measure => rw [HK.out]; exact hln2
        case rel => exact ⟨S', N' + 1, F1, AL1, cl1, fv1, rfl, H1.out, HNX.out.1, by rw [← HLN.out]; exact HDEC.out.trans HST.out, by omega, HY2.out, HY4.out, HY5.out⟩
    · have hz : ln = 0 := by omega
      subst hz
      have hdn := HDEC.out.trans (decP_done HLL.out)
      have HDN := Lib.hid hdn
      clear hrd hok hdec hy2 hy4 hy5 hlnn hk hdn
      by_cases hc : li < (S.cost : Int)
      · have HO := Lib.hid (outD_list HDN.out hc)
        go_wp2
        go_quiet (fail)
        go_wp2
        refine leaves_cons (f := 190) (args := #[.pointer (some ⟨x2, 0, none⟩), .pointer (some ⟨x4, 0, none⟩), .pointer (some ⟨x5, 0, none⟩)]) (by simp) (by simp [go_sem]) ?_
        refine (catch_idle x2 x4 x5 _).mono ?_
        rintro e u' w6 ⟨rfl, rfl, rfl⟩
        refine (show Leaves _ _ _ _ [] .returning _ from ⟨_, (by simp [results, Tryz.results169, go_sem, z4, z5]; rfl), ?_⟩)
        obtain ⟨w6, hw6⟩ : ∃ w6, ((wr.drewN nq).setCell ⟨x4, 0, none⟩ (.slice none 0 0)).setCell ⟨x5, 0, none⟩ (.int .i64 51) = w6 := ⟨_, rfl⟩
        have hk6 : Kept (fun k => k = d ∨ k = x4 ∨ k = x5) wr w6 := by rw [← hw6]; exact (((Kept.refl (fun k => k = d ∨ k = x4 ∨ k = x5) wr).drewN nq).setCell (.inr (.inl rfl)) _ _).setCell (.inr (.inr rfl)) _ _
        have hd6 : w6.heap[d]? = wr.heap[d]? := by rw [← hw6]; exact (Below.heap_setCell _ _ _ _ (by show d ≠ x5; have := HX.out; omega)).trans (Below.heap_setCell _ _ _ _ (by show d ≠ x4; have := HX.out; omega))
        rw [hw6, HO.out]
        clear hw6
        have hH := HRW.out
        refine ⟨none, 0, rfl, World.ownsRow_nil _ _ _ _, fun k => k = d ∨ F' k, S.T, ⟨g, F', rfl, hd6.trans hH.dec, (hH.tab.keep fun k hk => hk6.block k (hH.tab.lt k hk) (fun e => ?_)).more (by omega) hN, hH.dF⟩, (fun T1 h => by injection h), (fun a ha => by cases ha), ?_, ?_⟩
        · rcases e with e | e | e
          · exact hH.dF (e ▸ hk)
          · exact HY.out.2.1.nF (e ▸ hk)
          · exact HY.out.2.2.nF (e ▸ hk)
        · rw [HG.out]
          exact hH.kept.but hk6 (by have := HX.out; omega) (by have := HX.out; omega)
        · rw [HG.out]
          exact fun k hk => hk.elim (fun e => .inl (.inl e)) (fun hf => (hH.grew k hf).imp .inr id)
      · have HO := Lib.hid (outD_ok HDN.out hc)
        go_wp2
        go_quiet (fail)
        go_wp2
        refine leaves_cons (f := 190) (args := #[.pointer (some ⟨x2, 0, none⟩), .pointer (some ⟨x4, 0, none⟩), .pointer (some ⟨x5, 0, none⟩)]) (by simp) (by simp [go_sem]) ?_
        refine (catch_idle x2 x4 x5 _).mono ?_
        rintro e u' w6 ⟨rfl, rfl, rfl⟩
        refine (show Leaves _ _ _ _ [] .returning _ from ⟨_, (by simp [results, Tryz.results169, go_sem, z4, z5]; rfl), ?_⟩)
        obtain ⟨w6, hw6⟩ : ∃ w6, ((wr.drewN nq).setCell ⟨x4, 0, none⟩ (.slice Af S.fields.length cf)).setCell ⟨x5, 0, none⟩ (.int .i64 0) = w6 := ⟨_, rfl⟩
        have hk6 : Kept (fun k => k = d ∨ k = x4 ∨ k = x5) wr w6 := by rw [← hw6]; exact (((Kept.refl (fun k => k = d ∨ k = x4 ∨ k = x5) wr).drewN nq).setCell (.inr (.inl rfl)) _ _).setCell (.inr (.inr rfl)) _ _
        have hd6 : w6.heap[d]? = wr.heap[d]? := by rw [← hw6]; exact (Below.heap_setCell _ _ _ _ (by show d ≠ x5; have := HX.out; omega)).trans (Below.heap_setCell _ _ _ _ (by show d ≠ x4; have := HX.out; omega))
        rw [hw6, HO.out]
        clear hw6
        have hH := HRW.out
        have hfv : ∀ a, Af = some a → ¬ (a.block = x4 ∨ a.block = x5) ∧ ¬ F' a.block ∧ w.heap.size ≤ a.block := fun a ha => by
          have h1 : (Value.slice Af S.fields.length cf).ownBlock = some a.block := by rw [ha]; rfl
          refine ⟨fun e => ?_, (hH.fF _ h1).1, (hH.fld.lt _ h1).1⟩
          rcases e with e | e
          · exact HY.out.2.1.nv (by rw [h1, e])
          · exact HY.out.2.2.nv (by rw [h1, e])
        refine ⟨Af, cf, rfl, own_kept4 hH.fld hk6 (fun q hq e => ?_), fun k => k = d ∨ F' k, S.T, ⟨g, F', rfl, hd6.trans hH.dec, (hH.tab.keep fun k hk => hk6.block k (hH.tab.lt k hk) (fun e => ?_)).more (by omega) hN, hH.dF⟩, (fun T1 h => by injection h), (fun a ha e => ?_), ?_, ?_⟩
        · have hq1 := (hH.fld.lt q hq).1
          rcases e with e | e | e
          · omega
          · exact HY.out.2.1.nv (by rw [hq, e])
          · exact HY.out.2.2.nv (by rw [hq, e])
        · rcases e with e | e | e
          · exact hH.dF (e ▸ hk)
          · exact HY.out.2.1.nF (e ▸ hk)
          · exact HY.out.2.2.nF (e ▸ hk)
        · have h1 := hfv a ha
          rcases e with e | e
          · omega
          · exact h1.2.1 e
        · rw [HG.out]
          exact hH.kept.but hk6 (by have := HX.out; omega) (by have := HX.out; omega)
        · rw [HG.out]
          exact fun k hk => hk.elim (fun e => .inl (.inl e)) (fun hf => (hH.grew k hf).imp .inr id)
end Go.Proofs.YtpkmciohehaboaaGreatDoor

/- The walk of drawbridgeref04.At. -/
namespace Go.Proofs.YtpkmciohehaboaaGreatDoor
open Go.RowKit

end Go.Proofs.YtpkmciohehaboaaGreatDoor

/- Out of XRTab1: the document's table inside its decoder (printed by gen_htab.py). -/
namespace Go.Proofs.YtpkmciohehaboaaGreatDoor
open Go.RowKit

variable {X : Value × Value × Value}
section
variable {w w' : World} {g c : Nat} {A : Option Addr} {most : Int} {rows : List Rw} {F : Nat → Prop}
end
end Go.Proofs.YtpkmciohehaboaaGreatDoor

/- Out of XRTab2: the document's table inside its decoder (printed by gen_htab.py). -/
namespace Go.Proofs.YtpkmciohehaboaaGreatDoor
open Go.RowKit

variable {X : Value × Value × Value}
section
variable {P : Program} {w : World}
end
end Go.Proofs.YtpkmciohehaboaaGreatDoor

/- Out of XRTab3: the document's table inside its decoder (printed by gen_htab.py). -/
namespace Go.Proofs.YtpkmciohehaboaaGreatDoor
open Go.RowKit

variable {X : Value × Value × Value}
end Go.Proofs.YtpkmciohehaboaaGreatDoor

/- Out of XRTab4: the document's table inside its decoder (printed by gen_htab.py). -/
namespace Go.Proofs.YtpkmciohehaboaaGreatDoor
open Go.RowKit

variable {X : Value × Value × Value}
end Go.Proofs.YtpkmciohehaboaaGreatDoor
