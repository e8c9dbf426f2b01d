/- The walk of table.Add. -/
import Derived.Test.YthpieiipddfpjaaTab4
import Derived.Deep.RegionHeld3
namespace Go.Proofs.Ythpieiipddfpjaa
open Go.RowKit Go.Maps

section
variable {P : Program} {w : World}
/-- append onto a slice that lies somewhere, as one step of a region that draws. -/
theorem step_app_lies {ops : Array Oper} {o : Oper} {a : Act} {K : Act → World → Prop} {Q : Exit → Act → World → Prop} {E : Prop} (s x : Operand) {t e : TypeId} {z : Value} {size bytes : Nat} (hT : SlT P t e z size bytes)
    (hgd : o.guard = none) (ho : o.op = .call { callee := .builtin .append, args := #[s, x], argTypes := #[t, t] })
    {v : Value} {n : Nat} {xs : List Value} (hl : Lies w e size v n xs) (hs : a.eval s = v)
    {B : Nat} {A : Option Addr} {m c : Nat} {news : List Value} (hr : Rd w B size A m news) (hm : 0 < m) (hx : a.eval x = .slice A m c) (h1 : ∀ u ∈ news, u.oneCell' = true)
    (h63 : n + m ≤ maxLen) (hbytes : (n + m) * bytes ≤ 140737488355328)
    (h : ∀ v' w', Lies w' e size v' (n + m) (xs ++ news) → w.grownBy w' v.ownBlock → (v'.ownBlock = v.ownBlock ∨ ∀ k, v'.ownBlock = some k → w.heap.size ≤ k) → K (a.put o.dst v') w') :
    if Region.wanted o (yielded ops a.tmps) = true then Oper.wp P o a w K Q else E := by
  have hw : Region.wanted o (yielded ops a.tmps) = true := by simp [Region.wanted, hgd]
  rw [if_pos hw]
  obtain ⟨v', w', hrun, h2, h3, h4⟩ := run_app_lies (P := P) o.type hT hl hr hm (c := c) h1 h63 hbytes
  unfold Oper.wp execOp
  simp only [ho, resolve, invoke, builtin, Sem.run_bind, Sem.run_pure, Result.andThen_ok, List.map_toArray, List.map_cons, List.map_nil, hs, hx, hrun]
  exact h v' w' h2 h3 h4
end
theorem Rd.pair (w : World) (x y : Value) (t : TypeId) : Rd (w.alloc (.cells #[x, y] t)) (w.heap.size + 1) 2 (some ⟨w.heap.size, 0, none⟩) 1 [x, y] := by
  refine ⟨rfl, fun _ => ⟨_, _, rfl, by omega, fun j hj => ?_⟩⟩
  rw [World.cell?_alloc_at _ _ _ _ rfl]
  simp

/-- The row's slice is the old one's block's or a new one's. -/
def SubN (W : World) (A A0 : Option Addr) : Prop := ∀ a, A = some a → (∃ a0, A0 = some a0 ∧ a0.block = a.block) ∨ W.heap.size ≤ a.block
theorem SubN.foot {W : World} {A A0 : Option Addr} (h : SubN W A A0) {g mb mn k : Nat} (hk : foot g mb mn A k) : foot g mb mn A0 k ∨ W.heap.size ≤ k := by
  rcases hk with h1 | h1 | h1 | ⟨a, ha, h1⟩
  · exact .inl (.inl h1)
  · exact .inl (.inr (.inl h1))
  · exact .inl (.inr (.inr (.inl h1)))
  · rcases h a ha with ⟨a0, h0, e⟩ | hle
    · exact .inl (.inr (.inr (.inr ⟨a0, h0, e.trans h1⟩)))
    · exact .inr (by omega)
/-- A row was appended: before its slice is stored, and behind it. -/
theorem Raw.app {w w4 : World} {g mb mn c N c4 : Nat} {A A4 : Option Addr} {most size gone : Int} {rows : List Rw} {fb : Rw → Option Int} {fn : ByteArray → Option Int} {r : Rw} (h : Raw w g mb mn A c N most size gone rows fb fn)
    (hl : Lies w4 85 2 (.slice A4 (rows.length + 1) c4) (rows.length + 1) (rcs rows ++ [.string r.1, .string r.2])) (hg : w.grownBy w4 (Value.ownBlock (.slice A rows.length c)))
    (hb : Value.ownBlock (.slice A4 (rows.length + 1) c4) = Value.ownBlock (.slice A rows.length c) ∨ ∀ k, Value.ownBlock (.slice A4 (rows.length + 1) c4) = some k → w.heap.size ≤ k) :
    w4.heap[g]? = w.heap[g]? ∧ Raw (w4.setCell ⟨g, 2, none⟩ (.slice A4 (rows.length + 1) c4)) g mb mn A4 c4 N most size gone (rows ++ [r]) fb fn ∧ SubN w A4 A := by
  have hsub : SubN w A4 A := by
    intro a ha
    subst ha
    rcases hb with e | hge
    · cases A with
      | none => simp [Value.ownBlock] at e
      | some a0 => simp [Value.ownBlock] at e; exact .inl ⟨a0, rfl, e.symm⟩
    · exact .inr (hge a.block rfl)
  have hlt := h.lt
  have hrow : ∀ k, k < w.heap.size → (∀ a, A = some a → a.block ≠ k) → w4.heap[k]? = w.heap[k]? := fun k hk hn => hg.block k hk (fun e => by
    cases A with
    | none => simp [Value.ownBlock] at e
    | some a => simp [Value.ownBlock] at e; exact hn a rfl e.symm)
  have hg4 := hrow g (hlt g (.inl rfl)) (fun a ha => (h.apart a ha).1)
  have hmb := hrow mb (hlt mb (.inr (.inl rfl))) (fun a ha => (h.apart a ha).2.1)
  have hmn := hrow mn (hlt mn (.inr (.inr (.inl rfl)))) (fun a ha => (h.apart a ha).2.2)
  have hap : ∀ a, A4 = some a → a.block ≠ g ∧ a.block ≠ mb ∧ a.block ≠ mn := by
    intro a ha
    rcases hsub a ha with ⟨a0, h0, e⟩ | hge
    · rw [← e]; exact h.apart a0 h0
    · have h1 := hlt g (.inl rfl)
      have h2 := hlt mb (.inr (.inl rfl))
      have h3 := hlt mn (.inr (.inr (.inl rfl)))
      exact ⟨by omega, by omega, by omega⟩
  have hk : ∀ k, k ≠ g → (w4.setCell ⟨g, 2, none⟩ (.slice A4 (rows.length + 1) c4)).heap[k]? = w4.heap[k]? := fun k hk => Below.heap_setCell _ _ _ _ (by simpa using hk)
  obtain ⟨D1, ⟨e1, l1, a1, b1⟩, v1⟩ := h.both
  obtain ⟨D2, ⟨e2, l2, a2, b2⟩, v2⟩ := h.name
  refine ⟨hg4, ⟨?_, ?_, ⟨D1, ⟨e1, l1, ((hk mb (Ne.symm h.ne.1)).trans hmb).trans a1, b1⟩, v1⟩, ⟨D2, ⟨e2, l2, ((hk mn (Ne.symm h.ne.2.1)).trans hmn).trans a2, b2⟩, v2⟩, h.ne, hap⟩, hsub⟩
  · simp only [World.setCell, Array.getElem?_modify, if_true]
    rw [hg4, h.book]
    simp
  · rw [List.length_append, rcs_app]
    refine Lies.keep hl fun q hq => hk q ?_
    cases A4 with
    | none => cases hq
    | some a => simp only [Value.ownBlock, Option.some.injEq] at hq; subst hq; exact (hap a rfl).1
theorem two_str (a b : ByteArray) : ∀ u ∈ [Value.string a, Value.string b], u.oneCell' = true := by simp [Value.oneCell']
theorem add_nil (n : Bool) (r : Rw) (w : World) : Calls Try.prog 25 #[.pointer none, .agg #[.string r.1, .string r.2, .bool n]] w fun e w' => e = .returned (.tuple #[]) ∧ Below w.heap.size w w' := by
  go_enter Try.func25, Try.ntmps25
  go_wp2
  exact bodyPost_ret (v := .tuple #[]) (by simp [results, Try.results25, go_sem]) rfl ⟨rfl, (Below.refl _ _).alloc (Nat.le_refl _) _⟩

def AddMid (W : World) (g mb mn : Nat) (A : Option Addr) (c N x : Nat) (T : Tb) (r : Rw) (b : Bool) (v : Value) (wx : World) : Prop :=
  v = .bool b ∧ TM wx g mb mn A c N T ∧ Below W.heap.size W wx ∧ wx.cell? ⟨x, 0, none⟩ = some (.string r.1) ∧ wx.cell? ⟨x, 1, none⟩ = some (.string r.2) ∧ x < wx.heap.size ∧ W.heap.size ≤ x

/-- Behind the shrinking. -/
def AddMid2 (W : World) (g mb mn : Nat) (A0 : Option Addr) (N x : Nat) (most gone : Int) (rows : List Rw) (r : Rw) (wx : World) : Prop :=
  ∃ A c, Tbl wx g mb mn A c N most gone rows ∧ Kept (foot g mb mn A0) W wx ∧ Sub A A0 ∧ wx.cell? ⟨x, 0, none⟩ = some (.string r.1) ∧ wx.cell? ⟨x, 1, none⟩ = some (.string r.2) ∧ x < wx.heap.size
/-- The row is there; not yet told in the maps. -/
def AddMid3 (W : World) (g mb mn : Nat) (A0 : Option Addr) (N x : Nat) (most size gone : Int) (rows : List Rw) (r : Rw) (wx : World) : Prop :=
  ∃ A c, Raw wx g mb mn A c N most size gone (rows ++ [r]) (pos rows gone) (pos (rows.map (·.1)) gone) ∧ Kept (foot g mb mn A0) W wx ∧ SubN W A A0 ∧ wx.cell? ⟨x, 0, none⟩ = some (.string r.1) ∧ wx.cell? ⟨x, 1, none⟩ = some (.string r.2) ∧ x < wx.heap.size
set_option maxRecDepth 100000 in
set_option maxHeartbeats 4000000 in
theorem add_any {g N : Nat} {F : Nat → Prop} {T : Tb} (r : Rw) (nv : Bool) (w : World) (h : TabIs w g F N T) (hr1 : r.1.size ≤ 1099511627776) (hr2 : r.2.size ≤ 1099511627776) (hN : N + 1 ≤ 1099511627776) :
    Calls Try.prog 25 #[.pointer (some ⟨g, 0, none⟩), .agg #[.string r.1, .string r.2, .bool nv]] w (TStep w g F (N + 1) (T.add r) (.tuple #[])) := by
  obtain ⟨mb, mn, A, c, rfl, ht⟩ := h
  have hlt := ht.raw.lt
  have hgl := hlt g (.inl rfl)
  have hcost : (cost r : Int) = r.1.size + r.2.size + 32 := by unfold cost; omega
  obtain ⟨cr, hcr⟩ : ∃ cr : Int, (cost r : Int) = cr := ⟨_, rfl⟩
  have hcr0 : 32 ≤ cr := by omega
  have hcr1 : cr ≤ 4398046511104 := by omega
  have HCR := Lib.hid hcr
  obtain ⟨c0, c1, c2, c3, c4, c5⟩ := ht.raw.cells
  have hm0 := ht.most0
  have hm1 := ht.most1
  have HT := Lib.hid ht
  have HLT := Lib.hid hlt
  have hg1 : g < w.heap.size + 1 := by omega
  have hg2 : g < w.heap.size + 1 + 1 := by omega
  clear ht hlt hcost hcr
  go_enter Try.func25, Try.ntmps25
  go_upto_region 3 with fail
  obtain ⟨wa, hwa⟩ : ∃ wa, (w.alloc (.cells #[.string r.1, .string r.2, .bool nv] 24)).alloc (.cells #[.string r.1, .string r.2] 85) = wa := ⟨_, rfl⟩
  obtain ⟨x, hx⟩ : ∃ x, w.heap.size + 1 = x := ⟨_, rfl⟩
  have hbw : Below w.heap.size w wa := by rw [← hwa]; exact ((Below.refl _ _).alloc (Nat.le_refl _) _).alloc (by simp) _
  have hsa : wa.heap.size = w.heap.size + 2 := by rw [← hwa]; simp
  have hxa : x < wa.heap.size := by omega
  have hga : g < wa.heap.size := by omega
  have y0 : wa.cell? ⟨x, 0, none⟩ = some (.string r.1) := by rw [← hwa]; exact World.cell?_alloc_at _ _ _ _ (by simp; omega)
  have y1 : wa.cell? ⟨x, 1, none⟩ = some (.string r.2) := by rw [← hwa]; exact World.cell?_alloc_at _ _ _ _ (by simp; omega)
  have hta : TM wa g mb mn A c N T := HT.out.keep (fun k hk => hbw.block k (HLT.out k hk))
  obtain ⟨a0, -⟩ := hta.raw.cells
  have HTA := Lib.hid hta
  have HBW := Lib.hid hbw
  rw [hwa, hx]
  have HX := Lib.hid hx
  have hxw : w.heap.size ≤ x := by omega
  clear hwa hx hsa hbw hta c0 c1 c2 c3 c4 c5
  go_cut [18] (fun v wx => AddMid w g mb mn A c N x T r (decide (T.most < cr)) v wx)
  case first =>
    go_region_held3 (fun w' => w'.cell? ⟨g, 0, none⟩ = some (.int .i64 T.most) ∧ w'.cell? ⟨x, 0, none⟩ = some (.string r.1) ∧ w'.cell? ⟨x, 1, none⟩ = some (.string r.2))
      (go_keep)
      (first
        | (go_at_call 48; refine (cost_any r _ (by omega) (by omega)).mono ?_; rintro e w2 ⟨rfl, rfl⟩; rw [HCR.out]))
    all_goals
      go_wp2_with fail
      go_meet
      refine ⟨rfl, HTA.out.keep (fun k hk => Below.heap_alloc wa _ k (HTA.out.raw.lt k hk)), (HBW.out.alloc (by have := HBW.out.size; omega) _).drew, (World.cell?_alloc_lt _ _ _ hxa).trans y0, (World.cell?_alloc_lt _ _ _ hxa).trans y1, by simp; omega, hxw⟩
  case rest =>
    obtain ⟨rfl, htm, hbw, x0, x1, hxl, hxw'⟩ := hcut
    have htb := htm.tbl
    have HTM := Lib.hid htm
    have HBC := Lib.hid hbw
    obtain ⟨c0, c1, c2, c3, c4, c5⟩ := htm.raw.cells
    have hgc := htm.raw.lt g (.inl rfl)
    have hfoot : ∀ k, foot g mb mn A k → k < w.heap.size := HLT.out
    have HLT2 := Lib.hid hfoot
    have hxf : ¬ foot g mb mn A x := fun hf => by have := hfoot x hf; omega
    have HXF := Lib.hid hxf
    clear hfoot hxf HTA HBW y0 y1 a0 hxa hga hbw htm HLT HT
    by_cases hbig : T.most < cr
    · have hadd : T.add r = T.shrink 0 := by unfold Tb.add; rw [if_pos (by rw [HCR.out]; exact hbig)]
      have hC := Lib.hid (shrink_any 0 wc htb)
      have eb : decide (T.most < cr) = true := by simpa using hbig
      have HADD := Lib.hid hadd
      clear hadd htb
      go_wp2_with fail
      refine hC.out.mono ?_
      rintro e w' ⟨rfl, A', c', htb, hk, hs⟩
      have H := Lib.hid (And.intro htb (And.intro hk hs))
      clear htb hk hs hC
      go_wp2
      refine bodyPost_ret (v := .tuple #[]) (by simp [results, Try.results25, go_sem]) rfl ?_
      rw [HADD.out]
      refine ⟨rfl, foot g mb mn A', ⟨mb, mn, A', c', rfl, ?_⟩, ?_, fun k hf => .inl (H.out.2.2.foot hf)⟩
      · obtain ⟨h1, h2, h3, h4, h5, h6⟩ := H.out.1
        exact TM.of ⟨h1.more (Nat.le_succ N), h2, h3, by omega, by omega, h6⟩ hm0 hm1 (by have := shrunk_fits (Int.le_refl 0) T.rows T.gone; omega)
      · exact (Kept.of_below HBC.out).same H.out.2.1
    · have hle : cr ≤ T.most := by omega
      have eb : decide (T.most < cr) = false := by simpa using hbig
      have hC : Hid (∀ w', w'.heap = wc.heap ∨ w' = wc.alloc (.cells #[.string r.1, .string r.2] 85) ∨ w' = (wc.alloc (.cells #[.string r.1, .string r.2] 85)).drew → Calls Try.prog 49 #[.pointer (some ⟨g, 0, none⟩), .int .i64 (T.most - cr)] w' (ShrPost w' g mb mn A N (T.most - cr) T.most T.gone T.rows)) := by
        refine Lib.hid fun w' hw' => shrink_any _ w' ⟨htb.1.keep fun k hk => ?_, htb.2⟩
        have hkl := HTM.out.raw.lt k hk
        rcases hw' with h | h | h
        · rw [h]
        · rw [h]; exact Below.heap_alloc _ _ _ hkl
        · rw [h]; exact Below.heap_alloc _ _ _ hkl
      clear hbig htb
      obtain ⟨g1, rows1, hsh⟩ : ∃ g1 rows1, shrunk (T.most - cr) T.gone T.rows = (g1, rows1) := ⟨_, _, rfl⟩
      have hfit : sumc rows1 ≤ T.most - cr := by have := shrunk_fits (show 0 ≤ T.most - cr by omega) T.rows T.gone; rw [hsh] at this; exact this
      have HADD : Hid (T.add r = ⟨T.most, g1, rows1 ++ [r]⟩) := Lib.hid (by
        unfold Tb.add Tb.shrink
        rw [if_neg (by rw [HCR.out]; omega)]
        simp only [HCR.out, hsh])
      have HSH := Lib.hid hsh
      clear hsh
      go_upto_region 5 with fail
      go_cut [25] (fun _ wx => AddMid2 w g mb mn A N x T.most g1 rows1 r wx)
      case first =>
        have es : IntKind.i64.wrap (T.most - cr) = T.most - cr := by rw [IntWalk.i64_in _ ⟨by omega, by omega⟩]
        have hxl1 : x < wc.heap.size + 1 := by omega
        go_region_held3 (fun w' => w'.cell? ⟨g, 0, none⟩ = some (.int .i64 T.most) ∧ w'.cell? ⟨x, 0, none⟩ = some (.string r.1) ∧ w'.cell? ⟨x, 1, none⟩ = some (.string r.2))
          (first | go_keep | exact ⟨k0, k1, k2⟩)
          (first
            | (go_at_call 48; refine (cost_any r _ (by omega) (by omega)).mono ?_; rintro e w2 ⟨rfl, rfl⟩; rw [HCR.out])
            | (go_at_call 49; refine (hC.out _ (by first | (exact .inr (.inl rfl)) | (exact .inr (.inr rfl)))).mono ?_; rintro e w4 ⟨rfl, A', c', htb, hk, hs⟩; rw [HSH.out] at htb; obtain ⟨k0, -⟩ := htb.1.cells; have k1 := (hk.cell (k := x) (by simp; omega) HXF.out 0).trans ((World.cell?_alloc_lt wc _ _ hxl).trans x0); have k2 := (hk.cell (k := x) (by simp; omega) HXF.out 1).trans ((World.cell?_alloc_lt wc _ _ hxl).trans x1); have H4 := Lib.hid (And.intro htb (And.intro hk (And.intro hs (And.intro k1 k2)))); have hs4 := hk.size; clear htb hk hs))
        all_goals
          go_wp2_with fail
          go_meet
          obtain ⟨htb, hk, hs, j1, j2⟩ := H4.out
          refine ⟨A', c', htb, ?_, hs, j1, j2, by simp at hs4; omega⟩
          first
            | exact (((Kept.of_below HBC.out).alloc _).drew).same hk
            | exact ((Kept.of_below HBC.out).alloc _).same hk
      case rest =>
        obtain ⟨A1, c1', htb, hkept, hsub, z0, z1, hxl3⟩ := hcut
        obtain ⟨d0, d1, d2, d3, d4, d5⟩ := htb.1.cells
        have hfz := htb.1.free 2
        have hmany := htb.2.2.2.1
        have hg10 := htb.2.2.1
        have hrl : rows1.length ≤ 1099511627776 := by omega
        have hgl3 := htb.1.lt g (.inl rfl)
        have HTB := Lib.hid (And.intro htb (And.intro hkept hsub))
        clear htb hkept hsub HTM hC x0 x1 hxl c0 c1 c2 c3 c4 c5 HBC
        go_upto_region 6 with fail
        have HFZ : Hid ((wc.alloc (.cells #[.string r.1, .string r.2] 85)).frozen? ⟨g, 2, none⟩ = false) := Lib.hid ((HTB.out.1.1.alloc _).free 2)
        go_cut [37] (fun _ wx => AddMid3 w g mb mn A N x T.most (sumc rows1) g1 rows1 r wx)
        case first =>
          go_region_law (first
            | (refine step_app_lies (.tmp 34) (.tmp 36) tRows rfl rfl (HTB.out.1.1.alloc _).row rfl (Rd.pair _ _ _ _) (by decide) rfl (two_str _ _) (le_maxLen (by omega)) (by omega) ?_; intro v4 w4 hl4 hg4 hb4; obtain ⟨A4, c4', rfl, -, -, -⟩ := hl4.form; obtain ⟨hg5, hr5, hs5⟩ := Raw.app (r := r) ((HTB.out.1.1.alloc _).keep (w' := (wc.alloc (.cells #[.string r.1, .string r.2] 85)).drew) (fun _ _ => rfl)) hl4 hg4 hb4; have m2 : w4.cell? ⟨g, 2, none⟩ = some (.slice A1 rows1.length c1') := (World.cell?_of_block (a := ⟨g, 2, none⟩) hg5).trans ((World.cell?_alloc_lt wc _ _ hgl3).trans d2); have mf : w4.frozen? ⟨g, 2, none⟩ = false := (World.frozen?_of_block (a := ⟨g, 2, none⟩) hg5).trans (HFZ.out); have H5 := Lib.hid (And.intro hr5 (And.intro hs5 hg4)); clear hl4 hg4 hb4 hg5 hr5 hs5))
          all_goals
            go_wp2_with fail
            go_meet
            obtain ⟨hr5, hs5, hg4⟩ := H5.out
            have hxg : x ≠ g := fun e => HXF.out (.inl e)
            have hx4 : w4.heap[x]? = wc.heap[x]? := (hg4.block x (by simp; omega) (fun e => by
              cases A1 with
              | none => simp [Value.ownBlock] at e
              | some a1 =>
                simp [Value.ownBlock] at e
                obtain ⟨a0, h0, e0⟩ := HTB.out.2.2 a1 rfl
                exact HXF.out (.inr (.inr (.inr ⟨a0, h0, e0.trans e.symm⟩))))).trans (Below.heap_alloc wc _ x hxl3)
            have hxs : ∀ o v, ((w4.setCell ⟨g, 2, none⟩ v).cell? ⟨x, o, none⟩) = wc.cell? ⟨x, o, none⟩ := fun o v =>
              (World.cell?_of_block (a := ⟨x, o, none⟩) (Below.heap_setCell _ _ _ _ (by simpa using hxg))).trans (World.cell?_of_block (a := ⟨x, o, none⟩) hx4)
            have hszw := hg4.size
            refine ⟨A4, c4', hr5, ?_, ?_, (hxs 0 _).trans z0, (hxs 1 _).trans z1, by simp at hszw; simp [World.setCell]; omega⟩
            · refine Kept.setCell ((HTB.out.2.1.alloc _).drew.grown hg4 (fun k hk => ?_)) (.inl rfl) _ _
              cases A1 with
              | none => simp [Value.ownBlock] at hk
              | some a1 =>
                simp [Value.ownBlock] at hk
                obtain ⟨a0, h0, e0⟩ := HTB.out.2.2 a1 rfl
                exact .inl (.inr (.inr (.inr ⟨a0, h0, e0.trans hk⟩)))
            · intro a ha
              have hsz0 := HTB.out.2.1.size
              rcases hs5 a ha with ⟨a1, h1, e1⟩ | hge
              · obtain ⟨a0, h0, e0⟩ := HTB.out.2.2 a1 h1
                exact .inl ⟨a0, h0, e0.trans e1⟩
              · exact .inr (by simp at hge; omega)
        case rest =>
          obtain ⟨A2, c2', hraw, hkept, hsub, x0, x1, hxl⟩ := hcut
          obtain ⟨c0, c1, c2, c3, c4, c5⟩ := hraw.cells
          have hf1 := hraw.free 1
          have hgl4 := hraw.lt g (.inl rfl)
          have hs1 := sumc_nonneg rows1
          have HR := Lib.hid (And.intro hraw (And.intro hkept hsub))
          clear hraw hkept hsub d0 d1 d2 d3 d4 d5 z0 z1 hxl3 hfz hgl3 HFZ
          go_upto_region 7 with fail
          go_cut [46] (fun _ wx => AddMid3 w g mb mn A N x T.most (sumc rows1 + cr) g1 rows1 r wx)
          case first =>
            have es : IntKind.i64.wrap (sumc rows1 + cr) = sumc rows1 + cr := by rw [IntWalk.i64_in _ ⟨by omega, by omega⟩]
            have hmid : Hid (AddMid3 w g mb mn A N x T.most (sumc rows1 + cr) g1 rows1 r (((wc.setCell ⟨g, 1, none⟩ (.int .i64 (sumc rows1 + cr))).alloc (.cells #[.string r.1, .string r.2] 85)).drew)) := by
              refine Lib.hid ⟨A2, c2', ?_, ?_, HR.out.2.2, ?_, ?_, ?_⟩
              · exact ((HR.out.1.setSize _).alloc _).keep (fun _ _ => rfl)
              · exact ((HR.out.2.1.setCell (.inl rfl) _ _).alloc _).drew
              · have hxg : x ≠ g := fun e => HXF.out (.inl e)
                exact ((World.cell?_alloc_lt _ _ _ (by simpa [World.setCell] using hxl)).trans (World.cell?_of_block (a := ⟨x, 0, none⟩) (Below.heap_setCell _ _ _ _ (by simpa using hxg)))).trans x0
              · have hxg : x ≠ g := fun e => HXF.out (.inl e)
                exact ((World.cell?_alloc_lt _ _ _ (by simpa [World.setCell] using hxl)).trans (World.cell?_of_block (a := ⟨x, 1, none⟩) (Below.heap_setCell _ _ _ _ (by simpa using hxg)))).trans x1
              · simp [World.setCell]; omega
            clear HR
            go_region_law (first
              | (go_simp; go_at_call 48; refine (cost_any r _ (by omega) (by omega)).mono ?_; rintro e w2 ⟨rfl, rfl⟩; rw [HCR.out]))
            all_goals
              go_wp2_with fail
              go_meet
              first
                | exact hmid.out
                | (rw [es]; exact hmid.out)
          case rest =>
            obtain ⟨A3, c3', hraw, hkept, hsub, x0, x1, hxl⟩ := hcut
            obtain ⟨c0, c1, c2, c3, c4, c5⟩ := hraw.cells
            obtain ⟨D1, o1, v1⟩ := hraw.both
            have HD := Lib.hid o1
            have HV := Lib.hid v1
            have hokr : okR r := ⟨by unfold okS maxLen; omega, by unfold okS maxLen; omega⟩
            have HOKR := Lib.hid hokr
            have HRW := Lib.hid (And.intro hraw (And.intro hkept hsub))
            have es1 : IntKind.i64.wrap (g1 + ((rows1.length : Int) + 1)) = g1 + rows1.length + 1 := by rw [IntWalk.i64_in _ ⟨by omega, by omega⟩]; omega
            clear hraw hkept hsub o1 v1 HR hokr
            go_wp2
            go_still_tail 15, (by kernel_rfl)
            change wpList _ _ _ _ _ wc.drew
            go_wp2_with (at_mapUpdate; refine wpList_mapUpdate_own _ rfl _ _ _ 78 rfl 85 3 lawRow Try.underlying78 _ mb _ D1 rfl HD.out (by unfold maxLen; omega) _ _ (rowKey r) rfl rfl (rowKey_ok HOKR.out) (num _) [] (plainElem_int Try.underlying3 (WalkArith.wf_i64 (by omega))) ?_; intro w1 hown1 hgrow1)
            obtain ⟨D2, o2, v2⟩ := HRW.out.1.name
            have hne := HRW.out.1.ne
            have hr8 := (HRW.out.1.keep (w' := wc.drew) (fun _ _ => rfl)).newBoth hgrow1 hown1 (HV.out.put (HD.out.tidy lawRow) rowKey_lit rowKey_ne HOKR.out (g1 + rows1.length + 1)) (Nat.le_succ N)
            have o2k := (World.ownsMap.drew o2).kept hgrow1 (by simpa using Ne.symm hne.2.2)
            have hxmb : x ≠ mb := fun e => HXF.out (.inr (.inl e))
            have hx1 : w1.heap[x]? = wc.heap[x]? := hgrow1.block x hxl (by simpa using hxmb)
            have z0 := (World.cell?_of_block (a := ⟨x, 0, none⟩) hx1).trans x0
            have z1 := (World.cell?_of_block (a := ⟨x, 1, none⟩) hx1).trans x1
            obtain ⟨b0, b1, b2, b3, b4, b5⟩ := hr8.cells
            have hk8 : Kept (foot g mb mn A) w w1 := HRW.out.2.1.drew.grown hgrow1 (fun k hk => by cases hk; exact .inl (.inr (.inl rfl)))
            have H8 := Lib.hid (And.intro hr8 hk8)
            have HD2 := Lib.hid o2k
            have HV2 := Lib.hid v2
            clear hr8 o2 o2k v2 hne hown1 hgrow1 hx1 hk8 c0 c1 c2 c3 c4 c5 x0 x1
            go_wp2
            go_still_tail 16, (by kernel_rfl)
            change wpList _ _ _ _ _ w1.drew
            go_wp2_with (at_mapUpdate; refine wpList_mapUpdate_own _ rfl _ _ _ 79 rfl 9 3 lawStr Try.underlying79 _ mn _ D2 rfl HD2.out (by unfold maxLen; omega) _ _ (strKey r.1) rfl rfl (strKey_ok HOKR.out.1) (num _) [] (plainElem_int Try.underlying3 (WalkArith.wf_i64 (by omega))) ?_; intro w2 hown2 hgrow2)
            go_end0
            rw [HADD.out]
            have hr9 := (H8.out.1.keep (w' := w1.drew) (fun _ _ => rfl)).newName hgrow2 hown2 (HV2.out.put (HD2.out.tidy lawStr) strKey_lit strKey_ne HOKR.out.1 (g1 + rows1.length + 1)) (Nat.le_refl _)
            have hsum : sumc (rows1 ++ [r]) = sumc rows1 + cr := by
              rw [← HCR.out]
              unfold sumc
              simp
            refine ⟨rfl, foot g mb mn A3, ⟨mb, mn, A3, c3', rfl, TM.of ⟨?_, ?_, hg10, ?_, hN, ?_⟩ hm0 hm1 (by omega)⟩, H8.out.2.drew.grown hgrow2 (fun k hk => by cases hk; exact .inl (.inr (.inr (.inl rfl)))), fun k hk => HRW.out.2.2.foot hk⟩
            · rw [hsum, List.map_append]
              refine hr9.congr (fun r' _ => ?_) (fun s _ => ?_)
              · rw [pos_snoc]
              · rw [show List.map (fun x => x.fst) [r] = [r.1] from rfl, pos_snoc, List.length_map]
            · intro r' hr'
              rcases List.mem_append.1 hr' with h | h
              · exact HTB.out.1.2.1 r' h
              · rw [List.mem_singleton.1 h]; exact HOKR.out
            · rw [List.length_append]; simp; omega
            · rw [hsum]; omega
end Go.Proofs.Ythpieiipddfpjaa
