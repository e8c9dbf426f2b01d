/- The walk of drawbridgeref04.Resize. -/
import Derived.Test.YthpieiipddfpjaaRTab1
import Derived.IntWalk
namespace Go.Proofs.Ythpieiipddfpjaa
open Go.RowKit

section
variable {P : Program} {w : World}
/-- append as one step of a region that draws. -/
theorem step_app {ops : Array Oper} {o : Oper} {a : Act} {K : Act → World → Prop} {Q : Exit → Act → World → Prop} {E : Prop} (s x : Operand) {t e : TypeId} {z : Value} {size bytes : Nat} (hT : SlT P t e z size bytes)
    (hgd : o.guard = none) (ho : o.op = .call { callee := .builtin .append, args := #[s, x], argTypes := #[t, t] })
    {base : Nat} {v : Value} {n : Nat} {xs : List Value} (hown : w.ownsRow base e size v n xs) (hs : a.eval s = v)
    {B : Nat} {A : Option Addr} {m c : Nat} {news : List Value} (hr : Rd w B size A m news) (hx : a.eval x = .slice A m c) (h1 : ∀ u ∈ news, u.oneCell' = true)
    (h63 : n + m ≤ maxLen) (hbytes : (n + m) * bytes ≤ 140737488355328) (hbase : base ≤ w.heap.size)
    (h : ∀ v' w', w'.ownsRow base e size v' (n + m) (xs ++ news) → w.grownBy w' v.ownBlock → (v'.ownBlock = v.ownBlock ∨ v'.ownBlock = some w.heap.size) → K (a.put o.dst v') w') :
    if Region.wanted o (yielded ops a.tmps) = true then Oper.wp P o a w K Q else E := by
  have hw : Region.wanted o (yielded ops a.tmps) = true := by simp [Region.wanted, hgd]
  rw [if_pos hw]
  obtain ⟨v', w', hrun, h2, h3, h4⟩ := run_app (P := P) o.type hT hown hr (c := c) h1 h63 hbytes hbase
  unfold Oper.wp execOp
  simp only [ho, resolve, invoke, builtin, Sem.run_bind, Sem.run_pure, Result.andThen_ok, List.map_toArray, List.map_cons, List.map_nil, hs, hx, hrun]
  exact h v' w' h2 h3 h4
end
theorem own_new (w : World) (B size : Nat) (e : TypeId) (hB : B ≤ w.heap.size) : (w.alloc (.cells #[] e)).ownsRow B e size (.slice (some ⟨w.heap.size, 0, none⟩) 0 0) 0 [] :=
  ⟨by simp, .inr ⟨_, 0, #[], rfl, hB, heapNew _ _, Nat.le_refl _, Nat.zero_le _, by simp, by simp⟩⟩
/-- The first n of a row. -/
theorem Rd.pre {w : World} {B size n m : Nat} {A : Option Addr} {xs : List Value} (h : Rd w B size A n xs) (hm : m ≤ n) : Rd w B size A m (xs.take (m * size)) := by
  have hmm : m * size ≤ n * size := Nat.mul_le_mul_right _ hm
  refine ⟨by rw [List.length_take, h.1]; omega, fun h0 => ?_⟩
  obtain ⟨b, o, hA, hb, hc⟩ := h.2 (by omega)
  refine ⟨b, o, hA, hb, fun j hj => ?_⟩
  rw [hc j (by omega), List.getElem?_take, if_pos hj]
theorem fcs_pre (M : List Rw) (r : Rw) : (fcs (M ++ [r])).take (M.length * 3) = fcs M := by
  rw [fcs_app, ← fcs_length M, List.take_left]
/-- A new row of its own is the table's from now on. -/
theorem RT.store {w w4 : World} {g c c4 : Nat} {A A4 : Option Addr} {most : Int} {rows rows' : List Rw} {base : Nat} (h : RT w g A c most rows) (hg : w4.heap[g]? = w.heap[g]?)
    (hl : w4.ownsRow base 24 3 (.slice A4 rows'.length c4) rows'.length (fcs rows'.reverse)) (hb : ∀ a, A4 = some a → a.block ≠ g) :
    RT (w4.setCell ⟨g, 1, none⟩ (.slice A4 rows'.length c4)) g A4 c4 most rows' := by
  refine ⟨?_, (Lies.of_own hl).keep fun q hq => Below.heap_setCell _ _ _ _ (fun e => ?_), hb⟩
  · simp only [World.setCell, Array.getElem?_modify, if_true]
    rw [hg, h.book]; rfl
  · cases A4 with
    | none => cases hq
    | some a => simp only [Value.ownBlock, Option.some.injEq] at hq; exact hb a rfl (hq.trans e)
def RStep (W : World) (g : Nat) (F : Nat → Prop) (most : Int) (rows : List Rw) (e : Ending) (w' : World) : Prop :=
  e = .returned (.tuple #[]) ∧ ∃ F', RIs w' g F' most rows ∧ Kept F W w' ∧ Grew W F F'
def RShRel (W : World) (g : Nat) (F : Nat → Prop) (m : Int) (rows0 : List Rw) (k : Nat) (wr : World) : Prop :=
  ∃ F1 g1 rows, RIs wr g F1 m rows ∧ Kept F W wr ∧ Grew W F F1 ∧ shrunk m 0 rows0 = shrunk m g1 rows ∧ Small rows ∧ k = rows.length
theorem Small.tail {r : Rw} {l : List Rw} (h : Small (r :: l)) : Small l := ⟨by have := h.1; rw [sumc_cons] at this; have := cost; unfold Small at h; omega, fun r' hr => h.2 r' (List.mem_cons_of_mem _ hr)⟩

set_option maxRecDepth 100000 in
set_option maxHeartbeats 4000000 in
theorem rresize_any {g : Nat} {F : Nat → Prop} {most : Int} {rows : List Rw} (m : Int) (w : World) (h : RIs w g F most rows) (hs : Small rows) (hm : 0 ≤ m) :
    Calls Try.prog 44 #[.pointer (some ⟨g, 0, none⟩), .int .i64 m] w (RStep w g F m (shrunk m 0 rows).2) := by
  obtain ⟨A, c, rfl, ht⟩ := h
  have hf0 := ht.free 0
  obtain ⟨c0, -⟩ := ht.cells
  have H := Lib.hid ht
  have HS := Lib.hid hs
  clear ht hs
  go_enter Try.func44, Try.ntmps44
  go_wp2
  go_loopg [9] rows.length (fun k _ wr => RShRel w g (rfoot g A) m rows k wr)
  case atStart => exact ⟨rfoot g A, 0, rows, ⟨A, c, rfl, H.out.setMost m⟩, (Kept.refl _ _).setCell (.inl rfl) _ _, Grew.refl _ _, rfl, HS.out, rfl⟩
  case round =>
    obtain ⟨F1, g1, rows1, hris, hkept, hgrew, hsh, hsm, hk⟩ := hrel
    have hl := hsm.len
    have HC := Lib.hid (rsize_any wr hris hsm)
    have HR := Lib.hid (And.intro hris (And.intro hkept (And.intro hgrew (And.intro hsh (And.intro hsm hk)))))
    have hss := sumc_nonneg rows1
    clear hris hkept hgrew hsh hsm hk
    by_cases hbig : m < sumc rows1
    · cases rows1 with
      | nil => exact absurd hbig (by unfold sumc; simp; omega)
      | cons r l =>
        go_wp2_with fail
        refine HC.out.mono ?_
        rintro e w1 ⟨rfl, hb1⟩
        obtain ⟨A1, c1', hF1, hrt⟩ := HR.out.1.below hb1
        have HB1 := Lib.hid hb1
        have HRT := Lib.hid hrt
        have HF1 := Lib.hid hF1
        obtain ⟨-, d1⟩ := hrt.cells
        have hfz := hrt.free 1
        have hgl := hrt.lt g (.inl rfl)
        have hrd := ((hrt.row.rd rfl).pre (m := l.length) (by simp))
        rw [List.reverse_cons, ← List.length_reverse, fcs_pre, List.length_reverse] at hrd
        have HRD := Lib.hid hrd
        obtain ⟨A', c', hv, hnc, hcm, -⟩ := hrt.row.form
        injection hv with e1 e2 e3
        subst e1 e3
        simp only [List.length_cons] at d1 hnc hl
        clear hb1 hrt hF1 hrd
        have s1 : IntKind.i64.wrap (l.length : Int) = (l.length : Int) := by rw [IntWalk.i64_in _ ⟨by omega, by omega⟩]
        have hnc2 : (l.length : Int) ≤ (c1' : Int) := by omega
        go_upto_region 2 with fail
        go_region_law (first
          | (refine step_app (.tmp 13) (.tmp 24) tFields rfl rfl (own_new w1 w1.heap.size 3 _ (Nat.le_refl _)) rfl (HRD.out.alloc (Nat.le_refl _) _) rfl (fcs_one _) (le_maxLen (by omega)) (by omega) (by simp) ?_; intro v4 w4 hown4 hg4 hb4; obtain ⟨A4, c4, rfl, -, -, -, hbase⟩ := own_slice hown4; have hg5 : w4.heap[g]? = w1.heap[g]? := (hg4.block g (by simp; omega) (by simp [Value.ownBlock]; omega)).trans (Below.heap_alloc w1 _ g hgl); have m1 : w4.cell? ⟨g, 1, none⟩ = some (.slice A1 (l.length + 1) c1') := (World.cell?_of_block (a := ⟨g, 1, none⟩) hg5).trans d1; have mf : w4.frozen? ⟨g, 1, none⟩ = false := (World.frozen?_of_block (a := ⟨g, 1, none⟩) hg5).trans hfz; have H5 := Lib.hid (And.intro hown4 (And.intro hg4 (And.intro hbase hg5))); clear hown4 hg4 hbase hg5 hb4))
        all_goals
          go_wp2_with fail
          go_roundg l.length
          case measure => have := HR.out.2.2.2.2.2; simp at this; omega
          case rel =>
            obtain ⟨hown4, hg4, hbase, hg5⟩ := H5.out
            obtain ⟨hris, hkept, hgrew, hsh, hsm, hk⟩ := HR.out
            simp only [Nat.zero_add, List.nil_append] at hown4 ⊢
            have hsz1 := HB1.out.size
            have hszw := hkept.size
            refine ⟨rfoot g A4, g1 + 1, l, ⟨A4, c4, rfl, HRT.out.store hg5 hown4 (fun a ha => by have := hbase a ha; omega)⟩, ?_, ?_, ?_, hsm.tail, rfl⟩
            · refine Kept.setCell (Kept.grown ((hkept.same (Kept.of_below HB1.out)).alloc _).drew hg4 (fun k hk => .inr ?_)) (.inl rfl) _ _
              simp [Value.ownBlock] at hk
              omega
            · intro k hk
              rcases hk with rfl | ⟨a, ha, rfl⟩
              · exact .inl (.inl rfl)
              · exact .inr (by have := hbase a ha; omega)
            · rw [hsh]; exact shrunk_go hbig
    · have hle : sumc rows1 ≤ m := by omega
      go_wp2_with fail
      refine HC.out.mono ?_
      rintro e w1 ⟨rfl, hb1⟩
      have HB1 := Lib.hid hb1
      clear hb1
      go_wp2
      go_end0
      obtain ⟨hris, hkept, hgrew, hsh, hsm, hk⟩ := HR.out
      refine ⟨rfl, F1, ?_, hkept.same (Kept.of_below HB1.out), hgrew⟩
      rw [hsh, shrunk_stop hle]
      exact hris.below HB1.out
end Go.Proofs.Ythpieiipddfpjaa
