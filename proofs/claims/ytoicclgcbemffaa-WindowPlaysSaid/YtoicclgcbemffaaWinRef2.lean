/- The walks of drawbridgeref08.Open. -/
import Derived.Test.YtoicclgcbemffaaWinRef1
import Derived.Deep.RegionLaw
import Derived.StillTailTactics
namespace Go.Proofs.Ytoicclgcbemffaa
open Go.RowKit Go.Maps

theorem tEnts : SlT Try.prog 50 75 (.agg #[.int .i64 0, .int .i64 0]) 2 16 :=
  ⟨Try.underlying50, by kernel_rfl, rfl, by decide⟩
section
variable {P : Program} {w : World}
/-- append as one step of a region that draws. -/
theorem step_app {ops : Array Oper} {o : Oper} {a : Act} {K : Act → World → Prop} {Q : Exit → Act → World → Prop} {E : Prop} (s x : Operand) {t e : TypeId} {z : Value} {size bytes : Nat} (hT : SlT P t e z size bytes)
    (hgd : o.guard = none) (ho : o.op = .call { callee := .builtin .append, args := #[s, x], argTypes := #[t, t] })
    {base : Nat} {v : Value} {n : Nat} {xs : List Value} (hown : w.ownsRow base e size v n xs) (hs : a.eval s = v)
    {B : Nat} {A : Option Addr} {m c : Nat} {news : List Value} (hr : Rd w B size A m news) (hx : a.eval x = .slice A m c) (h1 : ∀ u ∈ news, u.oneCell' = true)
    (h63 : n + m ≤ maxLen) (hbytes : (n + m) * bytes ≤ 140737488355328) (hbase : base ≤ w.heap.size)
    (h : ∀ v' w', w'.ownsRow base e size v' (n + m) (xs ++ news) → w.grownBy w' v.ownBlock → (v'.ownBlock = v.ownBlock ∨ v'.ownBlock = some w.heap.size) → K (a.put o.dst v') w') :
    if Region.wanted o (yielded ops a.tmps) = true then Oper.wp P o a w K Q else E := by
  have hw : Region.wanted o (yielded ops a.tmps) = true := by simp [Region.wanted, hgd]
  rw [if_pos hw]
  obtain ⟨v', w', hrun, h2, h3, h4⟩ := run_app (P := P) o.type hT hown hr (c := c) h1 h63 hbytes hbase
  unfold Oper.wp execOp
  simp only [ho, resolve, invoke, builtin, Sem.run_bind, Sem.run_pure, Result.andThen_ok, List.map_toArray, List.map_cons, List.map_nil, hs, hx, hrun]
  exact h v' w' h2 h3 h4
end
theorem own_new (w : World) (B n size : Nat) (e : TypeId) (hn : w.heap.size = n) (hB : B ≤ n) : (w.alloc (.cells #[] e)).ownsRow B e size (.slice (some ⟨n, 0, none⟩) 0 0) 0 [] := by
  subst hn
  refine ⟨by simp, .inr ⟨_, 0, #[], rfl, hB, heapNew _ _, Nat.le_refl _, Nat.zero_le _, by simp, by simp⟩⟩

theorem own_keep {w w' : World} {base : Nat} {e : TypeId} {size : Nat} {v : Value} {n : Nat} {xs : List Value} (h : w.ownsRow base e size v n xs) (hk : ∀ g, v.ownBlock = some g → w'.heap[g]? = w.heap[g]?) : w'.ownsRow base e size v n xs := by
  refine ⟨h.1, ?_⟩
  rcases h.2 with h2 | ⟨g, cap, cur, hv, hb, hq, hrest⟩
  · exact .inl h2
  · subst hv
    exact .inr ⟨g, cap, cur, rfl, hb, (hk g rfl).trans hq, hrest⟩
theorem RS.store {w : World} {B r c : Nat} {S S' : Bk} {A : Option Addr} {v : Value} (h : RS w B r S A c) (hown : w.ownsRow B 75 2 v S'.L.length (ents S'.first S'.L)) (hne : v.ownBlock ≠ some r) (ha : S'.all = S.all) (hf : S'.first = S.first) (ho : Once S'.L) :
    ∃ A c, RS (w.setCell ⟨r, 2, none⟩ v) B r S' A c := by
  obtain ⟨A', c', rfl, -, -, -, -⟩ := own_slice hown
  refine ⟨A', c', ⟨?_, ?_, ?_, h.lo, ho⟩⟩
  · simp only [World.setCell, Array.getElem?_modify, if_true]
    rw [h.book, ha, hf]; rfl
  · exact own_keep hown fun g hg => Below.heap_setCell _ _ _ _ (fun e => hne (by simp only at e; rw [hg, e]))
  · intro a e1 e2
    subst e1
    exact hne (by simp only [Value.ownBlock, e2])
theorem Rd.two (w : World) (x y : Value) (t : TypeId) (n : Nat) (hn : w.heap.size = n) : Rd (w.alloc (.cells #[x, y] t)) (n + 1) 2 (some ⟨n, 0, none⟩) 1 [x, y] := by
  subst hn
  refine ⟨rfl, fun _ => ⟨_, _, rfl, by omega, fun j hj => ?_⟩⟩
  rw [World.cell?_alloc_at _ _ _ _ rfl]
  simp
theorem Rd.two_in {w : World} {x y : Value} {t : TypeId} {n : Nat} (hq : w.heap[n]? = some (.cells #[x, y] t (0, 0))) : Rd w (n + 1) 2 (some ⟨n, 0, none⟩) 1 [x, y] := by
  refine ⟨rfl, fun _ => ⟨_, _, rfl, by omega, fun j hj => ?_⟩⟩
  unfold World.cell?
  rw [hq]
  simp
theorem heapNew1 (w : World) (o o2 : Obj) : ((w.alloc o).alloc o2).heap[w.heap.size + 1]? = some o2 := by
  have := heapNew (w.alloc o) o2
  rwa [show (w.alloc o).heap.size = w.heap.size + 1 by simp] at this
theorem own_new1 (w : World) (o : Obj) (B size : Nat) (e : TypeId) (hB : B ≤ w.heap.size) : ((w.alloc o).alloc (.cells #[] e)).ownsRow B e size (.slice (some ⟨w.heap.size + 1, 0, none⟩) 0 0) 0 [] :=
  own_new _ _ _ _ _ (by simp) (by omega)
theorem own_new0 (w : World) (o : Obj) (B size : Nat) (e : TypeId) (hB : B ≤ w.heap.size) : ((w.alloc (.cells #[] e)).alloc o).ownsRow B e size (.slice (some ⟨w.heap.size, 0, none⟩) 0 0) 0 [] :=
  (own_new _ _ _ _ _ rfl hB).alloc _
theorem two_one (a b : Int) : ∀ u ∈ [Value.int .i64 a, Value.int .i64 b], u.oneCell' = true := by simp [Value.oneCell']
theorem putL_none {L : List (Int × Int)} {s : Int} (h : look L s = none) (x : Int) : putL L s x = L ++ [(s, x)] := by unfold putL; rw [h]; rfl
/-- Every block but r and A's is as it was. -/
structure Far (r : Nat) (A : Option Addr) (w w' : World) : Prop where
  os : w'.os = w.os
  tape : w'.tape = w.tape
  output : w'.output = w.output
  size : w.heap.size ≤ w'.heap.size
  block : ∀ k, k < w.heap.size → k ≠ r → (∀ a, A = some a → a.block ≠ k) → w'.heap[k]? = w.heap[k]?
section
variable {r : Nat} {A : Option Addr} {w w' w2 : World}
theorem Far.refl (r : Nat) (A : Option Addr) (w : World) : Far r A w w := ⟨rfl, rfl, rfl, Nat.le_refl _, fun _ _ _ _ => rfl⟩
theorem Far.of_below (h : Below w.heap.size w w') : Far r A w w' := ⟨h.os, h.tape, h.output, h.size, fun k hk _ _ => h.block k hk⟩
theorem Far.trans (h : Far r A w w') (h2 : Far r A w' w2) : Far r A w w2 :=
  ⟨h2.os.trans h.os, h2.tape.trans h.tape, h2.output.trans h.output, Nat.le_trans h.size h2.size, fun k hk h1 h3 => (h2.block k (Nat.lt_of_lt_of_le hk h.size) h1 h3).trans (h.block k hk h1 h3)⟩
theorem Far.setR (h : Far r A w w') (o : Nat) (v : Value) : Far r A w (w'.setCell ⟨r, o, none⟩ v) :=
  ⟨h.os, h.tape, h.output, by simpa [World.setCell] using h.size, fun k hk h1 h3 => (Below.heap_setCell _ _ _ _ h1).trans (h.block k hk h1 h3)⟩
theorem Far.setA {g : Nat} (h : Far r (some ⟨g, 0, none⟩) w w') (o : Nat) (v : Value) : Far r (some ⟨g, 0, none⟩) w (w'.setCell ⟨g, o, none⟩ v) :=
  ⟨h.os, h.tape, h.output, by simpa [World.setCell] using h.size, fun k hk h1 h3 => (Below.heap_setCell _ ⟨g, o, none⟩ v _ (fun e => h3 ⟨g, 0, none⟩ rfl e.symm)).trans (h.block k hk h1 h3)⟩
theorem Far.drew (h : Far r A w w') : Far r A w w'.drew := ⟨h.os, h.tape, h.output, h.size, h.block⟩
theorem Far.drewN (h : Far r A w w') (a : Nat) : Far r A w (w'.drewN a) := ⟨h.os, h.tape, h.output, h.size, h.block⟩
theorem Far.below {B : Nat} (h : Far r A w w') (h1 : B ≤ r) (h2 : ∀ a, A = some a → B ≤ a.block) (hs : B ≤ w.heap.size) : Below B w w' :=
  ⟨h.os, h.tape, h.output, h.size, fun k hk => h.block k (by omega) (by omega) (fun a ha => by have := h2 a ha; omega)⟩
end
def WRef (B r : Nat) (A : Option Addr) (W : World) (res : Int × Bk) (e : Ending) (w' : World) : Prop := e = .returned (.int .i64 res.1) ∧ (∃ A c, RS w' B r res.2 A c) ∧ Far r A W w'

set_option maxHeartbeats 2000000 in
theorem ropen_any {B r c : Nat} {S : Bk} {A : Option Addr} (s : Int) (w : World) (h : RS w B r S A c) (hl : S.L.length < 100000) :
    Calls Try.prog 39 #[.pointer (some ⟨r, 0, none⟩), .int .i64 s] w (WRef B r A w (openB S s)) := by
  obtain ⟨c0, c1, c2⟩ := h.cells
  have H := Lib.hid h
  by_cases h1 : s < 1
  · have hn : openB S s = (1, S) := by unfold openB; rw [if_pos h1]
    rw [hn]
    clear hn h
    go_enter Try.func39, Try.ntmps39
    go_wp2; go_ret; exact ⟨rfl, ⟨_, _, H.out⟩, Far.refl _ _ _⟩
  cases hk : look S.L s with
  | some x =>
    have HC := Lib.hid (rfind_some s x w h hl hk)
    have hn : openB S s = (5, S) := by unfold openB; rw [if_neg h1, hk]; rfl
    rw [hn]
    clear hn h hk
    go_enter Try.func39, Try.ntmps39
    go_wp2_with fail
    refine HC.out.mono ?_
    rintro e w1 ⟨i, hi, hlt, rfl, rfl⟩
    clear hi
    go_wp2; go_ret; exact ⟨rfl, ⟨_, _, H.out⟩, Far.refl _ _ _⟩
  | none =>
    have HC := Lib.hid (rfind_none s w h hl hk)
    have hn : openB S s = (0, { S with L := putL S.L s 0 }) := by unfold openB; rw [if_neg h1, hk]; rfl
    have HK := Lib.hid hk
    have hrd : Rd w w.heap.size 2 A S.L.length (ents S.first S.L) := by
      obtain ⟨A', c', hv, -, -, hr, -⟩ := own_slice h.row
      injection hv with e1 e2 e3
      subst e1
      exact hr
    have HR := Lib.hid hrd
    have hlo := h.lo
    have hrlt := h.lt
    have hBs : B ≤ w.heap.size := by omega
    have hfr := h.free 2
    rw [hn]
    obtain ⟨al, fi, L⟩ := S
    simp only at *
    clear hn h hk hrd
    go_enter Try.func39, Try.ntmps39
    go_wp2_with fail
    refine HC.out.mono ?_
    rintro e w1 ⟨rfl, rfl⟩
    go_wp2
    go_region_law (first
      | (refine step_app (.tmp 12) (.tmp 16) tEnts rfl rfl (own_new _ B _ 2 _ rfl hBs) rfl (HR.out.alloc (Nat.le_refl _) _) rfl (ents_one _ _) (le_maxLen (by omega)) (by omega) (by simp; omega) ?_; intro v3 w3 hown3 hg3 hb3; have hbel3 : Below w.heap.size w w3 := (by first | exact (((Below.refl _ _).alloc (Nat.le_refl _) _)).drew.grown hg3 (by simp <;> omega) (by simp [Value.ownBlock]) | exact (((Below.refl _ _).alloc (Nat.le_refl _) _)).grown hg3 (by simp <;> omega) (by simp [Value.ownBlock])); have H3 := H.out.keep (fun k _ hk => hbel3.block k hk); obtain ⟨k0, k1, k2⟩ := H3.cells; have kf := H3.free 2; have HO3 := Lib.hid (show w3.ownsRow B 75 2 v3 L.length (ents fi L) by simpa using hown3); have HB3 := Lib.hid hbel3; have hs3 := hbel3.size; have HV3 := Lib.hid (show ∀ q, v3.ownBlock = some q → w.heap.size ≤ q from fun q hq => by rcases hb3 with h | h <;> rw [hq] at h <;> simp [Value.ownBlock] at h <;> omega); have H24 := True.intro; simp only at k0 k1 k2; clear hown3 hg3 hb3 H3 hbel3)
      | (refine step_app (.tmp 12) (.tmp 16) tEnts rfl rfl (own_new0 w _ B 2 _ hBs) rfl ((HR.out.alloc (Nat.le_refl _) _).alloc (by simp) _) rfl (ents_one _ _) (le_maxLen (by omega)) (by omega) (by simp; omega) ?_; intro v3 w3 hown3 hg3 hb3; have hbel3 : Below w.heap.size w w3 := (by first | exact ((((Below.refl _ _).alloc (Nat.le_refl _) _).alloc (by simp) _)).drew.grown hg3 (by simp <;> omega) (by simp [Value.ownBlock]) | exact ((((Below.refl _ _).alloc (Nat.le_refl _) _).alloc (by simp) _)).grown hg3 (by simp <;> omega) (by simp [Value.ownBlock])); have H3 := H.out.keep (fun k _ hk => hbel3.block k hk); obtain ⟨k0, k1, k2⟩ := H3.cells; have kf := H3.free 2; have HO3 := Lib.hid (show w3.ownsRow B 75 2 v3 L.length (ents fi L) by simpa using hown3); have HB3 := Lib.hid hbel3; have hs3 := hbel3.size; have HV3 := Lib.hid (show ∀ q, v3.ownBlock = some q → w.heap.size ≤ q from fun q hq => by rcases hb3 with h | h <;> rw [hq] at h <;> simp [Value.ownBlock] at h <;> omega); have H24 := Lib.hid (show w3.heap[w.heap.size + 1]? = some (.cells #[.int .i64 s, .int .i64 fi] 75 (0, 0)) from ((hg3.block (w.heap.size + 1) (by simp) (by simp [Value.ownBlock])).trans (heapNew1 w _ _))); simp only at k0 k1 k2; clear hown3 hg3 hb3 H3 hbel3)
      | (refine step_app (.tmp 12) (.tmp 16) tEnts rfl rfl (own_new1 w _ B 2 _ hBs) rfl ((HR.out.alloc (Nat.le_refl _) _).alloc (by simp) _) rfl (ents_one _ _) (le_maxLen (by omega)) (by omega) (by simp; omega) ?_; intro v3 w3 hown3 hg3 hb3; have hbel3 : Below w.heap.size w w3 := (by first | exact ((((Below.refl _ _).alloc (Nat.le_refl _) _).alloc (by simp) _)).drew.grown hg3 (by simp <;> omega) (by simp [Value.ownBlock]) | exact ((((Below.refl _ _).alloc (Nat.le_refl _) _).alloc (by simp) _)).grown hg3 (by simp <;> omega) (by simp [Value.ownBlock])); have H3 := H.out.keep (fun k _ hk => hbel3.block k hk); obtain ⟨k0, k1, k2⟩ := H3.cells; have kf := H3.free 2; have HO3 := Lib.hid (show w3.ownsRow B 75 2 v3 L.length (ents fi L) by simpa using hown3); have HB3 := Lib.hid hbel3; have hs3 := hbel3.size; have HV3 := Lib.hid (show ∀ q, v3.ownBlock = some q → w.heap.size ≤ q from fun q hq => by rcases hb3 with h | h <;> rw [hq] at h <;> simp [Value.ownBlock] at h <;> omega); have H24 := Lib.hid (show w3.heap[w.heap.size]? = some (.cells #[.int .i64 s, .int .i64 fi] 75 (0, 0)) from ((hg3.block w.heap.size (by simp; omega) (by simp [Value.ownBlock])).trans ((Below.heap_alloc _ _ _ (by simp)).trans (heapNew _ _)))); simp only at k0 k1 k2; clear hown3 hg3 hb3 H3 hbel3)
      | (refine step_app (.tmp 17) (.tmp 24) tEnts rfl rfl (HO3.out.alloc _) rfl (Rd.two _ _ _ _ _ rfl) rfl (two_one _ _) (le_maxLen (by omega)) (by omega) (by simp; omega) ?_; intro v4 w4 hown4 hg4 hb4; obtain ⟨A4, c4, rfl, -, -, -, -⟩ := own_slice hown4; have hbel4 : Below w.heap.size w w4 := (by first | exact ((HB3.out.alloc hs3 _)).drew.grown hg4 (by simp; omega) (fun q hq => HV3.out q hq) | exact ((HB3.out.alloc hs3 _)).grown hg4 (by simp; omega) (fun q hq => HV3.out q hq) | exact ((HB3.out.alloc hs3 _)).grown hg4 (by omega) (fun q hq => HV3.out q hq) | exact ((HB3.out.alloc hs3 _)).drew.grown hg4 (by omega) (fun q hq => HV3.out q hq)); have H4 := H.out.keep (fun k _ hk => hbel4.block k hk); have kf4 := H4.free 2; obtain ⟨m0, m1, m2⟩ := H4.cells; simp only at m0 m1 m2; have HV4 : Hid (∀ q, Value.ownBlock (.slice A4 (L.length + 1) c4) = some q → w.heap.size ≤ q) := Lib.hid (fun q hq => by rcases hb4 with h | h <;> rw [hq] at h; (exact HV3.out q h.symm); (simp at h; omega)); have HF := Lib.hid (And.intro hown4 (And.intro hbel4 H4)); clear hown4 hg4 hb4 hbel4 H4 H24)
      | (refine step_app (.tmp 17) (.tmp 24) tEnts rfl rfl HO3.out rfl (Rd.two_in H24.out) rfl (two_one _ _) (le_maxLen (by omega)) (by omega) (by omega) ?_; intro v4 w4 hown4 hg4 hb4; obtain ⟨A4, c4, rfl, -, -, -, -⟩ := own_slice hown4; have hbel4 : Below w.heap.size w w4 := (by first | exact (HB3.out).drew.grown hg4 (by simp; omega) (fun q hq => HV3.out q hq) | exact (HB3.out).grown hg4 (by simp; omega) (fun q hq => HV3.out q hq) | exact (HB3.out).grown hg4 (by omega) (fun q hq => HV3.out q hq) | exact (HB3.out).drew.grown hg4 (by omega) (fun q hq => HV3.out q hq)); have H4 := H.out.keep (fun k _ hk => hbel4.block k hk); have kf4 := H4.free 2; obtain ⟨m0, m1, m2⟩ := H4.cells; simp only at m0 m1 m2; have HV4 : Hid (∀ q, Value.ownBlock (.slice A4 (L.length + 1) c4) = some q → w.heap.size ≤ q) := Lib.hid (fun q hq => by rcases hb4 with h | h <;> rw [hq] at h; (exact HV3.out q h.symm); (simp at h; omega)); have HF := Lib.hid (And.intro hown4 (And.intro hbel4 H4)); clear hown4 hg4 hb4 hbel4 H4 H24))
    all_goals
      go_wp2
      go_ret
      have hp := putL_none HK.out 0
      refine ⟨rfl, HF.out.2.2.store (S' := ⟨al, fi, putL L s 0⟩) ?_ ?_ rfl rfl (once_put HF.out.2.2.once s 0), (Far.of_below HF.out.2.1).setR _ _⟩
      · rw [hp, List.length_append, ents_app]
        simpa [ents, ent] using HF.out.1
      · intro e
        have := HV4.out r e
        omega
end Go.Proofs.Ytoicclgcbemffaa
