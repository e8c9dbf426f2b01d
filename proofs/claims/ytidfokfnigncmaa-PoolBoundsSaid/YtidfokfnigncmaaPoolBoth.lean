/- Both pools side by side, and their steps. -/
import Derived.Test.YtidfokfnigncmaaPoolInts
namespace Go.Proofs.Ytidfokfnigncmaa
open Go.RowKit

def SameW (w w' : World) : Prop := w'.heap = w.heap ∧ w'.os = w.os ∧ w'.tape = w.tape ∧ w'.output = w.output
/-- Both pools, each in its own blocks, and a block beside them. -/
structure Core (W w : World) (g q x N : Nat) (P Q : Pl) (b : Option Obj) (F G : Nat → Prop) : Prop where
  a : PoolIs w g F N P
  r : RPool w q G Q
  d : ∀ k, F k → ¬ G k
  na : New W F
  nr : New W G
  bel : Below W.heap.size W w
  xF : ¬ F x
  xG : ¬ G x
  xl : x < w.heap.size
  xb : w.heap[x]? = b
def PB (W w : World) (g q x N : Nat) (P Q : Pl) (b : Option Obj) : Prop := ∃ F G, Core W w g q x N P Q b F G
def PB0 (W w : World) (g q N : Nat) (P : Pl) : Prop := ∃ F G, PoolIs w g F N P ∧ RPool w q G P ∧ (∀ k, F k → ¬ G k) ∧ New W F ∧ New W G ∧ Below W.heap.size W w
def PBX (W w : World) (g q x N : Nat) (P Q : Pl) (b : Option Obj) (ov : Value) (l : List Int) : Prop := ∃ F G, Core W w g q x N P Q b F G ∧ Lies w 3 1 ov l.length (iv l) ∧ ∀ k, ov.ownBlock = some k → ¬ F k ∧ ¬ G k ∧ k < w.heap.size
section
variable {W w w' : World} {g q x N N' : Nat} {P Q P' Q' : Pl} {b : Option Obj} {F G F' G' : Nat → Prop} {fn : FuncId} {args : Array Value} {v : Value}
theorem Core.left (h : Core W w g q x N P Q b F G) (hp : PoolIs w' g F' N' P') (hk : Kept F w w') (hg : Grew w F F') : Core W w' g q x N' P' Q b F' G :=
  ⟨hp, h.r.keep (fun k hk' => hk.block k (h.r.lt k hk') (fun hf => h.d k hf hk')), fun k hf' hgk => (hg k hf').elim (fun hf => h.d k hf hgk) (fun hl => by have := h.r.lt k hgk; omega), h.na.grew hg h.bel.size, h.nr, h.na.below h.bel hk,
    fun hf => (hg x hf).elim h.xF (fun hl => by have := h.xl; omega), h.xG, Nat.lt_of_lt_of_le h.xl hk.size, (hk.block x h.xl h.xF).trans h.xb⟩
theorem Core.right (h : Core W w g q x N P Q b F G) (hp : RPool w' q G' Q') (hk : Kept G w w') (hg : Grew w G G') : Core W w' g q x N P Q' b F G' :=
  ⟨h.a.keep (fun k hk' => hk.block k (h.a.lt k hk') (fun hf => h.d k hk' hf)), hp, fun k hf hg' => (hg k hg').elim (fun hgk => h.d k hf hgk) (fun hl => by have := h.a.lt k hf; omega), h.na, h.nr.grew hg h.bel.size, h.nr.below h.bel hk,
    h.xF, fun hf => (hg x hf).elim h.xG (fun hl => by have := h.xl; omega), Nat.lt_of_lt_of_le h.xl hk.size, (hk.block x h.xl h.xG).trans h.xb⟩
theorem Core.same (h : Core W w g q x N P Q b F G) (hs : SameW w w') : Core W w' g q x N P Q b F G := by
  obtain ⟨h1, h2, h3, h4⟩ := hs
  exact ⟨h.a.keep (fun _ _ => by rw [h1]), h.r.keep (fun _ _ => by rw [h1]), h.d, h.na, h.nr, h.bel.trans ⟨h2, h3, h4, by rw [h1]; exact Nat.le_refl _, fun _ _ => by rw [h1]⟩, h.xF, h.xG, by rw [h1]; exact h.xl, by rw [h1]; exact h.xb⟩
theorem Core.cells (h : Core W w g q x N P Q b F G) {kd a t : Int} (hb : b = some (.cells #[.int .i64 kd, .int .i64 a, .int .i64 t] 44 (0, 0))) :
    w.cell? ⟨x, 0, none⟩ = some (.int .i64 kd) ∧ w.cell? ⟨x, 1, none⟩ = some (.int .i64 a) ∧ w.cell? ⟨x, 2, none⟩ = some (.int .i64 t) := by
  have h1 := h.xb
  rw [hb] at h1
  refine ⟨?_, ?_, ?_⟩ <;> (unfold World.cell?; rw [h1]; rfl)
theorem PB.cells (h : PB W w g q x N P Q b) {kd a t : Int} (hb : b = some (.cells #[.int .i64 kd, .int .i64 a, .int .i64 t] 44 (0, 0))) :
    w.cell? ⟨x, 0, none⟩ = some (.int .i64 kd) ∧ w.cell? ⟨x, 1, none⟩ = some (.int .i64 a) ∧ w.cell? ⟨x, 2, none⟩ = some (.int .i64 t) := by
  obtain ⟨F, G, h⟩ := h
  exact h.cells hb
theorem PB.left (h : PB W w g q x N P Q b) (hc : ∀ F w', PoolIs w' g F N P → Calls Try.prog fn args w' (PStep w' g F N' P' v)) : ∀ w', SameW w w' → Calls Try.prog fn args w' fun e w2 => e = .returned v ∧ PB W w2 g q x N' P' Q b := by
  intro w' hs
  obtain ⟨F, G, h⟩ := h
  have h := h.same hs
  refine (hc F w' h.a).mono ?_
  rintro e w2 ⟨he, F', hp, hk, hg⟩
  exact ⟨he, F', G, h.left hp hk hg⟩
theorem PB.right (h : PB W w g q x N P Q b) (hc : ∀ G w', RPool w' q G Q → Calls Try.prog fn args w' (RPStep w' q G Q' v)) : ∀ w', SameW w w' → Calls Try.prog fn args w' fun e w2 => e = .returned v ∧ PB W w2 g q x N P Q' b := by
  intro w' hs
  obtain ⟨F, G, h⟩ := h
  have h := h.same hs
  refine (hc G w' h.r).mono ?_
  rintro e w2 ⟨he, G', hp, hk, hg⟩
  exact ⟨he, F, G', h.right hp hk hg⟩
theorem PB.more (h : PB W w g q x N P Q b) (hn : N ≤ N') (hf : N' ≤ 1099511627776) : PB W w g q x N' P Q b := by
  obtain ⟨F, G, h⟩ := h
  exact ⟨F, G, h.a.more hn hf, h.r, h.d, h.na, h.nr, h.bel, h.xF, h.xG, h.xl, h.xb⟩
theorem PB.out (h : PB W w g q x N P P b) : PB0 W w g q N P := by
  obtain ⟨F, G, h⟩ := h
  exact ⟨F, G, h.a, h.r, h.d, h.na, h.nr, h.bel⟩
theorem PB.same (h : PB W w g q x N P Q b) (hs : SameW w w') : PB W w' g q x N P Q b := by
  obtain ⟨F, G, h⟩ := h
  exact ⟨F, G, h.same hs⟩
theorem PB.expL (h : PB W w g q x N P Q b) (now : Int) (h0 : -9223372036854775808 ≤ now) (h1 : now ≤ 9223372036854775807) (hN : N ≤ 549755813888) : ∀ w', SameW w w' →
    Calls Try.prog 13 #[.pointer (some ⟨g, 0, none⟩), .int .i64 now] w' fun e w2 => ∃ A c, e = .returned (.slice A (P.expire now).1.length c) ∧ PBX W w2 g q x N (P.expire now).2 Q b (.slice A (P.expire now).1.length c) (P.expire now).1 := by
  intro w' hs
  obtain ⟨F, G, h⟩ := h
  have h := h.same hs
  refine (pexpire_any now w' h.a h0 h1 hN).mono ?_
  rintro e w2 ⟨ov, F', rfl, hov, hp', hsub, hk⟩
  have hl := Lies.of_own hov
  obtain ⟨A, c, rfl, -⟩ := own_slice hov
  refine ⟨A, c, rfl, F', G, h.left hp' hk (fun k hk => .inl (hsub k hk)), hl, fun k hk' => ?_⟩
  have := hov.lt k hk'
  exact ⟨fun hf => by have := h.a.lt k (hsub k hf); omega, fun hf => by have := h.r.lt k hf; omega, this.2⟩
theorem PBX.expR {ov : Value} {l : List Int} (h : PBX W w g q x N P Q b ov l) (now : Int) (hs : Q.L.Pairwise (fun a b => a.id < b.id)) (hl : Q.L.length ≤ 1099511627776) (hi0 : 1 ≤ Q.idl) (hi1 : Q.idl ≤ 1099511627776) (hn1 : now ≤ 9223372036854775807) : ∀ w', SameW w w' →
    Calls Try.prog 19 #[.pointer (some ⟨q, 0, none⟩), .int .i64 now] w' fun e w2 => ∃ A c, e = .returned (.slice A (Q.expire now).1.length c) ∧ PB W w2 g q x N P (Q.expire now).2 b ∧ Lies w2 3 1 ov l.length (iv l) ∧ Lies w2 3 1 (.slice A (Q.expire now).1.length c) (Q.expire now).1.length (iv (Q.expire now).1) := by
  intro w' hsw
  obtain ⟨F, G, h, hov, hno⟩ := h
  have h := h.same hsw
  refine (rexpire_any now w' h.r hs hl hi0 hi1 hn1).mono ?_
  rintro e w2 ⟨ov2, G', rfl, hov2, hp', -, hk, hg⟩
  have hl2 := Lies.of_own hov2
  obtain ⟨A, c, rfl, -⟩ := own_slice hov2
  refine ⟨A, c, rfl, ⟨F, G', h.right hp' hk hg⟩, hov.keep fun k hk' => ?_, hl2⟩
  obtain ⟨-, n2, n3⟩ := hno k hk'
  have e1 := hsw.1
  rw [← e1] at n3 ⊢
  exact hk.block k n3 n2
theorem PB0.alloc (h : PB0 W w g q N P) (o : Obj) : PB W (w.alloc o) g q w.heap.size N P P (some o) := by
  obtain ⟨F, G, ha, hr, hd, hna, hnr, hb⟩ := h
  exact ⟨F, G, ha.keep (fun k hk => Below.heap_alloc _ _ _ (ha.lt k hk)), hr.keep (fun k hk => Below.heap_alloc _ _ _ (hr.lt k hk)), hd, hna, hnr, hb.alloc hb.size o, fun hf => Nat.lt_irrefl _ (ha.lt _ hf), fun hf => Nat.lt_irrefl _ (hr.lt _ hf), by simp, heapNew _ _⟩
theorem PB0.ok (h : PB0 W w g q N P) : PlOk N P := by
  obtain ⟨F, G, ha, _⟩ := h
  exact ha.ok
theorem PB.okL (h : PB W w g q x N P Q b) : PlOk N P := by
  obtain ⟨F, G, h⟩ := h
  exact h.a.ok
theorem PB0.bel (h : PB0 W w g q N P) : Below W.heap.size W w := by
  obtain ⟨F, G, _, _, _, _, _, hb⟩ := h
  exact hb
theorem PB.bel (h : PB W w g q x N P Q b) : Below W.heap.size W w := by
  obtain ⟨F, G, h⟩ := h
  exact h.bel
theorem count_out {P : Pl} (h : PlOk N P) {o : Int} (ho : o < 0 ∨ 4 ≤ o) : P.count o = (0, 0) := by
  have h1 : cnt P.L o = 0 := List.countP_eq_zero.2 fun x hx => by
    have := h.each x hx
    simp only [decide_eq_true_eq]
    omega
  have h2 : idleN P.L o = 0 := List.countP_eq_zero.2 fun x hx => by
    have := h.each x hx
    simp only [decide_eq_true_eq]
    omega
  unfold Pl.count
  rw [h1, h2]; rfl
theorem PB.countL (h : PB W w g q x N P Q b) (o : Int) : ∀ w', SameW w w' → Calls Try.prog 20 #[.pointer (some ⟨g, 0, none⟩), .int .i64 o] w' fun e w2 => e = .returned (.tuple #[.int .i64 (P.count o).1, .int .i64 (P.count o).2]) ∧ w' = w2 := by
  intro w' hs
  obtain ⟨F, G, h⟩ := h
  have h := h.same hs
  by_cases ho : o < 0 ∨ 4 ≤ o
  · rw [count_out h.a.ok ho]
    exact pcount_bad _ o w' (.inr ho)
  · exact pcount_any o w' h.a (by omega) (by omega)
theorem PB.countR (h : PB W w g q x N P Q b) (hl : Q.L.length ≤ 1099511627776) (o : Int) : ∀ w', SameW w w' → Calls Try.prog 21 #[.pointer (some ⟨q, 0, none⟩), .int .i64 o] w' fun e w2 => e = .returned (.tuple #[.int .i64 (Q.count o).1, .int .i64 (Q.count o).2]) ∧ w' = w2 := by
  intro w' hs
  obtain ⟨F, G, h⟩ := h
  have h := h.same hs
  exact rcount_any o w' h.r hl
theorem PB.originL (h : PB W w g q x N P Q b) (id : Int) (h0 : -9223372036854775808 ≤ id) (h1 : id ≤ 9223372036854775807) : ∀ w', SameW w w' → Calls Try.prog 22 #[.pointer (some ⟨g, 0, none⟩), .int .i64 id] w' fun e w2 => e = .returned (.tuple #[.int .i64 (P.origin id).1, .bool (P.origin id).2]) ∧ w' = w2 := by
  intro w' hs
  obtain ⟨F, G, h⟩ := h
  have h := h.same hs
  exact porigin_any id w' h.a h0 h1
theorem PB.originR (h : PB W w g q x N P Q b) (hl : Q.L.length ≤ 1099511627776) (id : Int) : ∀ w', SameW w w' → Calls Try.prog 23 #[.pointer (some ⟨q, 0, none⟩), .int .i64 id] w' fun e w2 => e = .returned (.tuple #[.int .i64 (Q.origin id).1, .bool (Q.origin id).2]) ∧ w' = w2 := by
  intro w' hs
  obtain ⟨F, G, h⟩ := h
  have h := h.same hs
  exact rorigin_any id w' h.r hl
theorem PB.lenL (h : PB W w g q x N P Q b) : ∀ w', SameW w w' → Calls Try.prog 12 #[.pointer (some ⟨g, 0, none⟩)] w' fun e w2 => e = .returned (.int .i64 (P.L.length : Int)) ∧ w2 = w' := by
  intro w' hs
  obtain ⟨F, G, h⟩ := h
  have h := h.same hs
  exact (plen_any w' h.a).mono fun _ _ ⟨a, b⟩ => ⟨a, b.symm⟩
theorem PB.linkR (h : PB W w g q x N P Q b) : ∃ A c, w.cell? ⟨q, 3, none⟩ = some (.slice A Q.L.length c) ∧ w.cell? ⟨q, 0, none⟩ = some (.int .i64 Q.mo) := by
  obtain ⟨F, G, h⟩ := h
  obtain ⟨A, c, -, hr⟩ := h.r
  exact ⟨A, c, hr.cells.2.2.2, hr.cells.1⟩
end
theorem pget_all {g N : Nat} {F : Nat → Prop} {P : Pl} (o now : Int) (w : World) (h : PoolIs w g F N P) (hN : N + 1 ≤ 549755813888) :
    Calls Try.prog 10 #[.pointer (some ⟨g, 0, none⟩), .int .i64 o, .int .i64 now] w (PStep w g F (N + 1) (P.get o now).2 (.tuple #[.int .i64 (P.get o now).1.1, .bool (P.get o now).1.2.1, .int .i64 (P.get o now).1.2.2])) := by
  by_cases hb : o < 0 ∨ 4 ≤ o ∨ now < 0 ∨ 1099511627776 < now
  · refine (pget_bad o now w h hb).mono ?_
    rintro e w' ⟨he, F', hp, hk, hg⟩
    exact ⟨he, F', hp.more (by omega) (by omega), hk, hg⟩
  · obtain ⟨o', rfl⟩ : ∃ o' : Nat, o = o' := ⟨o.toNat, by omega⟩
    exact pget_ok now w h (by omega) (by omega) (by omega) hN
theorem rget_all {q : Nat} {F : Nat → Prop} {P : Pl} (o now : Int) (w : World) (h : RPool w q F P) (hok : ∃ N, PlOk N P) (hl : P.L.length ≤ 1099511627776) :
    Calls Try.prog 14 #[.pointer (some ⟨q, 0, none⟩), .int .i64 o, .int .i64 now] w (RPStep w q F (P.get o now).2 (.tuple #[.int .i64 (P.get o now).1.1, .bool (P.get o now).1.2.1, .int .i64 (P.get o now).1.2.2])) := by
  by_cases hb : o < 0 ∨ 4 ≤ o ∨ now < 0 ∨ 1099511627776 < now
  · exact rget_bad o now w h hb
  · exact rget_ok o now w h hok hl (by omega) (by omega) (by omega) (by omega)
end Go.Proofs.Ytidfokfnigncmaa
