/- Words for memory that all later texts of this seat use: a slice that reads as a list, append onto an owned row, bytes as cells. No program in sight. -/
import Derived.WalkKit
import Derived.Handy
import Derived.Lib.Hide
import Derived.KernelRfl
import Derived.Maps.AppendAt
import Derived.Deep.AppendLies
import Derived.Deep.Draws
namespace Go.Proofs.Ytidfokfnigncmaa
open Go.RowKit

/-- A byte in memory. -/
def bv (c : UInt8) : Value := .int .u8 (c.toNat : Int)
def bvs (l : List UInt8) : List Value := l.map bv
theorem bvs_length (l : List UInt8) : (bvs l).length = l.length := by simp [bvs]
theorem bvs_append (l k : List UInt8) : bvs (l ++ k) = bvs l ++ bvs k := by simp [bvs]
theorem bv_of {n : Int} (h0 : 0 ≤ n) (h1 : n < 256) : Value.int .u8 n = bv (UInt8.ofNat n.toNat) := by
  unfold bv
  have : (UInt8.ofNat n.toNat).toNat = n.toNat := by simp [UInt8.toNat_ofNat']; omega
  rw [this, Int.toNat_of_nonneg h0]
theorem bvs_one (l : List UInt8) : ∀ u ∈ bvs l, u.oneCell' = true := by
  intro u hu
  obtain ⟨c, _, rfl⟩ := List.mem_map.1 hu
  rfl

/-- 'Rd w B size A n xs': the slice at the address A, of n elements of 'size' cells each, holds the cells xs, and lies below block B. -/
def Rd (w : World) (B size : Nat) (A : Option Addr) (n : Nat) (xs : List Value) : Prop :=
  xs.length = n * size ∧ (0 < n → ∃ b o, A = some ⟨b, o, none⟩ ∧ b < B ∧ ∀ j, j < n * size → w.cell? ⟨b, o + j, none⟩ = xs[j]?)

section
variable {w w' : World} {B B' size n : Nat} {A : Option Addr} {xs : List Value}
theorem Rd.none_ (w : World) (B size : Nat) (A : Option Addr) : Rd w B size A 0 [] := ⟨by simp, fun h => absurd h (by omega)⟩
theorem Rd.keep (h : Rd w B size A n xs) (hk : ∀ b o, b < B → w'.cell? ⟨b, o, none⟩ = w.cell? ⟨b, o, none⟩) : Rd w' B size A n xs :=
  ⟨h.1, fun hn => by
    obtain ⟨b, o, e, hb, hc⟩ := h.2 hn
    exact ⟨b, o, e, hb, fun j hj => (hk b _ hb).trans (hc j hj)⟩⟩
theorem Rd.more (h : Rd w B size A n xs) (hB : B ≤ B') : Rd w B' size A n xs :=
  ⟨h.1, fun hn => by
    obtain ⟨b, o, e, hb, hc⟩ := h.2 hn
    exact ⟨b, o, e, by omega, hc⟩⟩
theorem Rd.below {B0 : Nat} (h : Rd w B size A n xs) (hb : Below B0 w w') (hB : B ≤ B0) : Rd w' B size A n xs := h.keep fun b o hp => hb.cell (p := ⟨b, o, none⟩) (by show b < B0; omega)
theorem Rd.drew (h : Rd w B size A n xs) : Rd w.drew B size A n xs := h
theorem Rd.drewN (h : Rd w B size A n xs) (k : Nat) : Rd (w.drewN k) B size A n xs := h
theorem Rd.alloc (h : Rd w B size A n xs) (hB : B ≤ w.heap.size) (o : Obj) : Rd (w.alloc o) B size A n xs := h.keep fun b _ hp => World.cell?_alloc_lt w o _ (by show b < _; omega)
theorem Rd.setCell (h : Rd w B size A n xs) {p : Addr} (hB : B ≤ p.block) (u : Value) : Rd (w.setCell p u) B size A n xs :=
  h.keep fun b o hq => World.cell?_setCell_other w p _ u (fun e => by subst e; simp at hB; omega)
theorem Rd.grown (h : Rd w B size A n xs) {row : Option Nat} (hg : w.grownBy w' row) (hB : B ≤ w.heap.size) (hr : ∀ g, row = some g → B ≤ g) : Rd w' B size A n xs :=
  h.keep fun b o hp => World.cell?_of_block (hg.block b (by omega) (fun e => by have := hr _ e.symm; omega))
theorem Rd.of_own {base : Nat} {e : TypeId} {c : Nat} (h : w.ownsRow base e size (.slice A n c) n xs) : Rd w w.heap.size size A n xs := by
  refine ⟨h.1, fun hn => ?_⟩
  obtain ⟨g, cap, hv, _, hlt⟩ := h.form hn
  have hA : A = some ⟨g, 0, none⟩ := by injection hv
  subst hA
  refine ⟨g, 0, rfl, hlt, fun j hj => ?_⟩
  have hx : xs[j]? = some (xs[j]'(by rw [h.1]; exact hj)) := List.getElem?_eq_getElem _
  rw [hx]
  have := h.cells (g := g) rfl j _ hx
  rw [Addr.add_lit] at this
  exact this
/-- The piece 's[lo:hi]'. -/
theorem Rd.piece (h : Rd w B size A n xs) {lo hi cap : Nat} (hlo : lo ≤ hi) (hhi : hi ≤ n) (hc : n ≤ cap) :
    Rd w B size (if cap = lo then A else A.map (·.add (lo * size))) (hi - lo) ((xs.drop (lo * size)).take ((hi - lo) * size)) := by
  have hm : hi * size ≤ n * size := Nat.mul_le_mul_right _ hhi
  have hm2 : (hi - lo) * size = hi * size - lo * size := Nat.sub_mul ..
  refine ⟨by rw [List.length_take, List.length_drop, h.1, hm2]; omega, fun hn => ?_⟩
  obtain ⟨b, o, rfl, hb, hcell⟩ := h.2 (by omega)
  rw [if_neg (by omega)]
  refine ⟨b, o + lo * size, by simp [Addr.add_lit], hb, fun j hj => ?_⟩
  have hml : lo * size ≤ hi * size := Nat.mul_le_mul_right _ hlo
  rw [Nat.add_assoc, hcell _ (by omega), List.getElem?_take, if_pos hj, List.getElem?_drop]
theorem Rd.len (h : Rd w B size A n xs) : xs.length = n * size := h.1
end

/-- The cells of a slice of one-cell elements that is not empty: what a walk asks. -/
theorem Rd.at_ {w : World} {B n : Nat} {A : Option Addr} {xs : List Value} (h : Rd w B 1 A n xs) (hn : 0 < n) :
    ∃ b o, A = some ⟨b, o, none⟩ ∧ b < B ∧ ∀ j, j < n → w.cell? ⟨b, o + j, none⟩ = xs[j]? := by
  obtain ⟨b, o, e, hb, hc⟩ := h.2 hn
  exact ⟨b, o, e, hb, fun j hj => hc j (by omega)⟩
theorem Rd.bytes {w : World} {B n : Nat} {A : Option Addr} {l : List UInt8} (h : Rd w B 1 A n (bvs l)) (hn : 0 < n) :
    l.length = n ∧ ∃ b o, A = some ⟨b, o, none⟩ ∧ b < B ∧ ∀ j, j < n → w.cell? ⟨b, o + j, none⟩ = some (.int .u8 ((l.getD j 0).toNat : Int)) := by
  have hl : l.length = n := by have := h.1; simp [bvs] at this; omega
  refine ⟨hl, ?_⟩
  obtain ⟨b, o, e, hb, hc⟩ := h.at_ hn
  refine ⟨b, o, e, hb, fun j hj => ?_⟩
  rw [hc j hj, bvs, List.getElem?_map, List.getElem?_eq_getElem (by omega)]
  simp [bv, List.getD, List.getElem?_eq_getElem (show j < l.length by omega)]
theorem Rd.blen {w : World} {B n : Nat} {A : Option Addr} {l : List UInt8} (h : Rd w B 1 A n (bvs l)) : l.length = n := by have := h.1; simp [bvs] at this; omega

/-- One cell that was just laid in a new block. -/
theorem Rd.one (w : World) (x : Value) (t : TypeId) : Rd (w.alloc (.cells #[x] t)) (w.heap.size + 1) 1 (some ⟨w.heap.size, 0, none⟩) 1 [x] := by
  refine ⟨rfl, fun _ => ⟨_, _, rfl, by omega, fun j hj => ?_⟩⟩
  have : j = 0 := by omega
  subst this
  rw [World.cell?_alloc_at _ _ _ _ rfl]; rfl
theorem Rd.lit (w : World) (cs : Array Value) (t : TypeId) (n : Nat) (hn : cs.size = n) : Rd (w.alloc (.cells cs t)) (w.heap.size + 1) 1 (some ⟨w.heap.size, 0, none⟩) n cs.toList := by
  refine ⟨by simp [hn], fun _ => ⟨_, _, rfl, by omega, fun j hj => ?_⟩⟩
  rw [World.cell?_alloc_at _ _ _ _ rfl]
  simp

/-- A slice type's row of the table. -/
structure SlT (P : Program) (t e : TypeId) (z : Value) (size bytes : Nat) : Prop where
  ht : P.underlying t = some (.slice e)
  info : (P.info? e).map (fun i => (i.zero, i.size, i.bytes)) = some (some z, size, bytes)
  hz : z.cells.size = size
  pos : 0 < size

theorem own_slice {w : World} {base : Nat} {e : TypeId} {size : Nat} {v : Value} {n : Nat} {xs : List Value} (h : w.ownsRow base e size v n xs) :
    ∃ A c, v = .slice A n c ∧ n ≤ c ∧ c ≤ maxLen ∧ Rd w w.heap.size size A n xs ∧ ∀ a, A = some a → base ≤ a.block := by
  rcases h.2 with ⟨rfl, rfl⟩ | ⟨g, cap, cur, rfl, hb, hg, hnc, hcm, _⟩
  · exact ⟨none, 0, rfl, Nat.le_refl _, Nat.zero_le _, Rd.of_own h, fun _ e => by cases e⟩
  · exact ⟨_, cap, rfl, hnc, hcm, Rd.of_own h, fun a e => by cases e; exact hb⟩

section
variable {P : Program} {w : World}

/-- 'append(s, x...)' onto a row of the call's own, whatever the source: nil, empty or not. -/
theorem run_app {t e : TypeId} {z : Value} {size bytes : Nat} (ty : TypeId) (hT : SlT P t e z size bytes) {base : Nat} {v : Value} {n : Nat} {xs : List Value} (hown : w.ownsRow base e size v n xs)
    {B : Nat} {A : Option Addr} {m c : Nat} {news : List Value} (hr : Rd w B size A m news) (h1 : ∀ u ∈ news, u.oneCell' = true)
    (h63 : n + m ≤ maxLen) (hbytes : (n + m) * bytes ≤ 140737488355328) (hbase : base ≤ w.heap.size) :
    ∃ v' w', (Builtin.append_ #[t, t] ty #[v, .slice A m c]).run P w = .ok v' w' ∧ w'.ownsRow base e size v' (n + m) (xs ++ news) ∧ w.grownBy w' v.ownBlock ∧
      (v'.ownBlock = v.ownBlock ∨ v'.ownBlock = some w.heap.size) := by
  obtain ⟨i, hi, hz, hs, hby⟩ := info_parts hT.info
  by_cases hm : A = none
  · subst hm
    have hm0 : m = 0 := by
      rcases Nat.eq_zero_or_pos m with h0 | h0
      · exact h0
      · obtain ⟨_, _, h, _⟩ := hr.2 h0; cases h
    subst hm0
    have hn : news = [] := List.eq_nil_of_length_eq_zero (by simpa using hr.1)
    subst hn
    refine ⟨v, w, ?_, by simpa using hown, World.grownBy.refl w _, .inl rfl⟩
    rcases hown.2 with ⟨rfl, rfl⟩ | ⟨g, cap, cur, rfl, _, _, hnc, _⟩
    · simp [Builtin.append_, run_underlying hT.ht, sizeOf, typeInfo, hi, Builtin.lenOf, Builtin.firstCells]
    · simp [Builtin.append_, run_underlying hT.ht, sizeOf, typeInfo, hi, Builtin.lenOf, Builtin.firstCells, hnc, storeCells]
  · obtain ⟨ad, rfl⟩ := Option.ne_none_iff_exists'.1 hm
    have hcells : ∀ j u, news[j]? = some u → w.cell? (ad.add j) = some u := by
      intro j u hu
      rcases Nat.eq_zero_or_pos m with h0 | h0
      · subst h0
        have hn : news = [] := List.eq_nil_of_length_eq_zero (by simpa using hr.1)
        subst hn
        simp at hu
      · obtain ⟨b, o, h, _, hc⟩ := hr.2 h0
        injection h with h
        subst h
        rw [Addr.add_lit, hc j (by have := (List.getElem?_eq_some_iff.1 hu).1; rw [hr.1] at this; exact this), hu]
    obtain ⟨v', w', hrun, h2, h3, _, h5⟩ := run_append_own_at (P := P) w base t ty e i z size bytes hT.ht hi hz hs hby hT.hz hT.pos v n xs hown ad m c news hr.1 hcells h1 h63 hbytes hbase
    exact ⟨v', w', hrun, h2, h3, h5⟩

theorem wpList_app {ops : Array Oper} {rest : List Oper} {o : Oper} {a : Act} {Q : Exit → Act → World → Prop} (s x : Operand) {t e : TypeId} {z : Value} {size bytes : Nat} (hT : SlT P t e z size bytes)
    (hgd : o.guard = none) (ho : o.op = .call { callee := .builtin .append, args := #[s, x], argTypes := #[t, t] })
    {base : Nat} {v : Value} {n : Nat} {xs : List Value} (hown : w.ownsRow base e size v n xs) (hs : a.eval s = v)
    {B : Nat} {A : Option Addr} {m c : Nat} {news : List Value} (hr : Rd w B size A m news) (hx : a.eval x = .slice A m c) (h1 : ∀ u ∈ news, u.oneCell' = true)
    (h63 : n + m ≤ maxLen) (hbytes : (n + m) * bytes ≤ 140737488355328) (hbase : base ≤ w.heap.size)
    (h : ∀ v' w', w'.ownsRow base e size v' (n + m) (xs ++ news) → w.grownBy w' v.ownBlock → (v'.ownBlock = v.ownBlock ∨ v'.ownBlock = some w.heap.size) → wpList P ops Q rest (a.put o.dst v') w') : wpList P ops Q (o :: rest) a w := by
  refine wpList_plain hgd fun _ hK => ?_
  obtain ⟨v', w', hrun, h2, h3, h4⟩ := run_app (P := P) o.type hT hown hr (c := c) h1 h63 hbytes hbase
  unfold Oper.wp execOp
  simp only [ho, resolve, invoke, builtin, Sem.run_bind, Sem.run_pure, Result.andThen_ok, List.map_toArray, List.map_cons, List.map_nil, hs, hx, hrun]
  exact hK _ _ (h v' w' h2 h3 h4)
end

/-- Behind an append onto an owned row nothing below its base has turned. -/
theorem Below.app {w w' W : World} {base B : Nat} {e : TypeId} {size : Nat} {v : Value} {n : Nat} {xs : List Value} (hb : Below B W w) (hown : w.ownsRow base e size v n xs) (hg : w.grownBy w' v.ownBlock)
    (hB : B ≤ base) (hs : B ≤ w.heap.size) : Below B W w' :=
  hb.grown hg hs fun k hk => Nat.le_trans hB (hown.lt k hk).1

/-- Old cells and old marks, as a walk's two rules. -/
theorem bcell {W w1 : World} {B : Nat} (hb : Below B W w1) : (∀ b o, b < B → w1.cell? ⟨b, o, none⟩ = W.cell? ⟨b, o, none⟩) ∧ (∀ b o, b < B → w1.frozen? ⟨b, o, none⟩ = W.frozen? ⟨b, o, none⟩) :=
  ⟨fun b o h => hb.cell (p := ⟨b, o, none⟩) h, fun b o h => hb.frozen (p := ⟨b, o, none⟩) h⟩

theorem oneInt (k : IntKind) (n : Int) : ∀ u ∈ [Value.int k n], u.oneCell' = true := by simp [Value.oneCell']
theorem le_maxLen {n : Nat} (h : n ≤ 9223372036854775807) : n ≤ maxLen := by unfold maxLen; omega

/-- Byte j of a list, as a number. -/
def ba (l : List UInt8) (j : Nat) : Nat := (l.getD j 0).toNat
theorem ba_lt (l : List UInt8) (j : Nat) : ba l j < 256 := (l.getD j 0).toNat_lt
theorem ba_get {l : List UInt8} {j : Nat} (h : j < l.length) : ba l j = (l[j]).toNat := by simp [ba, List.getD, List.getElem?_eq_getElem h]
theorem ba_cons (c : UInt8) (t : List UInt8) (j : Nat) : ba (c :: t) (j + 1) = ba t j := by simp [ba]
theorem drop_ba {l : List UInt8} {j : Nat} (h : j < l.length) : ∃ c, l.drop j = c :: l.drop (j + 1) ∧ c.toNat = ba l j :=
  ⟨l[j], List.drop_eq_getElem_cons h, (ba_get h).symm⟩
theorem Rd.bas {w : World} {B n : Nat} {A : Option Addr} {l : List UInt8} (h : Rd w B 1 A n (bvs l)) (hn : 0 < n) :
    l.length = n ∧ ∃ b o, A = some ⟨b, o, none⟩ ∧ b < B ∧ ∀ j, j < n → w.cell? ⟨b, o + j, none⟩ = some (.int .u8 (ba l j : Int)) := h.bytes hn

theorem strOfNums_bytes (l : List UInt8) : strOfNums (l.map fun c => (c.toNat : Int)) = ⟨l.toArray⟩ := by
  unfold strOfNums
  congr 2
  rw [List.map_map]
  conv => rhs; rw [← List.map_id l]
  apply List.map_congr_left
  intro c _
  simp
/-- 'string(b)', b nil, empty or not. -/
theorem run_str {P : Program} {w : World} {src e dst : TypeId} (hs : P.underlying src = some (.slice e)) (he : P.underlying e = some (.int .u8)) (hd : P.underlying dst = some .string)
    {B n : Nat} {A : Option Addr} {l : List UInt8} (hr : Rd w B 1 A n (bvs l)) (c : Nat) : (convert src dst (.slice A n c)).run P w = .ok (.string ⟨l.toArray⟩) w := by
  rcases Nat.eq_zero_or_pos n with rfl | hn
  · have hl0 : l = [] := List.eq_nil_of_length_eq_zero hr.blen
    subst hl0
    rw [run_convert_bytes_string w src dst e A 0 c hs he hd]
    cases A with
    | none => rfl
    | some a => rw [run_bytesToString w a 0 c [] (by simpa using run_loadCells_list (P := P) w a [] (by simp))]; rfl
  · obtain ⟨hl, b, o, rfl, -, hc⟩ := hr.bas hn
    rw [run_convert_bytes_arg w src e hs he b o n c (l.map fun c => (c.toNat : Int)) (by simpa using hl) (fun i hi => by
      rw [hc i hi]
      simp [ba, List.getD, List.getElem?_eq_getElem (show i < l.length by omega)]) dst hd, strOfNums_bytes]
/-- A law's call: it answers true and turns nothing that was there. -/
def RetT (W : World) (e : Ending) (w' : World) : Prop := e = .returned (.bool true) ∧ Below W.heap.size W w'

theorem ret_v {a b : Value} (h : a = b) : Ending.returned a = .returned b := by rw [h]

end Go.Proofs.Ytidfokfnigncmaa
