/- 13 texts in one: Base, PutPlain, Put, Lies, Oct, Fr1, Fr2, Fr3, App, TakePlain, HuffTab, HuffOpenPlain, HuffSizePlain. -/
import Derived.WalkKit
import Derived.Handy
import Derived.Lib.Hide
import Derived.KernelRfl
import Derived.Maps.AppendAt
import Derived.Deep.AppendLies
import Derived.Deep.Draws
import Derived.Test.YtpkmciohehaboaaGreatDoorChecked
import Derived.ArgAppend
import Derived.Deep.Upon
import Derived.Deep.OwnRows
import Derived.Deep.QuietTactic
import Derived.Deep.Cut
import Derived.Deep.CutRange
import Derived.BigQuiet
import Derived.Great.Walk
import Derived.Lib.AppendStr
/- Words for memory that all later texts of this seat use: a slice that reads as a list, append onto an owned row, bytes as cells. No program in sight. -/
namespace Go.Proofs.YtpkmciohehaboaaGreatDoor
open Go.RowKit

/-- A byte in memory. -/
def bv (c : UInt8) : Value := .int .u8 (c.toNat : Int)
def bvs (l : List UInt8) : List Value := l.map bv
theorem bvs_length (l : List UInt8) : (bvs l).length = l.length := by simp [bvs]
theorem bvs_append (l k : List UInt8) : bvs (l ++ k) = bvs l ++ bvs k := by simp [bvs]
theorem bv_of {n : Int} (h0 : 0 ≤ n) (h1 : n < 256) : Value.int .u8 n = bv (UInt8.ofNat n.toNat) := by
  unfold bv
  have : (UInt8.ofNat n.toNat).toNat = n.toNat := by simp [UInt8.toNat_ofNat']; omega
  rw [this, Int.toNat_of_nonneg h0]
theorem bvs_one (l : List UInt8) : ∀ u ∈ bvs l, u.oneCell' = true := by
  intro u hu
  obtain ⟨c, _, rfl⟩ := List.mem_map.1 hu
  rfl

/-- 'Rd w B size A n xs': the slice at the address A, of n elements of 'size' cells each, holds the cells xs, and lies below block B. -/
def Rd (w : World) (B size : Nat) (A : Option Addr) (n : Nat) (xs : List Value) : Prop :=
  xs.length = n * size ∧ (0 < n → ∃ b o, A = some ⟨b, o, none⟩ ∧ b < B ∧ ∀ j, j < n * size → w.cell? ⟨b, o + j, none⟩ = xs[j]?)

section
variable {w w' : World} {B B' size n : Nat} {A : Option Addr} {xs : List Value}
theorem Rd.none_ (w : World) (B size : Nat) (A : Option Addr) : Rd w B size A 0 [] := ⟨by simp, fun h => absurd h (by omega)⟩
theorem Rd.keep (h : Rd w B size A n xs) (hk : ∀ b o, b < B → w'.cell? ⟨b, o, none⟩ = w.cell? ⟨b, o, none⟩) : Rd w' B size A n xs :=
  ⟨h.1, fun hn => by
    obtain ⟨b, o, e, hb, hc⟩ := h.2 hn
    exact ⟨b, o, e, hb, fun j hj => (hk b _ hb).trans (hc j hj)⟩⟩
theorem Rd.more (h : Rd w B size A n xs) (hB : B ≤ B') : Rd w B' size A n xs :=
  ⟨h.1, fun hn => by
    obtain ⟨b, o, e, hb, hc⟩ := h.2 hn
    exact ⟨b, o, e, by omega, hc⟩⟩
theorem Rd.below {B0 : Nat} (h : Rd w B size A n xs) (hb : Below B0 w w') (hB : B ≤ B0) : Rd w' B size A n xs := h.keep fun b o hp => hb.cell (p := ⟨b, o, none⟩) (by show b < B0; omega)
theorem Rd.drew (h : Rd w B size A n xs) : Rd w.drew B size A n xs := h
theorem Rd.drewN (h : Rd w B size A n xs) (k : Nat) : Rd (w.drewN k) B size A n xs := h
theorem Rd.alloc (h : Rd w B size A n xs) (hB : B ≤ w.heap.size) (o : Obj) : Rd (w.alloc o) B size A n xs := h.keep fun b _ hp => World.cell?_alloc_lt w o _ (by show b < _; omega)
theorem Rd.setCell (h : Rd w B size A n xs) {p : Addr} (hB : B ≤ p.block) (u : Value) : Rd (w.setCell p u) B size A n xs :=
  h.keep fun b o hq => World.cell?_setCell_other w p _ u (fun e => by subst e; simp at hB; omega)
theorem Rd.grown (h : Rd w B size A n xs) {row : Option Nat} (hg : w.grownBy w' row) (hB : B ≤ w.heap.size) (hr : ∀ g, row = some g → B ≤ g) : Rd w' B size A n xs :=
  h.keep fun b o hp => World.cell?_of_block (hg.block b (by omega) (fun e => by have := hr _ e.symm; omega))
theorem Rd.of_own {base : Nat} {e : TypeId} {c : Nat} (h : w.ownsRow base e size (.slice A n c) n xs) : Rd w w.heap.size size A n xs := by
  refine ⟨h.1, fun hn => ?_⟩
  obtain ⟨g, cap, hv, _, hlt⟩ := h.form hn
  have hA : A = some ⟨g, 0, none⟩ := by injection hv
  subst hA
  refine ⟨g, 0, rfl, hlt, fun j hj => ?_⟩
  have hx : xs[j]? = some (xs[j]'(by rw [h.1]; exact hj)) := List.getElem?_eq_getElem _
  rw [hx]
  have := h.cells (g := g) rfl j _ hx
  rw [Addr.add_lit] at this
  exact this
/-- The piece 's[lo:hi]'. -/
theorem Rd.piece (h : Rd w B size A n xs) {lo hi cap : Nat} (hlo : lo ≤ hi) (hhi : hi ≤ n) (hc : n ≤ cap) :
    Rd w B size (if cap = lo then A else A.map (·.add (lo * size))) (hi - lo) ((xs.drop (lo * size)).take ((hi - lo) * size)) := by
  have hm : hi * size ≤ n * size := Nat.mul_le_mul_right _ hhi
  have hm2 : (hi - lo) * size = hi * size - lo * size := Nat.sub_mul ..
  refine ⟨by rw [List.length_take, List.length_drop, h.1, hm2]; omega, fun hn => ?_⟩
  obtain ⟨b, o, rfl, hb, hcell⟩ := h.2 (by omega)
  rw [if_neg (by omega)]
  refine ⟨b, o + lo * size, by simp [Addr.add_lit], hb, fun j hj => ?_⟩
  have hml : lo * size ≤ hi * size := Nat.mul_le_mul_right _ hlo
  rw [Nat.add_assoc, hcell _ (by omega), List.getElem?_take, if_pos hj, List.getElem?_drop]
theorem Rd.len (h : Rd w B size A n xs) : xs.length = n * size := h.1
end

/-- The cells of a slice of one-cell elements that is not empty: what a walk asks. -/
theorem Rd.at_ {w : World} {B n : Nat} {A : Option Addr} {xs : List Value} (h : Rd w B 1 A n xs) (hn : 0 < n) :
    ∃ b o, A = some ⟨b, o, none⟩ ∧ b < B ∧ ∀ j, j < n → w.cell? ⟨b, o + j, none⟩ = xs[j]? := by
  obtain ⟨b, o, e, hb, hc⟩ := h.2 hn
  exact ⟨b, o, e, hb, fun j hj => hc j (by omega)⟩
theorem Rd.bytes {w : World} {B n : Nat} {A : Option Addr} {l : List UInt8} (h : Rd w B 1 A n (bvs l)) (hn : 0 < n) :
    l.length = n ∧ ∃ b o, A = some ⟨b, o, none⟩ ∧ b < B ∧ ∀ j, j < n → w.cell? ⟨b, o + j, none⟩ = some (.int .u8 ((l.getD j 0).toNat : Int)) := by
  have hl : l.length = n := by have := h.1; simp [bvs] at this; omega
  refine ⟨hl, ?_⟩
  obtain ⟨b, o, e, hb, hc⟩ := h.at_ hn
  refine ⟨b, o, e, hb, fun j hj => ?_⟩
  rw [hc j hj, bvs, List.getElem?_map, List.getElem?_eq_getElem (by omega)]
  simp [bv, List.getD, List.getElem?_eq_getElem (show j < l.length by omega)]
theorem Rd.blen {w : World} {B n : Nat} {A : Option Addr} {l : List UInt8} (h : Rd w B 1 A n (bvs l)) : l.length = n := by have := h.1; simp [bvs] at this; omega

/-- One cell that was just laid in a new block. -/
theorem Rd.one (w : World) (x : Value) (t : TypeId) : Rd (w.alloc (.cells #[x] t)) (w.heap.size + 1) 1 (some ⟨w.heap.size, 0, none⟩) 1 [x] := by
  refine ⟨rfl, fun _ => ⟨_, _, rfl, by omega, fun j hj => ?_⟩⟩
  have : j = 0 := by omega
  subst this
  rw [World.cell?_alloc_at _ _ _ _ rfl]; rfl
theorem Rd.lit (w : World) (cs : Array Value) (t : TypeId) (n : Nat) (hn : cs.size = n) : Rd (w.alloc (.cells cs t)) (w.heap.size + 1) 1 (some ⟨w.heap.size, 0, none⟩) n cs.toList := by
  refine ⟨by simp [hn], fun _ => ⟨_, _, rfl, by omega, fun j hj => ?_⟩⟩
  rw [World.cell?_alloc_at _ _ _ _ rfl]
  simp

/-- A slice type's row of the table. -/
structure SlT (P : Program) (t e : TypeId) (z : Value) (size bytes : Nat) : Prop where
  ht : P.underlying t = some (.slice e)
  info : (P.info? e).map (fun i => (i.zero, i.size, i.bytes)) = some (some z, size, bytes)
  hz : z.cells.size = size
  pos : 0 < size

theorem own_slice {w : World} {base : Nat} {e : TypeId} {size : Nat} {v : Value} {n : Nat} {xs : List Value} (h : w.ownsRow base e size v n xs) :
    ∃ A c, v = .slice A n c ∧ n ≤ c ∧ c ≤ maxLen ∧ Rd w w.heap.size size A n xs ∧ ∀ a, A = some a → base ≤ a.block := by
  rcases h.2 with ⟨rfl, rfl⟩ | ⟨g, cap, cur, rfl, hb, hg, hnc, hcm, _⟩
  · exact ⟨none, 0, rfl, Nat.le_refl _, Nat.zero_le _, Rd.of_own h, fun _ e => by cases e⟩
  · exact ⟨_, cap, rfl, hnc, hcm, Rd.of_own h, fun a e => by cases e; exact hb⟩

section
variable {P : Program} {w : World}

/-- 'append(s, x...)' onto a row of the call's own, whatever the source: nil, empty or not. -/
theorem run_app {t e : TypeId} {z : Value} {size bytes : Nat} (ty : TypeId) (hT : SlT P t e z size bytes) {base : Nat} {v : Value} {n : Nat} {xs : List Value} (hown : w.ownsRow base e size v n xs)
    {B : Nat} {A : Option Addr} {m c : Nat} {news : List Value} (hr : Rd w B size A m news) (h1 : ∀ u ∈ news, u.oneCell' = true)
    (h63 : n + m ≤ maxLen) (hbytes : (n + m) * bytes ≤ 140737488355328) (hbase : base ≤ w.heap.size) :
    ∃ v' w', (Builtin.append_ #[t, t] ty #[v, .slice A m c]).run P w = .ok v' w' ∧ w'.ownsRow base e size v' (n + m) (xs ++ news) ∧ w.grownBy w' v.ownBlock ∧
      (v'.ownBlock = v.ownBlock ∨ v'.ownBlock = some w.heap.size) := by
  obtain ⟨i, hi, hz, hs, hby⟩ := info_parts hT.info
  by_cases hm : A = none
  · subst hm
    have hm0 : m = 0 := by
      rcases Nat.eq_zero_or_pos m with h0 | h0
      · exact h0
      · obtain ⟨_, _, h, _⟩ := hr.2 h0; cases h
    subst hm0
    have hn : news = [] := List.eq_nil_of_length_eq_zero (by simpa using hr.1)
    subst hn
    refine ⟨v, w, ?_, by simpa using hown, World.grownBy.refl w _, .inl rfl⟩
    rcases hown.2 with ⟨rfl, rfl⟩ | ⟨g, cap, cur, rfl, _, _, hnc, _⟩
    · simp [Builtin.append_, run_underlying hT.ht, sizeOf, typeInfo, hi, Builtin.lenOf, Builtin.firstCells]
    · simp [Builtin.append_, run_underlying hT.ht, sizeOf, typeInfo, hi, Builtin.lenOf, Builtin.firstCells, hnc, storeCells]
  · obtain ⟨ad, rfl⟩ := Option.ne_none_iff_exists'.1 hm
    have hcells : ∀ j u, news[j]? = some u → w.cell? (ad.add j) = some u := by
      intro j u hu
      rcases Nat.eq_zero_or_pos m with h0 | h0
      · subst h0
        have hn : news = [] := List.eq_nil_of_length_eq_zero (by simpa using hr.1)
        subst hn
        simp at hu
      · obtain ⟨b, o, h, _, hc⟩ := hr.2 h0
        injection h with h
        subst h
        rw [Addr.add_lit, hc j (by have := (List.getElem?_eq_some_iff.1 hu).1; rw [hr.1] at this; exact this), hu]
    obtain ⟨v', w', hrun, h2, h3, _, h5⟩ := run_append_own_at (P := P) w base t ty e i z size bytes hT.ht hi hz hs hby hT.hz hT.pos v n xs hown ad m c news hr.1 hcells h1 h63 hbytes hbase
    exact ⟨v', w', hrun, h2, h3, h5⟩

theorem wpList_app {ops : Array Oper} {rest : List Oper} {o : Oper} {a : Act} {Q : Exit → Act → World → Prop} (s x : Operand) {t e : TypeId} {z : Value} {size bytes : Nat} (hT : SlT P t e z size bytes)
    (hgd : o.guard = none) (ho : o.op = .call { callee := .builtin .append, args := #[s, x], argTypes := #[t, t] })
    {base : Nat} {v : Value} {n : Nat} {xs : List Value} (hown : w.ownsRow base e size v n xs) (hs : a.eval s = v)
    {B : Nat} {A : Option Addr} {m c : Nat} {news : List Value} (hr : Rd w B size A m news) (hx : a.eval x = .slice A m c) (h1 : ∀ u ∈ news, u.oneCell' = true)
    (h63 : n + m ≤ maxLen) (hbytes : (n + m) * bytes ≤ 140737488355328) (hbase : base ≤ w.heap.size)
    (h : ∀ v' w', w'.ownsRow base e size v' (n + m) (xs ++ news) → w.grownBy w' v.ownBlock → (v'.ownBlock = v.ownBlock ∨ v'.ownBlock = some w.heap.size) → wpList P ops Q rest (a.put o.dst v') w') : wpList P ops Q (o :: rest) a w := by
  refine wpList_plain hgd fun _ hK => ?_
  obtain ⟨v', w', hrun, h2, h3, h4⟩ := run_app (P := P) o.type hT hown hr (c := c) h1 h63 hbytes hbase
  unfold Oper.wp execOp
  simp only [ho, resolve, invoke, builtin, Sem.run_bind, Sem.run_pure, Result.andThen_ok, List.map_toArray, List.map_cons, List.map_nil, hs, hx, hrun]
  exact hK _ _ (h v' w' h2 h3 h4)
end

/-- Behind an append onto an owned row nothing below its base has turned. -/
theorem Below.app {w w' W : World} {base B : Nat} {e : TypeId} {size : Nat} {v : Value} {n : Nat} {xs : List Value} (hb : Below B W w) (hown : w.ownsRow base e size v n xs) (hg : w.grownBy w' v.ownBlock)
    (hB : B ≤ base) (hs : B ≤ w.heap.size) : Below B W w' :=
  hb.grown hg hs fun k hk => Nat.le_trans hB (hown.lt k hk).1

/-- Old cells and old marks, as a walk's two rules. -/
theorem bcell {W w1 : World} {B : Nat} (hb : Below B W w1) : (∀ b o, b < B → w1.cell? ⟨b, o, none⟩ = W.cell? ⟨b, o, none⟩) ∧ (∀ b o, b < B → w1.frozen? ⟨b, o, none⟩ = W.frozen? ⟨b, o, none⟩) :=
  ⟨fun b o h => hb.cell (p := ⟨b, o, none⟩) h, fun b o h => hb.frozen (p := ⟨b, o, none⟩) h⟩

theorem oneInt (k : IntKind) (n : Int) : ∀ u ∈ [Value.int k n], u.oneCell' = true := by simp [Value.oneCell']
theorem le_maxLen {n : Nat} (h : n ≤ 9223372036854775807) : n ≤ maxLen := by unfold maxLen; omega

/-- Byte j of a list, as a number. -/
def ba (l : List UInt8) (j : Nat) : Nat := (l.getD j 0).toNat
theorem ba_lt (l : List UInt8) (j : Nat) : ba l j < 256 := (l.getD j 0).toNat_lt
theorem ba_get {l : List UInt8} {j : Nat} (h : j < l.length) : ba l j = (l[j]).toNat := by simp [ba, List.getD, List.getElem?_eq_getElem h]
theorem drop_ba {l : List UInt8} {j : Nat} (h : j < l.length) : ∃ c, l.drop j = c :: l.drop (j + 1) ∧ c.toNat = ba l j :=
  ⟨l[j], List.drop_eq_getElem_cons h, (ba_get h).symm⟩
theorem Rd.bas {w : World} {B n : Nat} {A : Option Addr} {l : List UInt8} (h : Rd w B 1 A n (bvs l)) (hn : 0 < n) :
    l.length = n ∧ ∃ b o, A = some ⟨b, o, none⟩ ∧ b < B ∧ ∀ j, j < n → w.cell? ⟨b, o + j, none⟩ = some (.int .u8 (ba l j : Int)) := h.bytes hn

theorem strOfNums_bytes (l : List UInt8) : strOfNums (l.map fun c => (c.toNat : Int)) = ⟨l.toArray⟩ := by
  unfold strOfNums
  congr 2
  rw [List.map_map]
  conv => rhs; rw [← List.map_id l]
  apply List.map_congr_left
  intro c _
  simp
/-- 'string(b)', b nil, empty or not. -/
theorem run_str {P : Program} {w : World} {src e dst : TypeId} (hs : P.underlying src = some (.slice e)) (he : P.underlying e = some (.int .u8)) (hd : P.underlying dst = some .string)
    {B n : Nat} {A : Option Addr} {l : List UInt8} (hr : Rd w B 1 A n (bvs l)) (c : Nat) : (convert src dst (.slice A n c)).run P w = .ok (.string ⟨l.toArray⟩) w := by
  rcases Nat.eq_zero_or_pos n with rfl | hn
  · have hl0 : l = [] := List.eq_nil_of_length_eq_zero hr.blen
    subst hl0
    rw [run_convert_bytes_string w src dst e A 0 c hs he hd]
    cases A with
    | none => rfl
    | some a => rw [run_bytesToString w a 0 c [] (by simpa using run_loadCells_list (P := P) w a [] (by simp))]; rfl
  · obtain ⟨hl, b, o, rfl, -, hc⟩ := hr.bas hn
    rw [run_convert_bytes_arg w src e hs he b o n c (l.map fun c => (c.toNat : Int)) (by simpa using hl) (fun i hi => by
      rw [hc i hi]
      simp [ba, List.getD, List.getElem?_eq_getElem (show i < l.length by omega)]) dst hd, strOfNums_bytes]
/-- A law's call: it answers true and turns nothing that was there. -/
def RetT (W : World) (e : Ending) (w' : World) : Prop := e = .returned (.bool true) ∧ Below W.heap.size W w'

theorem ret_v {a b : Value} (h : a = b) : Ending.returned a = .returned b := by rw [h]

end Go.Proofs.YtpkmciohehaboaaGreatDoor

/- What PutInt writes, in plain Lean: the bytes of a number behind a prefix. No program in sight. -/
namespace Go.Proofs.YtpkmciohehaboaaGreatDoor
open Go.RowKit

/-- The bytes behind a full prefix. -/
def tailF : Nat → Nat → List UInt8
  | 0, n => [UInt8.ofNat n]
  | k + 1, n => if n < 128 then [UInt8.ofNat n] else UInt8.ofNat (n % 128 + 128) :: tailF k (n / 128)
/-- All bytes of a number: f: the flags, F: the full prefix. -/
def putB (f F n : Nat) : List UInt8 := if n < F then [UInt8.ofNat (f + n)] else UInt8.ofNat (f + F) :: tailF 5 (n - F)

theorem tailF_length (k n : Nat) : (tailF k n).length ≤ k + 1 ∧ 1 ≤ (tailF k n).length := by
  induction k generalizing n with
  | zero => simp [tailF]
  | succ k ih =>
    unfold tailF
    split
    · simp
    · have := ih (n / 128); simp; omega
theorem putB_length (f F n : Nat) : (putB f F n).length ≤ 7 ∧ 1 ≤ (putB f F n).length := by
  unfold putB
  split
  · simp
  · have := tailF_length 5 (n - F); simp; omega
theorem tailF_small (k n : Nat) (h : n < 128) : tailF k n = [UInt8.ofNat n] := by
  cases k with
  | zero => rfl
  | succ k => simp [tailF, h]
theorem tailF_big (k n : Nat) (h : 128 ≤ n) : tailF (k + 1) n = UInt8.ofNat (n % 128 + 128) :: tailF k (n / 128) := by
  rw [tailF, if_neg (by omega)]

/-- Full prefixes. -/
structure Full (bits F : Nat) : Prop where
  lo : 1 ≤ bits
  hi : bits ≤ 8
  eq : F + 1 = 2 ^ bits
theorem Full.cases {bits F : Nat} (h : Full bits F) : (bits = 1 ∧ F = 1) ∨ (bits = 2 ∧ F = 3) ∨ (bits = 3 ∧ F = 7) ∨ (bits = 4 ∧ F = 15) ∨ (bits = 5 ∧ F = 31) ∨ (bits = 6 ∧ F = 63) ∨ (bits = 7 ∧ F = 127) ∨ (bits = 8 ∧ F = 255) := by
  obtain ⟨h1, h2, h3⟩ := h
  have : bits = 1 ∨ bits = 2 ∨ bits = 3 ∨ bits = 4 ∨ bits = 5 ∨ bits = 6 ∨ bits = 7 ∨ bits = 8 := by omega
  rcases this with rfl | rfl | rfl | rfl | rfl | rfl | rfl | rfl <;> omega
theorem Full.le {bits F : Nat} (h : Full bits F) : 1 ≤ F ∧ F ≤ 255 := by rcases h.cases with ⟨-, rfl⟩ | ⟨-, rfl⟩ | ⟨-, rfl⟩ | ⟨-, rfl⟩ | ⟨-, rfl⟩ | ⟨-, rfl⟩ | ⟨-, rfl⟩ | ⟨-, rfl⟩ <;> omega
theorem Full.or8 {bits F f n : Nat} (h : Full bits F) (hf : f < 256) (h0 : f % (F + 1) = 0) (hn : n ≤ F) : Go.bits .or .u8 (f : Int) (n : Int) = ((f + n : Nat) : Int) ∧ f + n < 256 := by
  have := h.le
  have e := nat_join bits f n (by rw [← h.eq]; exact h0) (by rw [← h.eq]; omega)
  have hlt : f + n < 256 := by
    rw [← e]
    exact Nat.or_lt_two_pow (n := 8) hf (by omega)
  exact ⟨by rw [u8_or_nat f n hf (by omega), e], hlt⟩
theorem toNat_ofNat {n : Nat} (h : n < 256) : (UInt8.ofNat n).toNat = n := by simp [UInt8.toNat_ofNat']; omega
end Go.Proofs.YtpkmciohehaboaaGreatDoor

/- The walk of prefix.PutInt. -/
namespace Go.Proofs.YtpkmciohehaboaaGreatDoor
open Go.RowKit

/-- A row of bytes of the call's own, from block B on. -/
def OwnB (w : World) (B : Nat) (v : Value) (l : List UInt8) : Prop := w.ownsRow B 5 1 v l.length (bvs l)
theorem OwnB.snoc {w : World} {B : Nat} {v u : Value} {d : List UInt8} {b : UInt8} (h : w.ownsRow B 5 1 v (d.length + 1) (bvs d ++ [u])) (hu : u = bv b) : OwnB w B v (d ++ [b]) := by
  subst hu
  unfold OwnB
  rw [List.length_append, bvs_append]
  exact h
/-- What a call hands back: a row of its own and an error number; nothing else has turned. -/
def RetBE (W : World) (l : List UInt8) (err : Int) (e : Ending) (w' : World) : Prop := ∃ v, e = .returned (.tuple #[v, .int .i64 err]) ∧ OwnB w' W.heap.size v l ∧ Below W.heap.size W w'
def RetB (W : World) (l : List UInt8) (e : Ending) (w' : World) : Prop := ∃ v, e = .returned v ∧ OwnB w' W.heap.size v l ∧ Below W.heap.size W w'

theorem tBytes : SlT Tryz.prog 48 5 (.int .u8 0) 1 1 := ⟨Tryz.underlying48, by kernel_rfl, rfl, by omega⟩

def PutRel (w : World) (T : List UInt8) (v m : Value) (wr : World) : Prop :=
  ∃ d k, ∃ x : Nat, T = d ++ tailF k x ∧ x < 128 ^ (k + 1) ∧ d.length + k ≤ 6 ∧ x < 4294967296 ∧ m = .int .u32 x ∧ OwnB wr w.heap.size v d ∧ Below w.heap.size w wr

end Go.Proofs.YtpkmciohehaboaaGreatDoor

/- A slice somewhere in a block of the program's own; append onto it; frames by footprints. No program in sight. -/
namespace Go.Proofs.YtpkmciohehaboaaGreatDoor
open Go.RowKit

/-- 'Kept F w w'': every block outside F is as it was. -/
structure Kept (F : Nat → Prop) (w w' : World) : Prop where
  os : w'.os = w.os
  tape : w'.tape = w.tape
  output : w'.output = w.output
  size : w.heap.size ≤ w'.heap.size
  block : ∀ k, k < w.heap.size → ¬ F k → w'.heap[k]? = w.heap[k]?
/-- What belongs to the thing later belonged to it, or is new. -/
def Grew (w : World) (F F' : Nat → Prop) : Prop := ∀ k, F' k → F k ∨ w.heap.size ≤ k
section
variable {F F' G : Nat → Prop} {w w' w2 : World}
theorem Kept.refl (F : Nat → Prop) (w : World) : Kept F w w := ⟨rfl, rfl, rfl, Nat.le_refl _, fun _ _ _ => rfl⟩
theorem Kept.trans (h : Kept F w w') (h2 : Kept F' w' w2) (hg : Grew w F F') : Kept F w w2 :=
  ⟨h2.os.trans h.os, h2.tape.trans h.tape, h2.output.trans h.output, Nat.le_trans h.size h2.size, fun k hk hn =>
    (h2.block k (Nat.lt_of_lt_of_le hk h.size) (fun hf => (hg k hf).elim hn (fun hle => by omega))).trans (h.block k hk hn)⟩
theorem Grew.refl (w : World) (F : Nat → Prop) : Grew w F F := fun _ h => .inl h
theorem Grew.trans {F2 : Nat → Prop} (h : Grew w F F') (h2 : Grew w' F' F2) (hs : w.heap.size ≤ w'.heap.size) : Grew w F F2 := fun k hk => (h2 k hk).elim (h k) (fun hle => .inr (by omega))
theorem Kept.same (h : Kept F w w') (h2 : Kept F w' w2) : Kept F w w2 := h.trans h2 (Grew.refl _ _)
theorem Kept.mono (h : Kept F w w') (hf : ∀ k, F k → G k) : Kept G w w' := ⟨h.os, h.tape, h.output, h.size, fun k hk hn => h.block k hk (fun hfk => hn (hf k hfk))⟩
theorem Kept.below {B : Nat} (h : Kept F w w') (hf : ∀ k, F k → B ≤ k) (hs : B ≤ w.heap.size) : Below B w w' := ⟨h.os, h.tape, h.output, h.size, fun k hk => h.block k (by omega) (fun hfk => by have := hf k hfk; omega)⟩
theorem Kept.of_below (h : Below w.heap.size w w') : Kept F w w' := ⟨h.os, h.tape, h.output, h.size, fun k hk _ => h.block k hk⟩
theorem Kept.alloc (h : Kept F w w') (o : Obj) : Kept F w (w'.alloc o) := ⟨h.os, h.tape, h.output, by have := h.size; simp; omega, fun k hk hn => (Below.heap_alloc _ _ _ (Nat.lt_of_lt_of_le hk h.size)).trans (h.block k hk hn)⟩
theorem Kept.drew (h : Kept F w w') : Kept F w w'.drew := ⟨h.os, h.tape, h.output, h.size, h.block⟩
theorem Kept.drewN (h : Kept F w w') (n : Nat) : Kept F w (w'.drewN n) := ⟨h.os, h.tape, h.output, h.size, h.block⟩
theorem Kept.setCell (h : Kept F w w') {g : Nat} (hg : F g) (o : Nat) (v : Value) : Kept F w (w'.setCell ⟨g, o, none⟩ v) :=
  ⟨h.os, h.tape, h.output, by simpa [World.setCell] using h.size, fun k hk hn => (Below.heap_setCell _ ⟨g, o, none⟩ v _ (fun e => hn (by simp only at e; rw [e]; exact hg))).trans (h.block k hk hn)⟩
theorem Kept.grown (h : Kept F w w') {row : Option Nat} (hg : w'.grownBy w2 row) (hr : ∀ k, row = some k → F k ∨ w.heap.size ≤ k) : Kept F w w2 :=
  ⟨hg.os.trans h.os, hg.tape.trans h.tape, hg.output.trans h.output, Nat.le_trans h.size hg.size, fun k hk hn => (hg.block k (Nat.lt_of_lt_of_le hk h.size) (fun e => (hr k e.symm).elim hn (fun hle => by omega))).trans (h.block k hk hn)⟩
theorem Kept.cell (h : Kept F w w') {k : Nat} (hk : k < w.heap.size) (hn : ¬ F k) (o : Nat) : w'.cell? ⟨k, o, none⟩ = w.cell? ⟨k, o, none⟩ := World.cell?_of_block (h.block k hk hn)
theorem Kept.frozen (h : Kept F w w') {k : Nat} (hk : k < w.heap.size) (hn : ¬ F k) (o : Nat) : w'.frozen? ⟨k, o, none⟩ = w.frozen? ⟨k, o, none⟩ := World.frozen?_of_block (h.block k hk hn)
end

theorem heapNew (w : World) (o : Obj) : (w.alloc o).heap[w.heap.size]? = some o := by
  show (w.heap.push o)[w.heap.size]? = _
  simp
theorem heapNew1 (w : World) (o o2 : Obj) : ((w.alloc o).alloc o2).heap[w.heap.size + 1]? = some o2 := by
  have := heapNew (w.alloc o) o2
  rwa [show (w.alloc o).heap.size = w.heap.size + 1 by simp] at this

/-- A slice value v of n elements that holds xs, in a block of element type e, with room behind up to its capacity. -/
def Lies (w : World) (e : TypeId) (size : Nat) (v : Value) (n : Nat) (xs : List Value) : Prop :=
  xs.length = n * size ∧ ((v = .slice none 0 0 ∧ n = 0) ∨ ∃ g o cap cur, v = .slice (some ⟨g, o, none⟩) n cap ∧ w.heap[g]? = some (.cells cur e (0, 0)) ∧ n ≤ cap ∧ cap ≤ maxLen ∧ o + cap * size ≤ cur.size ∧ ∀ j, j < n * size → w.cell? ⟨g, o + j, none⟩ = xs[j]?)
section
variable {w w' : World} {e : TypeId} {size n : Nat} {v : Value} {xs : List Value}
theorem Lies.nil (w : World) (e : TypeId) (size : Nat) : Lies w e size (.slice none 0 0) 0 [] := ⟨by simp, .inl ⟨rfl, rfl⟩⟩
theorem Lies.keep (h : Lies w e size v n xs) (hk : ∀ g, v.ownBlock = some g → w'.heap[g]? = w.heap[g]?) : Lies w' e size v n xs := by
  refine ⟨h.1, ?_⟩
  rcases h.2 with h2 | ⟨g, o, cap, cur, rfl, hb, hn, hc, hs, hcell⟩
  · exact .inl h2
  · have := hk g rfl
    exact .inr ⟨g, o, cap, cur, rfl, this.trans hb, hn, hc, hs, fun j hj => (World.cell?_of_block (a := ⟨g, o + j, none⟩) this).trans (hcell j hj)⟩
theorem Lies.form (h : Lies w e size v n xs) : ∃ A c, v = .slice A n c ∧ n ≤ c ∧ c ≤ maxLen ∧ (∀ a, A = some a → a.block < w.heap.size) := by
  rcases h.2 with ⟨rfl, rfl⟩ | ⟨g, o, cap, cur, rfl, hb, hn, hc, _⟩
  · exact ⟨none, 0, rfl, Nat.le_refl _, Nat.zero_le _, fun a ha => by cases ha⟩
  · exact ⟨_, cap, rfl, hn, hc, fun a ha => by cases ha; exact (Array.getElem?_eq_some_iff.1 hb).1⟩
theorem Lies.rd (h : Lies w e size v n xs) {A : Option Addr} {c : Nat} (hv : v = .slice A n c) : Rd w w.heap.size size A n xs := by
  refine ⟨h.1, fun hn => ?_⟩
  rcases h.2 with ⟨hv2, h0⟩ | ⟨g, o, cap, cur, hv2, hb, _, _, _, hcell⟩
  · omega
  · rw [hv] at hv2
    injection hv2 with h1 h2 h3
    exact ⟨g, o, h1, (Array.getElem?_eq_some_iff.1 hb).1, hcell⟩
theorem Lies.of_own {base : Nat} (h : w.ownsRow base e size v n xs) : Lies w e size v n xs := by
  refine ⟨h.1, ?_⟩
  rcases h.2 with h2 | ⟨g, cap, cur, hv, _, hb, hn, hc, hs, ht⟩
  · exact .inl h2
  · subst hv
    refine .inr ⟨g, 0, cap, cur, rfl, hb, hn, hc, by omega, fun j hj => ?_⟩
    rw [Nat.zero_add]
    exact h.cellAt j hj
/-- 's[1:]' -/
theorem Lies.tail (h : Lies w e size v n xs) (hn : 0 < n) {A : Option Addr} {c : Nat} (hv : v = .slice A n c) : Lies w e size (.slice (if c = 1 then A else A.map (·.add size)) (n - 1) (c - 1)) (n - 1) (xs.drop size) := by
  have h1 : (n - 1) * size = n * size - size := by rw [Nat.sub_mul, Nat.one_mul]
  have hsz : size ≤ n * size := Nat.le_mul_of_pos_left _ hn
  refine ⟨by rw [List.length_drop, h.1, h1], ?_⟩
  rcases h.2 with ⟨_, h0⟩ | ⟨g, o, cap, cur, hv2, hb, hnc, hc, hs, hcell⟩
  · omega
  · rw [hv] at hv2
    injection hv2 with e1 e2 e3
    subst e1 e3
    by_cases hc1 : c = 1
    · subst hc1
      have : n = 1 := by omega
      subst this
      exact .inr ⟨g, o, 0, cur, by simp, hb, by omega, Nat.zero_le _, by omega, fun j hj => by simp at hj⟩
    · have hcs : (c - 1) * size = c * size - size := by rw [Nat.sub_mul, Nat.one_mul]
      have hcz : size ≤ c * size := Nat.le_mul_of_pos_left _ (by omega)
      refine .inr ⟨g, o + size, c - 1, cur, by rw [if_neg hc1]; simp [Addr.add_lit], hb, by omega, by omega, by omega, fun j hj => ?_⟩
      rw [List.getElem?_drop, Nat.add_assoc]
      exact hcell (size + j) (by omega)
end

theorem setCells_block (g : Nat) (e : TypeId) : ∀ (vs : List Value) (k : Nat) (w : World) (cur : Array Value), w.heap[g]? = some (.cells cur e (0, 0)) →
    ∃ cur', (w.setCells g k vs).heap[g]? = some (.cells cur' e (0, 0)) ∧ cur'.size = cur.size := by
  intro vs
  induction vs with
  | nil => intro k w cur h; exact ⟨cur, h, rfl⟩
  | cons v vs ih =>
    intro k w cur h
    have h1 : (w.setCell ⟨g, k, none⟩ v).heap[g]? = some (.cells (cur.setIfInBounds k v) e (0, 0)) := by
      simp only [World.setCell, Array.getElem?_modify, if_true]
      rw [h]; rfl
    obtain ⟨cur', h2, h3⟩ := ih (k + 1) _ _ h1
    exact ⟨cur', h2, by rw [h3]; simp⟩
theorem setCells_outer (g k : Nat) (vs : List Value) (w : World) : (w.setCells g k vs).os = w.os ∧ (w.setCells g k vs).tape = w.tape ∧ (w.setCells g k vs).output = w.output ∧ (w.setCells g k vs).heap.size = w.heap.size := by
  induction vs generalizing k w with
  | nil => exact ⟨rfl, rfl, rfl, rfl⟩
  | cons v vs ih =>
    obtain ⟨a, b, c, d⟩ := ih (k + 1) (w.setCell ⟨g, k, none⟩ v)
    exact ⟨a, b, c, d.trans (by simp [World.setCell])⟩

section
variable {P : Program} {w : World}
/-- 'append(s, x...)' of one element or more onto such a slice. -/
theorem run_app_lies {t e : TypeId} {z : Value} {size bytes : Nat} (ty : TypeId) (hT : SlT P t e z size bytes) {v : Value} {n : Nat} {xs : List Value} (h : Lies w e size v n xs)
    {B : Nat} {A : Option Addr} {m c : Nat} {news : List Value} (hr : Rd w B size A m news) (hm : 0 < m) (h1 : ∀ u ∈ news, u.oneCell' = true)
    (h63 : n + m ≤ maxLen) (hbytes : (n + m) * bytes ≤ 140737488355328) :
    ∃ v' w', (Builtin.append_ #[t, t] ty #[v, .slice A m c]).run P w = .ok v' w' ∧ Lies w' e size v' (n + m) (xs ++ news) ∧ w.grownBy w' v.ownBlock ∧
      (v'.ownBlock = v.ownBlock ∨ ∀ k, v'.ownBlock = some k → w.heap.size ≤ k) := by
  obtain ⟨i, hi, hz, hs, hby⟩ := info_parts hT.info
  obtain ⟨ab, ao, rfl, _, hac⟩ := hr.2 hm
  have hnews : ∀ j u, news[j]? = some u → w.cell? ((⟨ab, ao, none⟩ : Addr).add j) = some u := by
    intro j u hu
    rw [Addr.add_lit, hac j (by have := (List.getElem?_eq_some_iff.1 hu).1; rw [hr.1] at this; exact this), hu]
  rcases h.2 with ⟨rfl, rfl⟩ | ⟨g, o, cap, cur, rfl, hb, hnc, hcm, hcs, hcell⟩
  · have hx : xs = [] := List.eq_nil_of_length_eq_zero (by simpa using h.1)
    subst hx
    obtain ⟨v', w', hrun, h2, h3, h4⟩ := run_app (P := P) ty hT (base := 0) (World.ownsRow_nil w 0 e size) hr (c := c) h1 h63 hbytes (Nat.zero_le _)
    exact ⟨v', w', hrun, Lies.of_own h2, h3, h4.imp id (fun h k hk => by rw [h] at hk; injection hk with hk; omega)⟩
  · by_cases hroom : n + m ≤ cap
    · have hl : news.length = m * i.size := by rw [hs]; exact hr.1
      have hfit : n * size + m * size ≤ cap * size := by rw [← Nat.add_mul]; exact Nat.mul_le_mul_right _ hroom
      have hsome : ∀ j, j < news.length → (w.cell? ⟨g, o + n * i.size + j, none⟩).isSome = true := by
        intro j hj
        rw [hr.1] at hj
        unfold World.cell?
        rw [hb, hs]
        simp
        omega
      have hfz : ∀ j, j < news.length → w.frozen? ⟨g, o + n * i.size + j, none⟩ = false := by
        intro j _
        unfold World.frozen?
        rw [hb]; simp
      have hrun := run_append_room_cells (P := P) w t ty e i hT.ht hi g o n cap ⟨ab, ao, none⟩ m c news hl hnews h1 hroom hsome hfz
      obtain ⟨o1, o2, o3, o4⟩ := setCells_outer g (o + n * i.size) news w
      obtain ⟨cur', hb', hsz'⟩ := setCells_block g e news (o + n * i.size) w cur hb
      refine ⟨_, _, hrun, ⟨by rw [List.length_append, h.1, hr.1, Nat.add_mul], .inr ⟨g, o, cap, cur', rfl, hb', hroom, hcm, by omega, fun j hj => ?_⟩⟩, ⟨o1, o2, o3, by omega, fun k hk hne => World.heap_setCells_other w g _ news hk (fun e => hne (by simp [Value.ownBlock, e]))⟩, .inl rfl⟩
      rw [Nat.add_mul] at hj
      by_cases hjn : j < n * size
      · rw [World.cell?_setCells_out g news _ w _ (fun _ _ => .inl (by simp only; rw [hs]; omega)), hcell j hjn, List.getElem?_append_left (by rw [h.1]; exact hjn)]
      · have hin := World.cell?_setCells_in g news (o + n * i.size) w hsome (j - n * size) (by rw [hr.1]; omega)
        rw [show o + n * i.size + (j - n * size) = o + j by rw [hs]; omega] at hin
        rw [hin, List.getElem?_append_right (by rw [h.1]; omega), h.1, List.getElem?_eq_getElem (by rw [hr.1]; omega)]
    · have holds : ∀ j u, xs[j]? = some u → w.cell? ((⟨g, o, none⟩ : Addr).add j) = some u := by
        intro j u hu
        rw [Addr.add_lit, hcell j (by have := (List.getElem?_eq_some_iff.1 hu).1; rw [h.1] at this; exact this), hu]
      obtain ⟨v', w', hrun, h2, h3⟩ := run_append_arg_grows (P := P) w t ty e i z size bytes hT.ht hi hz hs hby hT.hz hT.pos ⟨g, o, none⟩ n cap xs h.1 holds ⟨ab, ao, none⟩ m c news hr.1 hnews (by omega) h63 hbytes
      refine ⟨v', w', hrun, Lies.of_own h2, ⟨h3.os, h3.tape, h3.output, h3.size, fun k hk _ => h3.block k hk (by simp)⟩, .inr fun k hk => (h2.lt k hk).1⟩
end
end Go.Proofs.YtpkmciohehaboaaGreatDoor

/- The walks of octet.Put, octet.Take. -/
namespace Go.Proofs.YtpkmciohehaboaaGreatDoor
open Go.RowKit

/-- The lowest k bytes of a number, the highest first. -/
def be : Nat → Nat → List UInt8
  | 0, _ => []
  | k + 1, n => UInt8.ofNat (n / 256 ^ k % 256) :: be k n
theorem be_length (k n : Nat) : (be k n).length = k := by
  induction k with
  | zero => rfl
  | succ k ih => simp [be, ih]
def putL (size n i : Nat) : List UInt8 := List.replicate (size - i) 0 ++ be i n
theorem putL_length {size n i : Nat} (h : i ≤ size) : (putL size n i).length = size := by simp [putL, be_length]; omega
theorem putL_set {size n i : Nat} (h : i < size) : (bvs (putL size n i)).toArray.setIfInBounds (size - 1 - i) (bv (UInt8.ofNat (n / 256 ^ i % 256))) = (bvs (putL size n (i + 1))).toArray := by
  obtain ⟨m, rfl⟩ : ∃ m, size = i + 1 + m := ⟨size - (i + 1), by omega⟩
  have e1 : i + 1 + m - i = m + 1 := by omega
  have e2 : i + 1 + m - (i + 1) = m := by omega
  have e3 : i + 1 + m - 1 - i = m := by omega
  unfold putL
  rw [e1, e2, e3, List.replicate_succ']
  apply Array.ext'
  simp only [bvs, List.map_append, List.map_replicate, List.append_assoc, be, List.map_cons, List.map_nil]
  simp
theorem set_b7 {w : World} {p o : Nat} {cs : Array Value} {t : TypeId} (v : Value) (h : w.heap[p]? = some (.cells cs t (0, 0))) : (w.setCell ⟨p, o, none⟩ v).heap[p]? = some (.cells (cs.setIfInBounds o v) t (0, 0)) := by
  simp only [World.setCell, Array.getElem?_modify, if_true]
  rw [h]; rfl
def OPutRel (W : World) (x size n : Nat) (iv : Value) (wr : World) : Prop := ∃ i : Nat, iv = .int .i64 i ∧ i ≤ size ∧ wr.heap[x]? = some (.cells (bvs (putL size n i)).toArray 5 (0, 0)) ∧ Below W.heap.size W wr
set_option maxRecDepth 100000 in
set_option maxHeartbeats 4000000 in
theorem oput_any (n size : Nat) (w : World) (_hn : n < 4294967296) (hs1 : 1 ≤ size) (hs4 : size ≤ 4) :
    Calls Tryz.prog 125 #[.int .u32 n, .int .i64 size] w (RetB w (be size n)) := by
  have hmk := run_make_row' (P := Tryz.prog) 48 5 (.int .u8 0) 1 Tryz.underlying48 (by kernel_rfl) rfl .i64 .i64 size (by omega) (by omega)
  obtain ⟨x, hx⟩ : ∃ x, w.heap.size = x := ⟨_, rfl⟩
  go_enter Tryz.func125, Tryz.ntmps125
  go_wp2_with fail
  have k0 : (w.alloc (.cells (madeCells #[.int .u8 0] size) 5)).heap[x]? = some (.cells (bvs (putL size n 0)).toArray 5 (0, 0)) := by
    rw [← hx, heapNew]
    congr 2
    apply Array.ext'
    apply List.ext_getElem
    · simp [madeCells, bvs, putL_length]
    · intro j h1 h2
      simp [madeCells, bvs, putL, be, bv, Nat.mod_one]
  have b0 : Below w.heap.size w (w.alloc (.cells (madeCells #[.int .u8 0] size) 5)) := (Below.refl _ _).alloc (Nat.le_refl _) _
  have HB0 := Lib.hid (And.intro k0 b0)
  clear k0 b0 hmk
  go_loopw [6, 16] (fun _ iv wr => OPutRel w x size n iv wr) (fun _ iv _ => size - (intOf iv).toNat)
  case atStart => exact ⟨0, rfl, Nat.zero_le _, HB0.out⟩
  case round =>
    obtain ⟨i, rfl, hi, hk, hb⟩ := hrel
    have hxl := (Array.getElem?_eq_some_iff.1 hk).1
    by_cases hlt : i < size
    · have hbl : (bvs (putL size n i)).length = size := by rw [bvs_length, putL_length hi]
      have hcell : wr.cell? ⟨x, size - 1 - i, none⟩ = some (.int .u8 0) := by
        unfold World.cell?
        rw [hk]
        show (bvs (putL size n i)).toArray[size - 1 - i]? = _
        rw [List.getElem?_toArray]
        unfold bvs putL
        rw [List.map_append, List.getElem?_append_left (by simp; omega)]
        simp [bv, show size - 1 - i < size - i by omega]
      have hfz : ∀ o, wr.frozen? ⟨x, o, none⟩ = false := fun o => by unfold World.frozen?; rw [hk]; rfl
      have hcell2 := hfz (size - 1 - i)
      have n1 : (i : Int) < size := by omega
      go_wp2
      go_roundw
      case rel =>
        refine ⟨i + 1, by go_num, by omega, ?_, hb.setCell (by rw [← hx]; exact Nat.le_refl _) _⟩
        rw [set_b7 _ hk]
        congr 2
        rw [show (Value.int .u8 ((n : Int) / 2 ^ (8 * i) % 256)) = bv (UInt8.ofNat (n / 256 ^ i % 256)) by
          rw [show (2 : Int) ^ (8 * i) = ((256 ^ i : Nat) : Int) by rw [Int.pow_mul]; simp, ← Int.natCast_ediv]
          rw [show ((n / 256 ^ i : Nat) : Int) % 256 = ((n / 256 ^ i % 256 : Nat) : Int) by omega]
          rw [bv_of (by omega) (by omega), Int.toNat_natCast]]
        exact putL_set hlt
      case measure => simp [intOf]; omega
    · obtain rfl : i = size := by omega
      go_wp2
      go_ret
      have e : putL i n i = be i n := by simp [putL]
      rw [e] at hk
      refine ⟨.slice (some ⟨x, 0, none⟩) i i, rfl, ?_, hb⟩
      unfold OwnB
      rw [be_length]
      exact ⟨by rw [bvs_length, be_length, Nat.mul_one], .inr ⟨x, i, _, rfl, by rw [hx]; exact Nat.le_refl _, hk, Nat.le_refl _, le_maxLen (by omega), by simp [bvs_length, be_length], List.take_of_length_le (by simp [bvs_length, be_length])⟩⟩
/-- The number that bytes say. -/
def beN (l : List UInt8) : Nat := l.foldl (fun n c => n * 256 + c.toNat) 0
theorem beN_snoc (l : List UInt8) (c : UInt8) : beN (l ++ [c]) = beN l * 256 + c.toNat := by simp [beN, List.foldl_append]
theorem beN_lt_aux (l : List UInt8) : ∀ n k, n < 256 ^ k → l.foldl (fun n c => n * 256 + c.toNat) n < 256 ^ (k + l.length) := by
  induction l with
  | nil => intro n k h; simpa using h
  | cons c l ih =>
    intro n k h
    have hc := c.toNat_lt
    have := ih (n * 256 + c.toNat) (k + 1) (by rw [Nat.pow_succ]; omega)
    rw [List.foldl_cons, List.length_cons, show k + (l.length + 1) = k + 1 + l.length by omega]
    exact this
theorem beN_lt (l : List UInt8) : beN l < 256 ^ l.length := by have := beN_lt_aux l 0 0 (by simp); rw [Nat.zero_add] at this; exact this
theorem beN_take {l : List UInt8} {i : Nat} (h : i < l.length) : beN (l.take (i + 1)) = beN (l.take i) * 256 + ba l i := by
  rw [List.take_add_one, List.getElem?_eq_getElem h, Option.toList_some, beN_snoc, ba_get h]
theorem Rd.lh {w : World} {B n cap lo hi : Nat} {A : Option Addr} {b : List UInt8} (h : Rd w B 1 A n (bvs b)) (h1 : lo ≤ hi) (h2 : hi ≤ n) (hc : n ≤ cap) : Rd w B 1 (if cap = lo then A else A.map (·.add lo)) (hi - lo) (bvs ((b.drop lo).take (hi - lo))) := by
  have h3 := h.piece (lo := lo) (hi := hi) h1 h2 hc
  simp only [Nat.mul_one] at h3
  have e : ((bvs b).drop lo).take (hi - lo) = bvs ((b.drop lo).take (hi - lo)) := by unfold bvs; rw [← List.map_drop, ← List.map_take]
  rwa [e] at h3
def OTakeRel (L : List UInt8) (size : Nat) (w : World) (nv iv : Value) (wr : World) : Prop := ∃ i : Nat, iv = .int .i64 i ∧ i ≤ size ∧ nv = .int .u32 (beN (L.take i) : Nat) ∧ wr = w
set_option maxRecDepth 100000 in
set_option maxHeartbeats 4000000 in
theorem otake_any {A : Option Addr} {n cap : Nat} {l : List UInt8} (at_ size : Nat) (w : World) (hr : Rd w w.heap.size 1 A n (bvs l)) (hc : n ≤ cap) (hm : cap ≤ maxLen) (hs1 : 1 ≤ size) (hs4 : size ≤ 4) (ha : at_ + size ≤ n) :
    Calls Tryz.prog 154 #[.slice A n cap, .int .i64 at_, .int .i64 size] w fun e w' => e = .returned (.tuple #[.int .u32 (beN ((l.drop at_).take size) : Nat), .int .i64 0]) ∧ w = w' := by
  have hcm : cap ≤ 9223372036854775807 := by unfold maxLen at hm; exact hm
  obtain ⟨-, b, o, rfl, hb, -⟩ := hr.bas (by omega)
  have hr1 := hr.lh (lo := at_) (hi := at_ + size) (by omega) ha hc
  have es : at_ + size - at_ = size := by omega
  rw [es, if_neg (by omega)] at hr1
  obtain ⟨L, hL⟩ : ∃ L, (l.drop at_).take size = L := ⟨_, rfl⟩
  rw [hL] at hr1 ⊢
  obtain ⟨hll, b', o', he, -, hcc⟩ := hr1.bas (by omega)
  have he2 : b' = b ∧ o' = o + at_ := by simp [Addr.add_lit] at he; omega
  obtain ⟨rfl, rfl⟩ := he2
  have HC := Lib.hid hcc
  clear hr hr1 hL hm he hcc
  go_enter Tryz.func154, Tryz.ntmps154
  go_wp2_with fail
  go_loopw [8, 10, 34] (fun nv _ iv wr => OTakeRel L size w nv iv wr) (fun _ _ iv _ => size - (intOf iv).toNat)
  case atStart => exact ⟨0, rfl, Nat.zero_le _, rfl, rfl⟩
  case round =>
    obtain ⟨i, rfl, hi, rfl, rfl⟩ := hrel
    by_cases hlt : i < size
    · have c0 := HC.out i hlt
      have hba := ba_lt L i
      have ht := beN_take (l := L) (i := i) (by omega)
      have hlt2 := beN_lt (L.take i)
      have hp : 256 ^ (L.take i).length ≤ 256 ^ 3 := Nat.pow_le_pow_right (by omega) (by rw [List.length_take]; omega)
      obtain ⟨N, hN⟩ : ∃ N, beN (L.take i) = N := ⟨_, rfl⟩
      obtain ⟨c, hc'⟩ : ∃ c, ba L i = c := ⟨_, rfl⟩
      rw [hN] at ht hlt2 ⊢
      rw [hc'] at ht hba c0
      have hN24 : N < 16777216 := by have : (256 : Nat) ^ 3 = 16777216 := by decide
                                     omega
      have hor : Go.bits .or .u32 ((N : Int) * 256) (c : Int) = ((N * 256 + c : Nat) : Int) := by
        rw [show ((N : Int) * 256) = ((N * 256 : Nat) : Int) by omega, u32_or_nat _ _ (by omega) (by omega)]
        congr 1
        rw [Nat.mul_comm, show (256 : Nat) = 2 ^ 8 from rfl, ← Nat.two_pow_add_eq_or_of_lt (show c < 2 ^ 8 by omega) N]
      have HT := Lib.hid ht
      have n1 : (i : Int) < size := by omega
      clear hp hlt2 hN hc' ht
      go_wp2
      go_roundw
      case rel => exact ⟨i + 1, by go_num, by omega, by rw [HT.out]; congr 1, rfl⟩
      case measure => simp [intOf]; omega
    · obtain rfl : i = size := by omega
      have ht : L.take i = L := List.take_of_length_le (by omega)
      have HT := Lib.hid ht
      clear ht
      go_wp2
      go_ret2
      exact ⟨by rw [HT.out]; rfl, rfl⟩
theorem four_any (n : Nat) (w : World) (hn : n < 4294967296) :
    Calls Tryz.prog 126 #[.int .i64 n] w (RetB w (be 4 n)) := by
  have H := Lib.hid (oput_any n 4 w hn (by omega) (by omega))
  go_enter Tryz.func126, Tryz.ntmps126
  go_wp2_with fail
  refine H.out.mono ?_
  rintro e w1 ⟨v, rfl, ho, hb⟩
  have H1 := Lib.hid (And.intro ho hb)
  clear ho hb
  go_wp2
  go_ret
  exact ⟨v, rfl, H1.out⟩
theorem fnum_any {A : Option Addr} {n cap : Nat} {l : List UInt8} (at_ : Nat) (w : World) (hr : Rd w w.heap.size 1 A n (bvs l)) (hc : n ≤ cap) (hm : cap ≤ maxLen) (ha : at_ + 4 ≤ n) :
    Calls Tryz.prog 156 #[.slice A n cap, .int .i64 at_] w fun e w' => e = .returned (.int .i64 (beN ((l.drop at_).take 4) : Nat)) ∧ w = w' := by
  have H := Lib.hid (otake_any at_ 4 w hr hc hm (by omega) (by omega) ha)
  have hlt := beN_lt ((l.drop at_).take 4)
  have hp : 256 ^ ((l.drop at_).take 4).length ≤ 256 ^ 4 := Nat.pow_le_pow_right (by omega) (by rw [List.length_take]; omega)
  have hp2 : (256 : Nat) ^ 4 = 4294967296 := by decide
  obtain ⟨N, hN⟩ : ∃ N, beN ((l.drop at_).take 4) = N := ⟨_, rfl⟩
  rw [hN] at H hlt ⊢
  have h32 : (N : Int) < 4294967296 := by omega
  clear hp hp2 hlt hN hr
  go_enter Tryz.func156, Tryz.ntmps156
  go_wp2_with fail
  refine H.out.mono ?_
  rintro e w1 ⟨rfl, rfl⟩
  go_wp2
  go_ret
  exact ⟨rfl, rfl⟩
end Go.Proofs.YtpkmciohehaboaaGreatDoor

/- A frame as a value; the walks of frame.within, frame.empty. -/
namespace Go.Proofs.YtpkmciohehaboaaGreatDoor
open Go.RowKit

/-- A frame without settings, codes and places. -/
structure Fr where
  ty : Nat
  fl : Nat
  st : Nat
  data : ByteArray
  pad : Nat
def Fr.cells (f : Fr) : Array Value := #[.int .i64 f.ty, .int .i64 f.fl, .int .i64 f.st, .string f.data, .int .i64 f.pad, .slice none 0 0, .int .i64 0, .int .i64 0, .int .i64 0, .int .i64 0, .int .i64 0, .bool false]
def frV (f : Fr) : Value := .agg f.cells
def i64l (l : List Int) : List Value := l.map fun x => .int .i64 x
def WiRel (n : Nat) (w : World) (iv : Value) (wr : World) : Prop := ∃ i : Nat, iv = .int .i64 i ∧ i ≤ n ∧ wr = w
set_option maxRecDepth 100000 in
set_option maxHeartbeats 4000000 in
theorem within_any {A : Option Addr} {n cap B : Nat} {xs : List Int} (most : Int) (w : World) (hr : Rd w B 1 A n (i64l xs)) (hn : n ≤ 100) (hx : ∀ x ∈ xs, 0 ≤ x ∧ x ≤ most) :
    Calls Tryz.prog 150 #[.int .i64 most, .slice A n cap] w fun e w' => e = .returned (.bool true) ∧ w = w' := by
  have hl : xs.length = n := by have := hr.1; simp [i64l] at this; omega
  have HX := Lib.hid hx
  have HR := Lib.hid hr
  clear hx hr
  go_enter Tryz.func150, Tryz.ntmps150
  go_wp2_with fail
  go_loopw [6, 9] (fun _ iv wr => WiRel n w iv wr) (fun _ iv _ => n - (intOf iv).toNat)
  case atStart => exact ⟨0, rfl, Nat.zero_le _, rfl⟩
  case round =>
    obtain ⟨i, rfl, hi, rfl⟩ := hrel
    by_cases hlt : i < n
    · obtain ⟨b, o, rfl, hb, hc⟩ := HR.out.at_ (by omega)
      obtain ⟨x, hxi⟩ : ∃ x, xs[i]? = some x := ⟨_, List.getElem?_eq_getElem (by omega)⟩
      have c0 : wr.cell? ⟨b, o + i, none⟩ = some (.int .i64 x) := by rw [hc i hlt]; simp [i64l, hxi]
      obtain ⟨h0, h1⟩ := HX.out x (List.mem_of_getElem? hxi)
      have n1 : (i : Int) < n := by omega
      clear hc hxi
      go_wp2
      go_roundw
      case rel => exact ⟨i + 1, by go_num, by omega, rfl⟩
      case measure => simp [intOf]; omega
    · obtain rfl : i = n := by omega
      go_wp2
      go_ret
      exact ⟨rfl, rfl⟩
set_option maxRecDepth 100000 in
set_option maxHeartbeats 4000000 in
theorem empty_any (f : Fr) (w : World) (hd : f.data = ⟨#[]⟩) (hp : f.pad = 0) :
    Calls Tryz.prog 151 #[frV f] w fun e w' => e = .returned (.bool true) ∧ Below w.heap.size w w' := by
  obtain ⟨ty, fl, st, data, pad⟩ := f
  simp only at hd hp
  subst hd hp
  obtain ⟨W0, hW0⟩ : ∃ W0, w.alloc (.cells (#[.int .i64 ty, .int .i64 fl, .int .i64 st, .string ⟨#[]⟩, .int .i64 0, .slice none 0 0, .int .i64 0, .int .i64 0, .int .i64 0, .int .i64 0, .int .i64 0, .bool false]) 52) = W0 := ⟨_, rfl⟩
  obtain ⟨x, hx⟩ : ∃ x, w.heap.size = x := ⟨_, rfl⟩
  have b0 : Below w.heap.size w W0 := by rw [← hW0]; exact (Below.refl _ _).alloc (Nat.le_refl _) _
  have kx : W0.heap[x]? = some (.cells (#[.int .i64 ty, .int .i64 fl, .int .i64 st, .string ⟨#[]⟩, .int .i64 0, .slice none 0 0, .int .i64 0, .int .i64 0, .int .i64 0, .int .i64 0, .int .i64 0, .bool false]) 52 (0, 0)) := by rw [← hW0, ← hx]; exact heapNew _ _
  have c3 : W0.cell? ⟨x, 3, none⟩ = some (.string ⟨#[]⟩) := by unfold World.cell?; rw [kx]; rfl
  have c4 : W0.cell? ⟨x, 4, none⟩ = some (.int .i64 0) := by unfold World.cell?; rw [kx]; rfl
  have c5 : W0.cell? ⟨x, 5, none⟩ = some (.slice none 0 0) := by unfold World.cell?; rw [kx]; rfl
  have c6 : W0.cell? ⟨x, 6, none⟩ = some (.int .i64 0) := by unfold World.cell?; rw [kx]; rfl
  have c7 : W0.cell? ⟨x, 7, none⟩ = some (.int .i64 0) := by unfold World.cell?; rw [kx]; rfl
  have c8 : W0.cell? ⟨x, 8, none⟩ = some (.int .i64 0) := by unfold World.cell?; rw [kx]; rfl
  have c9 : W0.cell? ⟨x, 9, none⟩ = some (.int .i64 0) := by unfold World.cell?; rw [kx]; rfl
  have c10 : W0.cell? ⟨x, 10, none⟩ = some (.int .i64 0) := by unfold World.cell?; rw [kx]; rfl
  have c11 : W0.cell? ⟨x, 11, none⟩ = some (.bool false) := by unfold World.cell?; rw [kx]; rfl
  have HB := Lib.hid b0
  have HW0 := Lib.hid hW0
  have HX := Lib.hid hx
  clear hW0 hx b0 kx
  unfold frV
  simp only [Fr.cells, Int.natCast_zero]
  show Calls Tryz.prog 151 #[.agg #[.int .i64 ty, .int .i64 fl, .int .i64 st, .string ⟨#[]⟩, .int .i64 0, .slice none 0 0, .int .i64 0, .int .i64 0, .int .i64 0, .int .i64 0, .int .i64 0, .bool false]] w _
  go_enter Tryz.func151, Tryz.ntmps151
  go_upto_region 1 with fail
  rw [HW0.out, HX.out]
  go_wp2
  go_ret
  exact ⟨rfl, HB.out⟩
end Go.Proofs.YtpkmciohehaboaaGreatDoor

/- The walk of frame.bare. -/
namespace Go.Proofs.YtpkmciohehaboaaGreatDoor
open Go.RowKit

theorem infoFrame : (Tryz.prog.info? 52).map (·.size) = some 12 := by kernel_rfl
theorem heapNew2 (w : World) (a b : Obj) : ((w.alloc a).alloc b).heap[w.heap.size + 1]? = some b := by have := heapNew (w.alloc a) b; rwa [World.size_alloc] at this
structure FrOk (f : Fr) (pd : Bool) : Prop where
  ty : f.ty = 0 ∨ f.ty = 1 ∨ f.ty = 9
  fl : f.fl < 256
  st : f.st ≤ 2147483647
  pad : f.pad ≤ 255
  np : pd = false → f.pad = 0
  c9 : f.ty = 9 → f.pad = 0
  f8 : Go.bits .and .i64 (f.fl : Int) 8 = if pd then 8 else 0
  f32 : f.ty = 1 → Go.bits .and .i64 (f.fl : Int) 32 = 0
  data : f.data.size ≤ 1048576
end Go.Proofs.YtpkmciohehaboaaGreatDoor

/- The walk of frame.may. -/
namespace Go.Proofs.YtpkmciohehaboaaGreatDoor
open Go.RowKit

theorem Rd.lit2 (w : World) (cs : Array Value) (t : TypeId) (n : Nat) {k : Nat} (hk : w.heap.size = k) (hn : cs.size = n) : Rd (w.alloc (.cells cs t)) (k + 1) 1 (some ⟨k, 0, none⟩) n cs.toList := by
  subst hk; exact Rd.lit w cs t n hn
theorem calls_named {P : Program} {f : FuncId} {args : Array Value} {W : World} {R : Ending → World → Prop} (h : ∀ W3, W3 = W → Calls P f args W3 R) : Calls P f args W R := h W rfl
end Go.Proofs.YtpkmciohehaboaaGreatDoor

/- append of noughts, and of a string's bytes, onto a row of the call's own. -/
namespace Go.Proofs.YtpkmciohehaboaaGreatDoor
open Go.RowKit

section
variable {w : World} {base : Nat} {v : Value} {n : Nat} {xs : List Value}
theorem run_app_str (ty : TypeId) (hown : w.ownsRow base 5 1 v n xs) (s : ByteArray) (hb : n + s.size ≤ 1099511627776) (hbase : base ≤ w.heap.size) :
    ∃ v' w', (Builtin.append_ #[48, 9] ty #[v, .string s]).run Tryz.prog w = .ok v' w' ∧ w'.ownsRow base 5 1 v' (n + s.size) (xs ++ bvs s.data.toList) ∧ w.grownBy w' v.ownBlock := by
  obtain ⟨i, hi, hz, hs, hby⟩ := info_parts (show (Tryz.prog.info? 5).map (fun i => (i.zero, i.size, i.bytes)) = some (some (.int .u8 0), 1, 1) by kernel_rfl)
  obtain ⟨v', w', h1, h2, h3, -⟩ := Lib.run_append_own_string (P := Tryz.prog) w base 48 9 ty 5 i Tryz.underlying48 Tryz.underlying9 hi hz hs hby v n xs hown s (le_maxLen (by omega)) (by omega) hbase
  exact ⟨v', w', h1, h2, h3⟩
end
section
variable {w : World} {ops : Array Oper} {o : Oper} {a : Act} {K : Act → World → Prop} {Q : Exit → Act → World → Prop} {E : Prop} (s x : Operand) {base : Nat} {v : Value} {n : Nat} {xs : List Value}
end
theorem wpList_app_str {w : World} {ops : Array Oper} {rest : List Oper} {o : Oper} {a : Act} {Q : Exit → Act → World → Prop} (s x : Operand) {base : Nat} {v : Value} {n : Nat} {xs : List Value} (hgd : o.guard = none) (ho : o.op = .call { callee := .builtin .append, args := #[s, x], argTypes := #[48, 9] })
    (hown : w.ownsRow base 5 1 v n xs) (hs : a.eval s = v) (t : ByteArray) (hx : a.eval x = .string t) (hb : n + t.size ≤ 1099511627776) (hbase : base ≤ w.heap.size)
    (h : ∀ v' w', w'.ownsRow base 5 1 v' (n + t.size) (xs ++ bvs t.data.toList) → w.grownBy w' v.ownBlock → wpList Tryz.prog ops Q rest (a.put o.dst v') w') : wpList Tryz.prog ops Q (o :: rest) a w := by
  refine wpList_plain hgd fun _ hK => ?_
  obtain ⟨v', w', hrun, h2, h3⟩ := run_app_str o.type hown t hb hbase
  unfold Oper.wp execOp
  simp only [ho, resolve, invoke, builtin, Sem.run_bind, Sem.run_pure, Result.andThen_ok, List.map_toArray, List.map_cons, List.map_nil, hs, hx, hrun]
  exact hK _ _ (h v' w' h2 h3)
end Go.Proofs.YtpkmciohehaboaaGreatDoor

/- What TakeInt reads, in plain Lean. No program in sight. -/
namespace Go.Proofs.YtpkmciohehaboaaGreatDoor
open Go.RowKit

/-- Behind a full prefix: at most 'fuel' bytes more; the number, how many bytes, the error. -/
def takeTail : Nat → Nat → Nat → Nat → List UInt8 → Nat × Nat × Nat
  | 0, _, _, _, _ => (0, 0, 11)
  | _ + 1, _, _, _, [] => (0, 0, 12)
  | k + 1, at_, n, times, c :: t =>
    if c.toNat < 128 then (if n + times * (c.toNat % 128) > 2147483647 then (0, 0, 11) else (n + times * (c.toNat % 128), at_ + 1, 0))
    else takeTail k (at_ + 1) (n + times * (c.toNat % 128)) (times * 128) t
def takeI (F : Nat) : List UInt8 → Nat × Nat × Nat
  | [] => (0, 0, 12)
  | c :: t => if c.toNat % (F + 1) < F then (c.toNat % (F + 1), 1, 0) else takeTail 5 1 (c.toNat % (F + 1)) 1 t

/-- The three numbers that a call hands back. -/
def tri (r : Nat × Nat × Nat) : Value := .tuple #[.int .i64 (r.1 : Int), .int .i64 (r.2.1 : Int), .int .i64 (r.2.2 : Int)]

theorem bits64_and (a b : Nat) (ha : a < 256) (hb : b < 256) : Go.bits .and .i64 (a : Int) (b : Int) = ((a &&& b : Nat) : Int) := by
  have hl : a &&& b ≤ a := Nat.and_le_left
  have key : (BitVec.ofInt 64 (a : Int) &&& BitVec.ofInt 64 (b : Int)).toNat = a &&& b := by
    rw [BitVec.toNat_and, BitVec.toNat_ofInt, BitVec.toNat_ofInt]
    congr 1 <;> omega
  show IntKind.i64.wrap ((BitVec.ofInt 64 (a : Int) &&& BitVec.ofInt 64 (b : Int)).toNat : Nat) = _
  rw [key]
  exact IntWalk.i64_in _ ⟨by omega, by omega⟩
theorem u8_and127 (c : UInt8) : Go.bits .and .u8 (c.toNat : Int) 127 = ((c.toNat % 128 : Nat) : Int) := by
  have := c.toNat_lt
  rw [show (127 : Int) = ((127 : Nat) : Int) from rfl, u8_and_nat _ _ (by omega) (by omega), nat_mask7]
theorem Full.and64 {bits F f : Nat} (h : Full bits F) (hf : f < 256) : Go.bits .and .i64 (f : Int) (F : Int) = ((f % (F + 1) : Nat) : Int) := by
  have := h.le
  rw [bits64_and f F (by omega) (by omega)]
  have e : F = 2 ^ bits - 1 := by have := h.eq; omega
  rw [e, Nat.and_two_pow_sub_one_eq_mod, Nat.sub_add_cancel Nat.one_le_two_pow]
theorem Full.shl64 {bits F : Nat} (h : Full bits F) : (2 : Int) ^ bits = (F : Int) + 1 := by
  rcases h.cases with ⟨rfl, rfl⟩ | ⟨rfl, rfl⟩ | ⟨rfl, rfl⟩ | ⟨rfl, rfl⟩ | ⟨rfl, rfl⟩ | ⟨rfl, rfl⟩ | ⟨rfl, rfl⟩ | ⟨rfl, rfl⟩ <;> decide
theorem take_in {F : Nat} {l : List UInt8} {k s m T : Nat} (k1 T1 k2 : Nat) (h : takeI F l = takeTail (5 - k) (k + 1) s T (l.drop (k + 1))) (hk : k < 5) (hk1 : k1 = k + 1) (hT1 : T1 = T * 128) (hk2 : k2 = k + 2) (hl : k1 < l.length) (hm : m = ba l k1 % 128) :
    (ba l k1 < 128 → 2147483647 < s + T * m → takeI F l = (0, 0, 11)) ∧
    (ba l k1 < 128 → s + T * m ≤ 2147483647 → takeI F l = (s + T * m, k2, 0)) ∧
    (128 ≤ ba l k1 → takeI F l = takeTail (5 - k1) (k1 + 1) (s + T * m) T1 (l.drop (k1 + 1))) := by
  subst hm hk1 hT1 hk2
  obtain ⟨c, hd, hc⟩ := drop_ba hl
  rw [hd, show 5 - k = (4 - k) + 1 by omega, takeTail, hc] at h
  rw [h]
  refine ⟨fun h1 h2 => by rw [if_pos h1, if_pos h2], fun h1 h2 => by rw [if_pos h1, if_neg (by omega)], fun h1 => by rw [if_neg (by omega)]; congr 1; omega⟩
theorem take_end {F : Nat} {l : List UInt8} {k s T : Nat} (h : takeI F l = takeTail (5 - k) (k + 1) s T (l.drop (k + 1))) (hk : k < 5) (hl : l.length ≤ k + 1) : takeI F l = (0, 0, 12) := by
  rw [h, List.drop_eq_nil_of_le hl, show 5 - k = (4 - k) + 1 by omega, takeTail]
theorem take_full {F : Nat} {l : List UInt8} {s T : Nat} (h : takeI F l = takeTail (5 - 5) (5 + 1) s T (l.drop (5 + 1))) : takeI F l = (0, 0, 11) := by
  rw [h]; rfl
theorem take_small {F : Nat} {l : List UInt8} {r : Nat} (hl : 0 < l.length) (hr : r = ba l 0 % (F + 1)) (h : r < F) : takeI F l = (r, 1, 0) := by
  subst hr
  cases l with
  | nil => simp at hl
  | cons c t => simp only [takeI]; rw [if_pos (by simpa [ba] using h)]; rfl
theorem take_big {F : Nat} {l : List UInt8} {r : Nat} (hl : 0 < l.length) (hr : r = ba l 0 % (F + 1)) (h : ¬ r < F) : takeI F l = takeTail (5 - 0) (0 + 1) r 1 (l.drop (0 + 1)) := by
  subst hr
  cases l with
  | nil => simp at hl
  | cons c t => simp only [takeI]; rw [if_neg (by simpa [ba] using h)]; rfl
end Go.Proofs.YtpkmciohehaboaaGreatDoor

/- The tables of the code of texts: lengths, codes; by lengths: the first code, how many, from where; the symbols in order. That the two programs make just these is proved in the walks. Printed by wip/gen_huff.py. -/
namespace Go.Proofs.YtpkmciohehaboaaGreatDoor

def lensN : List Nat := [
  13, 23, 28, 28, 28, 28, 28, 28, 28, 24, 30, 28, 28, 30, 28, 28, 28, 28, 28, 28, 28, 28, 30, 28, 28, 28, 28, 28, 28, 28, 28, 28,
  6, 10, 10, 12, 13, 6, 8, 11, 10, 10, 8, 11, 8, 6, 6, 6, 5, 5, 5, 6, 6, 6, 6, 6, 6, 6, 7, 8, 15, 6, 12, 10,
  13, 6, 7, 7, 7, 7, 7, 7, 7, 7, 7, 7, 7, 7, 7, 7, 7, 7, 7, 7, 7, 7, 7, 7, 8, 7, 8, 13, 19, 13, 14, 6,
  15, 5, 6, 5, 6, 5, 6, 6, 6, 5, 7, 7, 6, 6, 6, 5, 6, 7, 6, 5, 5, 6, 7, 7, 7, 7, 7, 15, 11, 14, 13, 28,
  20, 22, 20, 20, 22, 22, 22, 23, 22, 23, 23, 23, 23, 23, 24, 23, 24, 24, 22, 23, 24, 23, 23, 23, 23, 21, 22, 23, 22, 23, 23, 24,
  22, 21, 20, 22, 22, 23, 23, 21, 23, 22, 22, 24, 21, 22, 23, 23, 21, 21, 22, 21, 23, 22, 23, 23, 20, 22, 22, 22, 23, 22, 22, 23,
  26, 26, 20, 19, 22, 23, 22, 25, 26, 26, 26, 27, 27, 26, 24, 25, 19, 21, 26, 27, 27, 26, 27, 24, 21, 21, 26, 26, 28, 27, 27, 27,
  20, 24, 20, 21, 22, 21, 21, 23, 22, 22, 25, 25, 24, 24, 26, 23, 26, 27, 26, 26, 27, 27, 27, 27, 27, 28, 27, 27, 27, 27, 27, 26,
  30]

def codeT : List Nat := [
  8184, 8388568, 268435426, 268435427, 268435428, 268435429, 268435430, 268435431, 268435432, 16777194, 1073741820, 268435433, 268435434, 1073741821, 268435435, 268435436, 268435437, 268435438, 268435439, 268435440, 268435441, 268435442, 1073741822, 268435443, 268435444, 268435445, 268435446, 268435447, 268435448, 268435449, 268435450, 268435451,
  20, 1016, 1017, 4090, 8185, 21, 248, 2042, 1018, 1019, 249, 2043, 250, 22, 23, 24, 0, 1, 2, 25, 26, 27, 28, 29, 30, 31, 92, 251, 32764, 32, 4091, 1020,
  8186, 33, 93, 94, 95, 96, 97, 98, 99, 100, 101, 102, 103, 104, 105, 106, 107, 108, 109, 110, 111, 112, 113, 114, 252, 115, 253, 8187, 524272, 8188, 16380, 34,
  32765, 3, 35, 4, 36, 5, 37, 38, 39, 6, 116, 117, 40, 41, 42, 7, 43, 118, 44, 8, 9, 45, 119, 120, 121, 122, 123, 32766, 2044, 16381, 8189, 268435452,
  1048550, 4194258, 1048551, 1048552, 4194259, 4194260, 4194261, 8388569, 4194262, 8388570, 8388571, 8388572, 8388573, 8388574, 16777195, 8388575, 16777196, 16777197, 4194263, 8388576, 16777198, 8388577, 8388578, 8388579, 8388580, 2097116, 4194264, 8388581, 4194265, 8388582, 8388583, 16777199,
  4194266, 2097117, 1048553, 4194267, 4194268, 8388584, 8388585, 2097118, 8388586, 4194269, 4194270, 16777200, 2097119, 4194271, 8388587, 8388588, 2097120, 2097121, 4194272, 2097122, 8388589, 4194273, 8388590, 8388591, 1048554, 4194274, 4194275, 4194276, 8388592, 4194277, 4194278, 8388593,
  67108832, 67108833, 1048555, 524273, 4194279, 8388594, 4194280, 33554412, 67108834, 67108835, 67108836, 134217694, 134217695, 67108837, 16777201, 33554413, 524274, 2097123, 67108838, 134217696, 134217697, 67108839, 134217698, 16777202, 2097124, 2097125, 67108840, 67108841, 268435453, 134217699, 134217700, 134217701,
  1048556, 16777203, 1048557, 2097126, 4194281, 2097127, 2097128, 8388595, 4194282, 4194283, 33554414, 33554415, 16777204, 16777205, 67108842, 8388596, 67108843, 134217702, 67108844, 67108845, 134217703, 134217704, 134217705, 134217706, 134217707, 268435454, 134217708, 134217709, 134217710, 134217711, 134217712, 67108846,
  1073741823]

def firstT : List Nat := [
  0, 0, 0, 0, 0, 0, 20, 92, 248, 508, 1016, 2042, 4090, 8184, 16380, 32764, 65534, 131068, 262136, 524272, 1048550, 2097116, 4194258, 8388568, 16777194, 33554412, 67108832, 134217694, 268435426, 536870910, 1073741820]

def manyT : List Nat := [
  0, 0, 0, 0, 0, 10, 26, 32, 6, 0, 5, 3, 2, 6, 2, 3, 0, 0, 0, 3, 8, 13, 26, 29, 12, 4, 15, 19, 29, 0, 4]

def fromT : List Nat := [
  0, 0, 0, 0, 0, 0, 10, 36, 68, 74, 74, 79, 82, 84, 90, 92, 95, 95, 95, 95, 98, 106, 119, 145, 174, 186, 190, 205, 224, 253, 253]

def symT : List Nat := [
  48, 49, 50, 97, 99, 101, 105, 111, 115, 116, 32, 37, 45, 46, 47, 51, 52, 53, 54, 55, 56, 57, 61, 65, 95, 98, 100, 102, 103, 104, 108, 109,
  110, 112, 114, 117, 58, 66, 67, 68, 69, 70, 71, 72, 73, 74, 75, 76, 77, 78, 79, 80, 81, 82, 83, 84, 85, 86, 87, 89, 106, 107, 113, 118,
  119, 120, 121, 122, 38, 42, 44, 59, 88, 90, 33, 34, 40, 41, 63, 39, 43, 124, 35, 62, 0, 36, 64, 91, 93, 126, 94, 125, 60, 96, 123, 92,
  195, 208, 128, 130, 131, 162, 184, 194, 224, 226, 153, 161, 167, 172, 176, 177, 179, 209, 216, 217, 227, 229, 230, 129, 132, 133, 134, 136, 146, 154, 156, 160,
  163, 164, 169, 170, 173, 178, 181, 185, 186, 187, 189, 190, 196, 198, 228, 232, 233, 1, 135, 137, 138, 139, 140, 141, 143, 147, 149, 150, 151, 152, 155, 157,
  158, 165, 166, 168, 174, 175, 180, 182, 183, 188, 191, 197, 231, 239, 9, 142, 144, 145, 148, 159, 171, 206, 215, 225, 236, 237, 199, 207, 234, 235, 192, 193,
  200, 201, 202, 205, 210, 213, 218, 219, 238, 240, 242, 243, 255, 203, 204, 211, 212, 214, 221, 222, 223, 241, 244, 245, 246, 247, 248, 250, 251, 252, 253, 254,
  2, 3, 4, 5, 6, 7, 8, 11, 12, 14, 15, 16, 17, 18, 19, 20, 21, 23, 24, 25, 26, 27, 28, 29, 30, 31, 127, 220, 249, 10, 13, 22,
  256]

theorem tab_lengths : lensN.length = 257 ∧ codeT.length = 257 ∧ firstT.length = 31 ∧ manyT.length = 31 ∧ fromT.length = 31 ∧ symT.length = 257 := by decide +kernel
end Go.Proofs.YtpkmciohehaboaaGreatDoor

/- What huff.open makes, step by step, in plain Lean; that it comes to the tables. No program in sight. -/
namespace Go.Proofs.YtpkmciohehaboaaGreatDoor
open Go.RowKit

/-- The counting: behind the lengths so far. -/
def cntStep (m : List Nat) (n : Nat) : List Nat := m.set n (m.getD n 0 + 1)
def cntAt (k : Nat) : List Nat := (lensN.take k).foldl cntStep (List.replicate 31 0)

/-- The codes given so far. -/
structure OSt where
  pos : Nat
  code : Nat
  codes : List Nat
  first : List Nat
  frm : List Nat
  sym : List Nat
  ok : Bool
  deriving DecidableEq
def OSt.zero : OSt := ⟨0, 0, List.replicate 257 0, List.replicate 31 0, List.replicate 31 0, List.replicate 257 0, true⟩
/-- One symbol. -/
def OSt.sym1 (n : Nat) (st : OSt) (x : Nat × Nat) : OSt :=
  if x.1 = n then { st with sym := st.sym.set st.pos x.2, codes := st.codes.set x.2 st.code, pos := st.pos + 1, code := (st.code + 1) % 4294967296, ok := st.ok && decide (st.pos < 257) }
  else st
/-- A length begins. -/
def OSt.begin (n : Nat) (st : OSt) : OSt :=
  { st with code := st.code * 2 % 4294967296, first := st.first.set n (st.code * 2 % 4294967296), frm := st.frm.set n st.pos }
/-- Behind s symbols of length n. -/
def OSt.inner (n s : Nat) (st : OSt) : OSt := (lensN.zipIdx.take s).foldl (OSt.sym1 n) st
def OSt.outer (st : OSt) (n : Nat) : OSt := OSt.inner n 257 (OSt.begin n st)
/-- Behind n lengths. -/
def OSt.at_ (n : Nat) : OSt := (List.range n).foldl OSt.outer OSt.zero

theorem cnt_end : cntAt 257 = manyT := by decide +kernel
theorem open_end : OSt.at_ 31 = ⟨257, 1073741824, codeT, firstT, fromT, symT, true⟩ := by decide +kernel

theorem cnt_next {k : Nat} (h : k < 257) : cntAt (k + 1) = cntStep (cntAt k) (lensN.getD k 0) := by
  have hl : k < lensN.length := by rw [tab_lengths.1]; exact h
  unfold cntAt
  rw [List.take_succ_eq_append_getElem hl, List.foldl_append]
  simp [List.getD, List.getElem?_eq_getElem hl]
theorem cnt_length (k : Nat) : (cntAt k).length = 31 := by
  unfold cntAt
  have : ∀ (l m : List Nat), (l.foldl cntStep m).length = m.length := by
    intro l
    induction l with
    | nil => intro m; rfl
    | cons a t ih => intro m; rw [List.foldl_cons, ih]; simp [cntStep]
  rw [this]; simp
theorem cnt_le : ∀ (k n : Nat), k ≤ 257 → (cntAt k).getD n 0 ≤ k := by
  intro k
  induction k with
  | zero =>
    intro n _
    show (List.replicate 31 0).getD n 0 ≤ 0
    rw [List.getD, List.getElem?_replicate]
    split <;> simp
  | succ k ih =>
    intro n hk
    rw [cnt_next (by omega), cntStep, List.getD, List.getElem?_set]
    have h1 := ih n (by omega)
    have h2 := ih (lensN.getD k 0) (by omega)
    split
    · split
      · show (cntAt k).getD (lensN.getD k 0) 0 + 1 ≤ k + 1
        omega
      · exact Nat.zero_le _
    · show (cntAt k).getD n 0 ≤ k + 1
      omega
theorem lens_le : ∀ k, lensN.getD k 0 ≤ 30 := by
  intro k
  rcases Nat.lt_or_ge k 257 with h | h
  · have : ∀ k < 257, lensN.getD k 0 ≤ 30 := by decide +kernel
    exact this k h
  · rw [List.getD, List.getElem?_eq_none (by rw [tab_lengths.1]; exact h)]; decide
theorem lens_ge : ∀ k, k < 257 → 5 ≤ lensN.getD k 0 := by decide +kernel
theorem inner_next (n : Nat) (st : OSt) {s : Nat} (h : s < 257) : OSt.inner n (s + 1) st = OSt.sym1 n (OSt.inner n s st) (lensN.getD s 0, s) := by
  have hl : s < lensN.zipIdx.length := by rw [List.length_zipIdx, tab_lengths.1]; exact h
  unfold OSt.inner
  rw [List.take_succ_eq_append_getElem hl, List.foldl_append]
  have hl' : s < lensN.length := by rw [tab_lengths.1]; exact h
  simp [List.getD, List.getElem?_eq_getElem hl']
theorem at_next (n : Nat) : OSt.at_ (n + 1) = OSt.inner n 257 (OSt.begin n (OSt.at_ n)) := by
  unfold OSt.at_
  rw [List.range_succ, List.foldl_append, List.foldl_cons, List.foldl_nil, OSt.outer]
theorem sym1_ok {n : Nat} {st : OSt} {x : Nat × Nat} (h : (OSt.sym1 n st x).ok = true) : st.ok = true ∧ (x.1 = n → st.pos < 257) := by
  unfold OSt.sym1 at h
  split at h
  · simp at h; exact ⟨h.1, fun _ => h.2⟩
  · rename_i hne; exact ⟨h, fun e => absurd e hne⟩
theorem inner_ok {n : Nat} {st : OSt} (d : Nat) : ∀ {s : Nat}, s + d ≤ 257 → (OSt.inner n (s + d) st).ok = true → (OSt.inner n s st).ok = true := by
  induction d with
  | zero => intro s _ h; exact h
  | succ d ih =>
    intro s hs h
    rw [show s + (d + 1) = (s + d) + 1 by omega, inner_next n st (by omega)] at h
    exact ih (by omega) (sym1_ok h).1
theorem at_ok (d : Nat) : ∀ {n : Nat}, (OSt.at_ (n + d)).ok = true → (OSt.at_ n).ok = true := by
  induction d with
  | zero => intro n h; exact h
  | succ d ih =>
    intro n h
    rw [show n + (d + 1) = (n + d) + 1 by omega, at_next] at h
    have := inner_ok (s := 0) 257 (by omega) h
    exact ih this
/-- A symbol is put where there is room for it. -/
theorem pos_room {n s : Nat} (hn : n < 31) (hs : s < 257) (h : lensN.getD s 0 = n) : (OSt.inner n s (OSt.begin n (OSt.at_ n))).pos < 257 := by
  have h31 : (OSt.at_ 31).ok = true := by rw [open_end]
  obtain ⟨d, hd⟩ : ∃ d, 31 = (n + 1) + d := ⟨30 - n, by omega⟩
  rw [hd] at h31
  have h1 := at_ok d h31
  rw [at_next] at h1
  obtain ⟨d', hd'⟩ : ∃ d', 257 = (s + 1) + d' := ⟨256 - s, by omega⟩
  have h2 := inner_ok (s := s + 1) d' (by omega) (by rw [← hd']; exact h1)
  rw [inner_next _ _ hs] at h2
  exact (sym1_ok h2).2 h
/-- The rows' lengths stay. -/
structure OSt.Wf (st : OSt) : Prop where
  codes : st.codes.length = 257
  first : st.first.length = 31
  frm : st.frm.length = 31
  sym : st.sym.length = 257
  code : st.code < 4294967296
theorem OSt.Wf.sym1 {n : Nat} {st : OSt} (h : st.Wf) (x : Nat × Nat) : (OSt.sym1 n st x).Wf := by
  unfold OSt.sym1
  split
  · exact ⟨by simp [h.codes], h.first, h.frm, by simp [h.sym], Nat.mod_lt _ (by decide)⟩
  · exact h
theorem OSt.Wf.inner {n : Nat} {st : OSt} (h : st.Wf) : ∀ {s : Nat}, s ≤ 257 → (OSt.inner n s st).Wf := by
  intro s
  induction s with
  | zero => intro _; exact h
  | succ s ih => intro hs; rw [inner_next n st (by omega)]; exact (ih (by omega)).sym1 _
theorem OSt.Wf.begin {st : OSt} (h : st.Wf) (n : Nat) : (OSt.begin n st).Wf := ⟨h.codes, by simp [OSt.begin, h.first], by simp [OSt.begin, h.frm], h.sym, Nat.mod_lt _ (by decide)⟩
theorem OSt.Wf.at_ (n : Nat) : (OSt.at_ n).Wf := by
  induction n with
  | zero => exact ⟨by decide +kernel, by decide +kernel, by decide +kernel, by decide +kernel, by decide⟩
  | succ n ih => rw [at_next]; exact (ih.begin n).inner (Nat.le_refl _)
theorem OSt.Wf.zero : OSt.zero.Wf := OSt.Wf.at_ 0
theorem pos_le {n s : Nat} (hs : s ≤ 257) (st : OSt) : (OSt.inner n s st).pos ≤ st.pos + s := by
  induction s with
  | zero => exact Nat.le_refl _
  | succ s ih =>
    rw [inner_next n st (by omega), OSt.sym1]
    have := ih (by omega)
    split <;> simp <;> omega
theorem hpos_at (n : Nat) : (OSt.at_ n).pos ≤ 257 * n := by
  induction n with
  | zero => exact Nat.le_refl _
  | succ n ih => rw [at_next]; have := pos_le (n := n) (Nat.le_refl 257) (OSt.begin n (OSt.at_ n)); simp [OSt.begin] at this ⊢; omega

/-- The block of the book: its fields one behind the other. -/
def blk (m : List Nat) (st : OSt) : List Value :=
  lensN.map (fun n : Nat => Value.int .u8 (n : Int)) ++ (st.codes.map (fun n : Nat => Value.int .u32 (n : Int)) ++ (st.first.map (fun n : Nat => Value.int .u32 (n : Int)) ++ (m.map (fun n : Nat => Value.int .i64 (n : Int)) ++
    (st.frm.map (fun n : Nat => Value.int .i64 (n : Int)) ++ st.sym.map (fun n : Nat => Value.int .i64 (n : Int))))))
section
variable {m : List Nat} {st : OSt} (hm : m.length = 31) (h : st.Wf)
include hm h
omit hm h in
theorem blk_size {i : Nat} (hi : i < 257) : (blk m st)[i]? = some (.int .u8 ((lensN.getD i 0 : Nat) : Int)) := by
  have hl : i < lensN.length := by rw [tab_lengths.1]; exact hi
  unfold blk
  rw [List.getElem?_append_left (by simpa using hl), List.getElem?_map, List.getElem?_eq_getElem hl]
  simp [List.getD, List.getElem?_eq_getElem hl]
omit hm in
theorem blk_code {i : Nat} (hi : i < 257) : (blk m st)[257 + i]? = some (.int .u32 ((st.codes.getD i 0 : Nat) : Int)) := by
  have hl : i < st.codes.length := by rw [h.codes]; exact hi
  unfold blk
  rw [List.getElem?_append_right (by simp [tab_lengths.1]), List.getElem?_append_left (by simp [tab_lengths.1, h.codes]; omega), List.getElem?_map]
  simp [tab_lengths.1, List.getD, List.getElem?_eq_getElem hl]
omit hm in
theorem blk_first {i : Nat} (hi : i < 31) : (blk m st)[514 + i]? = some (.int .u32 ((st.first.getD i 0 : Nat) : Int)) := by
  have hl : i < st.first.length := by rw [h.first]; exact hi
  unfold blk
  rw [List.getElem?_append_right (by simp [tab_lengths.1]; omega), List.getElem?_append_right (by simp [tab_lengths.1, h.codes]; omega), List.getElem?_append_left (by simp [tab_lengths.1, h.codes, h.first]; omega), List.getElem?_map]
  simp [tab_lengths.1, h.codes, List.getD, show 514 + i - 257 - 257 = i by omega, List.getElem?_eq_getElem hl]
theorem blk_many {i : Nat} (hi : i < 31) : (blk m st)[545 + i]? = some (.int .i64 ((m.getD i 0 : Nat) : Int)) := by
  have hl : i < m.length := by rw [hm]; exact hi
  unfold blk
  rw [List.getElem?_append_right (by simp [tab_lengths.1]; omega), List.getElem?_append_right (by simp [tab_lengths.1, h.codes]; omega), List.getElem?_append_right (by simp [tab_lengths.1, h.codes, h.first]; omega),
    List.getElem?_append_left (by simp [tab_lengths.1, h.codes, h.first, hm]; omega), List.getElem?_map]
  simp [tab_lengths.1, h.codes, h.first, List.getD, show 545 + i - 257 - 257 - 31 = i by omega, List.getElem?_eq_getElem hl]
theorem blk_from {i : Nat} (hi : i < 31) : (blk m st)[576 + i]? = some (.int .i64 ((st.frm.getD i 0 : Nat) : Int)) := by
  have hl : i < st.frm.length := by rw [h.frm]; exact hi
  unfold blk
  rw [List.getElem?_append_right (by simp [tab_lengths.1]; omega), List.getElem?_append_right (by simp [tab_lengths.1, h.codes]; omega), List.getElem?_append_right (by simp [tab_lengths.1, h.codes, h.first]; omega),
    List.getElem?_append_right (by simp [tab_lengths.1, h.codes, h.first, hm]; omega), List.getElem?_append_left (by simp [tab_lengths.1, h.codes, h.first, hm, h.frm]; omega), List.getElem?_map]
  simp [tab_lengths.1, h.codes, h.first, hm, List.getD, show 576 + i - 257 - 257 - 31 - 31 = i by omega, List.getElem?_eq_getElem hl]
theorem blk_sym {i : Nat} (hi : i < 257) : (blk m st)[607 + i]? = some (.int .i64 ((st.sym.getD i 0 : Nat) : Int)) := by
  have hl : i < st.sym.length := by rw [h.sym]; exact hi
  unfold blk
  rw [List.getElem?_append_right (by simp [tab_lengths.1]; omega), List.getElem?_append_right (by simp [tab_lengths.1, h.codes]; omega), List.getElem?_append_right (by simp [tab_lengths.1, h.codes, h.first]; omega),
    List.getElem?_append_right (by simp [tab_lengths.1, h.codes, h.first, hm]; omega), List.getElem?_append_right (by simp [tab_lengths.1, h.codes, h.first, hm, h.frm]; omega), List.getElem?_map]
  simp [tab_lengths.1, h.codes, h.first, hm, h.frm, List.getD, show 607 + i - 257 - 257 - 31 - 31 - 31 = i by omega, List.getElem?_eq_getElem hl]
theorem set_many {i : Nat} (hi : i < 31) (x : Nat) : (blk m st).set (545 + i) (.int .i64 (x : Int)) = blk (m.set i x) st := by
  unfold blk
  rw [List.set_append_right _ _ (by simp [tab_lengths.1]; omega), List.set_append_right _ _ (by simp [tab_lengths.1, h.codes]; omega), List.set_append_right _ _ (by simp [tab_lengths.1, h.codes, h.first]; omega),
    List.set_append_left _ _ (by simp [tab_lengths.1, h.codes, h.first, hm]; omega), List.map_set]
  simp [tab_lengths.1, h.codes, h.first, show 545 + i - 257 - 257 - 31 = i by omega]
omit hm in
theorem set_first {i : Nat} (hi : i < 31) (x : Nat) : (blk m st).set (514 + i) (.int .u32 (x : Int)) = blk m { st with first := st.first.set i x } := by
  unfold blk
  rw [List.set_append_right _ _ (by simp [tab_lengths.1]; omega), List.set_append_right _ _ (by simp [tab_lengths.1, h.codes]; omega), List.set_append_left _ _ (by simp [tab_lengths.1, h.codes, h.first]; omega), List.map_set]
  simp [tab_lengths.1, h.codes, show 514 + i - 257 - 257 = i by omega]
theorem set_frm {i : Nat} (hi : i < 31) (x : Nat) : (blk m st).set (576 + i) (.int .i64 (x : Int)) = blk m { st with frm := st.frm.set i x } := by
  unfold blk
  rw [List.set_append_right _ _ (by simp [tab_lengths.1]; omega), List.set_append_right _ _ (by simp [tab_lengths.1, h.codes]; omega), List.set_append_right _ _ (by simp [tab_lengths.1, h.codes, h.first]; omega),
    List.set_append_right _ _ (by simp [tab_lengths.1, h.codes, h.first, hm]; omega), List.set_append_left _ _ (by simp [tab_lengths.1, h.codes, h.first, hm, h.frm]; omega), List.map_set]
  simp [tab_lengths.1, h.codes, h.first, hm, show 576 + i - 257 - 257 - 31 - 31 = i by omega]
omit hm in
theorem set_codes {i : Nat} (hi : i < 257) (x : Nat) : (blk m st).set (257 + i) (.int .u32 (x : Int)) = blk m { st with codes := st.codes.set i x } := by
  unfold blk
  rw [List.set_append_right _ _ (by simp [tab_lengths.1]), List.set_append_left _ _ (by simp [tab_lengths.1, h.codes]; omega), List.map_set]
  simp [tab_lengths.1]
theorem set_syms {i : Nat} (hi : i < 257) (x : Nat) : (blk m st).set (607 + i) (.int .i64 (x : Int)) = blk m { st with sym := st.sym.set i x } := by
  unfold blk
  rw [List.set_append_right _ _ (by simp [tab_lengths.1]; omega), List.set_append_right _ _ (by simp [tab_lengths.1, h.codes]; omega), List.set_append_right _ _ (by simp [tab_lengths.1, h.codes, h.first]; omega),
    List.set_append_right _ _ (by simp [tab_lengths.1, h.codes, h.first, hm]; omega), List.set_append_right _ _ (by simp [tab_lengths.1, h.codes, h.first, hm, h.frm]; omega), List.map_set]
  simp [tab_lengths.1, h.codes, h.first, hm, h.frm, show 607 + i - 257 - 257 - 31 - 31 - 31 = i by omega]
theorem set_begin {n : Nat} (hn : n < 31) : ((blk m st).set (514 + n) (.int .u32 ((st.code * 2 % 4294967296 : Nat) : Int))).set (576 + n) (.int .i64 (st.pos : Int)) = blk m (OSt.begin n st) := by
  rw [set_first h hn, set_frm hm (st := { st with first := st.first.set n (st.code * 2 % 4294967296) }) ⟨h.codes, by simp [h.first], h.frm, h.sym, h.code⟩ hn]
  rfl
theorem set_sym {n s : Nat} (hs : s < 257) (hp : st.pos < 257) (he : lensN.getD s 0 = n) :
    ((blk m st).set (607 + st.pos) (.int .i64 (s : Int))).set (257 + s) (.int .u32 (st.code : Int)) = blk m (OSt.sym1 n st (lensN.getD s 0, s)) := by
  rw [set_syms hm h hp, set_codes (st := { st with sym := st.sym.set st.pos s }) ⟨h.codes, h.first, h.frm, by simp [h.sym], h.code⟩ hs, OSt.sym1, if_pos he]
  rfl
end
end Go.Proofs.YtpkmciohehaboaaGreatDoor

/- How many bits and bytes a text needs, in plain Lean. No program in sight. -/
namespace Go.Proofs.YtpkmciohehaboaaGreatDoor
open Go.RowKit

def lenAt (c : UInt8) : Nat := lensN.getD c.toNat 0
/-- The bits of a text. -/
def nbits (l : List UInt8) : Nat := (l.map lenAt).sum
def nbytes (l : List UInt8) : Nat := (nbits l + 7) / 8
theorem nbits_append (l k : List UInt8) : nbits (l ++ k) = nbits l + nbits k := by simp [nbits]
theorem nbits_take {l : List UInt8} {k : Nat} (h : k < l.length) : nbits (l.take (k + 1)) = nbits (l.take k) + lensN.getD (ba l k) 0 := by
  rw [List.take_succ_eq_append_getElem h, nbits_append, ba_get h]
  simp [nbits, lenAt]
theorem nbits_le (l : List UInt8) : 5 * l.length ≤ nbits l ∧ nbits l ≤ 30 * l.length := by
  induction l with
  | nil => simp [nbits]
  | cons c t ih =>
    have h1 : lenAt c ≤ 30 := lens_le _
    have h2 : 5 ≤ lenAt c := lens_ge _ (by have := c.toNat_lt; omega)
    simp only [nbits, List.map_cons, List.sum_cons, List.length_cons] at ih ⊢
    omega
/-- A byte of a string, as the walk finds it. -/
theorem get_ba (s : ByteArray) : ∀ (n : Nat) (h : n < s.size), ((s[n]'h).toNat : Int) = (ba s.data.toList n : Int) := by
  intro n h
  have hl : n < s.data.toList.length := by rw [Array.length_toList]; exact h
  rw [ba_get hl]
  rfl
theorem str_len (s : ByteArray) : s.data.toList.length = s.size := by rw [Array.length_toList]; rfl
end Go.Proofs.YtpkmciohehaboaaGreatDoor
