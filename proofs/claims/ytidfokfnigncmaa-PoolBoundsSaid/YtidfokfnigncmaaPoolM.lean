/- The pool's heap in memory; the walks of rest.Len, rest.Less. -/
import Derived.Test.YtidfokfnigncmaaMeth
import Derived.Test.YtidfokfnigncmaaHeapPlain
import Derived.Deep.QuietTactic
import Derived.BigQuiet
import Derived.RegionTactic
namespace Go.Proofs.Ytidfokfnigncmaa
open Go.RowKit

theorem below_dN {B : Nat} {w w' : World} (h : Below B w w') (n : Nat) : Below B w (w'.drewN n) := ⟨h.os, h.tape, h.output, h.size, h.block⟩
def ptrV (b : Nat) : Value := .pointer (some ⟨b, 0, none⟩)
def lkCells (x : Lk) (p : Int) : Array Value := #[.int .i64 x.id, .int .i64 x.org, .int .i64 x.sn, .int .i64 p]
/-- A pool's numbers. -/
structure Bk where
  mo : Int
  idl : Int
  la : Int
  mn : Nat → Int
def bookCells (B : Bk) (mb : Nat) (A : Option Addr) (n c : Nat) : Array Value :=
  #[.int .i64 B.mo, .int .i64 B.idl, .int .i64 B.la, .map (some mb), .slice A n c, .int .i64 (B.mn 0), .int .i64 (B.mn 1), .int .i64 (B.mn 2), .int .i64 (B.mn 3)]
/-- The pool's block, its heap's row, and the connections that are idle. -/
structure HM (w : World) (g mb : Nat) (B : Bk) (A : Option Addr) (c : Nat) (H : List Nat) (m : Nat → Lk) : Prop where
  book : w.heap[g]? = some (.cells (bookCells B mb A H.length c) 59 (0, 0))
  row : Lies w 61 1 (.slice A H.length c) H.length (H.map ptrV)
  lk : ∀ (i b : Nat), H[i]? = some b → w.heap[b]? = some (.cells (lkCells (m b) i) 63 (0, 0))
  gH : g ∉ H
  apart : ∀ a, A = some a → a.block ≠ g ∧ a.block ∉ H
  nodup : H.Nodup
def hfoot (A : Option Addr) (H : List Nat) (k : Nat) : Prop := (∃ a, A = some a ∧ a.block = k) ∨ k ∈ H
section
variable {w w' : World} {g mb c : Nat} {B : Bk} {A : Option Addr} {H : List Nat} {m : Nat → Lk}
theorem HM.keep (h : HM w g mb B A c H m) (hg : w'.heap[g]? = w.heap[g]?) (hk : ∀ k, hfoot A H k → w'.heap[k]? = w.heap[k]?) : HM w' g mb B A c H m := by
  refine ⟨hg.trans h.book, h.row.keep fun q hq => hk q ?_, fun i b hb => (hk b (.inr (List.mem_of_getElem? hb))).trans (h.lk i b hb), h.gH, h.apart, h.nodup⟩
  cases A with
  | none => cases hq
  | some a => exact .inl ⟨a, rfl, by simpa [Value.ownBlock] using hq⟩
theorem HM.glt (h : HM w g mb B A c H m) : g < w.heap.size := (Array.getElem?_eq_some_iff.1 h.book).1
theorem HM.lt (h : HM w g mb B A c H m) : ∀ k, hfoot A H k → k < w.heap.size := by
  rintro k (⟨a, ha, rfl⟩ | hk)
  · obtain ⟨A', c', hv, _, _, hb⟩ := h.row.form
    injection hv with e1
    subst e1
    exact hb a ha
  · obtain ⟨i, hi⟩ := List.getElem?_of_mem hk
    exact (Array.getElem?_eq_some_iff.1 (h.lk i k hi)).1
theorem HM.cells (h : HM w g mb B A c H m) : w.cell? ⟨g, 0, none⟩ = some (.int .i64 B.mo) ∧ w.cell? ⟨g, 1, none⟩ = some (.int .i64 B.idl) ∧ w.cell? ⟨g, 2, none⟩ = some (.int .i64 B.la) ∧ w.cell? ⟨g, 3, none⟩ = some (.map (some mb)) ∧
    w.cell? ⟨g, 4, none⟩ = some (.slice A H.length c) := by
  refine ⟨?_, ?_, ?_, ?_, ?_⟩ <;> (unfold World.cell?; rw [h.book]; rfl)
theorem HM.free (h : HM w g mb B A c H m) (o : Nat) : w.frozen? ⟨g, o, none⟩ = false := by
  unfold World.frozen?; rw [h.book]; simp
theorem HM.many (h : HM w g mb B A c H m) {o : Nat} (ho : o < 4) : w.cell? ⟨g, 5 + o, none⟩ = some (.int .i64 (B.mn o)) := by
  unfold World.cell?; rw [h.book]
  match o, ho with
  | 0, _ => rfl
  | 1, _ => rfl
  | 2, _ => rfl
  | 3, _ => rfl
/-- A place of the row. -/
theorem HM.at_ (h : HM w g mb B A c H m) {i : Nat} (hi : i < H.length) : ∃ q o b, A = some ⟨q, o, none⟩ ∧ q < w.heap.size ∧ H[i]? = some b ∧ w.cell? ⟨q, o + i, none⟩ = some (.pointer (some ⟨b, 0, none⟩)) := by
  obtain ⟨q, o, hA, hq, hc⟩ := (h.row.rd rfl).2 (by omega)
  refine ⟨q, o, H[i], hA, hq, List.getElem?_eq_getElem hi, ?_⟩
  rw [hc i (by omega), List.getElem?_map, List.getElem?_eq_getElem hi]; rfl
theorem lk_cells {b : Nat} {x : Lk} {p : Int} {t : TypeId} (h : w.heap[b]? = some (.cells (lkCells x p) t (0, 0))) :
    w.cell? ⟨b, 0, none⟩ = some (.int .i64 x.id) ∧ w.cell? ⟨b, 1, none⟩ = some (.int .i64 x.org) ∧ w.cell? ⟨b, 2, none⟩ = some (.int .i64 x.sn) ∧ w.cell? ⟨b, 3, none⟩ = some (.int .i64 p) := by
  refine ⟨?_, ?_, ?_, ?_⟩ <;> (unfold World.cell?; rw [h]; rfl)
theorem lk_free {b : Nat} {x : Lk} {p : Int} {t : TypeId} (h : w.heap[b]? = some (.cells (lkCells x p) t (0, 0))) (o : Nat) : w.frozen? ⟨b, o, none⟩ = false := by
  unfold World.frozen?; rw [h]; simp
end

theorem rlen_any (A : Option Addr) (n c : Nat) (w : World) : Calls Try.prog 50 #[.slice A n c] w fun e w' => e = .returned (.int .i64 n) ∧ w = w' := by
  go_enter Try.func50, Try.ntmps50
  go_wp2; go_ret; exact ⟨rfl, rfl⟩
/-- Two of the idle ones are compared. -/
theorem rless_any {g mb c : Nat} {B : Bk} {A : Option Addr} {H : List Nat} {m : Nat → Lk} {i k : Nat} (w : World) (h : HM w g mb B A c H m) (hi : i < H.length) (hk : k < H.length) :
    Calls Try.prog 25 #[.slice A H.length c, .int .i64 i, .int .i64 k] w fun e w' => e = .returned (.bool (lkLt (key m H i) (key m H k))) ∧ ∃ n, w' = w.drewN n := by
  obtain ⟨q, o, b, rfl, hq, hb, q0⟩ := h.at_ hi
  obtain ⟨q', o', b', hA, -, hb', q1⟩ := h.at_ hk
  injection hA with hA
  injection hA with e1 e2
  subst e1 e2
  obtain ⟨x0, -, x2, -⟩ := lk_cells (h.lk i b hb)
  obtain ⟨y0, -, y2, -⟩ := lk_cells (h.lk k b' hb')
  have k1 : key m H i = m b := by unfold key; rw [List.getD_eq_getElem?_getD, hb]; rfl
  have k2 : key m H k = m b' := by unfold key; rw [List.getD_eq_getElem?_getD, hb']; rfl
  rw [k1, k2]
  have i0 : (0 : Int) ≤ i := by omega
  have i1 : (i : Int) < H.length := by omega
  have j0 : (0 : Int) ≤ k := by omega
  have j1 : (k : Int) < H.length := by omega
  obtain ⟨n, hn⟩ : ∃ n, H.length = n := ⟨_, rfl⟩
  rw [hn] at hi hk i1 j1 ⊢
  clear k1 k2 h hb hb' hn
  generalize m b = X at *
  generalize m b' = Y at *
  obtain ⟨xi, xo, xs⟩ := X
  obtain ⟨yi, yo, ys⟩ := Y
  simp only at x0 x2 y0 y2
  by_cases hs : xs = ys
  · subst hs
    go_enter Try.func25, Try.ntmps25
    go_wp2
    go_quiet (fail)
    go_wp2
    go_quiet (fail)
    go_wp2
    go_ret
    exact ⟨ret_v (by simp [lkLt]), _, World.drewN_drewN ..⟩
  · have hs2 : (xs != ys) = true := by simpa using hs
    have HS := Lib.hid hs
    clear hs
    go_enter Try.func25, Try.ntmps25
    go_wp2
    go_quiet (fail)
    go_wp2
    go_quiet (fail)
    go_wp2
    go_ret
    exact ⟨ret_v (by simp [lkLt, HS.out]), _, World.drewN_drewN ..⟩
end Go.Proofs.Ytidfokfnigncmaa
