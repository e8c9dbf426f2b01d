/- The document's pool in memory; the walks of drawbridgeref16.find, Origin, Count. -/
import Derived.Test.YtidfokfnigncmaaPoolAwake
namespace Go.Proofs.Ytidfokfnigncmaa
open Go.RowKit

theorem tLinks : SlT Try.prog 40 72 (.agg #[.int .i64 0, .int .i64 0, .int .i64 0]) 3 24 :=
  ⟨Try.underlying40, by kernel_rfl, rfl, by decide⟩
def lcs (l : List Ln) : List Value := l.flatMap fun x => [.int .i64 x.id, .int .i64 x.org, .int .i64 x.sn]
theorem lcs_cons (x : Ln) (l : List Ln) : lcs (x :: l) = .int .i64 x.id :: .int .i64 x.org :: .int .i64 x.sn :: lcs l := rfl
theorem lcs_length (l : List Ln) : (lcs l).length = l.length * 3 := by
  induction l with
  | nil => rfl
  | cons p l ih => rw [lcs_cons]; simp only [List.length_cons, ih]; omega
theorem lcs_app (l k : List Ln) : lcs (l ++ k) = lcs l ++ lcs k := by simp [lcs, List.flatMap_append]
theorem lcs_get {l : List Ln} : ∀ {i : Nat} {x : Ln}, l[i]? = some x → (lcs l)[i * 3]? = some (.int .i64 x.id) ∧ (lcs l)[i * 3 + 1]? = some (.int .i64 x.org) ∧ (lcs l)[i * 3 + 2]? = some (.int .i64 x.sn) := by
  induction l with
  | nil => intro i p h; simp at h
  | cons q L ih =>
    intro i p h
    rw [lcs_cons]
    cases i with
    | zero => simp at h; subst h; exact ⟨rfl, rfl, rfl⟩
    | succ i =>
      have := ih (i := i) (x := p) (by simpa using h)
      rw [show (i + 1) * 3 = i * 3 + 1 + 1 + 1 by omega]
      simpa using this
theorem lcs_one (l : List Ln) : ∀ u ∈ lcs l, u.oneCell' = true := by
  induction l with
  | nil => intro u h; cases h
  | cons p L ih =>
    intro u h
    rw [lcs_cons] at h
    simp only [List.mem_cons] at h
    rcases h with rfl | rfl | rfl | h
    · rfl
    · rfl
    · rfl
    · exact ih u h
/-- The document's pool: its block, its row. -/
structure RM (w : World) (q : Nat) (A : Option Addr) (c : Nat) (P : Pl) : Prop where
  book : w.heap[q]? = some (.cells #[.int .i64 P.mo, .int .i64 P.idl, .int .i64 P.la, .slice A P.L.length c] 42 (0, 0))
  row : Lies w 72 3 (.slice A P.L.length c) P.L.length (lcs P.L)
  ne : ∀ a, A = some a → a.block ≠ q
def qfoot (q : Nat) (A : Option Addr) (k : Nat) : Prop := k = q ∨ ∃ a, A = some a ∧ a.block = k
def RPool (w : World) (q : Nat) (F : Nat → Prop) (P : Pl) : Prop := ∃ A c, F = qfoot q A ∧ RM w q A c P
section
variable {w w' : World} {q c : Nat} {A : Option Addr} {P : Pl} {F : Nat → Prop}
theorem RM.lt (h : RM w q A c P) : ∀ k, qfoot q A k → k < w.heap.size := by
  rintro k (rfl | ⟨a, ha, rfl⟩)
  · exact (Array.getElem?_eq_some_iff.1 h.book).1
  · obtain ⟨A', c', hv, _, _, hb⟩ := h.row.form
    injection hv with e1
    subst e1
    exact hb a ha
theorem RM.keep (h : RM w q A c P) (hk : ∀ k, qfoot q A k → w'.heap[k]? = w.heap[k]?) : RM w' q A c P := by
  refine ⟨(hk q (.inl rfl)).trans h.book, h.row.keep fun k hk' => hk k ?_, h.ne⟩
  cases A with
  | none => cases hk'
  | some a => exact .inr ⟨a, rfl, by simpa [Value.ownBlock] using hk'⟩
theorem RM.cells (h : RM w q A c P) : w.cell? ⟨q, 0, none⟩ = some (.int .i64 P.mo) ∧ w.cell? ⟨q, 1, none⟩ = some (.int .i64 P.idl) ∧ w.cell? ⟨q, 2, none⟩ = some (.int .i64 P.la) ∧ w.cell? ⟨q, 3, none⟩ = some (.slice A P.L.length c) := by
  refine ⟨?_, ?_, ?_, ?_⟩ <;> (unfold World.cell?; rw [h.book]; rfl)
theorem RM.free (h : RM w q A c P) (o : Nat) : w.frozen? ⟨q, o, none⟩ = false := by
  unfold World.frozen?; rw [h.book]; simp
theorem RM.at_ (h : RM w q A c P) {i : Nat} {x : Ln} (hi : P.L[i]? = some x) : ∃ b o, A = some ⟨b, o, none⟩ ∧ b < w.heap.size ∧ w.cell? ⟨b, o + i * 3, none⟩ = some (.int .i64 x.id) ∧ w.cell? ⟨b, o + i * 3 + 1, none⟩ = some (.int .i64 x.org) ∧ w.cell? ⟨b, o + i * 3 + 2, none⟩ = some (.int .i64 x.sn) := by
  have hlt : i < P.L.length := (List.getElem?_eq_some_iff.1 hi).1
  obtain ⟨b, o, hA, hq, hc⟩ := (h.row.rd rfl).2 (by omega)
  have e := lcs_get hi
  exact ⟨b, o, hA, hq, (hc _ (by omega)).trans e.1, (hc (i * 3 + 1) (by omega)).trans e.2.1, (hc (i * 3 + 2) (by omega)).trans e.2.2⟩
theorem RPool.lt (h : RPool w q F P) : ∀ k, F k → k < w.heap.size := by
  obtain ⟨A, c, rfl, ht⟩ := h
  exact ht.lt
theorem RPool.keep (h : RPool w q F P) (hk : ∀ k, F k → w'.heap[k]? = w.heap[k]?) : RPool w' q F P := by
  obtain ⟨A, c, rfl, ht⟩ := h
  exact ⟨A, c, rfl, ht.keep hk⟩
end
/-- The place of a connection; -1: there is none. -/
def placeOf (L : List Ln) (id : Int) : Int := match L.findIdx? (fun x => x.id = id) with
  | some i => i
  | none => -1
theorem placeOf_cases (L : List Ln) (id : Int) : (placeOf L id = -1 ∧ findId L id = none) ∨ ∃ (i : Nat) (x : Ln), L[i]? = some x ∧ placeOf L id = i ∧ findId L id = some x ∧ x.id = id := by
  unfold placeOf findId
  cases h : L.findIdx? (fun x => x.id = id) with
  | none =>
    left
    refine ⟨rfl, List.find?_eq_none.2 fun x hx => ?_⟩
    exact Bool.eq_false_iff.1 (List.findIdx?_eq_none_iff.1 h x hx)
  | some i =>
    obtain ⟨hl, hp, hmin⟩ := List.findIdx?_eq_some_iff_getElem.1 h
    refine .inr ⟨i, L[i], List.getElem?_eq_getElem hl, rfl, ?_, by simpa using hp⟩
    rw [List.find?_eq_some_iff_getElem]
    exact ⟨hp, i, hl, rfl, fun j hj => by have := hmin j hj; simpa using this⟩
def FindRel (L : List Ln) (id : Int) (iv : Value) : Prop := ∃ k : Nat, iv = .int .i64 k ∧ k ≤ L.length ∧ ∀ j x, j < k → L[j]? = some x → x.id ≠ id
theorem placeOf_some {L : List Ln} {id : Int} {k : Nat} {x : Ln} (hx : L[k]? = some x) (hid : x.id = id) (h : ∀ j x, j < k → L[j]? = some x → x.id ≠ id) : placeOf L id = k := by
  have hl := (List.getElem?_eq_some_iff.1 hx).1
  have : L.findIdx? (fun x => x.id = id) = some k := by
    rw [List.findIdx?_eq_some_iff_getElem]
    refine ⟨hl, by have := (List.getElem?_eq_some_iff.1 hx).2; simp [this, hid], fun j hj => ?_⟩
    have := h j _ hj (List.getElem?_eq_getElem (by omega))
    simpa using this
  unfold placeOf; rw [this]
theorem placeOf_none {L : List Ln} {id : Int} (h : ∀ j x, j < L.length → L[j]? = some x → x.id ≠ id) : placeOf L id = -1 := by
  have : L.findIdx? (fun x => x.id = id) = none := by
    rw [List.findIdx?_eq_none_iff]
    intro x hx
    obtain ⟨j, hj⟩ := List.getElem?_of_mem hx
    simpa using h j x (List.getElem?_eq_some_iff.1 hj).1 hj
  unfold placeOf; rw [this]
set_option maxHeartbeats 1000000 in
theorem rfind_any {q : Nat} {F : Nat → Prop} {P : Pl} (id : Int) (w : World) (h : RPool w q F P) (hl : P.L.length ≤ 1099511627776) :
    Calls Try.prog 30 #[.pointer (some ⟨q, 0, none⟩), .int .i64 id] w fun e w' => e = .returned (.int .i64 (placeOf P.L id)) ∧ w = w' := by
  obtain ⟨A, c, rfl, h⟩ := h
  obtain ⟨-, -, -, c3⟩ := h.cells
  have HH := Lib.hid h
  obtain ⟨n, hn⟩ : ∃ n, P.L.length = n := ⟨_, rfl⟩
  have HN := Lib.hid hn
  rw [hn] at c3 hl
  clear h hn
  go_enter Try.func30, Try.ntmps30
  go_wp2
  go_loop [5] (fun iv => FindRel P.L id iv) (fun iv => n - (intOf iv).toNat)
  case atStart => exact ⟨0, rfl, Nat.zero_le _, fun j x hj => by omega⟩
  case round =>
    obtain ⟨k, rfl, hk, hall⟩ := hrel
    rw [HN.out] at hk
    have HA := Lib.hid hall
    clear hall
    by_cases hlt : k < n
    · obtain ⟨x, hx⟩ : ∃ x, P.L[k]? = some x := ⟨_, List.getElem?_eq_getElem (by rw [HN.out]; exact hlt)⟩
      obtain ⟨b, o, rfl, hb, q0, -, -⟩ := HH.out.at_ hx
      have HX := Lib.hid hx
      have n1 : (k : Int) < n := by omega
      have n0 : (0 : Int) ≤ k := by omega
      clear hx
      by_cases he : x.id = id
      · rw [he] at q0
        have HP := Lib.hid (placeOf_some HX.out he HA.out)
        clear he
        go_wp2
        go_ret
        rw [HP.out]
        exact ⟨rfl, rfl⟩
      · have hd : (x.id == id) = false := by simpa using he
        have HE := Lib.hid he
        clear he
        go_wp2
        go_round
        case rel => exact ⟨k + 1, by go_num, by rw [HN.out]; omega, fun j y hj hy => by
            rcases Nat.lt_succ_iff_lt_or_eq.1 hj with h1 | rfl
            · exact HA.out j y h1 hy
            · rw [HX.out] at hy; injection hy with hy; rw [← hy]; exact HE.out⟩
        case measure => simp [intOf]; omega
    · obtain rfl : k = n := by omega
      have HP := Lib.hid (placeOf_none (L := P.L) (id := id) (by rw [HN.out]; exact HA.out))
      go_wp2
      go_ret
      rw [HP.out]
      exact ⟨rfl, rfl⟩
set_option maxHeartbeats 1000000 in
theorem rorigin_any {q : Nat} {F : Nat → Prop} {P : Pl} (id : Int) (w : World) (h : RPool w q F P) (hl : P.L.length ≤ 1099511627776) :
    Calls Try.prog 23 #[.pointer (some ⟨q, 0, none⟩), .int .i64 id] w fun e w' => e = .returned (.tuple #[.int .i64 (P.origin id).1, .bool (P.origin id).2]) ∧ w = w' := by
  have HF := Lib.hid (rfind_any id w h hl)
  obtain ⟨A, c, rfl, h⟩ := h
  obtain ⟨-, -, -, c3⟩ := h.cells
  rcases placeOf_cases P.L id with ⟨e1, e2⟩ | ⟨i, x, hi, e1, e2, e3⟩
  · have HO : Hid (P.origin id = (0, false)) := Lib.hid (by unfold Pl.origin; rw [e2])
    rw [e1] at HF
    clear h e1 e2
    go_enter Try.func23, Try.ntmps23
    go_wp2_with fail
    refine HF.out.mono ?_
    rintro e w1 ⟨rfl, rfl⟩
    go_wp2_with fail
    go_ret2
    rw [HO.out]
    exact ⟨rfl, rfl⟩
  · have HO : Hid (P.origin id = (x.org, true)) := Lib.hid (by unfold Pl.origin; rw [e2])
    rw [e1] at HF
    obtain ⟨b, o, rfl, hb, -, q1, -⟩ := h.at_ hi
    have hil := (List.getElem?_eq_some_iff.1 hi).1
    obtain ⟨n, hn⟩ : ∃ n, P.L.length = n := ⟨_, rfl⟩
    rw [hn] at c3 hil hl
    have n1 : (i : Int) < n := by omega
    have n0 : (0 : Int) ≤ i := by omega
    clear h hi e1 e2 e3 hn
    go_enter Try.func23, Try.ntmps23
    go_wp2_with fail
    refine HF.out.mono ?_
    rintro e w1 ⟨rfl, rfl⟩
    go_wp2_with fail
    go_ret2
    rw [HO.out]
    exact ⟨rfl, rfl⟩
end Go.Proofs.Ytidfokfnigncmaa
