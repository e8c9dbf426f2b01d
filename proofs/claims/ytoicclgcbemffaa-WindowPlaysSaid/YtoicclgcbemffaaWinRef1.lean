/- The document's book in memory; the walks of drawbridgeref08.New, find, At, Room. -/
import Derived.Test.YtoicclgcbemffaaWin6
namespace Go.Proofs.Ytoicclgcbemffaa
open Go.RowKit Go.Maps

def ent (b : Int) (p : Int × Int) : List Value := [.int .i64 p.1, .int .i64 (b + p.2)]
def ents (b : Int) (L : List (Int × Int)) : List Value := L.flatMap (ent b)
theorem ents_cons (b : Int) (p : Int × Int) (L : List (Int × Int)) : ents b (p :: L) = .int .i64 p.1 :: .int .i64 (b + p.2) :: ents b L := rfl
theorem ents_app (b : Int) (L M : List (Int × Int)) : ents b (L ++ M) = ents b L ++ ents b M := by simp [ents, List.flatMap_append]
theorem ents_length (b : Int) (L : List (Int × Int)) : (ents b L).length = L.length * 2 := by
  induction L with
  | nil => rfl
  | cons p L ih => rw [ents_cons]; simp only [List.length_cons, ih]; omega
theorem ents_get (b : Int) {L : List (Int × Int)} : ∀ {i : Nat} {p : Int × Int}, L[i]? = some p → (ents b L)[i * 2]? = some (.int .i64 p.1) ∧ (ents b L)[i * 2 + 1]? = some (.int .i64 (b + p.2)) := by
  induction L with
  | nil => intro i p h; simp at h
  | cons q L ih =>
    intro i p h
    rw [ents_cons]
    cases i with
    | zero => simp at h; subst h; exact ⟨rfl, rfl⟩
    | succ i =>
      have := ih (i := i) (p := p) (by simpa using h)
      rw [show (i + 1) * 2 = i * 2 + 1 + 1 by omega]
      simpa using this
theorem ents_one (b : Int) (L : List (Int × Int)) : ∀ u ∈ ents b L, u.oneCell' = true := by
  induction L with
  | nil => intro u h; cases h
  | cons p L ih =>
    intro u h
    rw [ents_cons] at h
    rcases List.mem_cons.1 h with rfl | h
    · rfl
    · rcases List.mem_cons.1 h with rfl | h
      · rfl
      · exact ih u h

/-- The document's book in memory: block r; its row in a block of its own; both from block B on. -/
structure RS (w : World) (B r : Nat) (S : Bk) (A : Option Addr) (c : Nat) : Prop where
  book : w.heap[r]? = some (.cells #[.int .i64 S.all, .int .i64 S.first, .slice A S.L.length c] 52 (0, 0))
  row : w.ownsRow B 75 2 (.slice A S.L.length c) S.L.length (ents S.first S.L)
  ne : ∀ a, A = some a → a.block ≠ r
  lo : B ≤ r
  once : Once S.L
section
variable {w w' : World} {B r c : Nat} {S : Bk} {A : Option Addr}
theorem RS.lt (h : RS w B r S A c) : r < w.heap.size := (Array.getElem?_eq_some_iff.1 h.book).1
theorem RS.keep (h : RS w B r S A c) (hg : ∀ k, B ≤ k → k < w.heap.size → w'.heap[k]? = w.heap[k]?) : RS w' B r S A c := by
  refine ⟨(hg r h.lo h.lt).trans h.book, ?_, h.ne, h.lo, h.once⟩
  obtain ⟨h1, h2⟩ := h.row
  refine ⟨h1, ?_⟩
  rcases h2 with h2 | ⟨g, cap, cur, hv, hb, hq, hrest⟩
  · exact .inl h2
  · exact .inr ⟨g, cap, cur, hv, hb, (hg g hb (Array.getElem?_eq_some_iff.1 hq).1).trans hq, hrest⟩
theorem RS.cells (h : RS w B r S A c) : w.cell? ⟨r, 0, none⟩ = some (.int .i64 S.all) ∧ w.cell? ⟨r, 1, none⟩ = some (.int .i64 S.first) ∧ w.cell? ⟨r, 2, none⟩ = some (.slice A S.L.length c) := by
  refine ⟨?_, ?_, ?_⟩ <;> (unfold World.cell?; rw [h.book]; rfl)
theorem RS.free (h : RS w B r S A c) (o : Nat) : w.frozen? ⟨r, o, none⟩ = false := by
  unfold World.frozen?; rw [h.book]; simp
/-- The entry at a place. -/
theorem RS.at_ (h : RS w B r S A c) {i : Nat} {p : Int × Int} (hi : S.L[i]? = some p) : ∃ g, A = some ⟨g, 0, none⟩ ∧ g < w.heap.size ∧ B ≤ g ∧ w.cell? ⟨g, i * 2, none⟩ = some (.int .i64 p.1) ∧ w.cell? ⟨g, i * 2 + 1, none⟩ = some (.int .i64 (S.first + p.2)) ∧ ∀ o, w.frozen? ⟨g, o, none⟩ = false := by
  have hlt : i < S.L.length := (List.getElem?_eq_some_iff.1 hi).1
  obtain ⟨g, cap, hv, hb, hg⟩ := h.row.form (by omega)
  injection hv with h1 h2 h3
  subst h1
  have hrow := h.row
  have e := ents_get S.first hi
  refine ⟨g, rfl, hg, hb, ?_, ?_, fun o => hrow.frozenAt o⟩
  · rw [hrow.cellAt _ (by omega), e.1]
  · rw [hrow.cellAt _ (by omega), e.2]
end

theorem rnew_any (n : Int) (w : World) : Calls Try.prog 22 #[.int .i64 n] w fun e w' => e = .returned (.pointer (some ⟨w.heap.size, 0, none⟩)) ∧ RS w' w.heap.size w.heap.size ⟨65535, n, []⟩ none 0 ∧ Below w.heap.size w w' := by
  go_enter Try.func22, Try.ntmps22
  go_wp2
  go_ret
  exact ⟨rfl, ⟨heapNew _ _, ⟨rfl, .inl ⟨rfl, rfl⟩⟩, (fun a h => by cases h), Nat.le_refl _, List.nodup_nil⟩, (Below.refl _ _).alloc (Nat.le_refl _) _⟩

def RFind (L : List (Int × Int)) (s : Int) (w : World) (e : Ending) (w' : World) : Prop :=
  ((look L s = none ∧ e = .returned (.int .i64 (-1))) ∨ (∃ (i : Nat) (x : Int), L[i]? = some (s, x) ∧ look L s = some x ∧ e = .returned (.int .i64 i))) ∧ w = w'
def FndRel (L : List (Int × Int)) (s : Int) (iv : Value) : Prop := ∃ k : Nat, iv = .int .i64 k ∧ k ≤ L.length ∧ ∀ j p, j < k → L[j]? = some p → p.1 ≠ s
theorem fnd_none {L : List (Int × Int)} {s : Int} (h : ∀ j p, j < L.length → L[j]? = some p → p.1 ≠ s) : look L s = none := by
  rw [look_none]
  intro hm
  obtain ⟨p, hp, he⟩ := List.mem_map.1 hm
  obtain ⟨j, hj, hq⟩ := List.getElem_of_mem hp
  exact h j p hj (by rw [List.getElem?_eq_getElem hj, hq]) he

set_option maxHeartbeats 1000000 in
theorem rfind_any {B r c : Nat} {S : Bk} {A : Option Addr} (s : Int) (w : World) (h : RS w B r S A c) (hl : S.L.length < 100000) :
    Calls Try.prog 44 #[.pointer (some ⟨r, 0, none⟩), .int .i64 s] w (RFind S.L s w) := by
  obtain ⟨c0, c1, c2⟩ := h.cells
  have H := Lib.hid h
  clear h
  obtain ⟨al, fi, L⟩ := S
  simp only at *
  clear c0 c1
  go_enter Try.func44, Try.ntmps44
  go_wp2
  go_loop [5] (fun i => FndRel L s i) (fun i => L.length - (intOf i).toNat)
  case atStart => exact ⟨0, rfl, by omega, fun j p h => by omega⟩
  case round =>
    obtain ⟨k, rfl, hk, hall⟩ := hrel
    have HA := Lib.hid hall
    clear hall
    by_cases hlt : k < L.length
    · obtain ⟨p, hp⟩ : ∃ p, L[k]? = some p := ⟨_, List.getElem?_eq_getElem hlt⟩
      obtain ⟨g, rfl, -, -, e0, -, -⟩ := H.out.at_ hp
      obtain ⟨p1, p2⟩ := p
      have HP := Lib.hid hp
      simp only at e0
      clear hp
      by_cases he : p1 = s
      · subst he
        go_wp2
        go_ret
        exact ⟨.inr ⟨k, p2, HP.out, look_of_mem H.out.once (List.mem_of_getElem? HP.out), rfl⟩, rfl⟩
      · have e1 : (p1 == s) = false := by simpa using he
        have HE := Lib.hid he
        clear he
        go_wp2
        go_round
        case rel => exact ⟨k + 1, by go_num, by omega, fun j q hj hq => by
          rcases Nat.lt_succ_iff_lt_or_eq.1 hj with h | h
          · exact HA.out j q h hq
          · subst h; rw [HP.out] at hq; injection hq with hq; subst hq; exact HE.out⟩
        case measure => simp [intOf]; omega
    · go_wp2
      go_ret
      obtain rfl : k = L.length := by omega
      exact ⟨.inl ⟨fnd_none HA.out, rfl⟩, rfl⟩

theorem rfind_none {B r c : Nat} {S : Bk} {A : Option Addr} (s : Int) (w : World) (h : RS w B r S A c) (hl : S.L.length < 100000) (hk : look S.L s = none) :
    Calls Try.prog 44 #[.pointer (some ⟨r, 0, none⟩), .int .i64 s] w fun e w' => e = .returned (.int .i64 (-1)) ∧ w = w' :=
  (rfind_any s w h hl).mono fun e w' hd => by
    obtain ⟨⟨_, he⟩ | ⟨i, x, _, h2, _⟩, hw⟩ := hd
    · exact ⟨he, hw⟩
    · rw [hk] at h2; cases h2
theorem rfind_some {B r c : Nat} {S : Bk} {A : Option Addr} (s x : Int) (w : World) (h : RS w B r S A c) (hl : S.L.length < 100000) (hk : look S.L s = some x) :
    Calls Try.prog 44 #[.pointer (some ⟨r, 0, none⟩), .int .i64 s] w fun e w' => ∃ i : Nat, S.L[i]? = some (s, x) ∧ i < S.L.length ∧ e = .returned (.int .i64 i) ∧ w = w' :=
  (rfind_any s w h hl).mono fun e w' hd => by
    obtain ⟨⟨h2, he⟩ | ⟨i, y, h1, h2, he⟩, hw⟩ := hd
    · rw [hk] at h2; cases h2
    · rw [hk] at h2; injection h2 with h2; subst h2; exact ⟨i, h1, (List.getElem?_eq_some_iff.1 h1).1, he, hw⟩

set_option maxHeartbeats 1000000 in
theorem rat_any {B r c : Nat} {S : Bk} {A : Option Addr} (s : Int) (w : World) (h : RS w B r S A c) (hl : S.L.length < 100000) :
    Calls Try.prog 24 #[.pointer (some ⟨r, 0, none⟩), .int .i64 s] w fun e w' => e = .returned (pairV (atB S s)) ∧ w = w' := by
  obtain ⟨c0, c1, c2⟩ := h.cells
  have H := Lib.hid h
  by_cases h0 : s = 0
  · subst h0
    have HF := Lib.hid (show pairV (atB S 0) = .tuple #[.int .i64 S.all, .bool true] from rfl)
    rw [HF.out]
    clear h HF
    go_enter Try.func24, Try.ntmps24
    go_wp2; go_ret2; exact ⟨rfl, rfl⟩
  · have e0 : (s == 0) = false := by simpa using h0
    cases hk : look S.L s with
    | none =>
      have HC := Lib.hid (rfind_none s w h hl hk)
      have hn : atB S s = (0, false) := by unfold atB; rw [if_neg h0, hk]
      rw [hn]
      simp only [pairV]
      clear hn h h0 hk
      go_enter Try.func24, Try.ntmps24
      go_wp2_with fail
      refine HC.out.mono ?_
      rintro e w1 ⟨rfl, rfl⟩
      go_wp2; go_ret2; exact ⟨rfl, rfl⟩
    | some x =>
      have HC := Lib.hid (rfind_some s x w h hl hk)
      have hn : atB S s = (S.first + x, true) := by unfold atB; rw [if_neg h0, hk]
      rw [hn]
      simp only [pairV]
      clear hn h h0 hk
      go_enter Try.func24, Try.ntmps24
      go_wp2_with fail
      refine HC.out.mono ?_
      rintro e w1 ⟨i, hi, hlt, rfl, rfl⟩
      obtain ⟨g, rfl, -, -, -, e1, -⟩ := H.out.at_ hi
      simp only at e1
      clear hi c0 c1
      go_wp2; go_ret2; exact ⟨rfl, rfl⟩

set_option maxHeartbeats 1000000 in
theorem rroom_any {B r c : Nat} {S : Bk} {A : Option Addr} (s : Int) (w : World) (h : RS w B r S A c) (hl : S.L.length < 100000) :
    Calls Try.prog 25 #[.pointer (some ⟨r, 0, none⟩), .int .i64 s] w fun e w' => e = .returned (.int .i64 (roomB S s)) ∧ w = w' := by
  obtain ⟨c0, c1, c2⟩ := h.cells
  have H := Lib.hid h
  by_cases h0 : s = 0
  · subst h0
    have HC := Lib.hid (rfind_any 0 w h hl)
    rw [show roomB S 0 = 0 from rfl]
    clear h c0 c1 c2
    go_enter Try.func25, Try.ntmps25
    go_wp2_with fail
    refine HC.out.mono ?_
    rintro e w1 ⟨⟨hlk, rfl⟩ | ⟨i, x, hi, hlk, rfl⟩, rfl⟩
    all_goals clear hlk
    all_goals go_wp2
    all_goals go_ret
    all_goals exact ⟨rfl, rfl⟩
  · have e0 : (s == 0) = false := by simpa using h0
    cases hk : look S.L s with
    | none =>
      have HC := Lib.hid (rfind_none s w h hl hk)
      have hn : roomB S s = 0 := by unfold roomB; rw [if_neg h0, hk]
      rw [hn]
      clear hn h h0 hk
      go_enter Try.func25, Try.ntmps25
      go_wp2_with fail
      refine HC.out.mono ?_
      rintro e w1 ⟨rfl, rfl⟩
      go_wp2; go_ret; exact ⟨rfl, rfl⟩
    | some x =>
      have HC := Lib.hid (rfind_some s x w h hl hk)
      have hn : roomB S s = max 0 (min (S.first + x) S.all) := by unfold roomB; rw [if_neg h0, hk]
      rw [hn]
      clear hn h h0 hk
      go_enter Try.func25, Try.ntmps25
      go_wp2_with fail
      refine HC.out.mono ?_
      rintro e w1 ⟨i, hi, hlt, rfl, rfl⟩
      obtain ⟨g, rfl, -, -, -, e1, -⟩ := H.out.at_ hi
      simp only at e1
      clear hi c1 H
      go_wp2
      all_goals (go_ret; exact ⟨ret_v (val_eq (by omega)), rfl⟩)
end Go.Proofs.Ytoicclgcbemffaa
