/- The walks of drawbridgeref08.First and drawbridgelaw08.refDoes. -/
import Derived.Test.YtoicclgcbemffaaWinRef3
import Derived.Deep.QuietTactic
import Derived.BigQuiet
import Derived.IntWalk
namespace Go.Proofs.Ytoicclgcbemffaa
open Go.RowKit Go.Maps

def F1Rel (w : World) (L : List (Int × Int)) (n : Int) (iv : Value) (wr : World) : Prop :=
  ∃ k a : Nat, iv = .int .i64 k ∧ k ≤ L.length ∧ wr = w.drewN a ∧ ∀ j p, j < k → L[j]? = some p → p.2 ≤ 2147483647 - n
def F2Rel (w : World) (B r c : Nat) (S : Bk) (A : Option Addr) (n : Int) (iv : Value) (wr : World) : Prop :=
  ∃ k : Nat, iv = .int .i64 k ∧ k ≤ S.L.length ∧ wr.heap[r]? = some (.cells #[.int .i64 S.all, .int .i64 S.first, .slice A S.L.length c] 52 (0, 0)) ∧
    wr.ownsRow B 75 2 (.slice A S.L.length c) S.L.length (ents n (S.L.take k) ++ ents S.first (S.L.drop k)) ∧ Far r A w wr
theorem mix_get (n b : Int) {L : List (Int × Int)} {k : Nat} {p : Int × Int} (hp : L[k]? = some p) : (ents n (L.take k) ++ ents b (L.drop k))[k * 2]? = some (.int .i64 p.1) ∧ (ents n (L.take k) ++ ents b (L.drop k))[k * 2 + 1]? = some (.int .i64 (b + p.2)) := by
  have hlt : k < L.length := (List.getElem?_eq_some_iff.1 hp).1
  have hl : (ents n (L.take k)).length = k * 2 := by rw [ents_length, List.length_take, Nat.min_eq_left (by omega)]
  have hg := ents_get b (L := L.drop k) (i := 0) (p := p) (by simpa using hp)
  refine ⟨?_, ?_⟩
  · rw [List.getElem?_append_right (by omega), hl, Nat.sub_self]; simpa using hg.1
  · rw [List.getElem?_append_right (by omega), hl, show k * 2 + 1 - k * 2 = 1 by omega]; simpa using hg.2
theorem mix_set (n b : Int) {L : List (Int × Int)} {k : Nat} {p : Int × Int} (hp : L[k]? = some p) : (ents n (L.take k) ++ ents b (L.drop k)).set (k * 2 + 1) (.int .i64 (n + p.2)) = ents n (L.take (k + 1)) ++ ents b (L.drop (k + 1)) := by
  have hlt : k < L.length := (List.getElem?_eq_some_iff.1 hp).1
  have hl : (ents n (L.take k)).length = k * 2 := by rw [ents_length, List.length_take, Nat.min_eq_left (by omega)]
  have hd : L.drop k = p :: L.drop (k + 1) := by
    rw [List.drop_eq_getElem_cons hlt]
    congr 1
    rw [List.getElem?_eq_getElem hlt] at hp
    injection hp
  rw [List.take_add_one, hp, ents_app, List.set_append, if_neg (by omega), hl, show k * 2 + 1 - k * 2 = 1 by omega, hd]
  simp [ents, ent]
theorem any_false {L : List (Int × Int)} {n : Int} (h : ∀ j p, j < L.length → L[j]? = some p → p.2 ≤ 2147483647 - n) : ¬ (L.any fun p => decide (2147483647 - n < p.2)) = true := by
  rw [List.any_eq_true]
  rintro ⟨p, hp, hx⟩
  obtain ⟨j, hj, hq⟩ := List.getElem_of_mem hp
  have := h j p hj (by rw [List.getElem?_eq_getElem hj, hq])
  simp at hx
  omega
theorem any_true {L : List (Int × Int)} {n : Int} {k : Nat} {p : Int × Int} (hp : L[k]? = some p) (hx : 2147483647 - n < p.2) : (L.any fun p => decide (2147483647 - n < p.2)) = true := by
  rw [List.any_eq_true]
  exact ⟨p, List.mem_of_getElem? hp, by simpa using hx⟩


set_option maxRecDepth 100000 in
set_option maxHeartbeats 2000000 in
theorem rfirst_any {B r c : Nat} {S : Bk} {A : Option Addr} (n : Int) (w : World) (h : RS w B r S A c) (hok : BkOk S) (hl : S.L.length < 100000) :
    Calls Try.prog 43 #[.pointer (some ⟨r, 0, none⟩), .int .i64 n] w (WRef B r A w (firstB S n)) := by
  have H := Lib.hid h
  by_cases ha : n < 0 ∨ 2147483647 < n
  · have hn : firstB S n = (1, S) := by unfold firstB; rw [if_pos ha]
    rw [hn]
    clear h hok
    by_cases h1 : n < 0
    · clear ha
      go_enter Try.func43, Try.ntmps43
      go_wp2; go_ret; exact ⟨rfl, ⟨_, _, H.out⟩, Far.refl _ _ _⟩
    · have h2 : 2147483647 < n := by omega
      clear ha
      go_enter Try.func43, Try.ntmps43
      go_wp2; go_ret; exact ⟨rfl, ⟨_, _, H.out⟩, Far.refl _ _ _⟩
  have n1 : 0 ≤ n := by omega
  have n2 : n ≤ 2147483647 := by omega
  have f0 := hok.first0
  have f1 := hok.first1
  have hn : firstB S n = if (S.L.any fun p => decide (2147483647 - n < p.2)) = true then (11, S) else (0, { S with first := n }) := by unfold firstB; rw [if_neg ha]
  have HN := Lib.hid hn
  have HOK := Lib.hid hok
  obtain ⟨c0, c1, c2⟩ := h.cells
  have hlo := h.lo
  have hrlt := h.lt
  clear hn h hok ha
  go_enter Try.func43, Try.ntmps43
  go_wp2
  go_loopw [5] (fun i wr => F1Rel w S.L n i wr) (fun i _ => S.L.length - (intOf i).toNat)
  case atStart => exact ⟨0, 0, rfl, by omega, rfl, fun j p h => by omega⟩
  case round =>
    obtain ⟨k, a, rfl, hk, rfl, hall⟩ := hrel
    have HA := Lib.hid hall
    clear hall
    by_cases hlt : k < S.L.length
    · obtain ⟨p, hp⟩ : ∃ p, S.L[k]? = some p := ⟨_, List.getElem?_eq_getElem hlt⟩
      obtain ⟨g, rfl, -, -, q0, q1, -⟩ := H.out.at_ hp
      obtain ⟨o1, o2⟩ := HOK.out.off _ (List.mem_of_getElem? hp)
      obtain ⟨p1, p2⟩ := p
      simp only at q0 q1 o1 o2
      have HP := Lib.hid hp
      have s1 : IntKind.i64.wrap (S.first + p2 - S.first) = p2 := by rw [IntWalk.i64_in _ ⟨by omega, by omega⟩]; omega
      have s2 : IntKind.i64.wrap (p2 + n) = p2 + n := by rw [IntWalk.i64_in _ ⟨by omega, by omega⟩]
      clear hp
      by_cases hb : 2147483647 < p2 + n
      · go_wp2
        go_quiet (fail)
        go_wp2
        go_ret
        rw [HN.out, if_pos (any_true HP.out (by simp only; omega))]
        exact ⟨rfl, ⟨_, _, H.out.keep (fun _ _ _ => rfl)⟩, ((Far.refl _ _ _).drewN _).drewN _⟩
      · go_wp2
        go_quiet (fail)
        go_wp2
        go_roundw
        case rel => exact ⟨k + 1, _, by go_num, by omega, rfl, fun j q hj hq => by
          rcases Nat.lt_succ_iff_lt_or_eq.1 hj with h | h
          · exact HA.out j q h hq
          · subst h; rw [HP.out] at hq; injection hq with hq; subst hq; simp only; omega⟩
        case measure => simp [intOf]; omega
    · obtain rfl : k = S.L.length := by omega
      have HX := Lib.hid (HN.out.trans (if_neg (any_false HA.out)))
      clear HA HN hk
      have hb0 : F2Rel w B r c S A n (.int .i64 0) (w.drewN a) := by
        refine ⟨0, rfl, by omega, H.out.book, ?_, (Far.refl _ _ _).drewN a⟩
        rw [List.take_zero, List.drop_zero]
        exact own_keep H.out.row fun _ _ => rfl
      have HB0 := Lib.hid hb0
      clear hb0
      go_wp2
      go_loopw [6] (fun i wr => F2Rel w B r c S A n i wr) (fun i _ => S.L.length - (intOf i).toNat)
      case atStart => exact HB0.out
      case round =>
        obtain ⟨k, rfl, hk, hbook, hrow, hbel⟩ := hrel
        have d0 : wr.cell? ⟨r, 0, none⟩ = some (.int .i64 S.all) := by unfold World.cell?; rw [hbook]; rfl
        have d1 : wr.cell? ⟨r, 1, none⟩ = some (.int .i64 S.first) := by unfold World.cell?; rw [hbook]; rfl
        have d2 : wr.cell? ⟨r, 2, none⟩ = some (.slice A S.L.length c) := by unfold World.cell?; rw [hbook]; rfl
        have df : wr.frozen? ⟨r, 1, none⟩ = false := by unfold World.frozen?; rw [hbook]; simp
        have HBK := Lib.hid hbook
        have HRW := Lib.hid hrow
        have HBL := Lib.hid hbel
        clear hbook hbel HB0
        by_cases hlt : k < S.L.length
        · obtain ⟨p, hp⟩ : ∃ p, S.L[k]? = some p := ⟨_, List.getElem?_eq_getElem hlt⟩
          obtain ⟨g, cap, hv, hgB, hgs⟩ := hrow.form (by omega)
          injection hv with e1 e2 e3
          subst e1 e3
          obtain ⟨m0, m1⟩ := mix_get n S.first hp
          have q0 : wr.cell? ⟨g, k * 2, none⟩ = some (.int .i64 p.1) := by rw [hrow.cellAt _ (by omega)]; exact m0
          have q1 : wr.cell? ⟨g, k * 2 + 1, none⟩ = some (.int .i64 (S.first + p.2)) := by rw [hrow.cellAt _ (by omega)]; exact m1
          have qf : wr.frozen? ⟨g, k * 2 + 1, none⟩ = false := hrow.frozenAt _
          have hne : g ≠ r := by have := H.out.ne _ rfl; simpa using this
          obtain ⟨o1, o2⟩ := HOK.out.off _ (List.mem_of_getElem? hp)
          obtain ⟨p1, p2⟩ := p
          simp only at q0 q1 o1 o2
          have HP := Lib.hid hp
          have s1 : IntKind.i64.wrap (S.first + p2 - S.first) = p2 := by rw [IntWalk.i64_in _ ⟨by omega, by omega⟩]; omega
          have s2 : IntKind.i64.wrap (p2 + n) = p2 + n := by rw [IntWalk.i64_in _ ⟨by omega, by omega⟩]
          clear hp hrow m0 m1
          go_wp2
          go_still_tail 22, (by kernel_rfl)
          change wpList _ _ _ _ _ wr.drew
          go_wp2
          go_roundw
          case rel =>
            refine ⟨k + 1, by go_num, by omega, ?_, ?_, (HBL.out.setA _ _).drew⟩
            · show (wr.setCell _ _).heap[r]? = _
              rw [Below.heap_setCell _ _ _ _ (by simpa using Ne.symm hne)]
              exact HBK.out
            · have := (World.ownsRow.stored HRW.out (k * 2 + 1) (.int .i64 (n + p2))).1
              rw [mix_set n S.first HP.out] at this
              rw [show p2 + n = n + p2 by omega]
              exact own_keep this (fun _ _ => rfl)
          case measure => simp [intOf]; omega
        · obtain rfl : k = S.L.length := by omega
          go_wp2
          go_ret
          rw [HX.out]
          refine ⟨rfl, ⟨A, c, ⟨?_, ?_, H.out.ne, hlo, H.out.once⟩⟩, HBL.out.setR _ _⟩
          · simp only [World.setCell, Array.getElem?_modify, if_true]
            rw [HBK.out]; rfl
          · have := HRW.out
            rw [List.take_length, List.drop_length] at this
            refine own_keep (by simpa [ents] using this) fun g hg => Below.heap_setCell _ _ _ _ (fun e => ?_)
            cases A with
            | none => cases hg
            | some a => simp only [Value.ownBlock] at hg; injection hg with hg; exact H.out.ne a rfl (hg.trans e)

set_option maxHeartbeats 1000000 in
theorem refDoes_any {B r c : Nat} {S : Bk} {A : Option Addr} (k s n : Int) (w : World) (h : RS w B r S A c) (hi : BkOk S) (hlen : S.L.length < 100000) :
    Calls Try.prog 23 #[.pointer (some ⟨r, 0, none⟩), .agg #[.int .i64 k, .int .i64 s, .int .i64 n]] w (WRef B r A w (doB S k s n)) := by
  have HB := Lib.hid (Far.of_below (r := r) (A := A) ((Below.refl _ w).alloc (Nat.le_refl _) (.cells #[.int .i64 k, .int .i64 s, .int .i64 n] 29)))
  have HW := Lib.hid (h.keep (w' := w.alloc (.cells #[.int .i64 k, .int .i64 s, .int .i64 n] 29)) (fun _ _ hk => Below.heap_alloc _ _ _ hk))
  have HI := Lib.hid hi
  clear h hi
  by_cases h0 : k = 0
  · subst h0
    rw [show doB S 0 s n = openB S s from rfl]
    skip
    go_enter Try.func23, Try.ntmps23
    go_wp2_with fail
    refine (ropen_any s _ HW.out hlen).mono ?_
    rintro e w' ⟨rfl, hwb, hbel⟩
    have H := Lib.hid (And.intro hwb (HB.out.trans hbel))
    clear hwb hbel
    go_wp2
    go_ret
    exact ⟨rfl, H.out.1, H.out.2⟩
  by_cases h1 : k = 1
  · subst h1
    rw [show doB S 1 s n = shutB S s from rfl]
    clear h0
    go_enter Try.func23, Try.ntmps23
    go_wp2_with fail
    refine (rshut_any s _ HW.out hlen).mono ?_
    rintro e w' ⟨rfl, hwb, hbel⟩
    have H := Lib.hid (And.intro hwb (HB.out.trans hbel))
    clear hwb hbel
    go_wp2
    go_ret
    exact ⟨rfl, H.out.1, H.out.2⟩
  by_cases h2 : k = 2
  · subst h2
    rw [show doB S 2 s n = spendB S s n from rfl]
    clear h0 h1
    go_enter Try.func23, Try.ntmps23
    go_wp2_with fail
    refine (rspend_any s n _ HW.out HI.out hlen).mono ?_
    rintro e w' ⟨rfl, hwb, hbel⟩
    have H := Lib.hid (And.intro hwb (HB.out.trans hbel))
    clear hwb hbel
    go_wp2
    go_ret
    exact ⟨rfl, H.out.1, H.out.2⟩
  by_cases h3 : k = 3
  · subst h3
    rw [show doB S 3 s n = growB S s n from rfl]
    clear h0 h1 h2
    go_enter Try.func23, Try.ntmps23
    go_wp2_with fail
    refine (rgrow_any s n _ HW.out HI.out hlen).mono ?_
    rintro e w' ⟨rfl, hwb, hbel⟩
    have H := Lib.hid (And.intro hwb (HB.out.trans hbel))
    clear hwb hbel
    go_wp2
    go_ret
    exact ⟨rfl, H.out.1, H.out.2⟩
  by_cases h4 : k = 4
  · subst h4
    rw [show doB S 4 s n = firstB S n from rfl]
    clear h0 h1 h2 h3
    go_enter Try.func23, Try.ntmps23
    go_wp2_with fail
    refine (rfirst_any n _ HW.out HI.out hlen).mono ?_
    rintro e w' ⟨rfl, hwb, hbel⟩
    have H := Lib.hid (And.intro hwb (HB.out.trans hbel))
    clear hwb hbel
    go_wp2
    go_ret
    exact ⟨rfl, H.out.1, H.out.2⟩
  have hd : doB S k s n = (0, S) := by unfold doB; rw [if_neg h0, if_neg h1, if_neg h2, if_neg h3, if_neg h4]
  rw [hd]
  have e0 : (k == 0) = false := by simpa using h0
  have e1 : (k == 1) = false := by simpa using h1
  have e2 : (k == 2) = false := by simpa using h2
  have e3 : (k == 3) = false := by simpa using h3
  have e4 : (k == 4) = false := by simpa using h4
  clear hd h0 h1 h2 h3 h4
  go_enter Try.func23, Try.ntmps23
  go_wp2
  go_ret
  exact ⟨rfl, ⟨_, _, HW.out⟩, HB.out⟩
end Go.Proofs.Ytoicclgcbemffaa
