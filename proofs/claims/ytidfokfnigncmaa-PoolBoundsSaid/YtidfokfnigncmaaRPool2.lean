/- The walks of drawbridgeref16.Count, Put. -/
import Derived.Test.YtidfokfnigncmaaRPool1
namespace Go.Proofs.Ytidfokfnigncmaa
open Go.RowKit

theorem Lies.setG {w : World} {q o c n j size : Nat} {e : TypeId} {xs : List Value} (h : Lies w e size (.slice (some ⟨q, o, none⟩) n c) n xs) (hj : j < n * size) (u : Value) :
    Lies (w.setCell ⟨q, o + j, none⟩ u) e size (.slice (some ⟨q, o, none⟩) n c) n (xs.set j u) := by
  refine ⟨by rw [List.length_set]; exact h.1, ?_⟩
  rcases h.2 with ⟨h1, _⟩ | ⟨g, o', cap, cur, hv, hb, hn, hc, hs, hcell⟩
  · cases h1
  · injection hv with e1 e2 e3
    injection e1 with e1
    injection e1 with e1 e4
    subst e1 e3 e4
    refine .inr ⟨q, o, c, cur.setIfInBounds (o + j) u, rfl, set_block hb u, hn, hc, by simpa using hs, fun i hi => ?_⟩
    have h0 := hcell i hi
    unfold World.cell? at h0 ⊢
    rw [hb] at h0
    rw [set_block hb u]
    simp only [Option.isSome_none, Bool.false_eq_true, if_false] at h0 ⊢
    rw [Array.getElem?_setIfInBounds, List.getElem?_set]
    have hl := h.1
    have hnc : n * size ≤ c * size := Nat.mul_le_mul_right _ hn
    by_cases e : j = i
    · subst e
      rw [if_pos rfl, if_pos rfl, if_pos (by omega), if_pos (by omega)]
    · rw [if_neg (by omega), if_neg e]
      exact h0
theorem lcs_set {L : List Ln} : ∀ {i : Nat} {x : Ln} (s : Int), L[i]? = some x → lcs (L.set i ⟨x.id, x.org, s⟩) = (lcs L).set (i * 3 + 2) (.int .i64 s) := by
  induction L with
  | nil => intro i x s h; simp at h
  | cons y L ih =>
    intro i x s h
    cases i with
    | zero => simp at h; subst h; rfl
    | succ i =>
      rw [List.set_cons_succ, lcs_cons, lcs_cons, ih s (by simpa using h), show (i + 1) * 3 + 2 = (i * 3 + 2) + 1 + 1 + 1 by omega]
      rfl
theorem setSn_set {L : List Ln} (hs : L.Pairwise (fun a b => a.id < b.id)) {i : Nat} {x : Ln} (hi : L[i]? = some x) (s : Int) : setSn L x.id s = L.set i ⟨x.id, x.org, s⟩ := by
  apply List.ext_getElem?
  intro j
  unfold setSn
  rw [List.getElem?_map, List.getElem?_set]
  by_cases e : i = j
  · subst e
    have hl := (List.getElem?_eq_some_iff.1 hi).1
    rw [hi, if_pos rfl, if_pos hl]
    simp
  · rw [if_neg e]
    cases hj : L[j]? with
    | none => rfl
    | some y =>
      have : y.id ≠ x.id := fun h => by
        have h2 := sorted_inj hs (List.mem_of_getElem? hj) (List.mem_of_getElem? hi) h
        obtain ⟨l1, e1⟩ := List.getElem?_eq_some_iff.1 hi
        obtain ⟨l2, e2⟩ := List.getElem?_eq_some_iff.1 hj
        have hp := List.pairwise_iff_getElem.1 hs
        rcases Nat.lt_or_gt_of_ne e with h3 | h3
        · have := hp i j l1 l2 h3; rw [e1, e2, h2] at this; omega
        · have := hp j i l2 l1 h3; rw [e1, e2, h2] at this; omega
      simp [this]
def RPStep (W : World) (q : Nat) (F : Nat → Prop) (P' : Pl) (v : Value) (e : Ending) (w' : World) : Prop :=
  e = .returned v ∧ ∃ F', RPool w' q F' P' ∧ Kept F W w' ∧ Grew W F F'
section
variable {w w' : World} {q c : Nat} {A : Option Addr} {P : Pl} {F : Nat → Prop}
theorem RM.rowFree (h : RM w q A c P) {b o : Nat} (hA : A = some ⟨b, o, none⟩) (j : Nat) : w.frozen? ⟨b, j, none⟩ = false := by
  rcases h.row.2 with ⟨h1, _⟩ | ⟨g', o', cap, cur, hv, hbl, _⟩
  · rw [hA] at h1; cases h1
  · injection hv with e1
    rw [hA] at e1
    injection e1 with e1
    injection e1 with e1
    subst e1
    unfold World.frozen?; rw [hbl]; simp
/-- A connection's time is another. -/
theorem RM.setSn_ {b o : Nat} (h : RM w q (some ⟨b, o, none⟩) c P) (hs : P.L.Pairwise (fun a b => a.id < b.id)) {i : Nat} {x : Ln} (hi : P.L[i]? = some x) (s : Int) :
    RM (w.setCell ⟨b, o + i * 3 + 2, none⟩ (.int .i64 s)) q (some ⟨b, o, none⟩) c { P with L := setSn P.L x.id s } := by
  have hne := h.ne _ rfl
  have hil := (List.getElem?_eq_some_iff.1 hi).1
  have hlen : (setSn P.L x.id s).length = P.L.length := by simp [setSn]
  refine ⟨?_, ?_, h.ne⟩
  · rw [set_other _ (Ne.symm hne)]
    simp only [hlen]
    exact h.book
  · simp only [hlen]
    rw [setSn_set hs hi, lcs_set s hi]
    have := h.row.setG (j := i * 3 + 2) (by omega) (.int .i64 s)
    rwa [← Nat.add_assoc] at this
end
def RCntRel (L : List Ln) (o : Int) (bv nv kv : Value) : Prop :=
  ∃ k : Nat, kv = .int .i64 k ∧ bv = .int .i64 ((L.take k).countP (fun x => decide (x.org = o ∧ x.sn < 0)) : Nat) ∧ nv = .int .i64 ((L.take k).countP (fun x => decide (x.org = o ∧ 0 ≤ x.sn)) : Nat) ∧ k ≤ L.length
theorem take_countL {L : List Ln} {p : Ln → Bool} {k : Nat} {x : Ln} (hx : L[k]? = some x) : (L.take (k + 1)).countP p = (L.take k).countP p + if p x then 1 else 0 := by
  rw [List.take_add_one, hx, Option.toList_some, List.countP_append]
  simp [List.countP_cons]
theorem cnt_split (L : List Ln) (o : Int) : L.countP (fun x => decide (x.org = o ∧ x.sn < 0)) + idleN L o = cnt L o := by
  unfold idleN cnt
  induction L with
  | nil => rfl
  | cons x l ih =>
    rw [List.countP_cons, List.countP_cons, List.countP_cons]
    by_cases h : x.org = o
    · by_cases h2 : x.sn < 0
      · rw [show decide (x.org = o ∧ x.sn < 0) = true by simp [h, h2], show decide (x.org = o ∧ 0 ≤ x.sn) = false by simp; intro _; omega, show decide (x.org = o) = true by simp [h]]
        simp only [if_true, Bool.false_eq_true, if_false]
        omega
      · rw [show decide (x.org = o ∧ x.sn < 0) = false by simp; intro _; omega, show decide (x.org = o ∧ 0 ≤ x.sn) = true by simp [h]; omega, show decide (x.org = o) = true by simp [h]]
        simp only [if_true, Bool.false_eq_true, if_false]
        omega
    · rw [show decide (x.org = o ∧ x.sn < 0) = false by simp [h], show decide (x.org = o ∧ 0 ≤ x.sn) = false by simp [h], show decide (x.org = o) = false by simp [h]]
      simp only [Bool.false_eq_true, if_false]
      omega
set_option maxHeartbeats 2000000 in
theorem rcount_any {q : Nat} {F : Nat → Prop} {P : Pl} (o : Int) (w : World) (h : RPool w q F P) (hl : P.L.length ≤ 1099511627776) :
    Calls Try.prog 21 #[.pointer (some ⟨q, 0, none⟩), .int .i64 o] w fun e w' => e = .returned (.tuple #[.int .i64 (P.count o).1, .int .i64 (P.count o).2]) ∧ w = w' := by
  obtain ⟨A, c, rfl, h⟩ := h
  obtain ⟨-, -, -, c3⟩ := h.cells
  have HH := Lib.hid h
  obtain ⟨n, hn⟩ : ∃ n, P.L.length = n := ⟨_, rfl⟩
  have HN := Lib.hid hn
  rw [hn] at c3 hl
  clear h hn
  go_enter Try.func21, Try.ntmps21
  go_wp2
  go_loop [6, 7, 8] (fun bv nv kv => RCntRel P.L o bv nv kv) (fun _ _ kv => n - (intOf kv).toNat)
  case atStart => exact ⟨0, rfl, rfl, rfl, Nat.zero_le _⟩
  case round =>
    obtain ⟨k, rfl, rfl, rfl, hk⟩ := hrel
    rw [HN.out] at hk
    by_cases hlt : k < n
    · obtain ⟨x, hx⟩ : ∃ x, P.L[k]? = some x := ⟨_, List.getElem?_eq_getElem (by rw [HN.out]; exact hlt)⟩
      obtain ⟨b, oo, rfl, hb, -, q1, q2⟩ := HH.out.at_ hx
      have HT1 := Lib.hid (take_countL (p := fun x => decide (x.org = o ∧ x.sn < 0)) hx)
      have HT2 := Lib.hid (take_countL (p := fun x => decide (x.org = o ∧ 0 ≤ x.sn)) hx)
      have b1 : (P.L.take k).countP (fun x => decide (x.org = o ∧ x.sn < 0)) ≤ k := Nat.le_trans List.countP_le_length (List.length_take_le _ _)
      have b2 : (P.L.take k).countP (fun x => decide (x.org = o ∧ 0 ≤ x.sn)) ≤ k := Nat.le_trans List.countP_le_length (List.length_take_le _ _)
      obtain ⟨c1, hc1⟩ : ∃ c1, (P.L.take k).countP (fun x => decide (x.org = o ∧ x.sn < 0)) = c1 := ⟨_, rfl⟩
      obtain ⟨c2, hc2⟩ : ∃ c2, (P.L.take k).countP (fun x => decide (x.org = o ∧ 0 ≤ x.sn)) = c2 := ⟨_, rfl⟩
      have HC1 := Lib.hid hc1
      have HC2 := Lib.hid hc2
      rw [hc1] at b1 ⊢
      rw [hc2] at b2 ⊢
      have n1 : (k : Int) < n := by omega
      have n0 : (0 : Int) ≤ k := by omega
      clear hx hc1 hc2
      by_cases he : x.org = o
      · rw [he] at q1
        by_cases hs : x.sn < 0
        · have HD1 : Hid (decide (x.org = o ∧ x.sn < 0) = true) := Lib.hid (by simp [he, hs])
          have HD2 : Hid (decide (x.org = o ∧ 0 ≤ x.sn) = false) := Lib.hid (by simp; intro _; omega)
          clear he
          go_wp2_with fail
          go_round
          case rel => exact ⟨k + 1, by go_num, by rw [HT1.out, HC1.out, HD1.out, if_pos rfl]; go_num, by rw [HT2.out, HC2.out, HD2.out]; simp, by rw [HN.out]; omega⟩
          case measure => simp [intOf]; omega
        · have HD1 : Hid (decide (x.org = o ∧ x.sn < 0) = false) := Lib.hid (by simp; intro _; omega)
          have HD2 : Hid (decide (x.org = o ∧ 0 ≤ x.sn) = true) := Lib.hid (by simp [he]; omega)
          clear he
          go_wp2_with fail
          go_round
          case rel => exact ⟨k + 1, by go_num, by rw [HT1.out, HC1.out, HD1.out]; simp, by rw [HT2.out, HC2.out, HD2.out, if_pos rfl]; go_num, by rw [HN.out]; omega⟩
          case measure => simp [intOf]; omega
      · have hd : (x.org == o) = false := by simpa using he
        have HD1 : Hid (decide (x.org = o ∧ x.sn < 0) = false) := Lib.hid (by simp [he])
        have HD2 : Hid (decide (x.org = o ∧ 0 ≤ x.sn) = false) := Lib.hid (by simp [he])
        have hdn : (x.org != o) = true := by simpa using he
        clear he
        go_wp2_with fail
        go_round
        case rel => exact ⟨k + 1, by go_num, by rw [HT1.out, HC1.out, HD1.out]; simp, by rw [HT2.out, HC2.out, HD2.out]; simp, by rw [HN.out]; omega⟩
        case measure => simp [intOf]; omega
    · obtain rfl : k = n := by omega
      rw [List.take_of_length_le (by rw [HN.out]; exact Nat.le_refl _)]
      have hsp := cnt_split P.L o
      have hct : P.count o = (((P.L.countP (fun x => decide (x.org = o ∧ x.sn < 0)) : Nat) : Int), ((P.L.countP (fun x => decide (x.org = o ∧ 0 ≤ x.sn)) : Nat) : Int)) := by
        unfold Pl.count
        unfold idleN at hsp ⊢
        congr 1
        omega
      obtain ⟨c1, hc1⟩ : ∃ c1, P.L.countP (fun x => decide (x.org = o ∧ x.sn < 0)) = c1 := ⟨_, rfl⟩
      obtain ⟨c2, hc2⟩ : ∃ c2, P.L.countP (fun x => decide (x.org = o ∧ 0 ≤ x.sn)) = c2 := ⟨_, rfl⟩
      rw [hc1, hc2] at hct ⊢
      have HCT := Lib.hid hct
      clear hsp hct hc1 hc2
      go_wp2_with fail
      go_ret2
      rw [HCT.out]
      exact ⟨rfl, rfl⟩
set_option maxHeartbeats 1000000 in
theorem rput_any {q : Nat} {F : Nat → Prop} {P : Pl} (id now : Int) (w : World) (h : RPool w q F P) (hl : P.L.length ≤ 1099511627776) (hs : P.L.Pairwise (fun a b => a.id < b.id)) :
    Calls Try.prog 15 #[.pointer (some ⟨q, 0, none⟩), .int .i64 id, .int .i64 now] w (RPStep w q F (P.put id now).2 (.int .i64 (P.put id now).1)) := by
  have HHH := Lib.hid h
  by_cases ht : now < 0 ∨ 1099511627776 < now
  · have HO : Hid (P.put id now = (1, P)) := Lib.hid (by unfold Pl.put; rw [if_pos ht])
    clear h
    by_cases h1 : now < 0
    · clear ht
      go_enter Try.func15, Try.ntmps15
      go_wp2_with fail
      go_ret
      rw [HO.out]
      exact ⟨rfl, _, HHH.out, Kept.refl _ _, Grew.refl _ _⟩
    · have h2 : 1099511627776 < now := by omega
      clear ht
      go_enter Try.func15, Try.ntmps15
      go_wp2_with fail
      go_ret
      rw [HO.out]
      exact ⟨rfl, _, HHH.out, Kept.refl _ _, Grew.refl _ _⟩
  have ht0 : 0 ≤ now := by omega
  have ht1 : now ≤ 1099511627776 := by omega
  have HF := Lib.hid (rfind_any id w h hl)
  obtain ⟨A, c, rfl, h⟩ := h
  obtain ⟨-, -, -, c3⟩ := h.cells
  rcases placeOf_cases P.L id with ⟨e1, e2⟩ | ⟨i, x, hi, e1, e2, e3⟩
  · have HO : Hid (P.put id now = (4, P)) := Lib.hid (by unfold Pl.put; rw [if_neg ht, e2])
    rw [e1] at HF
    clear h e1 e2 ht
    go_enter Try.func15, Try.ntmps15
    go_wp2_with fail
    refine HF.out.mono ?_
    rintro e w1 ⟨rfl, rfl⟩
    go_wp2_with fail
    go_ret
    rw [HO.out]
    exact ⟨rfl, _, HHH.out, Kept.refl _ _, Grew.refl _ _⟩
  · rw [e1] at HF
    obtain ⟨b, o, rfl, hb, -, -, q2⟩ := h.at_ hi
    have fz := h.rowFree rfl (o + i * 3 + 2)
    have hil := (List.getElem?_eq_some_iff.1 hi).1
    obtain ⟨n, hn⟩ : ∃ n, P.L.length = n := ⟨_, rfl⟩
    rw [hn] at c3 hil hl
    have n1 : (i : Int) < n := by omega
    have n0 : (0 : Int) ≤ i := by omega
    by_cases hb1 : 0 ≤ x.sn
    · have HO : Hid (P.put id now = (5, P)) := Lib.hid (by unfold Pl.put; rw [if_neg ht, e2]; exact if_pos hb1)
      clear h hi e1 e2 e3 hn ht
      go_enter Try.func15, Try.ntmps15
      go_wp2_with fail
      refine HF.out.mono ?_
      rintro e w1 ⟨rfl, rfl⟩
      go_wp2_with fail
      go_ret
      rw [HO.out]
      exact ⟨rfl, _, HHH.out, Kept.refl _ _, Grew.refl _ _⟩
    · have HO : Hid (P.put id now = (0, { P with L := setSn P.L id now })) := Lib.hid (by unfold Pl.put; rw [if_neg ht, e2]; exact if_neg hb1)
      have hset := h.setSn_ hs hi now
      rw [e3] at hset
      have HS := Lib.hid hset
      clear h hi e1 e2 e3 hn ht hset hs
      go_enter Try.func15, Try.ntmps15
      go_wp2_with fail
      refine HF.out.mono ?_
      rintro e w1 ⟨rfl, rfl⟩
      go_wp2_with fail
      go_ret
      rw [HO.out]
      exact ⟨rfl, _, ⟨_, c, rfl, HS.out⟩, (Kept.refl _ _).setCell (.inr ⟨_, rfl, rfl⟩) _ _, Grew.refl _ _⟩
end Go.Proofs.Ytidfokfnigncmaa
