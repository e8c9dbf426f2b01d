/- What a pool keeps of its bounds: the busy ones, the rooms. No program in sight. -/
import Derived.Test.YtidfokfnigncmaaPoolPlain
namespace Go.Proofs.Ytidfokfnigncmaa
open Go.RowKit

def busyL (L : List Ln) : List Int := (L.filter fun x => decide (x.sn < 0)).map (·.id)
/-- Who is busy is told once; the greatest number is the last one's. -/
structure BInv (n last : Int) (busy : List Int) (P : Pl) : Prop where
  perm : busy.Perm (busyL P.L)
  last : last = P.la
  mo : P.mo = n
section
variable {N : Nat} {P : Pl} {L : List Ln} {n last : Int} {busy : List Int}
theorem busyL_map (L : List Ln) (f : Ln → Ln) (hid : ∀ x, (f x).id = x.id) (p : Ln → Bool) (hp : ∀ x ∈ L, decide ((f x).sn < 0) = p x) : busyL (L.map f) = (L.filter p).map (·.id) := by
  unfold busyL
  rw [List.filter_map, List.map_map]
  have e1 : L.filter ((fun x => decide (x.sn < 0)) ∘ f) = L.filter p := List.filter_congr fun x hx => hp x hx
  rw [e1]
  exact List.map_congr_left fun x _ => hid x
theorem busyL_put (L : List Ln) (id s : Int) (hs : 0 ≤ s) : busyL (setSn L id s) = (busyL L).filter (fun k => decide (k ≠ id)) := by
  unfold setSn
  rw [busyL_map L _ (fun x => by split <;> rfl) (fun x => decide (x.sn < 0) && decide (x.id ≠ id)) (fun x _ => by
    by_cases h : x.id = id
    · rw [if_pos h]; simp [h]; exact hs
    · rw [if_neg h]; simp [h])]
  unfold busyL
  rw [List.filter_map, List.filter_filter]
  congr 1
  exact List.filter_congr fun x _ => by simp [Function.comp, Bool.and_comm]
theorem busyL_drop (L : List Ln) (id : Int) : busyL (dropId L id) = (busyL L).filter (fun k => decide (k ≠ id)) := by
  unfold busyL dropId
  rw [List.filter_map, List.filter_filter, List.filter_filter]
  congr 1
  exact List.filter_congr fun x _ => by simp [Function.comp, Bool.and_comm]
theorem BInv.filter (h : BInv n last busy P) (id : Int) {P' : Pl} (hL : busyL P'.L = (busyL P.L).filter (fun k => decide (k ≠ id))) (hla : P'.la = P.la) (hmo : P'.mo = P.mo) : BInv n last (busy.filter (fun k => decide (k ≠ id))) P' :=
  ⟨by rw [hL]; exact h.perm.filter _, h.last.trans hla.symm, hmo.trans h.mo⟩
theorem BInv.put (h : BInv n last busy P) (id now : Int) : ((P.put id now).1 = 0 → BInv n last (busy.filter (fun k => decide (k ≠ id))) (P.put id now).2) ∧ ((P.put id now).1 ≠ 0 → BInv n last busy (P.put id now).2) := by
  unfold Pl.put
  split
  · exact ⟨fun h => by simp at h, fun _ => h⟩
  · split
    · exact ⟨fun h => by simp at h, fun _ => h⟩
    · split
      · exact ⟨fun h => by simp at h, fun _ => h⟩
      · exact ⟨fun _ => h.filter id (busyL_put _ _ _ (by omega)) rfl rfl, fun h => by simp at h⟩
theorem BInv.drop (h : BInv n last busy P) (id : Int) : ((P.drop id).1 = 0 → BInv n last (busy.filter (fun k => decide (k ≠ id))) (P.drop id).2) ∧ ((P.drop id).1 ≠ 0 → BInv n last busy (P.drop id).2) := by
  unfold Pl.drop
  split
  · exact ⟨fun h => by simp at h, fun _ => h⟩
  · exact ⟨fun _ => h.filter id (busyL_drop _ _) rfl rfl, fun h => by simp at h⟩
theorem mem_busyL {id : Int} : id ∈ busyL L ↔ ∃ x ∈ L, x.sn < 0 ∧ x.id = id := by
  unfold busyL
  simp [List.mem_map, List.mem_filter, and_assoc]
theorem busyL_app (L : List Ln) (x : Ln) (hx : x.sn < 0) : busyL (L ++ [x]) = busyL L ++ [x.id] := by
  unfold busyL
  simp [hx]
/-- One that rested comes to work: its number is put among the busy ones' somewhere. -/
theorem busyL_take : ∀ {L : List Ln}, L.Pairwise (fun a b => a.id < b.id) → ∀ {e : Ln}, e ∈ L → 0 ≤ e.sn → (busyL (setSn L e.id (-1))).Perm (busyL L ++ [e.id])
  | [], _, e, he, _ => by cases he
  | x :: l, hs, e, he, h0 => by
    rw [List.pairwise_cons] at hs
    have hc : ∀ (y : Ln) (l : List Ln), busyL (y :: l) = if y.sn < 0 then y.id :: busyL l else busyL l := fun y l => by
      unfold busyL
      rw [List.filter_cons]
      by_cases h : y.sn < 0 <;> simp [h]
    have hset : setSn (x :: l) e.id (-1) = (if x.id = e.id then (⟨x.id, x.org, -1⟩ : Ln) else x) :: setSn l e.id (-1) := rfl
    rw [hset]
    rcases List.mem_cons.1 he with rfl | he
    · have hno : setSn l e.id (-1) = l := by
        unfold setSn
        conv => rhs; rw [← List.map_id l]
        exact List.map_congr_left fun y hy => by rw [if_neg (by have := hs.1 y hy; omega)]; rfl
      rw [if_pos rfl, hno, hc, hc]
      rw [if_pos (by simp), if_neg (by omega)]
      exact (List.perm_append_singleton e.id (busyL l)).symm
    · have hne : x.id ≠ e.id := by have := hs.1 e he; omega
      rw [if_neg hne, hc, hc]
      have ih := busyL_take hs.2 he h0
      split
      · exact ih.cons x.id
      · exact ih
/-- What Get hands back. -/
theorem BInv.get (h : BInv n last busy P) (hok : PlOk N P) (o now : Int) :
    (∃ e, 0 < e ∧ P.get o now = ((0, false, e), P)) ∨
    (∃ id P', P.get o now = ((id, false, 0), P') ∧ id ∉ busy ∧ id ≤ last ∧ BInv n last (busy ++ [id]) P') ∨
    (∃ P', P.get o now = ((last + 1, true, 0), P') ∧ last + 1 ∉ busy ∧ BInv n (last + 1) (busy ++ [last + 1]) P') := by
  unfold Pl.get
  split
  · exact .inl ⟨1, by omega, rfl⟩
  · split
    · rename_i e he
      right; left
      have hg := bestOf_good (o := o) hok.sorted
      rw [he] at hg
      refine ⟨e.id, _, rfl, fun hm => ?_, ?_, ?_⟩
      · obtain ⟨x, hx, hxs, hxi⟩ := mem_busyL.1 (h.perm.mem_iff.1 hm)
        have := sorted_inj hok.sorted hx hg.1 hxi
        subst this
        have := hg.2.2.1
        omega
      · have := (hok.each e hg.1).2.1
        rw [h.last]; exact this
      · exact ⟨(h.perm.append_right _).trans (busyL_take hok.sorted hg.1 hg.2.2.1).symm, h.last, h.mo⟩
    · split
      · exact .inl ⟨3, by omega, rfl⟩
      · right; right
        refine ⟨{ P with la := P.la + 1, L := P.L ++ [⟨P.la + 1, o, -1⟩] }, by rw [h.last], fun hm => ?_, ?_⟩
        · obtain ⟨x, hx, _, hxi⟩ := mem_busyL.1 (h.perm.mem_iff.1 hm)
          have := (hok.each x hx).2.1
          rw [h.last] at hxi
          omega
        · refine ⟨?_, by simp only; rw [h.last], h.mo⟩
          simp only
          rw [busyL_app _ _ (by simp), h.last]
          exact h.perm.append_right _
theorem busyL_dropIdle (hs : L.Pairwise (fun a b => a.id < b.id)) {e : Ln} (he : e ∈ L) (h0 : 0 ≤ e.sn) : busyL (dropId L e.id) = busyL L := by
  rw [busyL_drop]
  refine List.filter_eq_self.2 fun k hk => ?_
  obtain ⟨x, hx, hxs, hxi⟩ := mem_busyL.1 hk
  simp only [decide_eq_true_eq]
  rintro rfl
  have := sorted_inj hs hx he hxi
  subst this
  omega
theorem expL_busy (lim : Int) : ∀ (k : Nat) (L : List Ln), L.Pairwise (fun a b => a.id < b.id) → busyL (expL k L lim).2 = busyL L ∧ (∀ x ∈ (expL k L lim).2, x ∈ L) ∧ ∀ id ∈ (expL k L lim).1, ∀ x ∈ (expL k L lim).2, x.id ≠ id
  | 0, L, _ => ⟨rfl, fun x hx => hx, fun id h => by cases h⟩
  | k + 1, L, hs => by
    unfold expL
    have hg := minOf_good (lim := lim) hs
    split
    · exact ⟨rfl, fun x hx => hx, fun id h => by cases h⟩
    · rename_i e he
      rw [he] at hg
      obtain ⟨a, b, c⟩ := expL_busy lim k (dropId L e.id) (hs.filter _)
      refine ⟨a.trans (busyL_dropIdle hs hg.1.1 hg.1.2.1), fun x hx => (List.mem_filter.1 (b x hx)).1, fun id hid x hx => ?_⟩
      rcases List.mem_cons.1 hid with rfl | hid
      · have := (List.mem_filter.1 (b x hx)).2
        simpa using this
      · exact c id hid x hx
theorem expL_mem (lim : Int) : ∀ (k : Nat) (L : List Ln), L.Pairwise (fun a b => a.id < b.id) → ∀ id ∈ (expL k L lim).1, ∃ x ∈ L, x.id = id
  | 0, L, _, id, h => by cases h
  | k + 1, L, hs, id, h => by
    unfold expL at h
    have hg := minOf_good (lim := lim) hs
    split at h
    · cases h
    · rename_i e he
      rw [he] at hg
      rcases List.mem_cons.1 h with rfl | h
      · exact ⟨e, hg.1.1, rfl⟩
      · obtain ⟨x, hx, hi⟩ := expL_mem lim k (dropId L e.id) (hs.filter _) id h
        exact ⟨x, (List.mem_filter.1 hx).1, hi⟩
theorem expire_mem (hok : PlOk N P) (now : Int) : ∀ id ∈ (P.expire now).1, 1 ≤ id ∧ id ≤ P.la := by
  unfold Pl.expire
  split
  · intro id h; cases h
  · intro id h
    obtain ⟨x, hx, rfl⟩ := expL_mem _ _ _ hok.sorted id h
    have := hok.each x hx
    omega
theorem expL_len (n : Nat) : ∀ (L : List Ln) (lim : Int), (expL n L lim).1.length ≤ n := by
  induction n with
  | zero => intro L lim; exact Nat.le_refl _
  | succ n ih =>
    intro L lim
    unfold expL
    split
    · exact Nat.zero_le _
    · rename_i e he
      simp only [List.length_cons]
      have := ih (dropId L e.id) lim
      omega
theorem expire_len (P : Pl) (t : Int) : (P.expire t).1.length ≤ P.L.length := by
  unfold Pl.expire
  split
  · exact Nat.zero_le _
  · exact expL_len _ _ _
theorem BInv.expire (h : BInv n last busy P) (hok : PlOk N P) (now : Int) : BInv n last busy (P.expire now).2 ∧ ∀ id ∈ (P.expire now).1, (P.expire now).2.origin id = (0, false) := by
  unfold Pl.expire
  split
  · exact ⟨h, fun id hid => by cases hid⟩
  · obtain ⟨a, b, c⟩ := expL_busy (now - P.idl) P.L.length P.L hok.sorted
    refine ⟨⟨by simp only; rw [a]; exact h.perm, h.last, h.mo⟩, fun id hid => ?_⟩
    unfold Pl.origin
    have : findId (expL P.L.length P.L (now - P.idl)).2 id = none := by
      unfold findId
      exact List.find?_eq_none.2 fun x hx => by simpa using c id hid x hx
    simp only
    rw [this]
/-- Of o origins and below: how many work. -/
def busyN (L : List Ln) (o : Nat) : Nat := L.countP (fun x => decide (x.org < (o : Int) ∧ x.sn < 0))
theorem busyN_zero (hok : PlOk N P) : busyN P.L 0 = 0 := List.countP_eq_zero.2 fun x hx => by
  have := hok.each x hx
  simp only [decide_eq_true_eq]
  omega
theorem cnt_idle (L : List Ln) (o : Int) : (cnt L o : Int) - idleN L o = L.countP (fun x => decide (x.org = o ∧ x.sn < 0)) := by
  unfold cnt idleN
  induction L with
  | nil => rfl
  | cons x l ih =>
    simp only [List.countP_cons]
    by_cases h1 : x.org = o
    · by_cases h2 : x.sn < 0
      · have : ¬ 0 ≤ x.sn := by omega
        simp [h1, h2, this] at *; omega
      · have : 0 ≤ x.sn := by omega
        simp [h1, h2, this] at *; omega
    · simp [h1] at *; omega
theorem busyN_succ (L : List Ln) (o : Nat) : (busyN L (o + 1) : Int) = busyN L o + ((cnt L o : Int) - idleN L o) := by
  rw [cnt_idle]
  unfold busyN
  induction L with
  | nil => rfl
  | cons x l ih =>
    simp only [List.countP_cons]
    have key : (if decide (x.org < ((o + 1 : Nat) : Int) ∧ x.sn < 0) = true then (1 : Nat) else 0) = (if decide (x.org < (o : Int) ∧ x.sn < 0) = true then 1 else 0) + (if decide (x.org = (o : Int) ∧ x.sn < 0) = true then 1 else 0) := by
      simp only [decide_eq_true_eq]
      repeat' split
      all_goals omega
    omega
theorem busyN_all (hok : PlOk N P) (h : BInv n last busy P) : busyN P.L 4 = busy.length := by
  rw [h.perm.length_eq]
  unfold busyL busyN
  rw [List.length_map, ← List.countP_eq_length_filter]
  refine List.countP_congr fun x hx => ?_
  have := hok.each x hx
  simp only [decide_eq_true_eq]
  omega
theorem len_cnt (hok : PlOk N P) : P.L.length = cnt P.L 0 + cnt P.L 1 + cnt P.L 2 + cnt P.L 3 := by
  have : ∀ L : List Ln, (∀ x ∈ L, 0 ≤ x.org ∧ x.org < 4) → L.length = cnt L 0 + cnt L 1 + cnt L 2 + cnt L 3 := by
    intro L
    unfold cnt
    induction L with
    | nil => intro _; rfl
    | cons x l ih =>
      intro h
      have h1 := h x (by simp)
      have h2 := ih fun y hy => h y (by simp [hy])
      simp only [List.countP_cons, List.length_cons]
      have : x.org = 0 ∨ x.org = 1 ∨ x.org = 2 ∨ x.org = 3 := by omega
      rcases this with e | e | e | e <;> simp [e] <;> omega
  exact this P.L fun x hx => by
    have := hok.each x hx
    omega
theorem len_room (hok : PlOk N P) : (P.L.length : Int) ≤ P.mo * 4 := by
  have h0 := hok.room 0
  have h1 := hok.room 1
  have h2 := hok.room 2
  have h3 := hok.room 3
  have := len_cnt hok
  omega
end
end Go.Proofs.Ytidfokfnigncmaa
