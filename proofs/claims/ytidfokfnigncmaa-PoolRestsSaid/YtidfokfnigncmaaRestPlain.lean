/- What is put comes again, the latest first; what rested too long doesn't. No program in sight. -/
import Derived.Test.YtidfokfnigncmaaReusePlain
import Derived.Test.YtidfokfnigncmaaPool12
namespace Go.Proofs.Ytidfokfnigncmaa
open Go.RowKit

/-- n connections of one origin; the first j of them are idle. -/
def LQ (o : Int) (ts : List Int) (n j : Nat) : List Ln := (List.range n).map fun (i : Nat) => ⟨(i : Int) + 1, o, if i < j then ts.getD i 0 else -1⟩
theorem mem_LQ {o : Int} {ts : List Int} {n j : Nat} {x : Ln} (h : x ∈ LQ o ts n j) : ∃ i, i < n ∧ x = ⟨(i : Int) + 1, o, if i < j then ts.getD i 0 else -1⟩ := by
  obtain ⟨i, hi, rfl⟩ := List.mem_map.1 h
  exact ⟨i, List.mem_range.1 hi, rfl⟩
theorem LQ_mem {o : Int} {ts : List Int} {n j i : Nat} (hi : i < n) : (⟨(i : Int) + 1, o, if i < j then ts.getD i 0 else -1⟩ : Ln) ∈ LQ o ts n j := List.mem_map.2 ⟨i, List.mem_range.2 hi, rfl⟩
theorem LQ_zero (o : Int) (ts ts' : List Int) (n : Nat) : LQ o ts n 0 = LQ o ts' n 0 := by
  unfold LQ
  exact List.map_congr_left fun i _ => by simp
theorem LQ_more (o : Int) (ts : List Int) (n : Nat) : LQ o ts (n + 1) 0 = LQ o ts n 0 ++ [⟨(n : Int) + 1, o, -1⟩] := by
  unfold LQ
  rw [List.range_succ, List.map_append]; rfl
theorem rest_get {N o k : Nat} {idl : Int} {now : Int} (hok : PlOk N ⟨4, idl, k, LQ o [] k 0⟩) (hk : k < 4) (ho : o < 4) (h0 : 0 ≤ now) (h1 : now ≤ 1099511627776) :
    (⟨4, idl, k, LQ o [] k 0⟩ : Pl).get o now = (((k : Int) + 1, true, 0), ⟨4, idl, (k : Int) + 1, LQ o [] (k + 1) 0⟩) := by
  have hno : ∀ x ∈ LQ (o : Int) [] k 0, x.org = (o : Int) → x.sn < 0 := fun x hx _ => by
    obtain ⟨i, hi, rfl⟩ := mem_LQ hx
    simp
  have hcn : cnt (LQ (o : Int) [] k 0) o ≤ k := by
    have := List.countP_le_length (p := fun x : Ln => decide (x.org = (o : Int))) (l := LQ (o : Int) [] k 0)
    unfold cnt
    simpa [LQ] using this
  unfold Pl.get
  rw [if_neg (by omega), bestOf_none hok.sorted hno]
  simp only
  rw [if_neg (by omega), LQ_more]
theorem rest_put {N o n j : Nat} {idl : Int} {ts : List Int} (hok : PlOk N ⟨4, idl, n, LQ o ts n j⟩) (hj : j < n) (h0 : 0 ≤ ts.getD j 0) (h1 : ts.getD j 0 ≤ 1099511627776) :
    (⟨4, idl, n, LQ o ts n j⟩ : Pl).put ((j : Int) + 1) (ts.getD j 0) = (0, ⟨4, idl, n, LQ o ts n (j + 1)⟩) := by
  have hm := LQ_mem (o := (o : Int)) (ts := ts) (j := j) hj
  rw [if_neg (Nat.lt_irrefl j)] at hm
  have hf := findId_mem hok.sorted hm
  unfold Pl.put
  rw [if_neg (by omega)]
  simp only at hf ⊢
  rw [hf]
  simp only
  rw [if_neg (by omega)]
  congr 2
  unfold setSn LQ
  rw [List.map_map]
  refine List.map_congr_left fun i _ => ?_
  simp only [Function.comp]
  by_cases e : i = j
  · subst e; simp
  · rw [if_neg (by omega)]
    by_cases e2 : i < j
    · rw [if_pos e2, if_pos (by omega)]
    · rw [if_neg e2, if_neg (by omega)]
theorem rest_again {N o n j : Nat} {idl : Int} {ts : List Int} (hok : PlOk N ⟨4, idl, n, LQ o ts n (j + 1)⟩) (hj : j < n) (h0 : 0 ≤ ts.getD j 0) (h1 : ts.getD j 0 ≤ 1099511627776) :
    (⟨4, idl, n, LQ o ts n (j + 1)⟩ : Pl).put ((j : Int) + 1) (ts.getD j 0) = (5, ⟨4, idl, n, LQ o ts n (j + 1)⟩) := by
  have hm := LQ_mem (o := (o : Int)) (ts := ts) (j := j + 1) hj
  rw [if_pos (Nat.lt_succ_self j)] at hm
  have hf := findId_mem hok.sorted hm
  unfold Pl.put
  rw [if_neg (by omega)]
  simp only at hf ⊢
  rw [hf]
  exact if_pos h0
theorem expL_filter {lim : Int} : ∀ (n : Nat) (L : List Ln), L.Pairwise (fun a b => a.id < b.id) → (∀ x ∈ L, 0 ≤ x.sn) → L.length ≤ n → (expL n L lim).2 = L.filter (fun x => decide (lim < x.sn)) ∧ (expL n L lim).1.length + (expL n L lim).2.length = L.length := by
  intro n
  induction n with
  | zero =>
    intro L _ _ hl
    have : L = [] := List.eq_nil_of_length_eq_zero (by omega)
    subst this
    exact ⟨rfl, rfl⟩
  | succ n ih =>
    intro L hs hi hl
    have hg := minOf_good (lim := lim) hs
    cases hm : minOf L lim with
    | none =>
      rw [hm] at hg
      rw [expL_none hm]
      exact ⟨(List.filter_eq_self.2 fun x hx => by simpa using hg x hx (hi x hx)).symm, by simp⟩
    | some e =>
      rw [hm] at hg
      rw [expL_some hm]
      have e1 := drop_count (f := fun e : Ln => e.id) (fun _ => true) hs hg.1.1
      rw [List.countP_true] at e1
      have e2 : (dropId L e.id).length + 1 = L.length := by unfold dropId; simp at e1 ⊢; omega
      obtain ⟨i1, i2⟩ := ih (dropId L e.id) (hs.filter _) (fun x hx => hi x (List.mem_filter.1 hx).1) (by omega)
      refine ⟨?_, by simp only [List.length_cons]; omega⟩
      simp only
      rw [i1]
      unfold dropId
      rw [List.filter_filter]
      refine List.filter_congr fun x hx => ?_
      by_cases h1 : lim < x.sn
      · have : x.id ≠ e.id := fun h => by rw [sorted_inj hs hx hg.1.1 h] at h1; have := hg.2; omega
        simp [h1, this]
      · simp [h1]
theorem LQ_sn (o : Int) (ts : List Int) : (LQ o ts ts.length ts.length).map (·.sn) = ts := by
  apply List.ext_getElem?
  intro i
  unfold LQ
  rw [List.map_map, List.getElem?_map]
  by_cases h : i < ts.length
  · rw [List.getElem?_range h, List.getElem?_eq_getElem h]
    simp [Function.comp, h, List.getD_eq_getElem?_getD]
  · rw [List.getElem?_eq_none (by simp; omega), List.getElem?_eq_none (by omega)]; rfl
/-- Between the gets: i of them were asked for again. -/
structure RestInv (o : Nat) (ts : List Int) (lim before : Int) (left i : Nat) (P : Pl) : Prop where
  each : ∀ x ∈ P.L, ∃ j : Nat, x.id = j + 1 ∧ j < ts.length ∧ x.org = o ∧ (x.sn = -1 ∨ (x.sn = ts.getD j 0 ∧ lim < x.sn ∧ x.sn ≤ before ∧ 0 ≤ x.sn))
  idle : P.L.countP (fun x => decide (0 ≤ x.sn)) + i = left
  len : P.L.length = left
  mo : P.mo = 4
theorem rest_expire {N o : Nat} {idl now : Int} {ts : List Int} (hok : PlOk N ⟨4, idl, ts.length, LQ o ts ts.length ts.length⟩) (h0 : ∀ t ∈ ts, 0 ≤ t ∧ t ≤ 255) :
    ((⟨4, idl, ts.length, LQ o ts ts.length ts.length⟩ : Pl).expire now).1.length + ts.countP (fun t => decide (now - idl < t)) = ts.length ∧
    RestInv o ts (now - idl) 1099511627776 (ts.countP (fun t => decide (now - idl < t))) 0 ((⟨4, idl, ts.length, LQ o ts ts.length ts.length⟩ : Pl).expire now).2 := by
  have hidle : ∀ x ∈ LQ (o : Int) ts ts.length ts.length, ∃ j : Nat, x.id = j + 1 ∧ j < ts.length ∧ x.org = o ∧ x.sn = ts.getD j 0 ∧ 0 ≤ x.sn ∧ x.sn ≤ 255 := fun x hx => by
    obtain ⟨i, hi, rfl⟩ := mem_LQ hx
    have hm : ts.getD i 0 ∈ ts := by rw [List.getD_eq_getElem?_getD, List.getElem?_eq_getElem hi]; exact List.getElem_mem hi
    have := h0 _ hm
    refine ⟨i, rfl, hi, rfl, ?_, ?_, ?_⟩ <;> (simp only [hi, if_true]; try omega)
  have hcnt : ((LQ (o : Int) ts ts.length ts.length).filter (fun x => decide (now - idl < x.sn))).length = ts.countP (fun t => decide (now - idl < t)) := by
    rw [← List.countP_eq_length_filter]
    conv => rhs; rw [← LQ_sn (o : Int) ts, List.countP_map]
    rfl
  have hlen : (LQ (o : Int) ts ts.length ts.length).length = ts.length := by simp [LQ]
  have hres : ((⟨4, idl, ts.length, LQ o ts ts.length ts.length⟩ : Pl).expire now).2 = ⟨4, idl, ts.length, (LQ (o : Int) ts ts.length ts.length).filter (fun x => decide (now - idl < x.sn))⟩ ∧
      ((⟨4, idl, ts.length, LQ o ts ts.length ts.length⟩ : Pl).expire now).1.length + ((LQ (o : Int) ts ts.length ts.length).filter (fun x => decide (now - idl < x.sn))).length = ts.length := by
    unfold Pl.expire
    split
    · rename_i hlt
      simp only at hlt
      have : (LQ (o : Int) ts ts.length ts.length).filter (fun x => decide (now - idl < x.sn)) = LQ (o : Int) ts ts.length ts.length := List.filter_eq_self.2 fun x hx => by
        obtain ⟨j, _, _, _, _, h5, _⟩ := hidle x hx
        simp; omega
      rw [this]
      exact ⟨rfl, by simp [hlen]⟩
    · obtain ⟨a, b⟩ := expL_filter (lim := now - idl) (LQ (o : Int) ts ts.length ts.length).length (LQ (o : Int) ts ts.length ts.length) hok.sorted (fun x hx => by obtain ⟨j, _, _, _, _, h5, _⟩ := hidle x hx; exact h5) (Nat.le_refl _)
      simp only
      rw [a] at b
      exact ⟨by rw [a], by rw [b, hlen]⟩
  rw [hcnt] at hres
  refine ⟨hres.2, ?_⟩
  rw [hres.1]
  refine ⟨fun x hx => ?_, ?_, hcnt, rfl⟩
  · obtain ⟨h1, h2⟩ := List.mem_filter.1 hx
    have h2 : now - idl < x.sn := by simpa using h2
    obtain ⟨j, e1, e2, e3, e4, e5, e6⟩ := hidle x h1
    exact ⟨j, e1, e2, e3, .inr ⟨e4, h2, by omega, e5⟩⟩
  · rw [Nat.add_zero, ← hcnt]
    exact List.countP_eq_length.2 fun x hx => by
      obtain ⟨j, _, _, _, _, h5, _⟩ := hidle x (List.mem_filter.1 hx).1
      simpa using h5
theorem setSn_idle {L : List Ln} (hs : L.Pairwise (fun a b => a.id < b.id)) {e : Ln} (he : e ∈ L) (h0 : 0 ≤ e.sn) : (setSn L e.id (-1)).countP (fun x => decide (0 ≤ x.sn)) + 1 = L.countP (fun x => decide (0 ≤ x.sn)) := by
  induction L with
  | nil => cases he
  | cons x l ih =>
    rw [List.pairwise_cons] at hs
    unfold setSn at ih ⊢
    rw [List.map_cons, List.countP_cons, List.countP_cons]
    rcases List.mem_cons.1 he with h1 | h1
    · subst h1
      have e1 : l.map (fun x => if x.id = e.id then (⟨x.id, x.org, -1⟩ : Ln) else x) = l := by
        conv => rhs; rw [← List.map_id l]
        exact List.map_congr_left fun y hy => by have := hs.1 y hy; rw [if_neg (by omega)]; rfl
      rw [e1]
      simp [h0]
    · have := hs.1 e h1
      have hne : ¬ x.id = e.id := by omega
      rw [if_neg hne]
      have := ih hs.2 h1
      omega
theorem rest_best {N o left i : Nat} {ts : List Int} {lim before now : Int} {P : Pl} (hok : PlOk N P) (h : RestInv o ts lim before left i P) (hi : i < left) (ho : o < 4) (h0 : 0 ≤ now) (h1 : now ≤ 1099511627776) :
    ∃ (j : Nat) (P' : Pl), P.get o now = (((j : Int) + 1, false, 0), P') ∧ j < ts.length ∧ lim < ts.getD j 0 ∧ ts.getD j 0 ≤ before ∧ RestInv o ts lim (ts.getD j 0) left (i + 1) P' := by
  have hg := bestOf_good (o := (o : Int)) hok.sorted
  cases hb : bestOf P.L o with
  | none =>
    rw [hb] at hg
    have h2 := h.idle
    have : P.L.countP (fun x => decide (0 ≤ x.sn)) = 0 := List.countP_eq_zero.2 fun x hx => by
      obtain ⟨j, _, _, e3, _⟩ := h.each x hx
      have := hg x hx e3
      simp; omega
    omega
  | some e =>
    rw [hb] at hg
    obtain ⟨g1, g2, g3, g4⟩ := hg
    obtain ⟨j, e1, e2, e3, e4⟩ := h.each e g1
    rcases e4 with e4 | ⟨e4, e5, e6, e7⟩
    · omega
    refine ⟨j, { P with L := setSn P.L e.id (-1) }, ?_, e2, by omega, by omega, ⟨fun x hx => ?_, ?_, by simpa [setSn] using h.len, h.mo⟩⟩
    · unfold Pl.get
      rw [if_neg (by omega), hb]
      simp only [e1]
    · obtain ⟨y, hy, rfl⟩ := List.mem_map.1 hx
      obtain ⟨jy, f1, f2, f3, f4⟩ := h.each y hy
      by_cases he : y.id = e.id
      · rw [if_pos he]
        exact ⟨jy, f1, f2, f3, .inl rfl⟩
      · rw [if_neg he]
        refine ⟨jy, f1, f2, f3, ?_⟩
        rcases f4 with f4 | ⟨f4, f5, f6, f7⟩
        · exact .inl f4
        · have := g4 y hy f3 f7
          unfold lnLe at this
          exact .inr ⟨f4, f5, by omega, f7⟩
    · have := setSn_idle hok.sorted g1 g3
      have := h.idle
      simp only
      omega
theorem rest_last {N o left : Nat} {ts : List Int} {lim before now : Int} {P : Pl} (hok : PlOk N P) (h : RestInv o ts lim before left left P) (ho : o < 4) (h0 : 0 ≤ now) (h1 : now ≤ 1099511627776) :
    ∃ (a : Int) (P' : Pl), (left = 4 ∧ P.get o now = ((0, false, 3), P')) ∨ (left < 4 ∧ P.get o now = ((a, true, 0), P')) := by
  have hz : P.L.countP (fun x => decide (0 ≤ x.sn)) = 0 := by have := h.idle; omega
  have hno : ∀ x ∈ P.L, x.org = (o : Int) → x.sn < 0 := fun x hx _ => by
    have := List.countP_eq_zero.1 hz x hx
    simpa using this
  have hcn : cnt P.L o = left := by
    unfold cnt
    rw [← h.len]
    exact List.countP_eq_length.2 fun x hx => by
      obtain ⟨j, _, _, e3, _⟩ := h.each x hx
      simpa using e3
  have hr := hok.room o
  rw [hcn, h.mo] at hr
  by_cases h4 : left = 4
  · refine ⟨0, P, .inl ⟨h4, ?_⟩⟩
    unfold Pl.get
    rw [if_neg (by omega), bestOf_none hok.sorted hno]
    simp only
    rw [if_pos (by rw [hcn, h.mo]; omega)]
  · refine ⟨P.la + 1, { P with la := P.la + 1, L := P.L ++ [⟨P.la + 1, o, -1⟩] }, .inr ⟨by omega, ?_⟩⟩
    unfold Pl.get
    rw [if_neg (by omega), bestOf_none hok.sorted hno]
    simp only
    rw [if_neg (by rw [hcn, h.mo]; omega)]
end Go.Proofs.Ytidfokfnigncmaa
