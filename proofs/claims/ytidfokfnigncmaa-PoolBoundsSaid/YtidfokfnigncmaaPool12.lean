/- The walk of pool.Drop. -/
import Derived.Test.YtidfokfnigncmaaPool11
namespace Go.Proofs.Ytidfokfnigncmaa
open Go.RowKit

theorem drop_count {α : Type} {f : α → Int} (p : α → Bool) {l : List α} (hs : l.Pairwise (fun a b => f a < f b)) {a : α} (ha : a ∈ l) : (l.filter fun x => decide (f x ≠ f a)).countP p + (if p a then 1 else 0) = l.countP p := by
  induction l with
  | nil => cases ha
  | cons x l ih =>
    rw [List.pairwise_cons] at hs
    rcases List.mem_cons.1 ha with h1 | h1
    · subst h1
      have e : (l.filter fun x => decide (f x ≠ f a)) = l := List.filter_eq_self.2 fun y hy => by have := hs.1 y hy; simp; omega
      rw [List.filter_cons_of_neg (by simp), e, List.countP_cons]
    · have := hs.1 a h1
      rw [List.filter_cons_of_pos (by simp; omega), List.countP_cons, List.countP_cons]
      have := ih hs.2 h1
      omega
def dropE (E : List (Nat × Ln)) (id : Int) : List (Nat × Ln) := E.filter fun e => decide (e.2.id ≠ id)
theorem dropE_snd (E : List (Nat × Ln)) (id : Int) : (dropE E id).map (·.2) = dropId (E.map (·.2)) id := by
  unfold dropE dropId
  rw [List.filter_map]; rfl
theorem dropE_blk (E : List (Nat × Ln)) (id j : Int) : blkOf (dropE E id) j = if j = id then none else blkOf E j := by
  unfold blkOf dropE
  rw [List.find?_filter]
  by_cases e : j = id
  · subst e
    rw [if_pos rfl]
    have : E.find? (fun a => decide (decide (a.2.id ≠ j) = true ∧ decide (a.2.id = j) = true)) = none := List.find?_eq_none.2 fun x _ => by simp
    simp at this ⊢
  · rw [if_neg e]
    have : (fun a : Nat × Ln => decide (decide (a.2.id ≠ id) = true ∧ decide (a.2.id = j) = true)) = fun a => decide (a.2.id = j) := by
      funext a
      by_cases h : a.2.id = j
      · simp [h, e]
      · simp [h]
    rw [this]
section
variable {w w' : World} {g mb c N : Nat} {A : Option Addr} {H : List Nat} {m : Nat → Lk} {E : List (Nat × Ln)} {B : Bk} {P : Pl}
/-- One connection is gone. -/
theorem PM.gone (h : PM w g mb A c N H m E B P) {b o : Nat} {x : Ln} (hx : (b, x) ∈ E) (ho : x.org = o) {H' : List Nat} (hm : HM w' g mb (B.inc o (-1)) A c H' m) (hp : IsHeap m H' H'.length)
    (hH : ∀ k, k ≠ b → (k ∈ H' ↔ k ∈ H)) (hb : b ∉ H') (hk : ∀ k y, (k, y) ∈ E → k ≠ b → k ∉ H → w'.heap[k]? = w.heap[k]?) (hmp : MapIs w' mb N (fun j => if j = x.id then none else blkOf E j) (E.length - 1)) :
    PM w' g mb A c N H' m (dropE E x.id) (B.inc o (-1)) { P with L := dropId P.L x.id } := by
  have hmem : ∀ k y, (k, y) ∈ dropE E x.id → (k, y) ∈ E ∧ k ≠ b := fun k y hy => by
    obtain ⟨h1, h2⟩ := List.mem_filter.1 hy
    refine ⟨h1, fun e => ?_⟩
    subst e
    rw [nd_inj h.nd h1 hx] at h2
    simp at h2
  refine ⟨by rw [dropE_snd, h.eL], hm, hp, fun k y hy => ?_, fun k hkH => ?_, (List.filter_sublist.map _).nodup h.nd, fun k y hy => h.far k y (hmem k y hy).1, h.gmb, ?_, h.bk, fun j hj => ?_, h.ok.drop⟩
  · obtain ⟨h1, h2⟩ := hmem k y hy
    obtain ⟨e1, e2, ⟨e3, e4, e5⟩ | ⟨e3, e4, e5⟩⟩ := h.ent k y h1
    · exact ⟨e1, e2, .inl ⟨e3, fun hh => e4 ((hH k h2).1 hh), by rw [hk k y h1 h2 e4]; exact e5⟩⟩
    · exact ⟨e1, e2, .inr ⟨e3, e4, (hH k h2).2 e5⟩⟩
  · have hkb : k ≠ b := fun e => hb (e ▸ hkH)
    obtain ⟨y, hy⟩ := h.hE k ((hH k hkb).1 hkH)
    refine ⟨y, List.mem_filter.2 ⟨hy, ?_⟩⟩
    simp only [ne_eq, decide_not, Bool.not_eq_true', decide_eq_false_iff_not]
    exact fun e => hkb (h.inj hy hx e).1
  · have e1 := drop_count (f := fun e : Nat × Ln => e.2.id) (fun _ => true) h.pw hx
    have e2 := hmp.congr (f' := blkOf (dropE E x.id)) (fun i _ => dropE_blk E x.id i)
    rw [List.countP_true] at e1
    have e3 : (dropE E x.id).length = E.length - 1 := by unfold dropE; simp at e1 ⊢; omega
    rw [e3]; exact e2
  · have e1 := drop_count (f := fun e : Ln => e.id) (fun y => decide (y.org = (j : Int))) h.ok.sorted (a := x) (by rw [← h.eL]; exact List.mem_map.2 ⟨(b, x), hx, rfl⟩)
    have e2 := h.mn j hj
    show (if j = o then B.mn j + (-1) else B.mn j) = ((cnt (dropId P.L x.id) j : Nat) : Int)
    rw [e2]
    unfold cnt dropId at *
    by_cases e : j = o
    · subst e
      rw [if_pos rfl]
      simp only [ho, decide_true, if_true] at e1
      simp only [ne_eq, decide_not] at e1 ⊢
      omega
    · rw [if_neg e]
      have : ¬ (o : Int) = (j : Int) := by omega
      simp only [ho, this, decide_false, Bool.false_eq_true, if_false] at e1
      simp only [ne_eq, decide_not] at e1 ⊢
      omega
theorem dropE_foot {k : Nat} {id : Int} (h : pfoot g mb A (dropE E id) k) : pfoot g mb A E k := by
  rcases h with h | h | h | ⟨x, h⟩
  · exact .inl h
  · exact .inr (.inl h)
  · exact .inr (.inr (.inl h))
  · exact .inr (.inr (.inr ⟨x, (List.mem_filter.1 h).1⟩))
theorem PM.org (h : PM w g mb A c N H m E B P) {b : Nat} {x : Ln} (hx : (b, x) ∈ E) : x ∈ P.L := by rw [← h.eL]; exact List.mem_map.2 ⟨(b, x), hx, rfl⟩
/-- forget, of one that is not among the idle ones. -/
theorem forget_pm {w0 : World} (h : PM w0 g mb A c N H m E B P) {b : Nat} {x : Ln} (hx : (b, x) ∈ E) {H' : List Nat} (hm : HM w g mb B A c H' m) (hp : IsHeap m H' H'.length) (hH : ∀ k, k ≠ b → (k ∈ H' ↔ k ∈ H)) (hb : b ∉ H')
    (hbk : w.heap[b]? = some (.cells (lkCells (m b) (-1)) 63 (0, 0))) (hkp : Kept (fun k => gfoot g A H k) w0 w) :
    Calls Try.prog 29 #[.pointer (some ⟨g, 0, none⟩), .pointer (some ⟨b, 0, none⟩)] w fun e w' => e = .returned (.tuple #[]) ∧ Kept (pfoot g mb A E) w0 w' ∧
      (∃ B', PM w' g mb A c N H' m (dropE E x.id) B' { P with L := dropId P.L x.id }) ∧ w'.heap[b]? = w.heap[b]? := by
  obtain ⟨e1, e2, -⟩ := h.ent b x hx
  obtain ⟨i1, i2, i3, i4, -, -⟩ := h.ok.each x (h.org hx)
  obtain ⟨o, ho⟩ : ∃ o : Nat, x.org = o := ⟨x.org.toNat, by omega⟩
  have hmb : ¬ gfoot g A H mb := fun hh => by
    rcases hh with h1 | ⟨a, ha, hak⟩ | h1
    · exact h.gmb.1 h1.symm
    · exact h.gmb.2 a ha hak
    · obtain ⟨y, hy⟩ := h.hE mb h1; exact (h.far mb y hy).2.1 rfl
  have hmp := h.mp.keep (w' := w) (hkp.block mb h.mp.lt hmb)
  have hbf : blkOf E x.id = some b := by
    rcases blkOf_find h.eL x.id with ⟨_, e⟩ | ⟨b', x', h1, h2, _, h3⟩
    · exact absurd rfl (findId_none e x (h.org hx))
    · rw [h2, (h.inj h1 hx h3).1]
  have hcn : (cnt P.L o : Int) ≤ 4 := by have := h.ok.room o; have := h.ok.mo1; omega
  have hmn := h.mn o (by omega)
  have hla := h.ok.la1
  have hfw := h.ok.few
  have hHm : ¬ hfoot A H' mb := fun hh => by
    rcases hh with ⟨a, ha, hak⟩ | h1
    · exact h.gmb.2 a ha hak
    · by_cases e : mb = b
      · exact (h.far b x hx).2.1 e.symm
      · exact hmb (.inr (.inr ((hH mb e).1 h1)))
  refine (forget_any (X := m b) (f := blkOf E) (k := E.length) w hm hmp hbk (by rw [e1]; exact hbf) (WalkArith.wf_i64 (by omega)) (by rw [e2, ho]) (by omega) (by omega) (by omega) (h.far b x hx).2.1 h.gmb.1 hHm).mono ?_
  rintro e w' ⟨rfl, h1, h2, h3⟩
  rw [e1] at h2
  have hsz := hkp.size
  refine ⟨rfl, (hkp.mono fun k hk => ?_).same (h3.mono fun k hk => ?_), ⟨_, h.gone hx ho h1 hp hH hb (fun k y hy hkb hkH => ?_) h2⟩, ?_⟩
  · rcases hk with h1 | h1
    · exact .inl h1
    · exact h.hfoot h1
  · rcases hk with h1 | h1
    · exact .inl h1
    · exact .inr (.inl h1)
  · have hl := h.lt k (.inr (.inr (.inr ⟨y, hy⟩)))
    rw [h3.block k (by omega) (fun hh => by
      rcases hh with h4 | h4
      · exact (h.far k y hy).1 h4
      · exact (h.far k y hy).2.1 h4)]
    exact hkp.block k hl (fun hh => by
      rcases hh with h4 | ⟨a, ha, hak⟩ | h4
      · exact (h.far k y hy).1 h4
      · exact (h.far k y hy).2.2 a ha hak
      · exact hkH h4)
  · have hl := h.lt b (.inr (.inr (.inr ⟨x, hx⟩)))
    exact h3.block b (by omega) (fun hh => by
      rcases hh with h4 | h4
      · exact (h.far b x hx).1 h4
      · exact (h.far b x hx).2.1 h4)
end
set_option maxRecDepth 100000 in
set_option maxHeartbeats 2000000 in
theorem pdrop_any {g N : Nat} {F : Nat → Prop} {P : Pl} (id : Int) (w : World) (h : PoolIs w g F N P) (h0 : -9223372036854775808 ≤ id) (h1 : id ≤ 9223372036854775807) (hN : N ≤ 549755813888) :
    Calls Try.prog 16 #[.pointer (some ⟨g, 0, none⟩), .int .i64 id] w (PStep w g F N (P.drop id).2 (.int .i64 (P.drop id).1)) := by
  have HHH := Lib.hid h
  obtain ⟨mb, A, c, H, m, E, B, rfl, h⟩ := h
  have hl := h.mp.look (i := id) (WalkArith.wf_i64 (by omega))
  obtain ⟨-, -, -, c3, -⟩ := h.hm.cells
  rcases blkOf_find h.eL id with ⟨e1, e2⟩ | ⟨b, x, e0, e1, e2, e3⟩
  · rw [e1] at hl
    unfold lookV at hl
    have HO : Hid (P.drop id = (4, P)) := Lib.hid (by unfold Pl.drop; rw [e2])
    clear h e1 e2
    go_enter Try.func16, Try.ntmps16
    go_wp2
    go_ret
    rw [HO.out]
    exact ⟨rfl, _, HHH.out, Kept.refl _ _, Grew.refl _ _⟩
  rw [e1] at hl
  unfold lookV ptrV at hl
  have HO : Hid (P.drop id = (0, { P with L := dropId P.L id })) := Lib.hid (by unfold Pl.drop; rw [e2])
  obtain ⟨p, hp, hpp⟩ := h.blk e0
  obtain ⟨-, -, -, x3⟩ := lk_cells hp
  rcases hpp with ⟨hb1, rfl, hb2⟩ | ⟨hb1, hb2, i, rfl, hi⟩
  · have HF := Lib.hid (forget_pm h e0 h.hm h.hp (fun k _ => Iff.rfl) hb2 hp (Kept.refl _ _))
    have HE3 := Lib.hid e3
    clear h e1 e2 hp hb2 e3
    go_enter Try.func16, Try.ntmps16
    go_wp2_with fail
    refine HF.out.mono ?_
    rintro e w1 ⟨rfl, hk, ⟨B', hpm⟩, -⟩
    have HZ := Lib.hid (And.intro hk hpm)
    clear hk hpm
    go_wp2_with fail
    go_ret
    rw [HO.out]
    obtain ⟨hk, hpm⟩ := HZ.out
    rw [HE3.out] at hpm
    exact ⟨rfl, _, ⟨mb, A, c, H, m, _, B', rfl, hpm⟩, hk, fun k hk => .inl (dropE_foot hk)⟩
  · obtain ⟨n, hn⟩ : ∃ n, H.length = n + 1 := ⟨H.length - 1, by have := (List.getElem?_eq_some_iff.1 hi).1; omega⟩
    have hrem := hremove_any (i := i) (n := n) w.drew (h.hm.keep rfl (fun _ _ => rfl)) h.hp hi hn (by have := h.len; omega)
    have HR := Lib.hid hrem
    have HH := Lib.hid h
    have HI := Lib.hid hi
    have HX := Lib.hid (And.intro e0 e3)
    have i0 : (0 : Int) ≤ i := by omega
    clear h e1 e2 hp hb2 e3 hi hn hrem e0
    go_enter Try.func16, Try.ntmps16
    go_wp2_with fail
    go_still_tail 8, (by kernel_rfl)
    change wpList _ _ _ _ _ w.drew
    go_wp2_with fail
    refine HR.out.mono ?_
    rintro e w1 ⟨rfl, H', hp1, hh1, hm1, hb1', hk1⟩
    have hnd : (H' ++ [b]).Nodup := hp1.nodup_iff.2 HH.out.hm.nodup
    have hbn : b ∉ H' := fun hh => by
      rw [List.nodup_append] at hnd
      exact hnd.2.2 b hh b (by simp) rfl
    have hin : ∀ k, k ≠ b → (k ∈ H' ↔ k ∈ H) := fun k hk => by
      rw [← hp1.mem_iff, List.mem_append]; simp [hk]
    have hk0 : Kept (fun k => gfoot g A H k) w w1 := ⟨hk1.os, hk1.tape, hk1.output, hk1.size, hk1.block⟩
    have HF := Lib.hid (forget_pm HH.out HX.out.1 hm1 hh1 hin hbn hb1' hk0)
    clear hp1 hh1 hm1 hb1' hk1 hnd hbn hin hk0
    go_wp2_with fail
    refine HF.out.mono ?_
    rintro e w2 ⟨rfl, hk, ⟨B', hpm⟩, -⟩
    have HZ := Lib.hid (And.intro hk hpm)
    clear hk hpm
    go_wp2_with fail
    go_ret
    rw [HO.out]
    obtain ⟨hk, hpm⟩ := HZ.out
    rw [HX.out.2] at hpm
    exact ⟨rfl, _, ⟨mb, A, c, H', m, _, B', rfl, hpm⟩, hk, fun k hk => .inl (dropE_foot hk)⟩
end Go.Proofs.Ytidfokfnigncmaa
