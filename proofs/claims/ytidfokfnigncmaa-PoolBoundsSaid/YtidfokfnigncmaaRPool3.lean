/- The walk of drawbridgeref16.Drop. -/
import Derived.Test.YtidfokfnigncmaaRPool2
import Derived.Deep.RegionLaw
import Derived.IntWalk
import Derived.Deep.DeepCutAuto
namespace Go.Proofs.Ytidfokfnigncmaa
open Go.RowKit

section
variable {P : Program} {w : World}
/-- append as one step of a region that draws. -/
theorem step_app {ops : Array Oper} {o : Oper} {a : Act} {K : Act → World → Prop} {Q : Exit → Act → World → Prop} {E : Prop} (s x : Operand) {t e : TypeId} {z : Value} {size bytes : Nat} (hT : SlT P t e z size bytes)
    (hgd : o.guard = none) (ho : o.op = .call { callee := .builtin .append, args := #[s, x], argTypes := #[t, t] })
    {base : Nat} {v : Value} {n : Nat} {xs : List Value} (hown : w.ownsRow base e size v n xs) (hs : a.eval s = v)
    {B : Nat} {A : Option Addr} {m c : Nat} {news : List Value} (hr : Rd w B size A m news) (hx : a.eval x = .slice A m c) (h1 : ∀ u ∈ news, u.oneCell' = true)
    (h63 : n + m ≤ maxLen) (hbytes : (n + m) * bytes ≤ 140737488355328) (hbase : base ≤ w.heap.size)
    (h : ∀ v' w', w'.ownsRow base e size v' (n + m) (xs ++ news) → w.grownBy w' v.ownBlock → (v'.ownBlock = v.ownBlock ∨ v'.ownBlock = some w.heap.size) → K (a.put o.dst v') w') :
    if Region.wanted o (yielded ops a.tmps) = true then Oper.wp P o a w K Q else E := by
  have hw : Region.wanted o (yielded ops a.tmps) = true := by simp [Region.wanted, hgd]
  rw [if_pos hw]
  obtain ⟨v', w', hrun, h2, h3, h4⟩ := run_app (P := P) o.type hT hown hr (c := c) h1 h63 hbytes hbase
  unfold Oper.wp execOp
  simp only [ho, resolve, invoke, builtin, Sem.run_bind, Sem.run_pure, Result.andThen_ok, List.map_toArray, List.map_cons, List.map_nil, hs, hx, hrun]
  exact h v' w' h2 h3 h4
end
theorem own_new (w : World) (B size : Nat) (e : TypeId) (hB : B ≤ w.heap.size) : (w.alloc (.cells #[] e)).ownsRow B e size (.slice (some ⟨w.heap.size, 0, none⟩) 0 0) 0 [] :=
  ⟨by simp, .inr ⟨_, 0, #[], rfl, hB, heapNew _ _, Nat.le_refl _, Nat.zero_le _, by simp, by simp⟩⟩
theorem Rd.pre {w : World} {B size n m : Nat} {A : Option Addr} {xs : List Value} (h : Rd w B size A n xs) (hm : m ≤ n) : Rd w B size A m (xs.take (m * size)) := by
  have hmm : m * size ≤ n * size := Nat.mul_le_mul_right _ hm
  refine ⟨by rw [List.length_take, h.1]; omega, fun h0 => ?_⟩
  obtain ⟨b, o, hA, hb, hc⟩ := h.2 (by omega)
  refine ⟨b, o, hA, hb, fun j hj => ?_⟩
  rw [hc j (by omega), List.getElem?_take, if_pos hj]
theorem lcs_take (L : List Ln) (i : Nat) : (lcs L).take (i * 3) = lcs (L.take i) := by
  by_cases h : i ≤ L.length
  · have e : lcs L = lcs (L.take i) ++ lcs (L.drop i) := by rw [← lcs_app, List.take_append_drop]
    have hl : (lcs (L.take i)).length = i * 3 := by rw [lcs_length, List.length_take]; omega
    rw [e, ← hl, List.take_left]
  · rw [List.take_of_length_le (by rw [lcs_length]; omega), List.take_of_length_le (by omega)]
theorem lcs_drop (L : List Ln) (i : Nat) : (lcs L).drop (i * 3) = lcs (L.drop i) := by
  by_cases h : i ≤ L.length
  · have e : lcs L = lcs (L.take i) ++ lcs (L.drop i) := by rw [← lcs_app, List.take_append_drop]
    have hl : (lcs (L.take i)).length = i * 3 := by rw [lcs_length, List.length_take]; omega
    rw [e, ← hl, List.drop_left]
  · rw [List.drop_of_length_le (by rw [lcs_length]; omega), List.drop_of_length_le (by omega)]; rfl
theorem dropId_at {L : List Ln} (hs : L.Pairwise (fun a b => a.id < b.id)) {i : Nat} {x : Ln} (hi : L[i]? = some x) : dropId L x.id = L.take i ++ L.drop (i + 1) := by
  have hl := (List.getElem?_eq_some_iff.1 hi).1
  have e : L = L.take i ++ x :: L.drop (i + 1) := by
    have h1 := List.drop_eq_getElem_cons hl
    rw [(List.getElem?_eq_some_iff.1 hi).2] at h1
    rw [← h1, List.take_append_drop]
  have hp := hs
  rw [e, List.pairwise_append, List.pairwise_cons] at hp
  unfold dropId
  conv => lhs; rw [e]
  rw [List.filter_append, List.filter_cons_of_neg (by simp)]
  congr 1
  · exact List.filter_eq_self.2 fun y hy => by have := hp.2.2 y hy x (by simp); simp; omega
  · exact List.filter_eq_self.2 fun y hy => by have := hp.2.1.1 y hy; simp; omega
/-- A new row of its own is the pool's from now on. -/
theorem RM.store {w w4 : World} {q c c4 : Nat} {A A4 : Option Addr} {P : Pl} {L' : List Ln} {base : Nat} (h : RM w q A c P) (hg : w4.heap[q]? = w.heap[q]?)
    (hl : Lies w4 72 3 (.slice A4 L'.length c4) L'.length (lcs L')) (hb : ∀ a, A4 = some a → a.block ≠ q) :
    RM (w4.setCell ⟨q, 3, none⟩ (.slice A4 L'.length c4)) q A4 c4 { P with L := L' } := by
  have := base
  refine ⟨?_, hl.keep fun k hk => set_other _ (fun e => ?_), hb⟩
  · rw [set_block (hg.trans h.book)]; rfl
  · cases A4 with
    | none => cases hk
    | some a => simp only [Value.ownBlock, Option.some.injEq] at hk; exact hb a rfl (hk.trans e)
theorem rdrop_end {w w4 w5 : World} {q c k j : Nat} {A : Option Addr} {P : Pl} {v4 : Value} {A5 : Option Addr} {c5 : Nat} {xs ys : List Value} {L' : List Ln} (h : RM w q A c P)
    (h4 : w4.ownsRow w.heap.size 72 3 v4 j ys ∧ (w.alloc (.cells #[] 72)).drew.grownBy w4 (Value.slice (some ⟨w.heap.size, 0, none⟩) 0 0).ownBlock ∧ (v4.ownBlock = (Value.slice (some ⟨w.heap.size, 0, none⟩) 0 0).ownBlock ∨ v4.ownBlock = some (w.alloc (.cells #[] 72)).drew.heap.size))
    (h5 : w5.ownsRow w.heap.size 72 3 (.slice A5 k c5) k xs) (hg5 : w4.grownBy w5 v4.ownBlock) (hq5 : w5.heap[q]? = w.heap[q]?) (hk : k = L'.length) (hxs : xs = lcs L') :
    ∃ F', RPool (w5.setCell ⟨q, 3, none⟩ (.slice A5 k c5)) q F' { P with L := L' } ∧ Kept (qfoot q A) w (w5.setCell ⟨q, 3, none⟩ (.slice A5 k c5)) ∧ Grew w (qfoot q A) F' := by
  subst hk hxs
  obtain ⟨A', c', hv, _, _, _, hbase⟩ := own_slice h5
  injection hv with v1 v2 v3
  subst v1 v3
  have hql := h.lt q (.inl rfl)
  refine ⟨_, ⟨A5, c5, rfl, h.store (base := 0) hq5 (Lies.of_own h5) (fun a ha => by have := hbase a ha; omega)⟩, ?_, ?_⟩
  · refine Kept.setCell (Kept.grown (Kept.grown (((Kept.refl _ _).alloc _).drew) h4.2.1 (fun k hk => .inr ?_)) hg5 (fun k hk => .inr ?_)) (.inl rfl) _ _
    · simp [Value.ownBlock] at hk; omega
    · exact (h4.1.lt k hk).1
  · rintro k (rfl | ⟨a, ha, rfl⟩)
    · exact .inl (.inl rfl)
    · exact .inr (hbase a ha)
set_option maxRecDepth 100000 in
set_option maxHeartbeats 4000000 in
theorem rdrop_any {q : Nat} {F : Nat → Prop} {P : Pl} (id : Int) (w : World) (h : RPool w q F P) (hl : P.L.length ≤ 1099511627776) (hs : P.L.Pairwise (fun a b => a.id < b.id)) :
    Calls Try.prog 17 #[.pointer (some ⟨q, 0, none⟩), .int .i64 id] w (RPStep w q F (P.drop id).2 (.int .i64 (P.drop id).1)) := by
  have HHH := Lib.hid h
  have HF := Lib.hid (rfind_any id w h hl)
  obtain ⟨A, c, rfl, h⟩ := h
  obtain ⟨-, -, -, c3⟩ := h.cells
  rcases placeOf_cases P.L id with ⟨e1, e2⟩ | ⟨i, x, hi, e1, e2, e3⟩
  · have HO : Hid (P.drop id = (4, P)) := Lib.hid (by unfold Pl.drop; rw [e2])
    rw [e1] at HF
    clear h e1 e2
    go_enter Try.func17, Try.ntmps17
    go_wp2_with fail
    refine HF.out.mono ?_
    rintro e w1 ⟨rfl, rfl⟩
    go_wp2_with fail
    go_ret
    rw [HO.out]
    exact ⟨rfl, _, HHH.out, Kept.refl _ _, Grew.refl _ _⟩
  · rw [e1] at HF
    have HO : Hid (P.drop id = (0, { P with L := dropId P.L id })) := Lib.hid (by unfold Pl.drop; rw [e2])
    have fz := h.free 3
    have hgl := h.lt q (.inl rfl)
    have hil := (List.getElem?_eq_some_iff.1 hi).1
    have hrd := h.row.rd rfl
    obtain ⟨A', c', hv, hnc, hcm, -⟩ := h.row.form
    injection hv with v1 v2 v3
    subst v1 v3
    obtain ⟨n, hn⟩ : ∃ n, P.L.length = n := ⟨_, rfl⟩
    have hd := dropId_at hs hi
    rw [e3] at hd
    have hrd1 := hrd.pre (m := i) (by omega)
    have hrd2 := hrd.piece (lo := i + 1) (hi := P.L.length) (cap := c) (by omega) (Nat.le_refl _) hnc
    rw [lcs_take] at hrd1
    rw [lcs_drop, List.take_of_length_le (by rw [lcs_length, List.length_drop]; omega)] at hrd2
    rw [hn] at c3 hil hl hrd2 hnc
    have HR1 := Lib.hid hrd1
    have HR2 := Lib.hid hrd2
    have HH := Lib.hid h
    have HDD := Lib.hid hd
    have HN := Lib.hid hn
    have n0 : (0 : Int) ≤ i := by omega
    have n1 : (i : Int) ≤ n := by omega
    have n2 : (i : Int) ≤ c := by omega
    have n3 : (i : Int) + 1 ≤ n := by omega
    have n4 : (0 : Int) ≤ (i : Int) + 1 := by omega
    have n5 : (n : Int) ≤ c := by omega
    have s1 : IntKind.i64.wrap ((i : Int) + 1) = (i : Int) + 1 := IntWalk.i64_in _ ⟨by omega, by omega⟩
    have s2 : IntKind.i64.wrap (i : Int) = (i : Int) := IntWalk.i64_in _ ⟨by omega, by omega⟩
    clear h hi e1 e2 e3 hn hd hrd hrd1 hrd2 hs
    by_cases hck : c = i + 1
    · rw [if_pos hck] at HR2
      subst hck
      obtain rfl : n = i + 1 := by omega
      rw [show i + 1 - (i + 1) = 0 by omega] at HR2
      have m1 : (i : Int) ≤ (i : Int) + 1 := by omega
      go_enter Try.func17, Try.ntmps17
      go_wp2_with fail
      refine HF.out.mono ?_
      rintro e w1 ⟨rfl, rfl⟩
      go_upto_region 4 with fail
      go_region_law (first
        | (refine step_app (.tmp 12) (.tmp 18) tLinks rfl rfl (own_new w w.heap.size 3 _ (Nat.le_refl _)) rfl (HR1.out.alloc (Nat.le_refl _) _) rfl (lcs_one _) (le_maxLen (by omega)) (by omega) (by simp) ?_; intro v4 w4 hown4 hg4 hb4; have H4 := Lib.hid (And.intro hown4 (And.intro hg4 hb4)); have hq4 : w4.heap[q]? = w.heap[q]? := (hg4.block q (by simp; omega) (by simp [Value.ownBlock]; omega)).trans (Below.heap_alloc w _ q hgl); have m3 : w4.cell? ⟨q, 3, none⟩ = some (.slice A (i + 1) (i + 1)) := (World.cell?_of_block (a := ⟨q, 3, none⟩) hq4).trans c3; have mf : w4.frozen? ⟨q, 3, none⟩ = false := (World.frozen?_of_block (a := ⟨q, 3, none⟩) hq4).trans fz; have HQ4 := Lib.hid hq4; have HRR4 := Lib.hid ((HR2.out.alloc (Nat.le_refl _) _).drew.grown hg4 (by simp [World.drew]) (fun k hk => by simp [Value.ownBlock] at hk; omega)); clear hown4 hg4 hb4 hq4)
        | (refine step_app (.tmp 19) (.tmp 26) tLinks rfl rfl H4.out.1 rfl HRR4.out rfl (lcs_one _) (le_maxLen (by omega)) (by omega) (by have := H4.out.2.1.size; simp at this; omega) ?_; intro v5 w5 hown5 hg5 hb5; have hq5 : w5.heap[q]? = w.heap[q]? := (hg5.block q (by have := H4.out.2.1.size; simp at this; show q < w4.heap.size; omega) (fun e => by rcases H4.out.2.2 with h9 | h9 <;> (rw [h9] at e; simp [Value.ownBlock] at e; omega))).trans HQ4.out; have m3 : w5.cell? ⟨q, 3, none⟩ = some (.slice A (i + 1) (i + 1)) := (World.cell?_of_block (a := ⟨q, 3, none⟩) hq5).trans c3; have mf : w5.frozen? ⟨q, 3, none⟩ = false := (World.frozen?_of_block (a := ⟨q, 3, none⟩) hq5).trans fz; have H5 := Lib.hid (And.intro hown5 (And.intro hg5 (And.intro hb5 hq5))); obtain ⟨A5, c5, rfl, -⟩ := own_slice hown5; clear hown5 hg5 hb5 hq5))
      all_goals
        go_wp2_with fail
        go_ret
        rw [HO.out]
        obtain ⟨hown5, hg5, hb5, hq5⟩ := H5.out
        have hlen : (dropId P.L id).length = i := by rw [HDD.out, List.length_append, List.length_take, List.length_drop, HN.out]; omega
        obtain ⟨F', e1, e2, e3⟩ := rdrop_end (L' := dropId P.L id) HH.out H4.out hown5 hg5 hq5 (by rw [hlen]; omega) (by rw [HDD.out, lcs_app]; simp)
        rw [show 0 + i + 0 = i by omega] at e1 e2
        exact ⟨rfl, F', e1, e2, e3⟩
    · rw [if_neg hck] at HR2
      go_enter Try.func17, Try.ntmps17
      go_wp2_with fail
      refine HF.out.mono ?_
      rintro e w1 ⟨rfl, rfl⟩
      go_upto_region 4 with fail
      go_region_law (first
        | (refine step_app (.tmp 12) (.tmp 18) tLinks rfl rfl (own_new w w.heap.size 3 _ (Nat.le_refl _)) rfl (HR1.out.alloc (Nat.le_refl _) _) rfl (lcs_one _) (le_maxLen (by omega)) (by omega) (by simp) ?_; intro v4 w4 hown4 hg4 hb4; have H4 := Lib.hid (And.intro hown4 (And.intro hg4 hb4)); have hq4 : w4.heap[q]? = w.heap[q]? := (hg4.block q (by simp; omega) (by simp [Value.ownBlock]; omega)).trans (Below.heap_alloc w _ q hgl); have m3 : w4.cell? ⟨q, 3, none⟩ = some (.slice A n c) := (World.cell?_of_block (a := ⟨q, 3, none⟩) hq4).trans c3; have mf : w4.frozen? ⟨q, 3, none⟩ = false := (World.frozen?_of_block (a := ⟨q, 3, none⟩) hq4).trans fz; have HQ4 := Lib.hid hq4; have HRR4 := Lib.hid ((HR2.out.alloc (Nat.le_refl _) _).drew.grown hg4 (by simp [World.drew]) (fun k hk => by simp [Value.ownBlock] at hk; omega)); clear hown4 hg4 hb4 hq4)
        | (refine step_app (.tmp 19) (.tmp 26) tLinks rfl rfl H4.out.1 rfl HRR4.out rfl (lcs_one _) (le_maxLen (by omega)) (by omega) (by have := H4.out.2.1.size; simp at this; omega) ?_; intro v5 w5 hown5 hg5 hb5; have hq5 : w5.heap[q]? = w.heap[q]? := (hg5.block q (by have := H4.out.2.1.size; simp at this; show q < w4.heap.size; omega) (fun e => by rcases H4.out.2.2 with h9 | h9 <;> (rw [h9] at e; simp [Value.ownBlock] at e; omega))).trans HQ4.out; have m3 : w5.cell? ⟨q, 3, none⟩ = some (.slice A n c) := (World.cell?_of_block (a := ⟨q, 3, none⟩) hq5).trans c3; have mf : w5.frozen? ⟨q, 3, none⟩ = false := (World.frozen?_of_block (a := ⟨q, 3, none⟩) hq5).trans fz; have H5 := Lib.hid (And.intro hown5 (And.intro hg5 (And.intro hb5 hq5))); obtain ⟨A5, c5, rfl, -⟩ := own_slice hown5; clear hown5 hg5 hb5 hq5))
      all_goals
        go_wp2_with fail
        go_ret
        rw [HO.out]
        obtain ⟨hown5, hg5, hb5, hq5⟩ := H5.out
        have hlen : (dropId P.L id).length = i + (n - (i + 1)) := by rw [HDD.out, List.length_append, List.length_take, List.length_drop, HN.out]; omega
        obtain ⟨F', e1, e2, e3⟩ := rdrop_end (L' := dropId P.L id) HH.out H4.out hown5 hg5 hq5 (by rw [hlen]; omega) (by rw [HDD.out, lcs_app]; simp)
        rw [show 0 + i + (n - (i + 1)) = i + (n - (i + 1)) by omega] at e1 e2
        exact ⟨rfl, F', e1, e2, e3⟩
end Go.Proofs.Ytidfokfnigncmaa
