/- The walk of pool.Get. -/
import Derived.Test.YtidfokfnigncmaaPool12
namespace Go.Proofs.Ytidfokfnigncmaa
open Go.RowKit

/-- The best of the first k of the heap. -/
def Bst (m : Nat → Lk) (H : List Nat) (o : Int) (k : Nat) : Option Nat → Prop
  | none => ∀ j, j < k → (key m H j).org ≠ o
  | some j => j < k ∧ (key m H j).org = o ∧ ∀ j', j' < k → (key m H j').org = o → lkLe (key m H j') (key m H j)
def bstV (H : List Nat) : Option Nat → Value
  | none => .pointer none
  | some j => ptrV (H.getD j 0)
def GetRel (w : World) (m : Nat → Lk) (H : List Nat) (o : Int) (bv kv : Value) (wr : World) : Prop :=
  ∃ (k : Nat) (bo : Option Nat) (n : Nat), kv = .int .i64 k ∧ bv = bstV H bo ∧ k ≤ H.length ∧ Bst m H o k bo ∧ wr = w.drewN n
theorem Bst.skip {m : Nat → Lk} {H : List Nat} {o : Int} {k : Nat} {bo : Option Nat} (h : Bst m H o k bo) (hk : (key m H k).org ≠ o) : Bst m H o (k + 1) bo := by
  cases bo with
  | none =>
    intro j hj
    rcases Nat.lt_succ_iff_lt_or_eq.1 hj with h1 | rfl
    · exact h j h1
    · exact hk
  | some j =>
    obtain ⟨h1, h2, h3⟩ := h
    refine ⟨by omega, h2, fun j' hj' ho => ?_⟩
    rcases Nat.lt_succ_iff_lt_or_eq.1 hj' with h4 | rfl
    · exact h3 j' h4 ho
    · exact absurd ho hk
theorem Bst.first {m : Nat → Lk} {H : List Nat} {o : Int} {k : Nat} (h : Bst m H o k none) (hk : (key m H k).org = o) : Bst m H o (k + 1) (some k) :=
  ⟨by omega, hk, fun j' hj' ho => by
    rcases Nat.lt_succ_iff_lt_or_eq.1 hj' with h4 | rfl
    · exact absurd ho (h j' h4)
    · exact lkLe_refl _⟩
theorem Bst.take {m : Nat → Lk} {H : List Nat} {o : Int} {k j : Nat} (h : Bst m H o k (some j)) (hk : (key m H k).org = o) (hl : lkLt (key m H j) (key m H k) = true) : Bst m H o (k + 1) (some k) := by
  obtain ⟨h1, h2, h3⟩ := h
  refine ⟨by omega, hk, fun j' hj' ho => ?_⟩
  rcases Nat.lt_succ_iff_lt_or_eq.1 hj' with h4 | rfl
  · exact lkLe_trans (h3 j' h4 ho) (lkLe_of_lt hl)
  · exact lkLe_refl _
theorem Bst.leave {m : Nat → Lk} {H : List Nat} {o : Int} {k j : Nat} (h : Bst m H o k (some j)) (hl : lkLt (key m H j) (key m H k) = false) : Bst m H o (k + 1) (some j) := by
  obtain ⟨h1, h2, h3⟩ := h
  refine ⟨by omega, h2, fun j' hj' ho => ?_⟩
  rcases Nat.lt_succ_iff_lt_or_eq.1 hj' with h4 | rfl
  · exact h3 j' h4 ho
  · exact lkLe_of_not hl
theorem key_get {m : Nat → Lk} {H : List Nat} {k b : Nat} (h : H[k]? = some b) : key m H k = m b := by
  unfold key; rw [List.getD_eq_getElem?_getD, h]; rfl
section
variable {w w' : World} {g mb c N : Nat} {A : Option Addr} {H : List Nat} {m : Nat → Lk} {E : List (Nat × Ln)} {B : Bk} {P : Pl}
theorem Bst.best (h : PM w g mb A c N H m E B P) {o : Int} {j b : Nat} (hb : H[j]? = some b) (h2 : Bst m H o H.length (some j)) : ∃ x, (b, x) ∈ E ∧ IsBest P.L o x := by
  obtain ⟨x, hx⟩ := h.hE b (List.mem_of_getElem? hb)
  obtain ⟨e1, e2, ⟨_, e3, _⟩ | ⟨e3, e4, _⟩⟩ := h.ent b x hx
  · exact absurd (List.mem_of_getElem? hb) e3
  obtain ⟨_, h3, h4⟩ := h2
  rw [key_get hb] at h3 h4
  refine ⟨x, hx, h.org hx, by rw [← e2]; exact h3, e3, fun y hy ho hs => ?_⟩
  obtain ⟨⟨b', y'⟩, hy', rfl⟩ := List.mem_map.1 (by rw [h.eL]; exact hy : y ∈ E.map (·.2))
  obtain ⟨f1, f2, ⟨f3, _⟩ | ⟨_, f4, f5⟩⟩ := h.ent b' y' hy'
  · simp only at hs; omega
  obtain ⟨i, hi⟩ := List.getElem?_of_mem f5
  have := h4 i (List.getElem?_eq_some_iff.1 hi).1 (by rw [key_get hi, f2]; exact ho)
  rw [key_get hi] at this
  unfold lkLe at this
  unfold lnLe
  simp only
  omega
theorem Bst.nobest (h : PM w g mb A c N H m E B P) {o : Int} (h2 : Bst m H o H.length none) : ∀ x ∈ P.L, x.org = o → x.sn < 0 := by
  intro y hy ho
  obtain ⟨⟨b', y'⟩, hy', rfl⟩ := List.mem_map.1 (by rw [h.eL]; exact hy : y ∈ E.map (·.2))
  obtain ⟨f1, f2, ⟨f3, _⟩ | ⟨_, f4, f5⟩⟩ := h.ent b' y' hy'
  · exact f3
  obtain ⟨i, hi⟩ := List.getElem?_of_mem f5
  exact absurd (by rw [key_get hi, f2]; exact ho) (h2 i (List.getElem?_eq_some_iff.1 hi).1)
end
def newM (m : Nat → Lk) (b : Nat) (x : Lk) (k : Nat) : Lk := if k = b then x else m k
theorem PM.added {w w' : World} {g mb c N o b : Nat} {A : Option Addr} {H : List Nat} {m : Nat → Lk} {E : List (Nat × Ln)} {B : Bk} {P : Pl} (h : PM w g mb A c N H m E B P) (ho : o < 4) (hbs : w.heap.size ≤ b)
    (hm : HM w' g mb (({ B with la := P.la + 1 } : Bk).inc o 1) A c H m) (hb : w'.heap[b]? = some (.cells (lkCells ⟨P.la + 1, o, 0⟩ (-1)) 63 (0, 0))) (hk : ∀ k y, (k, y) ∈ E → w'.heap[k]? = w.heap[k]?)
    (hmp : MapIs w' mb (N + 1) (fun j => if j = P.la + 1 then some b else blkOf E j) (E.length + 1)) (hr : (cnt P.L o : Int) < P.mo) (hf : N + 1 ≤ 1099511627776) :
    PM w' g mb A c (N + 1) H (newM m b ⟨P.la + 1, o, 0⟩) (E ++ [(b, ⟨P.la + 1, o, -1⟩)]) (({ B with la := P.la + 1 } : Bk).inc o 1) { P with la := P.la + 1, L := P.L ++ [⟨P.la + 1, o, -1⟩] } := by
  have hEb : ∀ k y, (k, y) ∈ E → k ≠ b := fun k y hy => by have := h.lt k (.inr (.inr (.inr ⟨y, hy⟩))); omega
  have hHb : ∀ k ∈ H, k ≠ b := fun k hk => by have := h.hm.lt k (.inr hk); omega
  have hnm : ∀ k, k ≠ b → newM m b ⟨P.la + 1, o, 0⟩ k = m k := fun k hk => if_neg hk
  have hmem : ∀ k y, (k, y) ∈ E ++ [(b, (⟨P.la + 1, o, -1⟩ : Ln))] → (k, y) ∈ E ∨ (k = b ∧ y = ⟨P.la + 1, o, -1⟩) := fun k y hy => by
    rcases List.mem_append.1 hy with h1 | h1
    · exact .inl h1
    · right; simpa using h1
  refine ⟨by rw [List.map_append, h.eL]; rfl, hm.congr_m (fun k hk => hnm k (hHb k hk)), h.hp.congr_m (Nat.le_refl _) (fun k hk => hnm k (hHb k hk)), fun k y hy => ?_, fun k hkH => ?_, ?_, fun k y hy => ?_, h.gmb, ?_, ⟨h.bk.1, h.bk.2.1, rfl⟩, fun j hj => ?_, h.ok.add (by omega) (by omega) hr hf⟩
  · rcases hmem k y hy with h1 | ⟨rfl, rfl⟩
    · rw [hnm k (hEb k y h1)]
      obtain ⟨e1, e2, ⟨e3, e4, e5⟩ | e3⟩ := h.ent k y h1
      · exact ⟨e1, e2, .inl ⟨e3, e4, by rw [hk k y h1]; exact e5⟩⟩
      · exact ⟨e1, e2, .inr e3⟩
    · have e : newM m k ⟨P.la + 1, o, 0⟩ k = ⟨P.la + 1, o, 0⟩ := if_pos rfl
      rw [e]
      exact ⟨rfl, rfl, .inl ⟨by simp, fun hh => hHb k hh rfl, hb⟩⟩
  · obtain ⟨y, hy⟩ := h.hE k hkH
    exact ⟨y, List.mem_append.2 (.inl hy)⟩
  · rw [List.map_append, List.nodup_append]
    refine ⟨h.nd, by simp, fun k hk j hj => ?_⟩
    obtain ⟨⟨k', y⟩, hy, rfl⟩ := List.mem_map.1 hk
    have : j = b := by simpa using hj
    rw [this]
    exact hEb k' y hy
  · rcases hmem k y hy with h1 | ⟨rfl, rfl⟩
    · exact h.far k y h1
    · have e1 := h.hm.glt
      have e2 := h.mp.lt
      exact ⟨by omega, by omega, fun a ha => by have := h.hm.lt _ (.inl ⟨a, ha, rfl⟩); omega⟩
  · rw [List.length_append]
    refine hmp.congr fun i _ => ?_
    unfold blkOf
    rw [List.find?_append]
    by_cases e : i = P.la + 1
    · subst e
      have hno : E.find? (fun e => decide (e.2.id = P.la + 1)) = none := List.find?_eq_none.2 fun e he => by
        have := (h.ok.each e.2 (h.org (b := e.1) he)).2.1
        simp; omega
      rw [hno]; simp
    · have hno : ¬ P.la + 1 = i := fun h => e h.symm
      simp [e, hno]
  · have e2 := h.mn j hj
    show (if j = o then B.mn j + 1 else B.mn j) = ((cnt (P.L ++ [⟨P.la + 1, o, -1⟩]) j : Nat) : Int)
    rw [e2]
    unfold cnt
    rw [List.countP_append]
    by_cases e : j = o
    · subst e; simp
    · have : ¬ (o : Int) = (j : Int) := by omega
      simp [e, this]
theorem bstV_some {H : List Nat} {j b : Nat} (h : H[j]? = some b) : bstV H (some j) = .pointer (some ⟨b, 0, none⟩) := by
  show ptrV (H.getD j 0) = _
  rw [List.getD_eq_getElem?_getD, h]; rfl
theorem getV (a : Int) (b : Bool) (e : Int) (P : Pl) : ((a, b, e), P).1 = (a, b, e) := rfl
set_option maxRecDepth 100000 in
set_option maxHeartbeats 4000000 in
theorem pget_bad {g N : Nat} {F : Nat → Prop} {P : Pl} (o now : Int) (w : World) (h : PoolIs w g F N P) (hb : o < 0 ∨ 4 ≤ o ∨ now < 0 ∨ 1099511627776 < now) :
    Calls Try.prog 10 #[.pointer (some ⟨g, 0, none⟩), .int .i64 o, .int .i64 now] w (PStep w g F N (P.get o now).2 (.tuple #[.int .i64 (P.get o now).1.1, .bool (P.get o now).1.2.1, .int .i64 (P.get o now).1.2.2])) := by
  have HO : Hid (P.get o now = ((0, false, 1), P)) := Lib.hid (by unfold Pl.get; rw [if_pos hb])
  have HH := Lib.hid h
  clear h
  by_cases h1 : o < 0
  · clear hb
    go_enter Try.func10, Try.ntmps10
    go_wp2_with fail
    go_ret3
    rw [HO.out]
    exact ⟨rfl, F, HH.out, Kept.refl _ _, Grew.refl _ _⟩
  by_cases h2 : 4 ≤ o
  · clear hb
    go_enter Try.func10, Try.ntmps10
    go_wp2_with fail
    go_ret3
    rw [HO.out]
    exact ⟨rfl, F, HH.out, Kept.refl _ _, Grew.refl _ _⟩
  · have h3 : now < 0 ∨ 1099511627776 < now := by omega
    have h4 : 0 ≤ o := by omega
    have h5 : o < 4 := by omega
    clear hb
    go_enter Try.func10, Try.ntmps10
    go_wp2_with fail
    refine (time_bad now w h3).mono ?_
    rintro e w1 ⟨rfl, rfl⟩
    go_wp2_with fail
    go_ret3
    rw [HO.out]
    exact ⟨rfl, F, HH.out, Kept.refl _ _, Grew.refl _ _⟩
set_option maxRecDepth 100000 in
set_option maxHeartbeats 4000000 in
theorem pget_ok {g N o : Nat} {F : Nat → Prop} {P : Pl} (now : Int) (w : World) (h : PoolIs w g F N P) (ho : o < 4) (ht0 : 0 ≤ now) (ht1 : now ≤ 1099511627776) (hN : N + 1 ≤ 549755813888) :
    Calls Try.prog 10 #[.pointer (some ⟨g, 0, none⟩), .int .i64 o, .int .i64 now] w (PStep w g F (N + 1) (P.get o now).2 (.tuple #[.int .i64 (P.get o now).1.1, .bool (P.get o now).1.2.1, .int .i64 (P.get o now).1.2.2])) := by
  obtain ⟨mb, A, c, H, m, E, B, rfl, h⟩ := h
  have HIF : Hid (¬ ((o : Int) < 0 ∨ 4 ≤ (o : Int) ∨ now < 0 ∨ 1099511627776 < now)) := Lib.hid (by omega)
  obtain ⟨n, hn⟩ : ∃ n, H.length = n := ⟨_, rfl⟩
  have HN := Lib.hid hn
  have hlen := h.len
  rw [hn] at hlen
  obtain ⟨-, -, -, -, c4⟩ := h.hm.cells
  rw [hn] at c4
  have HH := Lib.hid h
  have o0 : (0 : Int) ≤ o := by omega
  have o1 : (o : Int) < 4 := by omega
  clear h hn
  go_enter Try.func10, Try.ntmps10
  go_wp2_with fail
  refine (time_ok now w ht0 ht1).mono ?_
  rintro e w1 ⟨rfl, rfl⟩
  go_wp2_with fail
  go_loopw [9, 32] (fun bv kv wr => GetRel w m H o bv kv wr) (fun _ kv _ => n - (intOf kv).toNat)
  case atStart => exact ⟨0, none, 0, rfl, rfl, by omega, fun j hj => by omega, rfl⟩
  case round =>
    obtain ⟨k, bo, nd, rfl, rfl, hk, hbst, hwr⟩ := hrel
    rw [HN.out] at hk
    have hpm := HH.out.keep (w' := wr) (fun _ _ => by rw [hwr]; rfl)
    have HPM := Lib.hid hpm
    have HWR := Lib.hid hwr
    have HBST := Lib.hid hbst
    have c4r : wr.cell? ⟨g, 4, none⟩ = some (.slice A n c) := by rw [hwr]; exact c4
    clear hpm hwr hbst c4
    by_cases hlt : k < n
    · obtain ⟨q, oo, b, rfl, hq, hb, q0⟩ := HPM.out.hm.at_ (i := k) (by rw [HN.out]; exact hlt)
      obtain ⟨-, x1, -, -⟩ := lk_cells (HPM.out.hm.lk k b hb)
      have HKG := Lib.hid (key_get (m := m) hb)
      have n1 : (k : Int) < n := by omega
      have n0 : (0 : Int) ≤ k := by omega
      have HB := Lib.hid hb
      clear hb
      by_cases he : (m b).org = o
      · rw [he] at x1
        have HE : Hid ((key m H k).org = o) := Lib.hid (by rw [HKG.out]; exact he)
        clear he
        cases bo with
        | none =>
          unfold bstV
          go_wp2_with fail
          go_quiet (fail)
          go_wp2_with fail
          go_roundw
          case rel => exact ⟨k + 1, some k, _, by go_num, (bstV_some HB.out).symm, by rw [HN.out]; omega, HBST.out.first HE.out, by rw [HWR.out]; exact World.drewN_drewN ..⟩
          case measure => simp [intOf]; omega
        | some j =>
          obtain ⟨b', hb'⟩ : ∃ b', H[j]? = some b' := ⟨_, List.getElem?_eq_getElem (by have := HBST.out.1; have := HN.out; omega)⟩
          have hjk : j < k := HBST.out.1
          have hbv := bstV_some hb'
          rw [hbv]
          have HBV := Lib.hid hbv
          obtain ⟨-, -, -, y3⟩ := lk_cells (HPM.out.hm.lk j b' hb')
          have hjn : j < n := by omega
          clear hb' hbv
          cases hlt2 : lkLt (key m H j) (key m H k) with
          | false =>
            have HLT := Lib.hid hlt2
            have HLS : Hid (∀ nn, Calls Try.prog 25 #[.slice (some ⟨q, oo, none⟩) n c, .int .i64 j, .int .i64 k] (wr.drewN nn) fun e w' => e = .returned (.bool false) ∧ ∃ mm, w' = (wr.drewN nn).drewN mm) := Lib.hid fun nn => rless_n (i := j) (k := k) (wr.drewN nn) (HPM.out.hm.drewN nn) HN.out hjn hlt HLT.out
            clear hlt2
            go_wp2_with fail
            go_quiet ((go_at_call 25; exact Calls.quiet_of (HLS.out _)))
            go_wp2_with fail
            go_roundw
            case rel => exact ⟨k + 1, some j, _, by go_num, HBV.out.symm, by rw [HN.out]; omega, HBST.out.leave HLT.out, by rw [HWR.out]; exact World.drewN_drewN ..⟩
            case measure => simp [intOf]; omega
          | true =>
            have HLT := Lib.hid hlt2
            have HLS : Hid (∀ nn, Calls Try.prog 25 #[.slice (some ⟨q, oo, none⟩) n c, .int .i64 j, .int .i64 k] (wr.drewN nn) fun e w' => e = .returned (.bool true) ∧ ∃ mm, w' = (wr.drewN nn).drewN mm) := Lib.hid fun nn => rless_n (i := j) (k := k) (wr.drewN nn) (HPM.out.hm.drewN nn) HN.out hjn hlt HLT.out
            clear hlt2
            go_wp2_with fail
            go_quiet ((go_at_call 25; exact Calls.quiet_of (HLS.out _)))
            go_wp2_with fail
            go_roundw
            case rel => exact ⟨k + 1, some k, _, by go_num, (bstV_some HB.out).symm, by rw [HN.out]; omega, HBST.out.take HE.out HLT.out, by rw [HWR.out]; exact World.drewN_drewN ..⟩
            case measure => simp [intOf]; omega
      · have HE : Hid ((key m H k).org ≠ o) := Lib.hid (by rw [HKG.out]; exact he)
        have hd : ((m b).org == (o : Int)) = false := by simpa using he
        clear he
        go_wp2_with fail
        go_quiet (fail)
        go_wp2_with fail
        go_roundw
        case rel => exact ⟨k + 1, bo, _, by go_num, rfl, by rw [HN.out]; omega, HBST.out.skip HE.out, by rw [HWR.out]; exact World.drewN_drewN ..⟩
        case measure => simp [intOf]; omega
    · obtain rfl : k = n := by omega
      cases bo with
      | some j =>
        have hjk : j < k := HBST.out.1
        obtain ⟨b, hb⟩ : ∃ b, H[j]? = some b := ⟨_, List.getElem?_eq_getElem (by have := HN.out; omega)⟩
        have hbst := HBST.out
        rw [← HN.out] at hbst
        obtain ⟨x, hx, hbest⟩ := Bst.best HPM.out hb hbst
        have HO : Hid (P.get o now = ((x.id, false, 0), { P with L := setSn P.L x.id (-1) })) := Lib.hid (by unfold Pl.get; rw [if_neg HIF.out, bestOf_some HPM.out.ok.sorted hbest])
        rw [bstV_some hb]
        obtain ⟨p, hp, -⟩ := HPM.out.blk hx
        have hlk := HPM.out.hm.lk j b hb
        obtain ⟨-, -, -, x3⟩ := lk_cells hlk
        obtain ⟨hid, -, -⟩ := HPM.out.ent b x hx
        obtain ⟨n', hn'⟩ : ∃ n', k = n' + 1 := ⟨k - 1, by omega⟩
        have HR := Lib.hid (hremove_any (i := j) (n := n') wr.drew (HPM.out.hm.keep rfl (fun _ _ => rfl)) HPM.out.hp hb (by rw [HN.out]; exact hn') (by omega))
        have j0 : (0 : Int) ≤ j := by omega
        have HX := Lib.hid (And.intro hx (And.intro hb hid))
        clear hbst hbest hp hlk hb hx hid
        go_wp2_with fail
        go_still_tail 8, (by kernel_rfl)
        change wpList _ _ _ _ _ wr.drew
        go_wp2_with fail
        refine HR.out.mono ?_
        rintro e w1 ⟨rfl, H', hp1, hh1, hm1, hb1, hk1⟩
        obtain ⟨z0, -, -, -⟩ := lk_cells hb1
        rw [HX.out.2.2] at z0
        have HZ := Lib.hid (And.intro hp1 (And.intro hh1 (And.intro hm1 (And.intro hb1 hk1))))
        clear hp1 hh1 hm1 hb1 hk1
        go_wp2_with fail
        go_ret3
        rw [HO.out]
        obtain ⟨hp1, hh1, hm1, hb1, hk1⟩ := HZ.out
        obtain ⟨hx, hb, hid⟩ := HX.out
        have h := HPM.out
        have hnd : (H' ++ [b]).Nodup := hp1.nodup_iff.2 h.hm.nodup
        have hbn : b ∉ H' := fun hh => by
          rw [List.nodup_append] at hnd
          exact hnd.2.2 b hh b (by simp) rfl
        have hin : ∀ q, q ≠ b → (q ∈ H' ↔ q ∈ H) := fun q hq => by
          rw [← hp1.mem_iff, List.mem_append]; simp [hq]
        have hk0 : Kept (fun q => gfoot g A H q) wr w1 := ⟨hk1.os, hk1.tape, hk1.output, hk1.size, hk1.block⟩
        have hnew := h.turn hx (s := -1) hm1 hh1 (fun _ => ⟨rfl, rfl⟩) (fun _ _ => rfl) hin (fun _ => ⟨hbn, hb1⟩) (fun hs => by omega)
          (fun q y hy hqb hqH => hk0.block q (h.lt q (.inr (.inr (.inr ⟨y, hy⟩)))) (fun hh => by
            rcases hh with h1 | ⟨a, ha, hak⟩ | h1
            · exact (h.far q y hy).1 h1
            · exact (h.far q y hy).2.2 a ha hak
            · exact hqH h1))
          (hk0.block mb h.mp.lt (fun hh => by
            rcases hh with h1 | ⟨a, ha, hak⟩ | h1
            · exact h.gmb.1 h1.symm
            · exact h.gmb.2 a ha hak
            · obtain ⟨y, hy⟩ := h.hE mb h1; exact (h.far mb y hy).2.1 rfl))
          (fun a ha => ⟨h.gmb.2 a ha, fun q y hy => (h.far q y hy).2.2 a ha⟩) (by omega) (by omega)
        have hkw : Kept (pfoot g mb A E) w wr := by rw [HWR.out]; exact (Kept.refl _ _).drewN _
        refine ⟨rfl, _, PoolIs.more ⟨mb, A, c, H', m, _, B, rfl, hnew⟩ (by omega) (by omega), hkw.same (hk0.mono fun q hq => ?_), fun q hq => ?_⟩
        · rcases hq with h1 | h1
          · exact .inl h1
          · exact h.hfoot h1
        · rcases setE_foot hq with h1 | ⟨a, ha, hak⟩
          · exact .inl h1
          · exact .inl (.inr (.inr (.inl ⟨a, ha, hak⟩)))
      | none =>
        have hbst := HBST.out
        rw [← HN.out] at hbst
        have hno := bestOf_none (o := (o : Int)) HPM.out.ok.sorted (Bst.nobest HPM.out hbst)
        have HNO := Lib.hid hno
        have hmn := HPM.out.hm.many ho
        rw [HPM.out.mn o ho] at hmn
        obtain ⟨d0, -, d2, d3, -⟩ := HPM.out.hm.cells
        rw [HPM.out.bk.1] at d0
        rw [HPM.out.bk.2.2] at d2
        have hroom := HPM.out.ok.room o
        have hmo1 := HPM.out.ok.mo1
        have hla0 := HPM.out.ok.la0
        have hla1 := HPM.out.ok.la1
        clear hbst hno
        unfold bstV
        by_cases hfull : (cnt P.L o : Int) = P.mo
        · have HO : Hid (P.get o now = ((0, false, 3), P)) := Lib.hid (by unfold Pl.get; rw [if_neg HIF.out, HNO.out]; simp only; rw [if_pos (by omega)])
          rw [hfull] at hmn
          clear hfull
          go_wp2_with fail
          go_quiet (fail)
          go_wp2_with fail
          go_ret3
          rw [HO.out]
          have hkw : Kept (pfoot g mb A E) w wr := by rw [HWR.out]; exact (Kept.refl _ _).drewN _
          generalize hWq : wr.drewN _ = Wq
          have hpq : PM Wq g mb A c N H m E B P := HPM.out.keep (fun _ _ => by rw [← hWq]; rfl)
          exact ⟨rfl, _, PoolIs.more ⟨mb, A, c, H, m, E, B, rfl, hpq⟩ (by omega) (by omega), by rw [← hWq]; exact hkw.drewN _, Grew.refl _ _⟩
        · have HO : Hid (P.get o now = ((P.la + 1, true, 0), { P with la := P.la + 1, L := P.L ++ [⟨P.la + 1, o, -1⟩] })) := Lib.hid (by unfold Pl.get; rw [if_neg HIF.out, HNO.out]; simp only; rw [if_neg (by omega)])
          obtain ⟨cn, hcn⟩ : ∃ cn, cnt P.L o = cn := ⟨_, rfl⟩
          have HCN := Lib.hid hcn
          rw [hcn] at hmn hroom hfull
          have hfb : ((cn : Int) == P.mo) = false := by simpa using hfull
          have f2 := HPM.out.hm.free 2
          have f5 := HPM.out.hm.free (5 + o)
          clear hfull hcn
          go_wp2_with fail
          go_quiet (fail)
          go_wp2_with fail
          generalize hWq : wr.drewN _ = Wq
          have hmq : HM Wq g mb B A c H m := by rw [← hWq]; exact HPM.out.hm.drewN _
          have hkq : Kept (pfoot g mb A E) w Wq := by rw [← hWq, HWR.out]; exact ((Kept.refl _ _).drewN _).drewN _
          obtain ⟨W1, hW1⟩ : ∃ W1, Wq.setCell ⟨g, 2, none⟩ (.int .i64 (P.la + 1)) = W1 := ⟨_, rfl⟩
          have hm1 : HM W1 g mb { B with la := P.la + 1 } A c H m := by rw [← hW1]; exact hmq.setLast _
          have e5 := hm1.many ho
          have g5 := hm1.free (5 + o)
          have hmn2 : B.mn o = (cn : Int) := by rw [HPM.out.mn o ho, HCN.out]
          rw [show ({ B with la := P.la + 1 } : Bk).mn o = (cn : Int) from hmn2] at e5
          have hkw : Kept (pfoot g mb A E) w W1 := by rw [← hW1]; exact hkq.setCell (.inl rfl) _ _
          have hh1 : ∀ q, q ≠ g → W1.heap[q]? = wr.heap[q]? := fun q hq => by rw [← hW1, set_other _ hq, ← hWq]; rfl
          have hs1 : W1.heap.size = wr.heap.size := by rw [← hW1, ← hWq]; simp [World.setCell, World.drewN]
          have HH1 := Lib.hid (And.intro hh1 hs1)
          rw [hW1]
          have HM1 := Lib.hid hm1
          have HK1 := Lib.hid hkw
          have HW1 := Lib.hid hW1
          have HMN := Lib.hid hmn2
          clear hm1 hkw hW1 hh1 hs1 hmq hkq hWq hmn d0 d2 d3 f2 f5 hmn2
          go_region
          all_goals
            go_wp2_with fail
            obtain ⟨W2, hW2⟩ : ∃ W2, (W1.setCell ⟨g, 5 + o, none⟩ (.int .i64 ((cn : Int) + 1))).drew = W2 := ⟨_, rfl⟩
            have hm2 : HM W2 g mb (({ B with la := P.la + 1 } : Bk).inc o 1) A c H m := by
              rw [← hW2, ← HMN.out]; exact (HM1.out.setMany ho 1).keep rfl (fun _ _ => rfl)
            obtain ⟨-, -, d2', d3, -⟩ := hm2.cells
            have d2 : W2.cell? ⟨g, 2, none⟩ = some (.int .i64 (P.la + 1)) := d2'
            clear d2'
            have HM2 := Lib.hid hm2
            have HK2 : Hid (Kept (pfoot g mb A E) w W2) := Lib.hid (by rw [← hW2]; exact (HK1.out.setCell (.inl rfl) _ _).drew)
            have HH2 : Hid ((∀ q, q ≠ g → W2.heap[q]? = wr.heap[q]?) ∧ W2.heap.size = wr.heap.size) := Lib.hid ⟨fun q hq => by rw [← hW2]; exact (set_other _ hq).trans (HH1.out.1 q hq), by rw [← hW2, ← HH1.out.2]; simp [World.setCell, World.drew]⟩
            rw [hW2]
            clear hm2 hW2 e5 g5
            have hgl := HM2.out.glt
            have h := HPM.out
            obtain ⟨W3, hW3⟩ : ∃ W3, (W2.alloc (.cells #[.int .i64 (P.la + 1), .int .i64 (o : Int), .int .i64 0, .int .i64 (-1)] 63)).drew = W3 := ⟨_, rfl⟩
            have hk3 : Kept (pfoot g mb A E) w W3 := by rw [← hW3]; exact (HK2.out.alloc _).drew
            have hsz := HH2.out.2
            have hoth : ∀ q, q ≠ g → q < wr.heap.size → W3.heap[q]? = wr.heap[q]? := fun q hq hql => by rw [← hW3]; exact (Below.heap_alloc _ _ _ (by omega)).trans (HH2.out.1 q hq)
            have hg3 : W3.heap[g]? = W2.heap[g]? := by rw [← hW3]; exact Below.heap_alloc _ _ _ hgl
            have hb3 : W3.heap[W2.heap.size]? = some (.cells (lkCells ⟨P.la + 1, o, 0⟩ (-1)) 63 (0, 0)) := by rw [← hW3]; exact heapNew _ _
            have hmp3 : MapIs W3 mb N (blkOf E) E.length := h.mp.keep (hoth mb (Ne.symm h.gmb.1) h.mp.lt)
            have hno : blkOf E (P.la + 1) = none := by
              rcases blkOf_find h.eL (P.la + 1) with ⟨e, _⟩ | ⟨b', x', h1, _, _, h3⟩
              · exact e
              · have := (h.ok.each x' (h.org h1)).2.1; omega
            obtain ⟨W4, hrun, hmp4, hg4⟩ := hmp3.put (i := P.la + 1) (WalkArith.wf_i64 (by omega)) hno (by unfold maxLen; omega) W2.heap.size
            have hlt3 : g < W3.heap.size := (Array.getElem?_eq_some_iff.1 (hg3.trans HM2.out.book)).1
            have hg4' : W4.heap[g]? = W2.heap[g]? := (hg4.block g hlt3 (by simpa using h.gmb.1)).trans hg3
            have e2 : W4.cell? ⟨g, 2, none⟩ = some (.int .i64 (P.la + 1)) := (World.cell?_of_block (a := ⟨g, 2, none⟩) hg4').trans d2
            have hoth4 : ∀ q, q ≠ g → q ≠ mb → q < wr.heap.size → W4.heap[q]? = wr.heap[q]? := fun q h1 h2 h3 => (hg4.block q (by rw [← hW3]; show q < (W2.alloc _).heap.size; simp; omega) (by simpa using h2)).trans (hoth q h1 h3)
            have hb4 : W4.heap[W2.heap.size]? = some (.cells (lkCells ⟨P.la + 1, o, 0⟩ (-1)) 63 (0, 0)) := (hg4.block _ (Array.getElem?_eq_some_iff.1 hb3).1 (fun e => by injection e with e; have := h.mp.lt; omega)).trans hb3
            have hk4 : Kept (pfoot g mb A E) w W4 := hk3.grown hg4 (fun q hq => by cases hq; exact .inl (.inr (.inl rfl)))
            have hm4 : HM W4 g mb (({ B with la := P.la + 1 } : Bk).inc o 1) A c H m := HM2.out.keep hg4' (fun q hq => by
              have hqs := h.hm.lt q hq
              have hqg : q ≠ g := fun e => by
                subst e
                rcases hq with ⟨a, ha, hak⟩ | h1
                · exact (h.hm.apart a ha).1 hak
                · exact h.hm.gH h1
              have hqm : q ≠ mb := fun e => by
                subst e
                rcases hq with ⟨a, ha, hak⟩ | h1
                · exact h.gmb.2 a ha hak
                · obtain ⟨y, hy⟩ := h.hE q h1; exact (h.far q y hy).2.1 rfl
              rw [hoth4 q hqg hqm hqs, HH2.out.1 q hqg])
            have hnew := h.added ho (b := W2.heap.size) (by omega) hm4 hb4 (fun q y hy => hoth4 q (h.far q y hy).1 (h.far q y hy).2.1 (h.lt q (.inr (.inr (.inr ⟨y, hy⟩))))) hmp4 (by rw [HCN.out]; have := beq_eq_false_iff_ne.1 hfb; omega) (by omega)
            have hkk := hk4.size
            unfold ptrV at hrun
            rw [← hW3] at hrun
            have HP := Lib.hid (And.intro hk4 hnew)
            have hwz : w.heap.size ≤ W2.heap.size := HK2.out.size
            clear hk3 hoth hmp3 hmp4 hg4 hW3 h hg3 hb3 hno hlt3 hg4' hoth4 hb4 hk4 hm4 hnew hkk hsz
            go_region
            all_goals
              go_wp2_with fail
              go_ret3
              rw [HO.out]
              obtain ⟨hk4, hnew⟩ := HP.out
              refine ⟨rfl, _, ⟨mb, A, c, H, _, _, _, rfl, hnew⟩, hk4, fun q hq => ?_⟩
              rcases hq with h1 | h1 | h1 | ⟨y, h1⟩
              · exact .inl (.inl h1)
              · exact .inl (.inr (.inl h1))
              · exact .inl (.inr (.inr (.inl h1)))
              · rcases List.mem_append.1 h1 with h2 | h2
                · exact .inl (.inr (.inr (.inr ⟨y, h2⟩)))
                · have : q = W2.heap.size := by have := List.mem_singleton.1 h2; injection this
                  exact .inr (by omega)
end Go.Proofs.Ytidfokfnigncmaa
