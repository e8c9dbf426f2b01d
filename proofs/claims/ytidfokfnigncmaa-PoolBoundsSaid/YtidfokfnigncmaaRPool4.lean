/- The walk of drawbridgeref16.Get. -/
import Derived.Test.YtidfokfnigncmaaRPool3
import Derived.Deep.RegionHeld3
namespace Go.Proofs.Ytidfokfnigncmaa
open Go.RowKit

section
variable {P : Program} {w : World}
/-- append onto a slice that lies somewhere, as one step of a region that draws. -/
theorem step_app_lies {ops : Array Oper} {o : Oper} {a : Act} {K : Act → World → Prop} {Q : Exit → Act → World → Prop} {E : Prop} (s x : Operand) {t e : TypeId} {z : Value} {size bytes : Nat} (hT : SlT P t e z size bytes)
    (hgd : o.guard = none) (ho : o.op = .call { callee := .builtin .append, args := #[s, x], argTypes := #[t, t] })
    {v : Value} {n : Nat} {xs : List Value} (hl : Lies w e size v n xs) (hs : a.eval s = v)
    {B : Nat} {A : Option Addr} {m c : Nat} {news : List Value} (hr : Rd w B size A m news) (hm : 0 < m) (hx : a.eval x = .slice A m c) (h1 : ∀ u ∈ news, u.oneCell' = true)
    (h63 : n + m ≤ maxLen) (hbytes : (n + m) * bytes ≤ 140737488355328)
    (h : ∀ v' w', Lies w' e size v' (n + m) (xs ++ news) → w.grownBy w' v.ownBlock → (v'.ownBlock = v.ownBlock ∨ ∀ k, v'.ownBlock = some k → w.heap.size ≤ k) → K (a.put o.dst v') w') :
    if Region.wanted o (yielded ops a.tmps) = true then Oper.wp P o a w K Q else E := by
  have hw : Region.wanted o (yielded ops a.tmps) = true := by simp [Region.wanted, hgd]
  rw [if_pos hw]
  obtain ⟨v', w', hrun, h2, h3, h4⟩ := run_app_lies (P := P) o.type hT hl hr hm (c := c) h1 h63 hbytes
  unfold Oper.wp execOp
  simp only [ho, resolve, invoke, builtin, Sem.run_bind, Sem.run_pure, Result.andThen_ok, List.map_toArray, List.map_cons, List.map_nil, hs, hx, hrun]
  exact h v' w' h2 h3 h4
end
theorem Rd.tri (w : World) (x y z : Value) (t : TypeId) : Rd (w.alloc (.cells #[x, y, z] t)) (w.heap.size + 1) 3 (some ⟨w.heap.size, 0, none⟩) 1 [x, y, z] := by
  refine ⟨rfl, fun _ => ⟨_, _, rfl, by omega, fun j hj => ?_⟩⟩
  rw [World.cell?_alloc_at _ _ _ _ rfl]
  simp
theorem RM.setLast {w : World} {q c : Nat} {A : Option Addr} {P : Pl} (h : RM w q A c P) (v : Int) : RM (w.setCell ⟨q, 2, none⟩ (.int .i64 v)) q A c { P with la := v } := by
  refine ⟨?_, h.row.keep fun k hk => set_other _ (fun e => ?_), h.ne⟩
  · rw [set_block h.book]; rfl
  · cases A with
    | none => cases hk
    | some a => simp only [Value.ownBlock, Option.some.injEq] at hk; exact h.ne a rfl (hk.trans e)
/-- The place that the search has kept. -/
def PlaceV (L : List Ln) (k : Nat) (acc : Option Ln) (j : Int) : Prop := match acc with
  | none => j = -1
  | some e => ∃ i : Nat, j = i ∧ L[i]? = some e ∧ i < k
def RGetRel (W : World) (L : List Ln) (o : Int) (bv nv kv : Value) (wr : World) : Prop :=
  ∃ (k : Nat) (j : Int), kv = .int .i64 k ∧ bv = .int .i64 j ∧ nv = .int .i64 (cnt (L.take k) o : Nat) ∧ k ≤ L.length ∧ PlaceV L k ((L.take k).foldl (bestStep o) none) j ∧ Below W.heap.size W wr
theorem fold_take {L : List Ln} {k : Nat} {x : Ln} (f : Option Ln → Ln → Option Ln) (hx : L[k]? = some x) : (L.take (k + 1)).foldl f none = f ((L.take k).foldl f none) x := by
  rw [List.take_add_one, hx, Option.toList_some, List.foldl_append]; rfl
theorem PlaceV.more {L : List Ln} {k : Nat} {acc : Option Ln} {j : Int} (h : PlaceV L k acc j) : PlaceV L (k + 1) acc j := by
  cases acc with
  | none => exact h
  | some e => obtain ⟨i, h1, h2, h3⟩ := h; exact ⟨i, h1, h2, by omega⟩
theorem rget_end {w W1 w4 : World} {q c k : Nat} {A A4 : Option Addr} {c4 : Nat} {P : Pl} {o : Int} (hm1 : RM W1 q A c { P with la := P.la + 1 }) (hkw : Kept (qfoot q A) w W1) (hk : P.L.length = k)
    (h5 : Lies w4 72 3 (.slice A4 (k + 1) c4) (k + 1) (lcs P.L ++ [.int .i64 (P.la + 1), .int .i64 o, .int .i64 (-1)]) ∧ (W1.alloc (.cells #[.int .i64 (P.la + 1), .int .i64 o, .int .i64 (-1)] 72)).drew.grownBy w4 (Value.slice A k c).ownBlock ∧
      ((Value.slice A4 (k + 1) c4).ownBlock = (Value.slice A k c).ownBlock ∨ ∀ j, (Value.slice A4 (k + 1) c4).ownBlock = some j → (W1.alloc (.cells #[.int .i64 (P.la + 1), .int .i64 o, .int .i64 (-1)] 72)).drew.heap.size ≤ j) ∧ w4.heap[q]? = W1.heap[q]?) :
    ∃ F', RPool (w4.setCell ⟨q, 3, none⟩ (.slice A4 (k + 1) c4)) q F' { P with la := P.la + 1, L := P.L ++ [⟨P.la + 1, o, -1⟩] } ∧ Kept (qfoot q A) w (w4.setCell ⟨q, 3, none⟩ (.slice A4 (k + 1) c4)) ∧ Grew w (qfoot q A) F' := by
  obtain ⟨hl4, hg4, hb4, hq4⟩ := h5
  have hws := hkw.size
  have hql := hm1.lt q (.inl rfl)
  have hsz : (W1.alloc (.cells #[.int .i64 (P.la + 1), .int .i64 o, .int .i64 (-1)] 72)).drew.heap.size = W1.heap.size + 1 := by show (W1.alloc _).heap.size = _; simp
  rw [hsz] at hb4
  have hA4 : ∀ a, A4 = some a → (∃ a0, A = some a0 ∧ a0.block = a.block) ∨ W1.heap.size + 1 ≤ a.block := fun a ha => by
    subst ha
    rcases hb4 with h1 | h1
    · left
      cases A with
      | none => simp [Value.ownBlock] at h1
      | some a0 => simp only [Value.ownBlock, Option.some.injEq] at h1; exact ⟨a0, rfl, h1.symm⟩
    · exact .inr (h1 a.block rfl)
  have hlen : (P.L ++ [(⟨P.la + 1, o, -1⟩ : Ln)]).length = k + 1 := by rw [List.length_append, hk]; rfl
  have hst := hm1.store (base := 0) (L' := P.L ++ [⟨P.la + 1, o, -1⟩]) (A4 := A4) (c4 := c4) hq4 (by rw [hlen, lcs_app]; exact hl4) (fun a ha => by
    rcases hA4 a ha with ⟨a0, h1, h2⟩ | h1
    · rw [← h2]; exact hm1.ne a0 h1
    · omega)
  rw [hlen] at hst
  refine ⟨_, ⟨A4, c4, rfl, hst⟩, Kept.setCell (Kept.grown ((hkw.alloc _).drew) hg4 (fun j hj => .inl (.inr ?_))) (.inl rfl) _ _, ?_⟩
  · cases A with
    | none => cases hj
    | some a => simp only [Value.ownBlock, Option.some.injEq] at hj; exact ⟨a, rfl, hj⟩
  · rintro j (rfl | ⟨a, ha, rfl⟩)
    · exact .inl (.inl rfl)
    · rcases hA4 a ha with ⟨a0, h1, h2⟩ | h1
      · exact .inl (.inr ⟨a0, h1, h2⟩)
      · exact .inr (by omega)
set_option maxRecDepth 100000 in
set_option maxHeartbeats 4000000 in
theorem rget_bad {q : Nat} {F : Nat → Prop} {P : Pl} (o now : Int) (w : World) (h : RPool w q F P) (hb : o < 0 ∨ 4 ≤ o ∨ now < 0 ∨ 1099511627776 < now) :
    Calls Try.prog 14 #[.pointer (some ⟨q, 0, none⟩), .int .i64 o, .int .i64 now] w (RPStep w q F (P.get o now).2 (.tuple #[.int .i64 (P.get o now).1.1, .bool (P.get o now).1.2.1, .int .i64 (P.get o now).1.2.2])) := by
  have HO : Hid (P.get o now = ((0, false, 1), P)) := Lib.hid (by unfold Pl.get; rw [if_pos hb])
  have HH := Lib.hid h
  clear h
  by_cases h1 : o < 0
  · clear hb
    go_enter Try.func14, Try.ntmps14
    go_wp2_with fail
    go_ret3
    rw [HO.out]
    exact ⟨rfl, F, HH.out, Kept.refl _ _, Grew.refl _ _⟩
  by_cases h2 : 4 ≤ o
  · clear hb
    go_enter Try.func14, Try.ntmps14
    go_wp2_with fail
    go_ret3
    rw [HO.out]
    exact ⟨rfl, F, HH.out, Kept.refl _ _, Grew.refl _ _⟩
  by_cases h3 : now < 0
  · clear hb
    go_enter Try.func14, Try.ntmps14
    go_wp2_with fail
    go_ret3
    rw [HO.out]
    exact ⟨rfl, F, HH.out, Kept.refl _ _, Grew.refl _ _⟩
  · have h4 : 1099511627776 < now := by omega
    clear hb
    go_enter Try.func14, Try.ntmps14
    go_wp2_with fail
    go_ret3
    rw [HO.out]
    exact ⟨rfl, F, HH.out, Kept.refl _ _, Grew.refl _ _⟩
set_option maxRecDepth 100000 in
set_option maxHeartbeats 4000000 in
theorem rget_ok {q : Nat} {F : Nat → Prop} {P : Pl} (o now : Int) (w : World) (h : RPool w q F P) (hok : ∃ N, PlOk N P) (hl : P.L.length ≤ 1099511627776) (ho0 : 0 ≤ o) (ho1 : o < 4) (ht0 : 0 ≤ now) (ht1 : now ≤ 1099511627776) :
    Calls Try.prog 14 #[.pointer (some ⟨q, 0, none⟩), .int .i64 o, .int .i64 now] w (RPStep w q F (P.get o now).2 (.tuple #[.int .i64 (P.get o now).1.1, .bool (P.get o now).1.2.1, .int .i64 (P.get o now).1.2.2])) := by
  obtain ⟨NN, hok⟩ := hok
  have HIF : Hid (¬ (o < 0 ∨ 4 ≤ o ∨ now < 0 ∨ 1099511627776 < now)) := Lib.hid (by omega)
  have HOK := Lib.hid hok
  obtain ⟨A, c, rfl, h⟩ := h
  have HH := Lib.hid h
  obtain ⟨n, hn⟩ : ∃ n, P.L.length = n := ⟨_, rfl⟩
  have HN := Lib.hid hn
  rw [hn] at hl
  clear h hn hok
  go_enter Try.func14, Try.ntmps14
  go_wp2_with fail
  go_loopw [9, 10, 11] (fun bv nv kv wr => RGetRel w P.L o bv nv kv wr) (fun _ _ kv _ => n - (intOf kv).toNat)
  case atStart => exact ⟨0, -1, rfl, rfl, rfl, Nat.zero_le _, rfl, Below.refl _ _⟩
  case round =>
    obtain ⟨k, j, rfl, rfl, rfl, hk, hpl, hbel⟩ := hrel
    rw [HN.out] at hk
    have hm := HH.out.keep (w' := wr) (fun k hk => hbel.block k (HH.out.lt k hk))
    obtain ⟨d0, -, d2, c3⟩ := hm.cells
    rw [HN.out] at c3
    have HM := Lib.hid hm
    have HPL := Lib.hid hpl
    have HB := Lib.hid hbel
    have hsz := hbel.size
    clear hm hpl hbel
    by_cases hlt : k < n
    · obtain ⟨x, hx⟩ : ∃ x, P.L[k]? = some x := ⟨_, List.getElem?_eq_getElem (by rw [HN.out]; exact hlt)⟩
      obtain ⟨b, oo, rfl, hb, q0, q1, q2⟩ := HM.out.at_ hx
      have HT := Lib.hid (take_countL (p := fun x => decide (x.org = o)) hx)
      have HFD := Lib.hid (fold_take (bestStep o) hx)
      have hcl : cnt (P.L.take k) o ≤ k := Nat.le_trans List.countP_le_length (List.length_take_le _ _)
      obtain ⟨cc, hcc⟩ : ∃ cc, cnt (P.L.take k) o = cc := ⟨_, rfl⟩
      have HCC : Hid ((P.L.take k).countP (fun x => decide (x.org = o)) = cc) := Lib.hid hcc
      rw [hcc] at hcl ⊢
      have HX := Lib.hid hx
      have n1 : (k : Int) < n := by omega
      have n0 : (0 : Int) ≤ k := by omega
      have HE : Hid (∀ ob, Below w.heap.size w (wr.alloc ob)) := Lib.hid fun ob => HB.out.alloc hsz ob
      have HE2 : Hid (∀ ob m, Below w.heap.size w ((wr.alloc ob).drewN m)) := Lib.hid fun ob m => below_dN (HB.out.alloc hsz ob) m
      clear hx hcc d0 d2
      by_cases he : x.org = o
      · have HD : Hid (decide (x.org = o) = true) := Lib.hid (by simpa using he)
        rw [he] at q1
        by_cases hs : 0 ≤ x.sn
        · cases hacc : (P.L.take k).foldl (bestStep o) none with
          | none =>
            have hj := HPL.out
            rw [hacc] at hj
            have hj1 : j = -1 := hj
            have HBS : Hid ((P.L.take (k + 1)).foldl (bestStep o) none = some x) := Lib.hid (by rw [HFD.out, hacc]; unfold bestStep; rw [if_pos ⟨he, hs⟩])
            subst hj1
            clear hacc hj he
            go_wp2_with fail
            go_quiet (fail)
            go_wp2_with fail
            go_roundw
            case rel => exact ⟨k + 1, k, by go_num, rfl, by rw [show cnt (P.L.take (k + 1)) o = cc + 1 from by unfold cnt; rw [HT.out, HCC.out, HD.out]; rfl]; go_num, by rw [HN.out]; omega, by rw [HBS.out]; exact ⟨k, rfl, HX.out, by omega⟩, HE2.out _ _⟩
            case measure => simp [intOf]; omega
          | some e =>
            have hj := HPL.out
            rw [hacc] at hj
            obtain ⟨i, hji, hi, hik⟩ := hj
            obtain ⟨b', o', hA', hb', -, -, p2⟩ := HM.out.at_ hi
            cases hA'
            have i0 : (0 : Int) ≤ i := by omega
            have i1 : (i : Int) < n := by omega
            have id0 : decide ((i : Int) < 0) = false := by simp
            have hql := HM.out.lt q (.inl rfl)
            have hji' : ¬ (i : Int) < 0 := by omega
            subst hji
            by_cases hle : e.sn ≤ x.sn
            · have HBS : Hid ((P.L.take (k + 1)).foldl (bestStep o) none = some x) := Lib.hid (by rw [HFD.out, hacc]; unfold bestStep; rw [if_pos ⟨he, hs⟩]; exact if_pos hle)
              have hld : decide (e.sn ≤ x.sn) = true := by simpa using hle
              clear hacc hi he
              go_wp2_with fail
              go_quiet (fail)
              go_wp2_with fail
              go_roundw
              case rel => exact ⟨k + 1, k, by go_num, rfl, by rw [show cnt (P.L.take (k + 1)) o = cc + 1 from by unfold cnt; rw [HT.out, HCC.out, HD.out]; rfl]; go_num, by rw [HN.out]; omega, by rw [HBS.out]; exact ⟨k, rfl, HX.out, by omega⟩, HE2.out _ _⟩
              case measure => simp [intOf]; omega
            · have HBS : Hid ((P.L.take (k + 1)).foldl (bestStep o) none = some e) := Lib.hid (by rw [HFD.out, hacc]; unfold bestStep; rw [if_pos ⟨he, hs⟩]; exact if_neg hle)
              have hld : decide (e.sn ≤ x.sn) = false := by simpa using hle
              have HI := Lib.hid hi
              clear hacc hi he
              go_wp2_with fail
              go_quiet (fail)
              go_wp2_with fail
              go_roundw
              case rel => exact ⟨k + 1, i, by go_num, rfl, by rw [show cnt (P.L.take (k + 1)) o = cc + 1 from by unfold cnt; rw [HT.out, HCC.out, HD.out]; rfl]; go_num, by rw [HN.out]; omega, by rw [HBS.out]; exact ⟨i, rfl, HI.out, by omega⟩, HE2.out _ _⟩
              case measure => simp [intOf]; omega
        · have HBS : Hid ((P.L.take (k + 1)).foldl (bestStep o) none = (P.L.take k).foldl (bestStep o) none) := Lib.hid (by rw [HFD.out]; unfold bestStep; rw [if_neg (fun h => hs h.2)])
          have hsd : decide (0 ≤ x.sn) = false := by simpa using hs
          clear he
          go_wp2_with fail
          go_quiet (fail)
          go_wp2_with fail
          go_roundw
          case rel => exact ⟨k + 1, j, by go_num, rfl, by rw [show cnt (P.L.take (k + 1)) o = cc + 1 from by unfold cnt; rw [HT.out, HCC.out, HD.out]; rfl]; go_num, by rw [HN.out]; omega, by rw [HBS.out]; exact HPL.out.more, HE2.out _ _⟩
          case measure => simp [intOf]; omega
      · have HD : Hid (decide (x.org = o) = false) := Lib.hid (by simpa using he)
        have HBS : Hid ((P.L.take (k + 1)).foldl (bestStep o) none = (P.L.take k).foldl (bestStep o) none) := Lib.hid (by rw [HFD.out]; unfold bestStep; rw [if_neg (fun h => he h.1)])
        have hd : (x.org == o) = false := by simpa using he
        have hdn : (x.org != o) = true := by simpa using he
        clear he
        go_wp2_with fail
        go_roundw
        case rel => exact ⟨k + 1, j, by go_num, rfl, by rw [show cnt (P.L.take (k + 1)) o = cc from by unfold cnt; rw [HT.out, HCC.out, HD.out]; rfl], by rw [HN.out]; omega, by rw [HBS.out]; exact HPL.out.more, HE.out _⟩
        case measure => simp [intOf]; omega
    · obtain rfl : k = n := by omega
      have htk : P.L.take k = P.L := List.take_of_length_le (by rw [HN.out]; exact Nat.le_refl _)
      have hpl := HPL.out
      rw [htk] at hpl ⊢
      have hbo : P.L.foldl (bestStep o) none = bestOf P.L o := rfl
      rw [hbo] at hpl
      have hcl : cnt P.L o ≤ k := by rw [← HN.out]; exact List.countP_le_length
      obtain ⟨cc, hcc⟩ : ∃ cc, cnt P.L o = cc := ⟨_, rfl⟩
      have HCC := Lib.hid hcc
      rw [hcc] at hcl ⊢
      clear htk hbo hcc
      cases hbest : bestOf P.L o with
      | some e =>
        rw [hbest] at hpl
        obtain ⟨i, hji, hi, hik⟩ := hpl
        have HO : Hid (P.get o now = ((e.id, false, 0), { P with L := setSn P.L e.id (-1) })) := Lib.hid (by unfold Pl.get; rw [if_neg HIF.out, hbest])
        obtain ⟨b, oo, rfl, hb, q0, q1, q2⟩ := HM.out.at_ hi
        have fz := HM.out.rowFree rfl (oo + i * 3 + 2)
        have i0 : (0 : Int) ≤ i := by omega
        have i1 : (i : Int) < k := by omega
        have HS := Lib.hid (HM.out.setSn_ HOK.out.sorted hi (-1))
        have HKW : Hid (Kept (qfoot q (some ⟨b, oo, none⟩)) w wr) := Lib.hid (Kept.of_below HB.out)
        have hbq : b ≠ q := HM.out.ne _ rfl
        have hqb : q ≠ b := Ne.symm hbq
        subst hji
        clear hbest hi d0 d2
        go_wp2_with fail
        go_ret3
        rw [HO.out]
        exact ⟨rfl, _, ⟨_, c, rfl, HS.out⟩, HKW.out.setCell (.inr ⟨_, rfl, rfl⟩) _ _, Grew.refl _ _⟩
      | none =>
        rw [hbest] at hpl
        have hj1 : j = -1 := hpl
        subst hj1
        clear hpl
        by_cases hfull : P.mo ≤ cc
        · have HO : Hid (P.get o now = ((0, false, 3), P)) := Lib.hid (by unfold Pl.get; rw [if_neg HIF.out, hbest]; simp only; rw [if_pos (by rw [HCC.out]; exact hfull)])
          clear hbest
          go_wp2_with fail
          go_ret3
          rw [HO.out]
          exact ⟨rfl, _, ⟨A, c, rfl, HM.out⟩, Kept.of_below HB.out, Grew.refl _ _⟩
        · have HO : Hid (P.get o now = ((P.la + 1, true, 0), { P with la := P.la + 1, L := P.L ++ [⟨P.la + 1, o, -1⟩] })) := Lib.hid (by unfold Pl.get; rw [if_neg HIF.out, hbest]; simp only; rw [if_neg (by rw [HCC.out]; exact hfull)])
          have hla0 := HOK.out.la0
          have hla1 := HOK.out.la1
          have hfew := HOK.out.few
          have f2 := HM.out.free 2
          have hm1 := HM.out.setLast (P.la + 1)
          obtain ⟨W1, hW1⟩ : ∃ W1, wr.setCell ⟨q, 2, none⟩ (.int .i64 (P.la + 1)) = W1 := ⟨_, rfl⟩
          rw [hW1] at hm1
          obtain ⟨-, -, e2, e3⟩ := hm1.cells
          have hnn : P.L.length = k := HN.out
          have e3' : W1.cell? ⟨q, 3, none⟩ = some (.slice A k c) := by rw [← hnn]; exact e3
          have e2' : W1.cell? ⟨q, 2, none⟩ = some (.int .i64 (P.la + 1)) := e2
          have g3 := hm1.free 3
          have hq1 := hm1.lt q (.inl rfl)
          have hrow : Lies W1 72 3 (.slice A k c) k (lcs P.L) := by rw [← hnn]; exact hm1.row
          have HROW := Lib.hid hrow
          have HM1 := Lib.hid hm1
          have hAq : ∀ a, A = some a → a.block ≠ q := hm1.ne
          have HAQ := Lib.hid hAq
          have HKW : Hid (Kept (qfoot q A) w W1) := Lib.hid (by rw [← hW1]; exact (Kept.of_below HB.out).setCell (.inl rfl) _ _)
          have HW1 := Lib.hid hW1
          have hlb : k ≤ 1099511627776 := hl
          have hws : w.heap.size ≤ W1.heap.size := HKW.out.size
          clear hbest e2 e3 hrow hm1 hAq hW1 hnn
          go_wp2_with fail
          rw [HW1.out]
          clear d0 d2 c3 f2
          go_region_law (first
            | (refine step_app_lies (.tmp 104) (.tmp 111) tLinks rfl rfl (HROW.out.alloc _) rfl (Rd.tri _ _ _ _ _) (by decide) rfl (lcs_one [⟨P.la + 1, o, -1⟩]) (le_maxLen (by omega)) (by omega) ?_; intro v4 w4 hl4 hg4 hb4; have hq4 : w4.heap[q]? = W1.heap[q]? := (hg4.block q (by simp; omega) (by cases A with | none => simp [Value.ownBlock] | some a => have := HAQ.out a rfl; simp [Value.ownBlock]; exact fun e => this e.symm)).trans (Below.heap_alloc W1 _ q hq1); have m3 : w4.cell? ⟨q, 3, none⟩ = some (.slice A k c) := (World.cell?_of_block (a := ⟨q, 3, none⟩) hq4).trans e3'; have m2 : w4.cell? ⟨q, 2, none⟩ = some (.int .i64 (P.la + 1)) := (World.cell?_of_block (a := ⟨q, 2, none⟩) hq4).trans e2'; have mf : w4.frozen? ⟨q, 3, none⟩ = false := (World.frozen?_of_block (a := ⟨q, 3, none⟩) hq4).trans g3; obtain ⟨A4, c4', rfl, -⟩ := hl4.form; have H5 := Lib.hid (And.intro hl4 (And.intro hg4 (And.intro hb4 hq4))); clear hl4 hg4 hb4 hq4))
          all_goals
            go_wp2_with fail
            go_ret3
            rw [HO.out]
            obtain ⟨F', r1, r2, r3⟩ := rget_end HM1.out HKW.out HN.out H5.out
            exact ⟨rfl, F', r1, r2, r3⟩
end Go.Proofs.Ytidfokfnigncmaa
