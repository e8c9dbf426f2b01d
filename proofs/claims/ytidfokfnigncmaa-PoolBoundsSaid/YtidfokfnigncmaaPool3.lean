/- The walks of rest.Pop, rest.Push. -/
import Derived.Test.YtidfokfnigncmaaPool2
namespace Go.Proofs.Ytidfokfnigncmaa
open Go.RowKit

theorem tRest : SlT Try.prog 56 61 (.pointer none) 1 8 := ⟨Try.underlying56, by kernel_rfl, rfl, by decide⟩
/-- A footprint with the pool's block. -/
def gfoot (g : Nat) (A : Option Addr) (H : List Nat) (k : Nat) : Prop := k = g ∨ hfoot A H k
section
variable {w w' : World} {g mb c : Nat} {B : Bk} {A : Option Addr} {H : List Nat} {m : Nat → Lk}
theorem Lies.take {e : TypeId} {n c : Nat} {xs : List Value} (h : Lies w e 1 (.slice A n c) n xs) {k : Nat} (hk : k ≤ n) : Lies w e 1 (.slice A k c) k (xs.take k) := by
  refine ⟨by rw [List.length_take, h.1]; omega, ?_⟩
  rcases h.2 with ⟨h1, h0⟩ | ⟨_, o', cap, cur, hv, hb, hn, hc, hs, hcell⟩
  · injection h1 with h1 h2 h3
    subst h1 h3
    have : k = 0 := by omega
    subst this
    exact .inl ⟨rfl, rfl⟩
  · injection hv with e1 e2 e3
    subst e1 e3
    refine .inr ⟨_, o', c, cur, rfl, hb, by omega, hc, hs, fun j hj => ?_⟩
    rw [List.getElem?_take, if_pos (by omega)]
    exact hcell j (by omega)
/-- The pool's row is another. -/
theorem HM.setRest {A0 : Option Addr} {n0 c0 : Nat} (hbk : w.heap[g]? = some (.cells (bookCells B mb A0 n0 c0) 59 (0, 0))) {A' : Option Addr} {c' : Nat} {H' : List Nat} (hr : Lies w 61 1 (.slice A' H'.length c') H'.length (H'.map ptrV))
    (hl : ∀ (i b : Nat), H'[i]? = some b → w.heap[b]? = some (.cells (lkCells (m b) i) 63 (0, 0))) (hg : g ∉ H') (ha : ∀ a, A' = some a → a.block ≠ g ∧ a.block ∉ H') (hn : H'.Nodup) :
    HM (w.setCell ⟨g, 4, none⟩ (.slice A' H'.length c')) g mb B A' c' H' m := by
  refine ⟨?_, hr.keep fun q hq => set_other _ ?_, fun i b hb => (set_other _ (fun (e : b = g) => hg (e ▸ List.mem_of_getElem? hb))).trans (hl i b hb), hg, ha, hn⟩
  · rw [set_block hbk]; rfl
  · cases A' with
    | none => cases hq
    | some a => simp only [Value.ownBlock, Option.some.injEq] at hq; subst hq; exact (ha a rfl).1
end
def PopPost (W : World) (g mb : Nat) (B : Bk) (A : Option Addr) (c : Nat) (H : List Nat) (m : Nat → Lk) (b : Nat) (e : Ending) (w' : World) : Prop :=
  e = .returned (.iface 61 (ptrV b)) ∧ HM w' g mb B A c (H.take (H.length - 1)) m ∧ w'.heap[b]? = some (.cells (lkCells (m b) (-1)) 63 (0, 0)) ∧ Kept (gfoot g A H) W w'
set_option maxRecDepth 100000 in
set_option maxHeartbeats 2000000 in
theorem rpop_any {g mb c : Nat} {B : Bk} {A : Option Addr} {H : List Nat} {m : Nat → Lk} {b : Nat} (w : World) (h : HM w g mb B A c H m) (hb : H[H.length - 1]? = some b) (hn : H.length ≤ 1099511627776) :
    Calls Try.prog 52 #[.pointer (some ⟨g, 4, none⟩)] w (PopPost w g mb B A c H m b) := by
  have h0 := (List.getElem?_eq_some_iff.1 hb).1
  obtain ⟨q, o, b2, rfl, hq, hb2, q0⟩ := h.at_ (i := H.length - 1) (by omega)
  rw [hb] at hb2
  injection hb2 with hb2
  subst hb2
  obtain ⟨-, -, -, -, c4⟩ := h.cells
  have fz := h.free 4
  have x := h.lk _ b hb
  obtain ⟨-, -, -, x3⟩ := lk_cells x
  have g0 := lk_free x 3
  have hbH := List.mem_of_getElem? hb
  have hgb : g ≠ b := fun e => h.gH (e ▸ hbH)
  obtain ⟨A', c', hv, hnc, hcm, -⟩ := h.row.form
  injection hv with e1 e2 e3
  subst e1 e3
  have HH := Lib.hid h
  have HX := Lib.hid x
  obtain ⟨n, hn1⟩ : ∃ n, H.length = n + 1 := ⟨H.length - 1, by omega⟩
  have HB := Lib.hid hb
  have HN := Lib.hid hn1
  rw [hn1] at c4 hn hnc
  rw [hn1, Nat.add_sub_cancel] at q0
  have hnc2 : ((n : Int) + 1) ≤ c := by omega
  have n0 : (0 : Int) ≤ n := by omega
  clear h hb x h0 hn1
  go_enter Try.func52, Try.ntmps52
  go_wp2
  go_ret
  have h := HH.out
  have hnn := HN.out
  have htl : (H.take n).length = n := by rw [List.length_take]; omega
  have hsub : ∀ d, d ∈ H.take n → d ∈ H := fun d hd => List.mem_of_mem_take hd
  have hsome : ∀ (i d : Nat), (H.take n)[i]? = some d → H[i]? = some d := fun i d hd => by
    rw [List.getElem?_take] at hd
    split at hd
    · exact hd
    · cases hd
  have hbn : b ∉ H.take n := fun hm => by
    obtain ⟨i, hi⟩ := List.getElem?_of_mem hm
    have hi2 := hsome i b hi
    obtain ⟨l1, e1⟩ := List.getElem?_eq_some_iff.1 hi2
    obtain ⟨l2, e2⟩ := List.getElem?_eq_some_iff.1 HB.out
    have := (List.getElem_inj h.nodup).1 (e1.trans e2.symm)
    have l3 := (List.getElem?_eq_some_iff.1 hi).1
    rw [htl] at l3
    omega
  have hrow := h.row
  rw [hnn] at hrow
  have hr2 : Lies w 61 1 (.slice (some ⟨q, o, none⟩) (H.take n).length c) (H.take n).length ((H.take n).map ptrV) := by
    rw [htl, List.map_take]; exact hrow.take (by omega)
  have h2 := HM.setRest h.book hr2 (fun i d hd => h.lk i d (hsome i d hd)) (fun hg => h.gH (hsub g hg)) (fun a ha => ⟨(h.apart a ha).1, fun hm => (h.apart a ha).2 (hsub _ hm)⟩) (h.nodup.sublist (List.take_sublist _ _))
  rw [htl] at h2
  have h3 := h2.keep (w' := (w.setCell ⟨g, 4, none⟩ (.slice (some ⟨q, o, none⟩) n c)).setCell ⟨b, 3, none⟩ (.int .i64 (-1))) (set_other _ hgb) (fun k hk => set_other _ (fun e => by
    subst e
    rcases hk with ⟨a, ha, hak⟩ | hk
    · exact (h.apart a ha).2 (hak ▸ hbH)
    · exact hbn hk))
  refine ⟨rfl, by rw [hnn]; exact h3, ?_, ?_⟩
  · have := set_block (j := 3) ((set_other (w := w) (p := g) (j := 4) (.slice (some ⟨q, o, none⟩) n c) (Ne.symm hgb)).trans HX.out) (.int .i64 (-1))
    rw [this]; rfl
  · exact ((Kept.refl _ _).setCell (.inl rfl) _ _).setCell (.inr (.inr hbH)) _ _

theorem wpList_app_lies {P : Program} {w : World} {ops : Array Oper} {rest : List Oper} {o : Oper} {a : Act} {Q : Exit → Act → World → Prop} (s x : Operand) {t e : TypeId} {z : Value} {size bytes : Nat} (hT : SlT P t e z size bytes)
    (hgd : o.guard = none) (ho : o.op = .call { callee := .builtin .append, args := #[s, x], argTypes := #[t, t] })
    {v : Value} {n : Nat} {xs : List Value} (h : Lies w e size v n xs) (hs : a.eval s = v)
    {B : Nat} {A : Option Addr} {m c : Nat} {news : List Value} (hr : Rd w B size A m news) (hm : 0 < m) (hx : a.eval x = .slice A m c) (h1 : ∀ u ∈ news, u.oneCell' = true)
    (h63 : n + m ≤ maxLen) (hbytes : (n + m) * bytes ≤ 140737488355328)
    (K : ∀ v' w', Lies w' e size v' (n + m) (xs ++ news) → w.grownBy w' v.ownBlock → (v'.ownBlock = v.ownBlock ∨ ∀ k, v'.ownBlock = some k → w.heap.size ≤ k) → wpList P ops Q rest (a.put o.dst v') w') : wpList P ops Q (o :: rest) a w := by
  refine wpList_plain hgd fun _ hK => ?_
  obtain ⟨v', w', hrun, h2, h3, h4⟩ := run_app_lies (P := P) o.type hT h hr (c := c) hm h1 h63 hbytes
  unfold Oper.wp execOp
  simp only [ho, resolve, invoke, builtin, Sem.run_bind, Sem.run_pure, Result.andThen_ok, List.map_toArray, List.map_cons, List.map_nil, hs, hx, hrun]
  exact hK _ _ (K v' w' h2 h3 h4)
theorem ta_link (b : Nat) (w : World) : (Instr.typeAssert (.iface 61 (.pointer (some ⟨b, 0, none⟩))) 20 61 true).run Try.prog w = .ok (.tuple #[.pointer (some ⟨b, 0, none⟩), .bool true]) w := by kernel_rfl
theorem Lies.lt {w : World} {e : TypeId} {size n : Nat} {v : Value} {xs : List Value} (h : Lies w e size v n xs) {g : Nat} (hg : v.ownBlock = some g) : g < w.heap.size := by
  obtain ⟨A, c, rfl, -, -, hb⟩ := h.form
  cases A with
  | none => cases hg
  | some a => simp only [Value.ownBlock, Option.some.injEq] at hg; subst hg; exact hb a rfl
theorem Lies.alloc {w : World} {e : TypeId} {size n : Nat} {v : Value} {xs : List Value} (h : Lies w e size v n xs) (o : Obj) : Lies (w.alloc o) e size v n xs := h.keep fun _ hg => Below.heap_alloc _ _ _ (h.lt hg)
theorem Rd.one2 (w : World) (x : Value) (t : TypeId) {k : Nat} (hk : w.heap.size = k) : Rd (w.alloc (.cells #[x] t)) (k + 1) 1 (some ⟨k, 0, none⟩) 1 [x] := by
  subst hk; exact Rd.one w x t
def PushPost (W : World) (g mb : Nat) (B : Bk) (A : Option Addr) (H : List Nat) (m : Nat → Lk) (b : Nat) (e : Ending) (w' : World) : Prop :=
  e = .returned (.tuple #[]) ∧ ∃ A' c', HM w' g mb B A' c' (H ++ [b]) m ∧ Kept (fun k => gfoot g A H k ∨ k = b) W w' ∧ ∀ a, A' = some a → (∃ a0, A = some a0 ∧ a0.block = a.block) ∨ W.heap.size ≤ a.block
set_option maxRecDepth 100000 in
set_option maxHeartbeats 2000000 in
theorem rpush_any {g mb c : Nat} {B : Bk} {A : Option Addr} {H : List Nat} {m : Nat → Lk} {b : Nat} {p : Int} (w : World) (h : HM w g mb B A c H m) (hx : w.heap[b]? = some (.cells (lkCells (m b) p) 63 (0, 0))) (hbg : b ≠ g) (hbH : b ∉ H) (hbA : ∀ a, A = some a → a.block ≠ b) (hn : H.length ≤ 1099511627776) :
    Calls Try.prog 53 #[.pointer (some ⟨g, 4, none⟩), .iface 61 (ptrV b)] w (PushPost w g mb B A H m b) := by
  obtain ⟨-, -, -, -, c4⟩ := h.cells
  have fz := h.free 4
  obtain ⟨-, -, -, x3⟩ := lk_cells hx
  have g0 := lk_free hx 3
  have hbl := (Array.getElem?_eq_some_iff.1 hx).1
  have hgl := h.glt
  have hAl := h.lt
  have HH := Lib.hid h
  have HX := Lib.hid hx
  have HA := Lib.hid hbA
  have HL := Lib.hid hAl
  obtain ⟨n, hn1⟩ : ∃ n, H.length = n := ⟨_, rfl⟩
  have HN := Lib.hid hn1
  rw [hn1] at c4 hn
  have hW : HM (w.setCell ⟨b, 3, none⟩ (.int .i64 (n : Int))) g mb B A c H m := h.keep (set_other _ (Ne.symm hbg)) (fun k hk => set_other _ (fun e => by
    subst e
    rcases hk with ⟨a, ha, hak⟩ | hk
    · exact hbA a ha hak
    · exact hbH hk))
  have hrow := hW.row
  rw [hn1] at hrow
  have hfz : (w.setCell ⟨b, 3, none⟩ (.int .i64 (n : Int))).frozen? ⟨g, 4, none⟩ = false := hW.free 4
  have hsz : (w.setCell ⟨b, 3, none⟩ (.int .i64 (n : Int))).heap.size = w.heap.size := by simp [World.setCell]
  have hxx : (w.setCell ⟨b, 3, none⟩ (.int .i64 (n : Int))).heap[b]? = some (.cells (lkCells (m b) (n : Int)) 63 (0, 0)) := by rw [set_block hx]; rfl
  have HXX := Lib.hid hxx
  have HFZ := Lib.hid hfz
  have HSZ := Lib.hid hsz
  have HW := Lib.hid hW
  have HR := Lib.hid hrow
  clear h hx hn1 hbA hAl hW hrow hfz hsz hxx
  go_enter Try.func53, Try.ntmps53
  unfold ptrV
  have hta := ta_link b
  go_wp2_with (at_builtin; refine wpList_app_lies (.tmp 22) (.tmp 24) tRest rfl rfl (Lies.alloc HR.out _) rfl (Rd.one2 _ _ _ HSZ.out) (by omega) rfl (by simp [Value.oneCell']) (le_maxLen (by omega)) (by omega) ?_; intro v4 w4 hl4 hg4 hs4; have hg5 : w4.heap[g]? = (w.setCell ⟨b, 3, none⟩ (.int .i64 (n : Int))).heap[g]? := (hg4.block g (by simp [World.setCell]; omega) (by cases A with | none => simp [Value.ownBlock] | some a => have := (HH.out.apart a rfl).1; simp [Value.ownBlock]; exact fun e => this e.symm)).trans (Below.heap_alloc _ _ _ (by rw [HSZ.out]; exact hgl)); have fz4 : w4.frozen? ⟨g, 4, none⟩ = false := (World.frozen?_of_block (a := ⟨g, 4, none⟩) hg5).trans HFZ.out; have c44 : w4.cell? ⟨g, 4, none⟩ = some (.slice A H.length c) := (World.cell?_of_block (a := ⟨g, 4, none⟩) hg5).trans HW.out.cells.2.2.2.2; have HG5 := Lib.hid hg5; clear hg5; have H4 := Lib.hid (And.intro hl4 (And.intro hg4 hs4)); obtain ⟨A4, c4', rfl, -⟩ := hl4.form; clear hl4 hg4 hs4)
  go_end0
  obtain ⟨hl4, hg4, hs4⟩ := H4.out
  have h := HH.out
  have hnn := HN.out
  have hsz := HSZ.out
  have hk0 : Kept (fun k => gfoot g A H k ∨ k = b) w w4 := by
    refine Kept.grown (((Kept.refl _ _).setCell (.inr rfl) _ _).alloc _) hg4 (fun k hk => .inl (.inl (.inr (.inl ?_))))
    cases A with
    | none => cases hk
    | some a => simp only [Value.ownBlock, Option.some.injEq] at hk; exact ⟨a, rfl, hk⟩
  have hA4 : ∀ a, A4 = some a → (∃ a0, A = some a0 ∧ a0.block = a.block) ∨ w.heap.size < a.block := fun a ha => by
    subst ha
    rcases hs4 with h1 | h1
    · left
      cases A with
      | none => simp [Value.ownBlock] at h1
      | some a0 => simp only [Value.ownBlock, Option.some.injEq] at h1; exact ⟨a0, rfl, h1.symm⟩
    · right
      have := h1 a.block rfl
      simp [World.setCell] at this
      omega
  have hlen : (H ++ [b]).length = n + 1 := by rw [List.length_append, hnn]; rfl
  have hr4 : Lies w4 61 1 (.slice A4 (H ++ [b]).length c4') (H ++ [b]).length ((H ++ [b]).map ptrV) := by
    rw [hlen, List.map_append]; exact hl4
  have hblk : ∀ d, d < w.heap.size → d ∈ H ∨ d = b → w4.heap[d]? = (w.setCell ⟨b, 3, none⟩ (.int .i64 (n : Int))).heap[d]? := fun d hd hdH => by
    refine (hg4.block d (by simp [World.setCell]; omega) ?_).trans (Below.heap_alloc _ _ _ (by rw [hsz]; exact hd))
    intro e
    cases A with
    | none => cases e
    | some a =>
      simp only [Value.ownBlock, Option.some.injEq] at e
      rcases hdH with h1 | h1
      · exact (h.apart a rfl).2 (e ▸ h1)
      · exact HA.out a rfl (e ▸ h1)
  refine ⟨rfl, A4, c4', ?_, hk0.setCell (.inl (.inl rfl)) _ _, ?_⟩
  · have := HM.setRest (g := g) (mb := mb) (B := B) (m := m) (HG5.out.trans HW.out.book) hr4 (fun i d hd => ?_) (fun hm => ?_) (fun a ha => ⟨?_, ?_⟩) ?_
    · rw [hlen] at this; exact this
    · rw [List.getElem?_append] at hd
      by_cases hi : i < H.length
      · rw [if_pos hi] at hd
        rw [hblk d (h.lt d (.inr (List.mem_of_getElem? hd))) (.inl (List.mem_of_getElem? hd))]
        exact HW.out.lk i d hd
      · rw [if_neg hi] at hd
        have hi2 : i - H.length = 0 := by
          have := (List.getElem?_eq_some_iff.1 hd).1
          simp at this
          omega
        rw [hi2] at hd
        simp at hd
        subst hd
        rw [hblk b hbl (.inr rfl), show (i : Int) = (n : Int) by omega]
        exact HXX.out
    · rcases List.mem_append.1 hm with h1 | h1
      · exact h.gH h1
      · exact hbg (Eq.symm (by simpa using h1))
    · rcases hA4 a ha with ⟨a0, h1, h2⟩ | h1
      · rw [← h2]; exact (h.apart a0 h1).1
      · omega
    · intro hm
      rcases hA4 a ha with ⟨a0, h1, h2⟩ | h1
      · rw [← h2] at hm
        rcases List.mem_append.1 hm with h3 | h3
        · exact (h.apart a0 h1).2 h3
        · exact HA.out a0 h1 (by simpa using h3)
      · rcases List.mem_append.1 hm with h3 | h3
        · have := h.lt _ (.inr h3); omega
        · have : a.block = b := by simpa using h3
          omega
    · rw [List.nodup_append]
      exact ⟨h.nodup, by simp, fun x hx y hy => by
        have : y = b := by simpa using hy
        subst this
        exact fun e => hbH (e ▸ hx)⟩
  · exact fun a ha => (hA4 a ha).imp id Nat.le_of_lt
end Go.Proofs.Ytidfokfnigncmaa
