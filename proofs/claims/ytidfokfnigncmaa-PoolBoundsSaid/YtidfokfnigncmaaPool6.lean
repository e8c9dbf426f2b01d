/- The walks of heap.Push, heap.Remove, heap.Pop. -/
import Derived.Test.YtidfokfnigncmaaPool5
namespace Go.Proofs.Ytidfokfnigncmaa
open Go.RowKit

def HPushPost (W : World) (g mb : Nat) (B : Bk) (A : Option Addr) (H : List Nat) (m : Nat → Lk) (b : Nat) (e : Ending) (w' : World) : Prop :=
  e = .returned (.tuple #[]) ∧ ∃ A' c' H', H'.Perm (H ++ [b]) ∧ IsHeap m H' H'.length ∧ HM w' g mb B A' c' H' m ∧ Kept (fun k => gfoot g A H k ∨ k = b) W w' ∧ ∀ a, A' = some a → (∃ a0, A = some a0 ∧ a0.block = a.block) ∨ W.heap.size ≤ a.block
/-- A block behind the row's new place. -/
theorem Kept.wide {F G : Nat → Prop} {w w' w2 : World} (h : Kept F w w') (h2 : Kept G w' w2) (hg : ∀ k, G k → F k ∨ w.heap.size ≤ k) : Kept F w w2 :=
  ⟨h2.os.trans h.os, h2.tape.trans h.tape, h2.output.trans h.output, Nat.le_trans h.size h2.size, fun k hk hn =>
    (h2.block k (Nat.lt_of_lt_of_le hk h.size) (fun hf => (hg k hf).elim hn (fun hle => by omega))).trans (h.block k hk hn)⟩
set_option maxRecDepth 100000 in
set_option maxHeartbeats 2000000 in
theorem hpush_any {g mb c : Nat} {B : Bk} {A : Option Addr} {H : List Nat} {m : Nat → Lk} {b : Nat} {p : Int} (w : World) (h : HM w g mb B A c H m) (hh : IsHeap m H H.length) (hx : w.heap[b]? = some (.cells (lkCells (m b) p) 63 (0, 0))) (hbg : b ≠ g) (hbH : b ∉ H) (hbA : ∀ a, A = some a → a.block ≠ b) (hn : H.length ≤ 549755813888) :
    Calls Try.prog 27 #[restI g, .iface 61 (ptrV b)] w (HPushPost w g mb B A H m b) := by
  have HP := Lib.hid (rpush_any w h hx hbg hbH hbA (by omega))
  have HS := Lib.hid hh
  obtain ⟨n, hn1⟩ : ∃ n, H.length = n := ⟨_, rfl⟩
  have HN := Lib.hid hn1
  rw [hn1] at hn
  have hmp : (method 197 66 (.pointer (some ⟨g, 4, none⟩)) "Push").run Try.prog w = .ok (53, .pointer (some ⟨g, 4, none⟩)) w := meth_push 196 _ _
  clear h hx hbA hn1 hh
  unfold restI
  go_enter Try.func27, Try.ntmps27
  go_wp2_with fail
  refine HP.out.mono ?_
  rintro e w1 ⟨rfl, A', c', hm, hk, hA⟩
  have hlen : (H ++ [b]).length = n + 1 := by rw [List.length_append, HN.out]; rfl
  obtain ⟨-, -, -, -, c4⟩ := hm.cells
  rw [hlen] at c4
  have hml : (method 197 66 (.pointer (some ⟨g, 4, none⟩)) "Len").run Try.prog w1 = .ok (50, .slice A' (n + 1) c') w1 := meth_len 196 c4
  have H1 := Lib.hid (And.intro hm (And.intro hk hA))
  have HL := Lib.hid hlen
  clear hm hk hA hlen hmp
  go_wp2_with fail
  refine (rlen_any A' (n + 1) c' w1).mono ?_
  rintro e w2 ⟨rfl, rfl⟩
  have hc1 : ((n + 1 : Nat) : Int) - 1 = (n : Int) := by omega
  have HC1 := Lib.hid hc1
  have hup : UpInv m (H ++ [b]) (n + 1) n := by have := HS.out.push (b := b) rfl; rwa [HN.out] at this
  have HUP := Lib.hid hup
  clear hup hc1
  go_wp2_with fail
  refine (up_any (n := n + 1) (j := n) w1 H1.out.1 HL.out (Nat.le_refl _) (by omega) HUP.out (by omega)).mono ?_
  rintro e w3 ⟨rfl, H', hp, hi, hd, hm, hk⟩
  have H3 := Lib.hid (And.intro hp (And.intro hi (And.intro hm hk)))
  clear hp hi hd hm hk hml
  go_wp2_with fail
  go_end0
  obtain ⟨h1, h2, h3⟩ := H1.out
  obtain ⟨k1, k2, k3, k4⟩ := H3.out
  refine ⟨rfl, A', c', H', k1, ?_, k3, h2.wide k4 (fun k hk => ?_), h3⟩
  · rw [k1.length_eq, HL.out]; exact k2
  · rcases hk with ⟨a, ha, hak⟩ | hk
    · rcases h3 a ha with ⟨a0, e1, e2⟩ | e1
      · exact .inl (.inl (.inr (.inl ⟨a0, e1, e2.trans hak⟩)))
      · exact .inr (by omega)
    · rcases List.mem_append.1 hk with e1 | e1
      · exact .inl (.inl (.inr (.inr e1)))
      · exact .inl (.inr (by simpa using e1))

def HRemPost (W : World) (g mb : Nat) (B : Bk) (A : Option Addr) (c : Nat) (H : List Nat) (m : Nat → Lk) (b : Nat) (e : Ending) (w' : World) : Prop :=
  e = .returned (.iface 61 (ptrV b)) ∧ ∃ H', (H' ++ [b]).Perm H ∧ IsHeap m H' H'.length ∧ HM w' g mb B A c H' m ∧ w'.heap[b]? = some (.cells (lkCells (m b) (-1)) 63 (0, 0)) ∧ Kept (gfoot g A H) W w'
theorem take_last {H : List Nat} {n b : Nat} (hl : H.length = n + 1) (hb : H[n]? = some b) : H.take n ++ [b] = H := by
  have : H.drop n = [b] := by
    rw [List.drop_eq_getElem_cons (by omega), List.drop_of_length_le (by omega)]
    rw [List.getElem?_eq_getElem (by omega)] at hb
    injection hb with hb
    rw [hb]
  rw [← this, List.take_append_drop]
theorem drop_get {H H' : List Nat} {n : Nat} (h : H'.drop n = H.drop n) : H'[n]? = H[n]? := by
  have h1 := List.getElem?_drop (xs := H') (i := n) (j := 0)
  have h2 := List.getElem?_drop (xs := H) (i := n) (j := 0)
  rw [h] at h1
  rw [Nat.add_zero] at h1 h2
  rw [← h1, h2]
theorem kept_g {F : Nat → Prop} {g : Nat} {w w' : World} (h : Kept F w w') : Kept (fun k => k = g ∨ F k) w w' := h.mono fun _ hk => .inr hk
/-- What is left is to take the last one off. -/
theorem rem_end {W w : World} {g mb c n b : Nat} {B : Bk} {A : Option Addr} {H H2 : List Nat} {m : Nat → Lk} (hp : H2.Perm H) (hl : H2.length = n + 1) (hb : H2[n]? = some b) (hi : IsHeap m H2 n) (hk : Kept (gfoot g A H) W w) {e : Ending} {w' : World} (h : PopPost w g mb B A c H2 m b e w') :
    HRemPost W g mb B A c H m b e w' := by
  obtain ⟨h1, h2, h3, h4⟩ := h
  rw [hl, Nat.add_sub_cancel] at h2
  refine ⟨h1, H2.take n, by rw [take_last hl hb]; exact hp, ?_, h2, h3, hk.same (h4.mono fun k hk => hk.imp id (hfoot_perm hp))⟩
  rw [List.length_take, Nat.min_eq_left (by omega)]
  exact hi.take (Nat.le_refl _)
theorem rpop_n {g mb c n : Nat} {B : Bk} {A : Option Addr} {H : List Nat} {m : Nat → Lk} {b : Nat} (w : World) (h : HM w g mb B A c H m) (hl : H.length = n + 1) (hb : H[n]? = some b) (hn : n + 1 ≤ 1099511627776) :
    Calls Try.prog 52 #[.pointer (some ⟨g, 4, none⟩)] w (PopPost w g mb B A c H m b) :=
  rpop_any w h (by rw [hl]; exact hb) (by omega)
theorem swapL_at (H : List Nat) {i n b b' : Nat} (hb : H[i]? = some b) (hb' : H[n]? = some b') : (swapL H i n)[n]? = some b := by
  rw [swapL_some H hb hb', if_pos rfl]
set_option maxRecDepth 100000 in
set_option maxHeartbeats 4000000 in
theorem hremove_any {g mb c i n : Nat} {B : Bk} {A : Option Addr} {H : List Nat} {m : Nat → Lk} {b : Nat} (w : World) (h : HM w g mb B A c H m) (hh : IsHeap m H H.length) (hb : H[i]? = some b) (hN : H.length = n + 1) (hn : n + 1 ≤ 549755813888) :
    Calls Try.prog 26 #[restI g, .int .i64 i] w (HRemPost w g mb B A c H m b) := by
  have hil := (List.getElem?_eq_some_iff.1 hb).1
  obtain ⟨-, -, -, -, c4⟩ := h.cells
  rw [hN] at c4 hil hh
  have HH := Lib.hid h
  have HS := Lib.hid hh
  have HB := Lib.hid hb
  have HN := Lib.hid hN
  have hml : (method 197 66 (.pointer (some ⟨g, 4, none⟩)) "Len").run Try.prog w = .ok (50, .slice A (n + 1) c) w := meth_len 196 c4
  have hmp : ∀ w, (method 197 66 (.pointer (some ⟨g, 4, none⟩)) "Pop").run Try.prog w = .ok (52, .pointer (some ⟨g, 4, none⟩)) w := fun w => meth_pop 196 _ _
  have hc1 : ((n + 1 : Nat) : Int) - 1 = (n : Int) := by omega
  clear h hh hb hN hc1
  unfold restI
  by_cases hin : i = n
  · subst hin
    go_enter Try.func26, Try.ntmps26
    go_wp2_with fail
    refine (rlen_any A (i + 1) c w).mono ?_
    rintro e w2 ⟨rfl, rfl⟩
    go_wp2_with fail
    refine (rpop_n w HH.out HN.out HB.out (by omega)).mono ?_
    rintro e w3 hpp
    have HPP := Lib.hid hpp
    obtain ⟨rfl, -⟩ := hpp
    go_wp2_with fail
    go_ret
    exact rem_end (List.Perm.refl _) HN.out HB.out (fun k h0 hk => HS.out k h0 (by omega)) (Kept.refl _ _) HPP.out
  · have hiv : i < n := by omega
    have hne : ((n : Int) == (i : Int)) = false := by rw [beq_eq_false_iff_ne]; omega
    have hms : (method 197 66 (.pointer (some ⟨g, 4, none⟩)) "Swap").run Try.prog w = .ok (51, .slice A (n + 1) c) w := meth_swap 196 c4
    obtain ⟨b', hb'⟩ : ∃ b', H[n]? = some b' := ⟨_, List.getElem?_eq_getElem (by rw [HN.out]; omega)⟩
    have HB' := Lib.hid hb'
    clear hb'
    go_enter Try.func26, Try.ntmps26
    go_wp2_with fail
    refine (rlen_any A (n + 1) c w).mono ?_
    rintro e w2 ⟨rfl, rfl⟩
    go_wp2_with fail
    refine (rswap_n (i := i) (k := n) w HH.out HN.out hin (by omega) (by omega)).mono ?_
    rintro e w3 ⟨rfl, hm3, hk3⟩
    have H3 := Lib.hid (And.intro hm3 hk3)
    have HPM := Lib.hid (swapL_perm H (i := i) (j := n) (by rw [HN.out]; omega) (by rw [HN.out]; omega))
    have HL3 := Lib.hid ((swapL_length H i n).trans HN.out)
    have HAT := Lib.hid (swapL_at H HB.out HB'.out)
    have HDN := Lib.hid (IsHeap.remove HS.out HN.out.symm hiv)
    clear hm3 hk3 hml hms c4
    go_wp2_with fail
    refine (down_any (n := n) (i0 := i) w3 H3.out.1 HL3.out (by omega) (by omega) HDN.out (by omega)).mono ?_
    rintro e w4 ⟨bv, H4, rfl, hp4, hd4, hm4, hk4, ht4, hf4⟩
    have H4' := Lib.hid (And.intro hp4 (And.intro hd4 (And.intro hm4 hk4)))
    have HT4 := Lib.hid ht4
    have HF4 := Lib.hid hf4
    have HKK : Hid (Kept (gfoot g A H) w w4) := Lib.hid (kept_g (H3.out.2.same (hk4.mono fun q hq => hfoot_perm HPM.out hq)))
    clear hp4 hd4 hm4 hk4 ht4 hf4
    cases bv with
    | true =>
      go_wp2_with fail
      refine (rpop_n w4 H4'.out.2.2.1 (H4'.out.1.length_eq.trans HL3.out) ((drop_get H4'.out.2.1).trans HAT.out) (by omega)).mono ?_
      rintro e w5 hpp
      have HPP := Lib.hid hpp
      obtain ⟨rfl, -⟩ := hpp
      go_wp2_with fail
      go_ret
      exact rem_end (H4'.out.1.trans HPM.out) (H4'.out.1.length_eq.trans HL3.out) ((drop_get H4'.out.2.1).trans HAT.out) (HT4.out trivial) HKK.out HPP.out
    | false =>
      have HUP : Hid (UpInv m H4 n i) := Lib.hid (by
        obtain ⟨e1, e2⟩ := HF4.out rfl
        rw [e1]; exact HDN.out.up e2)
      go_wp2_with fail
      refine (up_any (n := n) (j := i) w4 H4'.out.2.2.1 (H4'.out.1.length_eq.trans HL3.out) (by omega) hiv HUP.out (by omega)).mono ?_
      rintro e w5 ⟨rfl, H5, hp5, hi5, hd5, hm5, hk5⟩
      have H5' := Lib.hid (And.intro hp5 (And.intro hi5 (And.intro hd5 (And.intro hm5 hk5))))
      clear hp5 hi5 hd5 hm5 hk5
      go_wp2_with fail
      refine (rpop_n w5 H5'.out.2.2.2.1 ((H5'.out.1.trans H4'.out.1).length_eq.trans HL3.out) ((drop_get (H5'.out.2.2.1.trans H4'.out.2.1)).trans HAT.out) (by omega)).mono ?_
      rintro e w6 hpp
      have HPP := Lib.hid hpp
      obtain ⟨rfl, -⟩ := hpp
      go_wp2_with fail
      go_ret
      exact rem_end ((H5'.out.1.trans H4'.out.1).trans HPM.out) ((H5'.out.1.trans H4'.out.1).length_eq.trans HL3.out) ((drop_get (H5'.out.2.2.1.trans H4'.out.2.1)).trans HAT.out) H5'.out.2.1 (HKK.out.same (kept_g (H5'.out.2.2.2.2.mono fun q hq => hfoot_perm (H4'.out.1.trans HPM.out) hq))) HPP.out
end Go.Proofs.Ytidfokfnigncmaa
