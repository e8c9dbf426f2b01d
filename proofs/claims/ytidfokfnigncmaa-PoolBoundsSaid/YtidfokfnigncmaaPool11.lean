/- The walk of pool.Put. -/
import Derived.Test.YtidfokfnigncmaaPool10
namespace Go.Proofs.Ytidfokfnigncmaa
open Go.RowKit

theorem PM.len {w : World} {g mb c N : Nat} {A : Option Addr} {H : List Nat} {m : Nat → Lk} {E : List (Nat × Ln)} {B : Bk} {P : Pl} (h : PM w g mb A c N H m E B P) : H.length ≤ N := by
  have e1 := (heap_perm h).length_eq
  rw [List.length_map] at e1
  have e2 := List.length_filter_le (fun e : Nat × Ln => decide (0 ≤ e.2.sn)) E
  have e3 : E.length = P.L.length := by rw [← h.eL, List.length_map]
  have := h.ok.len
  omega
def setM (m : Nat → Lk) (b : Nat) (s : Int) (k : Nat) : Lk := if k = b then ⟨(m k).id, (m k).org, s⟩ else m k
theorem setM_ne {m : Nat → Lk} {b k : Nat} {s : Int} (h : k ≠ b) : setM m b s k = m k := if_neg h
theorem setM_eq (m : Nat → Lk) (b : Nat) (s : Int) : setM m b s b = ⟨(m b).id, (m b).org, s⟩ := if_pos rfl
theorem setM_same (m : Nat → Lk) (b : Nat) (s : Int) (k : Nat) : (setM m b s k).id = (m k).id ∧ (setM m b s k).org = (m k).org := by
  unfold setM; split <;> exact ⟨rfl, rfl⟩
set_option maxRecDepth 100000 in
set_option maxHeartbeats 2000000 in
theorem pput_any {g N : Nat} {F : Nat → Prop} {P : Pl} (id now : Int) (w : World) (h : PoolIs w g F N P) (h0 : -9223372036854775808 ≤ id) (h1 : id ≤ 9223372036854775807) (hN : N ≤ 549755813888) :
    Calls Try.prog 11 #[.pointer (some ⟨g, 0, none⟩), .int .i64 id, .int .i64 now] w (PStep w g F N (P.put id now).2 (.int .i64 (P.put id now).1)) := by
  by_cases ht : now < 0 ∨ 1099511627776 < now
  · have HO : Hid (P.put id now = (1, P)) := Lib.hid (by unfold Pl.put; rw [if_pos ht])
    have HH := Lib.hid h
    clear h
    go_enter Try.func11, Try.ntmps11
    go_wp2_with fail
    refine (time_bad now w ht).mono ?_
    rintro e w1 ⟨rfl, rfl⟩
    go_wp2
    go_ret
    rw [HO.out]
    exact ⟨rfl, F, HH.out, Kept.refl _ _, Grew.refl _ _⟩
  have ht0 : 0 ≤ now := by omega
  have ht1 : now ≤ 1099511627776 := by omega
  have HHH := Lib.hid h
  obtain ⟨mb, A, c, H, m, E, B, rfl, h⟩ := h
  have hl := h.mp.look (i := id) (WalkArith.wf_i64 (by omega))
  obtain ⟨-, -, -, c3, -⟩ := h.hm.cells
  rcases blkOf_find h.eL id with ⟨e1, e2⟩ | ⟨b, x, e0, e1, e2, e3⟩
  · rw [e1] at hl
    unfold lookV at hl
    have HO : Hid (P.put id now = (4, P)) := Lib.hid (by unfold Pl.put; rw [if_neg ht, e2])
    clear h e1 e2 ht
    go_enter Try.func11, Try.ntmps11
    go_wp2_with fail
    refine (time_ok now w ht0 ht1).mono ?_
    rintro e w1 ⟨rfl, rfl⟩
    go_wp2
    go_ret
    rw [HO.out]
    exact ⟨rfl, _, HHH.out, Kept.refl _ _, Grew.refl _ _⟩
  rw [e1] at hl
  unfold lookV ptrV at hl
  obtain ⟨p, hp, hpp⟩ := h.blk e0
  obtain ⟨-, -, x2, x3⟩ := lk_cells hp
  have fz := lk_free hp 2
  rcases hpp with ⟨hb1, rfl, hb2⟩ | ⟨hb1, hb2, i, rfl, hi⟩
  rotate_left
  · have HO : Hid (P.put id now = (5, P)) := Lib.hid (by unfold Pl.put; rw [if_neg ht, e2]; exact if_pos hb1)
    clear h e1 e2 hp ht hi hb2
    go_enter Try.func11, Try.ntmps11
    go_wp2_with fail
    refine (time_ok now w ht0 ht1).mono ?_
    rintro e w1 ⟨rfl, rfl⟩
    go_wp2
    go_ret
    rw [HO.out]
    exact ⟨rfl, _, HHH.out, Kept.refl _ _, Grew.refl _ _⟩
  · have HO : Hid (P.put id now = (0, { P with L := setSn P.L id now })) := Lib.hid (by unfold Pl.put; rw [if_neg ht, e2]; exact if_neg (by omega))
    have hbg : b ≠ g := (h.far b x e0).1
    have hbA := (h.far b x e0).2.2
    obtain ⟨W1, hW1⟩ : ∃ W1, w.setCell ⟨b, 2, none⟩ (.int .i64 now) = W1 := ⟨_, rfl⟩
    have hoth : ∀ k, k ≠ b → W1.heap[k]? = w.heap[k]? := fun k hk => by rw [← hW1]; exact set_other _ hk
    have hm1 : HM W1 g mb B A c H (setM m b now) := (h.hm.keep (hoth g (Ne.symm hbg)) (fun k hk => hoth k (fun e => by
      subst e
      rcases hk with ⟨a, ha, hak⟩ | hk
      · exact hbA a ha hak
      · exact hb2 hk))).congr_m (fun k hk => setM_ne (fun e => hb2 (e ▸ hk)))
    have hx1 : W1.heap[b]? = some (.cells (lkCells (setM m b now b) (-1)) 63 (0, 0)) := by
      rw [← hW1, set_block hp, setM_eq]; rfl
    have hh1 : IsHeap (setM m b now) H H.length := h.hp.congr_m (Nat.le_refl _) (fun k hk => setM_ne (fun e => hb2 (e ▸ hk)))
    have HPU := Lib.hid (hpush_any W1 hm1 hh1 hx1 hbg hb2 hbA (by have := h.len; omega))
    have HK1 : Hid (Kept (pfoot g mb A E) w W1) := Lib.hid (by rw [← hW1]; exact (Kept.refl _ _).setCell (.inr (.inr (.inr ⟨x, e0⟩))) _ _)
    have HH := Lib.hid h
    have HW := Lib.hid hW1
    have HOTH := Lib.hid hoth
    have HX := Lib.hid (And.intro e0 (And.intro e3 (And.intro hb1 (And.intro hb2 (And.intro hbg hbA)))))
    clear h e0 e1 e2 e3 hp ht hm1 hx1 hh1 hW1 hoth hb2 hbA
    go_enter Try.func11, Try.ntmps11
    go_wp2_with fail
    refine (time_ok now w ht0 ht1).mono ?_
    rintro e w1 ⟨rfl, rfl⟩
    go_wp2_with fail
    rw [HW.out]
    refine HPU.out.mono ?_
    rintro e w2 ⟨rfl, A', c', H', hp, hi, hm, hk, hA⟩
    have HZ := Lib.hid (And.intro hp (And.intro hi (And.intro hm (And.intro hk hA))))
    clear hp hi hm hk hA
    go_wp2_with fail
    go_ret
    rw [HO.out]
    obtain ⟨hp, hi, hm, hk, hA⟩ := HZ.out
    obtain ⟨e0, e3, hb1, hb2, hbg, hbA⟩ := HX.out
    have h := HH.out
    have hsz := HK1.out.size
    have hA' : ∀ a, A' = some a → a.block ≠ mb ∧ ∀ k y, (k, y) ∈ E → a.block ≠ k := fun a ha => by
      rcases hA a ha with ⟨a0, h1, h2⟩ | h1
      · rw [← h2]; exact ⟨h.gmb.2 a0 h1, fun k y hy => (h.far k y hy).2.2 a0 h1⟩
      · exact ⟨by have := h.mp.lt; omega, fun k y hy => by have := h.lt k (.inr (.inr (.inr ⟨y, hy⟩))); omega⟩
    have hin : ∀ k, k ∈ H' ↔ k ∈ H ∨ k = b := fun k => by rw [hp.mem_iff, List.mem_append]; simp
    have hsm : ∀ k, k < w.heap.size → (¬ (gfoot g A H k ∨ k = b)) → w2.heap[k]? = w.heap[k]? := fun k h1 h2 => (hk.block k (by omega) h2).trans (HOTH.out k (fun e => h2 (.inr e)))
    have hnew := h.turn e0 (s := now) hm hi (fun k => setM_same m b now k) (fun k hk => setM_ne hk) (fun k hk => by rw [hin]; simp [hk]) (fun hs => by omega) (fun _ => ⟨by rw [setM_eq], (hin b).2 (.inr rfl)⟩)
      (fun k y hy hkb hkH => hsm k (h.lt k (.inr (.inr (.inr ⟨y, hy⟩)))) (fun hh => by
        rcases hh with (h1 | ⟨a, ha, hak⟩ | h1) | h1
        · exact (h.far k y hy).1 h1
        · exact (h.far k y hy).2.2 a ha hak
        · exact hkH h1
        · exact hkb h1))
      (hsm mb h.mp.lt (fun hh => by
        rcases hh with (h1 | ⟨a, ha, hak⟩ | h1) | h1
        · exact h.gmb.1 h1.symm
        · exact h.gmb.2 a ha hak
        · obtain ⟨y, hy⟩ := h.hE mb h1; exact (h.far mb y hy).2.1 rfl
        · exact (h.far b x e0).2.1 h1.symm)) hA' (by omega) ht1
    rw [e3] at hnew
    refine ⟨rfl, _, ⟨mb, A', c', H', _, _, B, rfl, hnew⟩, HK1.out.same (hk.mono fun k hk => ?_), fun k hk => ?_⟩
    · rcases hk with (h1 | h1) | h1
      · exact .inl h1
      · exact h.hfoot h1
      · exact .inr (.inr (.inr ⟨x, h1 ▸ e0⟩))
    · rcases setE_foot hk with h1 | ⟨a, ha, hak⟩
      · exact .inl h1
      · rcases hA a ha with ⟨a0, h1, h2⟩ | h1
        · exact .inl (.inr (.inr (.inl ⟨a0, h1, h2.trans hak⟩)))
        · exact .inr (by omega)
end Go.Proofs.Ytidfokfnigncmaa
