/- Stream 1's sums, in plain Lean. No program in sight. -/
import Derived.Test.YtoicclgcbemffaaWinLaws
import Derived.Laws.Entries
namespace Go.Proofs.Ytoicclgcbemffaa
open Go.RowKit Go.Maps

/-- Stream 1's sums. -/
structure Sm (L : List (Int × Int)) (own : Int) (there : Bool) : Prop where
  is : (look L 1).isSome = there
  val : ∀ x, look L 1 = some x → own = x
  lo : -2147483647 ≤ own
  hi : own ≤ 2147483647
theorem sm_0 : Sm [] 0 false := ⟨rfl, (fun x h => by cases h), by decide, by decide⟩
theorem Sm.put_other {L : List (Int × Int)} {own x : Int} {there : Bool} (h : Sm L own there) {t : Int} (ht : t ≠ 1) : Sm (putL L t x) own there := by
  have e : look (putL L t x) 1 = look L 1 := by rw [look_put, if_neg (Ne.symm ht)]
  exact ⟨e ▸ h.is, fun y hy => h.val y (e ▸ hy), h.lo, h.hi⟩
theorem Sm.put_own (L : List (Int × Int)) {x : Int} (h0 : -2147483647 ≤ x) (h1 : x ≤ 2147483647) : Sm (putL L 1 x) x true := by
  have e : look (putL L 1 x) 1 = some x := by rw [look_put, if_pos rfl]
  exact ⟨by rw [e]; rfl, (fun y hy => by rw [e] at hy; injection hy), h0, h1⟩
theorem Sm.del_other {L : List (Int × Int)} {own : Int} {there : Bool} (h : Sm L own there) {t : Int} (ht : t ≠ 1) : Sm (delL L t) own there := by
  have e : look (delL L t) 1 = look L 1 := by rw [look_del, if_neg (Ne.symm ht)]
  exact ⟨e ▸ h.is, fun y hy => h.val y (e ▸ hy), h.lo, h.hi⟩
theorem Sm.del_own {L : List (Int × Int)} {own : Int} {there : Bool} (h : Sm L own there) : Sm (delL L 1) own false := by
  have e : look (delL L 1) 1 = none := by rw [look_del, if_pos rfl]
  exact ⟨by rw [e]; rfl, (fun y hy => by rw [e] at hy; cases hy), h.lo, h.hi⟩
/-- The ways of a step that was let. -/
def SmWays (kd t x al fi al1 fi1 own : Int) (there : Bool) (L1 : List (Int × Int)) : Prop :=
  (kd = 0 ∧ t = 1 ∧ al1 = al ∧ fi1 = fi ∧ Sm L1 0 true) ∨
  (kd = 0 ∧ t ≠ 1 ∧ al1 = al ∧ fi1 = fi ∧ Sm L1 own there) ∨
  (kd = 1 ∧ t = 1 ∧ al1 = al ∧ fi1 = fi ∧ Sm L1 own false) ∨
  (kd = 1 ∧ t ≠ 1 ∧ al1 = al ∧ fi1 = fi ∧ Sm L1 own there) ∨
  (kd = 2 ∧ t = 1 ∧ al1 = al - x ∧ fi1 = fi ∧ 0 ≤ x ∧ x ≤ 2147483647 ∧ Sm L1 (own - x) there) ∨
  (kd = 2 ∧ t ≠ 1 ∧ al1 = al - x ∧ fi1 = fi ∧ 0 ≤ x ∧ x ≤ 2147483647 ∧ Sm L1 own there) ∨
  (kd = 3 ∧ t = 0 ∧ al1 = al + x ∧ fi1 = fi ∧ 0 ≤ x ∧ x ≤ 2147483647 ∧ Sm L1 own there) ∨
  (kd = 3 ∧ t = 1 ∧ al1 = al ∧ fi1 = fi ∧ 0 ≤ x ∧ x ≤ 2147483647 ∧ Sm L1 (own + x) there) ∨
  (kd = 3 ∧ t = 2 ∧ al1 = al ∧ fi1 = fi ∧ Sm L1 own there) ∨
  (kd = 4 ∧ al1 = al ∧ fi1 = x ∧ Sm L1 own there) ∨
  (kd ≠ 0 ∧ kd ≠ 1 ∧ kd ≠ 2 ∧ kd ≠ 3 ∧ kd ≠ 4 ∧ al1 = al ∧ fi1 = fi ∧ Sm L1 own there)
theorem sm_cases {al fi own : Int} {L : List (Int × Int)} {there : Bool} (h : Sm L own there) (hok : BkOk ⟨al, fi, L⟩) {kd t x : Int} (h0 : 0 ≤ t) (h2 : t ≤ 2) {al1 fi1 : Int} {L1 : List (Int × Int)}
    (hr : doB ⟨al, fi, L⟩ kd t x = (0, ⟨al1, fi1, L1⟩)) : SmWays kd t x al fi al1 fi1 own there L1 := by
  have a0 : 0 ≤ al := hok.all0
  have a1 : al ≤ 2147483647 := hok.all1
  have f0 : 0 ≤ fi := hok.first0
  have hok1 : BkOk ⟨al1, fi1, L1⟩ := by have := doB_ok hok kd t x; rw [hr] at this; exact this
  unfold SmWays
  unfold doB at hr
  by_cases k0 : kd = 0
  · rw [if_pos k0] at hr
    unfold openB at hr
    by_cases ht1 : t < 1
    · rw [if_pos ht1] at hr; simp at hr
    rw [if_neg ht1] at hr
    by_cases hl : (look L t).isSome = true
    · rw [if_pos hl] at hr; simp at hr
    rw [if_neg hl] at hr
    simp only [Prod.mk.injEq, Bk.mk.injEq, true_and] at hr
    obtain ⟨rfl, rfl, rfl⟩ := hr
    by_cases ht : t = 1
    · subst ht
      exact .inl ⟨k0, rfl, rfl, rfl, Sm.put_own L (by decide) (by decide)⟩
    · exact .inr (.inl ⟨k0, ht, rfl, rfl, h.put_other ht⟩)
  rw [if_neg k0] at hr
  by_cases k1 : kd = 1
  · rw [if_pos k1] at hr
    simp only [shutB, Prod.mk.injEq, Bk.mk.injEq, true_and] at hr
    obtain ⟨rfl, rfl, rfl⟩ := hr
    by_cases ht : t = 1
    · subst ht
      exact .inr (.inr (.inl ⟨k1, rfl, rfl, rfl, h.del_own⟩))
    · exact .inr (.inr (.inr (.inl ⟨k1, ht, rfl, rfl, h.del_other ht⟩)))
  rw [if_neg k1] at hr
  by_cases k2 : kd = 2
  · rw [if_pos k2] at hr
    unfold spendB at hr
    by_cases ht0 : t = 0
    · rw [if_pos ht0] at hr; simp at hr
    rw [if_neg ht0] at hr
    cases hl : look L t with
    | none => simp [hl] at hr
    | some y =>
      simp only [hl] at hr
      have hro : roomB ⟨al, fi, L⟩ t = max 0 (min (fi + y) al) := by unfold roomB; rw [if_neg ht0]; simp only [hl]
      by_cases hn : x < 0 ∨ roomB ⟨al, fi, L⟩ t < x
      · rw [if_pos hn] at hr; simp at hr
      rw [if_neg hn] at hr
      simp only [Prod.mk.injEq, Bk.mk.injEq, true_and] at hr
      obtain ⟨rfl, rfl, rfl⟩ := hr
      rw [hro] at hn
      by_cases ht : t = 1
      · subst ht
        obtain rfl := h.val y hl
        have hth : there = true := by rw [← h.is, hl]; rfl
        subst hth
        have hm := hok1.off _ (look_mem (s := 1) (x := own - x) (by simp only; rw [look_put, if_pos rfl]))
        have := h.hi
        exact .inr (.inr (.inr (.inr (.inl ⟨k2, rfl, rfl, rfl, by omega, by omega, Sm.put_own L hm.1 (by omega)⟩))))
      · exact .inr (.inr (.inr (.inr (.inr (.inl ⟨k2, ht, rfl, rfl, by omega, by omega, h.put_other ht⟩)))))
  rw [if_neg k2] at hr
  by_cases k3 : kd = 3
  · rw [if_pos k3] at hr
    unfold growB at hr
    by_cases ha : x < 1 ∨ 2147483647 < x
    · rw [if_pos ha] at hr; simp at hr
    rw [if_neg ha] at hr
    by_cases ht0 : t = 0
    · rw [if_pos ht0] at hr
      simp only at hr
      by_cases hb : 2147483647 - x < al
      · rw [if_pos hb] at hr; simp at hr
      rw [if_neg hb] at hr
      simp only [Prod.mk.injEq, Bk.mk.injEq, true_and] at hr
      obtain ⟨rfl, rfl, rfl⟩ := hr
      exact .inr (.inr (.inr (.inr (.inr (.inr (.inl ⟨k3, ht0, rfl, rfl, by omega, by omega, h⟩))))))
    rw [if_neg ht0] at hr
    cases hl : look L t with
    | none => simp [hl] at hr
    | some y =>
      simp only [hl] at hr
      by_cases hb : 2147483647 - x < fi + y
      · rw [if_pos hb] at hr; simp at hr
      rw [if_neg hb] at hr
      simp only [Prod.mk.injEq, Bk.mk.injEq, true_and] at hr
      obtain ⟨rfl, rfl, rfl⟩ := hr
      by_cases ht : t = 1
      · subst ht
        obtain rfl := h.val y hl
        have hth : there = true := by rw [← h.is, hl]; rfl
        subst hth
        have hm := h.lo
        exact .inr (.inr (.inr (.inr (.inr (.inr (.inr (.inl ⟨k3, rfl, rfl, rfl, by omega, by omega, Sm.put_own L (by omega) (by omega)⟩)))))))
      · exact .inr (.inr (.inr (.inr (.inr (.inr (.inr (.inr (.inl ⟨k3, by omega, rfl, rfl, h.put_other ht⟩))))))))
  rw [if_neg k3] at hr
  by_cases k4 : kd = 4
  · rw [if_pos k4] at hr
    unfold firstB at hr
    by_cases ha : x < 0 ∨ 2147483647 < x
    · rw [if_pos ha] at hr; simp at hr
    rw [if_neg ha] at hr
    by_cases hb : (L.any fun p => decide (2147483647 - x < p.2)) = true
    · rw [if_pos hb] at hr; simp at hr
    rw [if_neg hb] at hr
    simp only [Prod.mk.injEq, Bk.mk.injEq, true_and] at hr
    obtain ⟨rfl, rfl, rfl⟩ := hr
    exact .inr (.inr (.inr (.inr (.inr (.inr (.inr (.inr (.inr (.inl ⟨k4, rfl, rfl, h⟩)))))))))
  rw [if_neg k4] at hr
  simp only [Prod.mk.injEq, Bk.mk.injEq, true_and] at hr
  obtain ⟨rfl, rfl, rfl⟩ := hr
  exact .inr (.inr (.inr (.inr (.inr (.inr (.inr (.inr (.inr (.inr ⟨k0, k1, k2, k3, k4, rfl, rfl, h⟩)))))))))
/-- What is told of stream 1 behind a step. -/
theorem sm_at {al fi own : Int} {L : List (Int × Int)} {there : Bool} (h : Sm L own there) (hok : BkOk ⟨al, fi, L⟩) :
    (there = true ∧ atB ⟨al, fi, L⟩ 1 = (fi + own, true) ∧ fi + own ≤ 2147483647 ∧ -2147483647 ≤ fi + own ∧ roomB ⟨al, fi, L⟩ 1 ≤ max 0 (fi + own) ∧ roomB ⟨al, fi, L⟩ 1 ≤ max 0 al) ∨
    (there = false ∧ atB ⟨al, fi, L⟩ 1 = (0, false) ∧ roomB ⟨al, fi, L⟩ 1 = 0) := by
  cases hl : look L 1 with
  | some y =>
    obtain rfl := h.val y hl
    have f0 : 0 ≤ fi := hok.first0
    have := hok.off _ (look_mem hl)
    refine .inl ⟨by rw [← h.is, hl]; rfl, by unfold atB; simp [hl], this.2, by simp only at this; omega, ?_, ?_⟩ <;> (unfold roomB; simp [hl]; omega)
  | none => exact .inr ⟨by rw [← h.is, hl]; rfl, by unfold atB; simp [hl], by unfold roomB; simp [hl]⟩
/-- s & 3 -/
theorem and3 (s : Int) : 0 ≤ bits .and .i64 s 3 ∧ bits .and .i64 s 3 ≤ 3 := by
  have h : bits .and .i64 s 3 = IntKind.i64.wrap (((BitVec.ofInt 64 s) &&& (BitVec.ofInt 64 3)).toNat : Int) := rfl
  rw [h]
  have hle : ((BitVec.ofInt 64 s) &&& (BitVec.ofInt 64 3)).toNat ≤ 3 := by
    rw [BitVec.toNat_and]
    exact Nat.and_le_right
  generalize ((BitVec.ofInt 64 s) &&& (BitVec.ofInt 64 3)).toNat = q at hle
  simp [IntKind.wrap, IntKind.bits, IntKind.signed]
  omega
end Go.Proofs.Ytoicclgcbemffaa
