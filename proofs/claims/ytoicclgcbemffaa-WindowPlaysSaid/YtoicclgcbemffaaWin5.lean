/- Each method of window.Book as one step on its numbers. -/
import Derived.Test.YtoicclgcbemffaaWin4
import Derived.Test.YtoicclgcbemffaaWinStep
namespace Go.Proofs.Ytoicclgcbemffaa
open Go.RowKit Go.Maps

def WStep (g m : Nat) (W : World) (r : Int × Bk) (e : Ending) (w' : World) : Prop := e = .returned (.int .i64 r.1) ∧ WB w' g m r.2.all r.2.first r.2.L ∧ But g m W w'
theorem BkOk.inv {S : Bk} (h : BkOk S) : WInv S.all S.first S.L := ⟨h.all0, h.all1, h.first0, h.first1, h.off⟩
theorem atB_eq (S : Bk) (s : Int) : atF S.all S.first S.L s = atB S s := rfl
theorem roomB_eq (S : Bk) (s : Int) : roomF S.all S.first S.L s = roomB S s := rfl

section
variable {g m : Nat} {S : Bk} {w : World} (h : WB w g m S.all S.first S.L) (hi : BkOk S) (hlen : S.L.length < 100000)
include h hi hlen
omit hi in
theorem open_step (s : Int) (hs : (Lit.int .i64 s).wf = true) : Calls Try.prog 29 #[.pointer (some ⟨g, 0, none⟩), .int .i64 s] w (WStep g m w (openB S s)) := by
  unfold openB
  by_cases h1 : s < 1
  · rw [if_pos h1]
    exact (wopen_arg s w h1).mono fun e w' ⟨he, hw⟩ => ⟨he, hw ▸ h, hw ▸ But.refl _ _ _⟩
  · rw [if_neg h1]
    have := wopen_any s w h hs (by omega) hlen
    split
    · rename_i hl; rw [if_pos hl] at this; exact this.mono fun e w' ⟨a, b, c⟩ => ⟨a, b, c⟩
    · rename_i hl; rw [if_neg hl] at this; exact this.mono fun e w' ⟨a, b, c⟩ => ⟨a, b, c⟩
theorem spend_step (s n : Int) (hs : (Lit.int .i64 s).wf = true) : Calls Try.prog 30 #[.pointer (some ⟨g, 0, none⟩), .int .i64 s, .int .i64 n] w (WStep g m w (spendB S s n)) := by
  by_cases hf : spendF S.all S.first S.L s n = 0
  · have h0 : s ≠ 0 := fun e => by unfold spendF at hf; rw [if_pos (.inl e)] at hf; cases hf
    cases hl : look S.L s with
    | none => unfold spendF at hf; rw [if_pos (.inr hl)] at hf; cases hf
    | some x =>
      have hr : ¬ (n < 0 ∨ roomB S s < n) := fun e => by
        unfold spendF at hf
        rw [hl, if_neg (by simp [h0]), roomB_eq, if_pos e] at hf; cases hf
      have he : spendB S s n = (0, { S with all := S.all - n, L := putL S.L s (x - n) }) := by unfold spendB; rw [if_neg h0, hl]; simp only; rw [if_neg hr]
      rw [he]
      exact (wspend_ok s n x w h hi.inv hs h0 hl (by omega) (by rw [roomB_eq]; omega) hlen).mono fun e w' ⟨a, b, c⟩ => ⟨a, b, c⟩
  · have he : spendB S s n = (spendF S.all S.first S.L s n, S) := by
      unfold spendB spendF at *
      by_cases h0 : s = 0
      · rw [if_pos h0, if_pos (.inl h0)]
      · rw [if_neg h0]
        cases hl : look S.L s with
        | none => simp
        | some x =>
          rw [hl] at hf
          simp only [h0, false_or, reduceCtorEq, if_false] at hf ⊢
          by_cases hn : n < 0 ∨ roomF S.all S.first S.L s < n
          · rw [if_pos (show n < 0 ∨ roomB S s < n from hn), if_pos hn]
          · rw [if_neg hn] at hf; exact absurd rfl hf
    rw [he]
    exact (wspend_no s n w h hi.inv hs hf).mono fun e w' ⟨he, hw⟩ => ⟨he, hw ▸ h, hw ▸ But.refl _ _ _⟩
omit hi hlen in
theorem shut_step (s : Int) (hs : (Lit.int .i64 s).wf = true) : Calls Try.prog 28 #[.pointer (some ⟨g, 0, none⟩), .int .i64 s] w fun e w' => e = .returned (.tuple #[]) ∧ WB w' g m (shutB S s).2.all (shutB S s).2.first (shutB S s).2.L ∧ But g m w w' :=
  wshut_any s w h hs
theorem grow_step (s n : Int) (hs : (Lit.int .i64 s).wf = true) : Calls Try.prog 31 #[.pointer (some ⟨g, 0, none⟩), .int .i64 s, .int .i64 n] w (WStep g m w (growB S s n)) := by
  by_cases ha : n < 1 ∨ 2147483647 < n
  · have he : growB S s n = (1, S) := by unfold growB; rw [if_pos ha]
    rw [he]
    exact (wgrow_arg s n w ha).mono fun e w' ⟨a, b⟩ => ⟨a, b ▸ h, b ▸ But.refl _ _ _⟩
  · by_cases h0 : s = 0
    · subst h0
      by_cases hr : 2147483647 - n < S.all
      · have he : growB S 0 n = (11, S) := by unfold growB; rw [if_neg ha, if_pos rfl, if_pos hr]
        have hg : growF S.all S.first S.L 0 n = 11 := by
          unfold growF
          rw [if_neg ha, if_neg (by simp [atF]), if_pos (by simpa [atF] using hr)]
        rw [he]
        have := wgrow_no 0 n w h hi.inv hs (by rw [hg]; decide)
        rw [hg] at this
        exact this.mono fun e w' ⟨a, b⟩ => ⟨a, b ▸ h, b ▸ But.refl _ _ _⟩
      · have he : growB S 0 n = (0, { S with all := S.all + n }) := by unfold growB; rw [if_neg ha, if_pos rfl, if_neg hr]
        rw [he]
        exact (wgrow_0 n w h hi.inv (by omega) (by omega)).mono fun e w' ⟨a, b, c⟩ => ⟨a, b, c⟩
    · cases hl : look S.L s with
      | none =>
        have he : growB S s n = (4, S) := by unfold growB; rw [if_neg ha, if_neg h0, hl]
        have hg : growF S.all S.first S.L s n = 4 := by
          unfold growF
          rw [if_neg ha, if_pos (by unfold atF; rw [if_neg h0, hl])]
        rw [he]
        have := wgrow_no s n w h hi.inv hs (by rw [hg]; decide)
        rw [hg] at this
        exact this.mono fun e w' ⟨a, b⟩ => ⟨a, b ▸ h, b ▸ But.refl _ _ _⟩
      | some x =>
        have hat : atF S.all S.first S.L s = (S.first + x, true) := by unfold atF; rw [if_neg h0, hl]
        by_cases hr : 2147483647 - n < S.first + x
        · have he : growB S s n = (11, S) := by unfold growB; rw [if_neg ha, if_neg h0, hl]; simp only; rw [if_pos hr]
          have hg : growF S.all S.first S.L s n = 11 := by
            unfold growF
            rw [if_neg ha, hat, if_neg (by simp), if_pos hr]
          rw [he]
          have := wgrow_no s n w h hi.inv hs (by rw [hg]; decide)
          rw [hg] at this
          exact this.mono fun e w' ⟨a, b⟩ => ⟨a, b ▸ h, b ▸ But.refl _ _ _⟩
        · have he : growB S s n = (0, { S with L := putL S.L s (x + n) }) := by unfold growB; rw [if_neg ha, if_neg h0, hl]; simp only; rw [if_neg hr]
          rw [he]
          exact (wgrow_s s n x w h hi.inv hs h0 hl (by omega) (by omega) (by omega) hlen).mono fun e w' ⟨a, b, c⟩ => ⟨a, b, c⟩
omit hi hlen in
theorem first_step (n : Int) : Calls Try.prog 27 #[.pointer (some ⟨g, 0, none⟩), .int .i64 n] w (WStep g m w (firstB S n)) := by
  unfold firstB
  by_cases ha : n < 0 ∨ 2147483647 < n
  · rw [if_pos ha]
    exact (wfirst_arg n w ha).mono fun e w' ⟨he, hw⟩ => ⟨he, hw ▸ h, hw ▸ But.refl _ _ _⟩
  · rw [if_neg ha]
    have hb : FirstBad S.L n ↔ S.L.any (fun p => decide (2147483647 - n < p.2)) = true := by
      rw [List.any_eq_true]
      constructor
      · rintro ⟨s, x, hs, hx⟩; exact ⟨(s, x), look_mem hs, by simpa using hx⟩
      · rintro ⟨⟨s, x⟩, hp, hx⟩
        refine ⟨s, x, look_of_mem h.once hp, by simpa using hx⟩
    refine (wfirst_any n w h (by omega) (by omega)).mono fun e w' hd => ?_
    rcases hd with ⟨h1, h2, h3, h4⟩ | ⟨h1, h2, h3, h4⟩
    · rw [if_pos (hb.1 h1)]; exact ⟨h2, h3, h4⟩
    · rw [if_neg (fun x => h1 (hb.2 x))]; exact ⟨h2, h3, h4⟩
end
end Go.Proofs.Ytoicclgcbemffaa
