/- The walks of stream.Go and drawbridgeref09.Go. -/
import Derived.Test.YtoicclgcbemffaaStream
namespace Go.Proofs.Ytoicclgcbemffaa
open Go.RowKit

theorem goF_3 (state : Int) (fin : Bool) : goF state 3 fin = if liveF state = true ∨ state = 6 then (5, true) else (0, false) := by
  unfold goF
  by_cases h : liveF state = true ∨ state = 6
  · rw [if_pos ⟨rfl, h⟩, if_pos h]
  · rw [if_neg (fun x => h x.2), if_neg h, if_neg (fun x => by omega), if_pos (by omega)]
theorem goF_8 (state : Int) (fin : Bool) : goF state 8 fin = if liveF state = true then (state, true) else (0, false) := by
  unfold goF
  by_cases h : liveF state = true
  · rw [if_neg (fun x => by omega), if_pos ⟨rfl, h⟩, if_pos h]
  · rw [if_neg (fun x => by omega), if_neg (fun x => h x.2), if_pos (by omega), if_neg h]
theorem goF_rest {kind : Int} (state : Int) (fin : Bool) (h : kind ≠ 0 ∧ kind ≠ 1 ∧ kind ≠ 3 ∧ kind ≠ 8) : goF state kind fin = (0, false) := by
  unfold goF
  rw [if_neg (fun x => h.2.2.1 x.1), if_neg (fun x => h.2.2.2 x.1), if_pos ⟨h.1, h.2.1⟩]
theorem goF_own {kind : Int} (state : Int) (fin : Bool) (h : kind = 0 ∨ kind = 1) : goF state kind fin = if state = 1 then (if fin then (3, true) else (1, true)) else if state = 2 then (if fin then (4, true) else (2, true)) else (0, false) := by
  unfold goF
  rw [if_neg (fun x => by omega), if_neg (fun x => by omega), if_neg (fun x => by omega)]
  by_cases h1 : state = 1
  · subst h1; cases fin <;> rfl
  · by_cases h2 : state = 2
    · subst h2; cases fin <;> rfl
    · rw [if_neg (fun x => h1 x.1), if_neg (fun x => h2 x.1), if_neg (fun x => x.elim h1 h2), if_neg h1, if_neg h2]

set_option maxHeartbeats 1000000 in
theorem go_any (state kind : Int) (fin : Bool) (w : World) : Calls Try.prog 19 #[.int .i64 state, .int .i64 kind, .bool fin] w fun e w' => e = .returned (goV (goF state kind fin)) ∧ w = w' := by
  by_cases h3 : kind = 3
  · subst h3
    rw [goF_3]
    cases hl : liveF state with
    | true =>
      rw [if_pos (.inl rfl)]
      have HL := Lib.hid hl
      clear hl
      go_enter Try.func19, Try.ntmps19
      go_wp2_with (go_at_call 21; refine (live_any _ _).mono ?_; rintro e w3 ⟨rfl, rfl⟩; rw [HL.out])
      go_ret2
      exact ⟨rfl, rfl⟩
    | false =>
      have HL := Lib.hid hl
      clear hl
      by_cases h6 : state = 6
      · subst h6
        go_enter Try.func19, Try.ntmps19
        go_wp2_with (go_at_call 21; refine (live_any _ _).mono ?_; rintro e w3 ⟨rfl, rfl⟩; rw [HL.out])
        go_ret2
        exact ⟨rfl, rfl⟩
      · rw [if_neg (by simp [h6])]
        have e6 : (state == 6) = false := by simpa using h6
        clear h6
        go_enter Try.func19, Try.ntmps19
        go_wp2_with (go_at_call 21; refine (live_any _ _).mono ?_; rintro e w3 ⟨rfl, rfl⟩; rw [HL.out])
        go_ret2
        exact ⟨rfl, rfl⟩
  · by_cases h8 : kind = 8
    · subst h8
      rw [goF_8]
      clear h3
      cases hl : liveF state with
      | true =>
        have HL := Lib.hid hl
        clear hl
        go_enter Try.func19, Try.ntmps19
        go_wp2_with (go_at_call 21; refine (live_any _ _).mono ?_; rintro e w3 ⟨rfl, rfl⟩; rw [HL.out])
        go_ret2
        exact ⟨rfl, rfl⟩
      | false =>
        have HL := Lib.hid hl
        clear hl
        go_enter Try.func19, Try.ntmps19
        go_wp2_with (go_at_call 21; refine (live_any _ _).mono ?_; rintro e w3 ⟨rfl, rfl⟩; rw [HL.out])
        go_ret2
        exact ⟨rfl, rfl⟩
    · have e3 : (kind == 3) = false := by simpa using h3
      have e8 : (kind == 8) = false := by simpa using h8
      by_cases hk : kind = 0 ∨ kind = 1
      · rw [goF_own state fin hk]
        by_cases h1 : state = 1
        · subst h1
          rw [if_pos rfl]
          rcases hk with rfl | rfl <;> cases fin
          all_goals (clear h3 h8 e3 e8; go_enter Try.func19, Try.ntmps19; go_wp2; go_ret2; exact ⟨rfl, rfl⟩)
        · by_cases h2 : state = 2
          · subst h2
            rcases hk with rfl | rfl <;> cases fin
            all_goals (clear h3 h8 e3 e8 h1; go_enter Try.func19, Try.ntmps19; go_wp2; go_ret2; exact ⟨rfl, rfl⟩)
          · rw [if_neg h1, if_neg h2]
            have e1 : (state == 1) = false := by simpa using h1
            have e2 : (state == 2) = false := by simpa using h2
            rcases hk with rfl | rfl <;> cases fin
            all_goals (clear h3 h8 e3 e8 h1 h2; go_enter Try.func19, Try.ntmps19; go_wp2; go_ret2; exact ⟨rfl, rfl⟩)
      · rw [goF_rest state fin ⟨by omega, by omega, h3, h8⟩]
        have e0 : (kind != 0) = true := by rw [bne_iff_ne]; omega
        have e1 : (kind != 1) = true := by rw [bne_iff_ne]; omega
        clear h3 h8 hk
        go_enter Try.func19, Try.ntmps19
        go_wp2
        go_ret2
        exact ⟨rfl, rfl⟩
end Go.Proofs.Ytoicclgcbemffaa
