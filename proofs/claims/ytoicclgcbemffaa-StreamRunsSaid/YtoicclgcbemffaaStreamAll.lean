/- stream.Come and drawbridgeref09.Come at every state, every type; the walks of awake, StreamComes, StreamGoes. -/
import Derived.Test.YtoicclgcbemffaaStreamRef1
import Derived.Test.YtoicclgcbemffaaStreamRef2
import Derived.Test.YtoicclgcbemffaaStreamRef3
import Derived.Test.YtoicclgcbemffaaStreamRefOut
import Derived.Test.YtoicclgcbemffaaStreamRGo
namespace Go.Proofs.Ytoicclgcbemffaa
open Go.RowKit

theorem colF_some {kind : Int} {c : Nat} (h : colF kind = some c) : c ≤ 4 := by
  unfold colF at h
  split at h
  · injection h; omega
  split at h
  · injection h; omega
  split at h
  · injection h; omega
  split at h
  · injection h; omega
  split at h
  · injection h; omega
  · cases h
theorem tab_le : ∀ q < 7, ∀ c < 5, (tabF.getD q []).getD c 0 < 7 := by decide
theorem come_any (state kind : Int) (fin : Bool) (w : World) :
    Calls Try.prog 17 #[.int .i64 state, .int .i64 kind, .bool fin] w fun e w' => e = .returned (mvV (comeF state kind fin)) ∧ Below w.heap.size w w' := by
  by_cases h : (state < 0 ∨ 6 < state) ∨ colF kind = none
  · exact come_rest state kind fin w h
  · obtain ⟨q, rfl⟩ := Int.eq_ofNat_of_zero_le (show 0 ≤ state by omega)
    cases hc : colF kind with
    | none => exact absurd (.inr hc) h
    | some c =>
      have hf : comeF (q : Int) kind fin = howF q ((tabF.getD q []).getD c 0) fin := by unfold comeF; rw [if_neg (by omega), hc]; rfl
      have hc4 := colF_some hc
      have ht := tab_le q (by omega) c (by omega)
      rw [hf]
      exact come_in q c _ kind fin w (by omega) hc4 hc rfl (by omega)
theorem rcome_any (state kind : Int) (fin : Bool) (w : World) :
    Calls Try.prog 18 #[.int .i64 state, .int .i64 kind, .bool fin] w fun e w' => e = .returned (mvV (comeF state kind fin)) ∧ Below w.heap.size w w' := by
  by_cases h : state < 0 ∨ 6 < state
  · exact rcome_out state kind fin w h
  · rcases kinds kind with hk | hk | hk | hk | hk | hk
    case inr.inr.inr.inr.inr => exact rcome_none state kind fin w h hk
    all_goals
      have hk' : kind = 0 ∨ kind = 1 ∨ kind = 3 ∨ kind = 8 ∨ kind = 2 := by omega
      rcases states state with hs | hs | hs | hs | hs | hs | hs | hs | hs
      · exact absurd (.inl hs) h
      · exact absurd (.inr hs) h
      · subst hs; exact rcome_0 fin kind w hk'
      · subst hs; exact rcome_1 fin kind w hk'
      · subst hs; exact rcome_2 fin kind w hk'
      · subst hs; exact rcome_3 fin kind w hk'
      · subst hs; exact rcome_4 fin kind w hk'
      · subst hs; exact rcome_5 fin kind w hk'
      · subst hs; exact rcome_6 fin kind w hk'

set_option maxHeartbeats 1000000 in
theorem awake9_any (w : World) : Calls Try.prog 16 #[] w (RetT w) := by
  go_enter Try.func16, Try.ntmps16
  go_wp2_with fail
  refine (come_any 0 1 true w).mono ?_
  rintro e w1 ⟨rfl, hb1⟩
  rw [show mvV (comeF 0 1 true) = .agg #[.int .i64 2, .bool false, .bool false, .int .i64 0, .bool false] from by kernel_rfl]
  go_wp2_with fail
  refine (go_any 2 0 true _).mono ?_
  rintro e w2 ⟨rfl, rfl⟩
  rw [show goV (goF 2 0 true) = .tuple #[.int .i64 4, .bool true] from by kernel_rfl]
  go_wp2
  go_ret
  exact ⟨rfl, hb1.alloc hb1.size _⟩

set_option maxHeartbeats 1000000 in
theorem comes_any (state kind : Int) (fin : Bool) (w : World) : Calls Try.prog 5 #[.int .i64 state, .int .i64 kind, .bool fin] w (RetT w) := by
  go_enter Try.func5, Try.ntmps5
  go_wp2_with fail
  refine (awake9_any w).mono ?_
  rintro e w1 ⟨rfl, hb1⟩
  go_wp2_with fail
  refine (come_any _ _ _ _).mono ?_
  rintro e w2 ⟨rfl, hb2⟩
  obtain ⟨m, hm⟩ : ∃ m, comeF state kind fin = m := ⟨_, rfl⟩
  have HM := Lib.hid hm
  rw [hm]
  clear hm
  obtain ⟨a, b, c, d, f⟩ := m
  simp only [mvV]
  go_wp2_with fail
  refine (rcome_any _ _ _ _).mono ?_
  rintro e w3 ⟨rfl, hb3⟩
  rw [HM.out]
  simp only [mvV]
  go_wp2
  go_ret
  exact ⟨rfl, (hb1.trans (hb2.mono hb1.size)).trans (hb3.mono (by have := hb1.size; have := hb2.size; omega))⟩

set_option maxHeartbeats 1000000 in
theorem goes_any (state kind : Int) (fin : Bool) (w : World) : Calls Try.prog 6 #[.int .i64 state, .int .i64 kind, .bool fin] w (RetT w) := by
  go_enter Try.func6, Try.ntmps6
  go_wp2_with fail
  refine (awake9_any w).mono ?_
  rintro e w1 ⟨rfl, hb1⟩
  go_wp2_with fail
  refine (go_any _ _ _ _).mono ?_
  rintro e w2 ⟨rfl, rfl⟩
  obtain ⟨m, hm⟩ : ∃ m, goF state kind fin = m := ⟨_, rfl⟩
  have HM := Lib.hid hm
  rw [hm]
  clear hm
  obtain ⟨a, b⟩ := m
  simp only [goV]
  go_wp2_with fail
  refine (rgo_any _ _ _ _).mono ?_
  rintro e w3 ⟨rfl, rfl⟩
  rw [HM.out]
  simp only [goV]
  go_wp2_with fail
  refine (live_any _ _).mono ?_
  rintro e w3 ⟨rfl, rfl⟩
  go_wp2
  all_goals (go_ret; exact ⟨ret_v (by simp [liveF, *]), hb1⟩)
end Go.Proofs.Ytoicclgcbemffaa
