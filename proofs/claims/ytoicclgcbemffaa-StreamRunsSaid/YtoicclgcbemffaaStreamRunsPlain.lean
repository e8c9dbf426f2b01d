/- What a row of frames does to a stream, in plain Lean. No program in sight. -/
import Derived.Test.YtoicclgcbemffaaStreamPlain
namespace Go.Proofs.Ytoicclgcbemffaa
open Go.RowKit

/-- How often each end has ended, in each state. -/
def J (q t o : Nat) : Bool := match q with
  | 0 => t == 0 && o == 0
  | 1 => t == 0 && o == 0
  | 2 => t == 1 && o == 0
  | 3 => t == 0 && o == 1
  | 4 => t == 1 && o == 1
  | 5 => decide (t ≤ 1) && decide (o ≤ 1)
  | 6 => decide (t ≤ 1) && decide (o ≤ 1)
  | _ => false
theorem J_le {q t o : Nat} (h : J q t o = true) : q ≤ 6 ∧ t ≤ 1 ∧ o ≤ 1 := by
  unfold J at h
  split at h <;> simp at h <;> omega
theorem J_4 {t o : Nat} (h : J 4 t o = true) : t = 1 ∧ o = 1 := by simpa [J] using h
theorem J_5 {q t o : Nat} (h : J q t o = true) : J 5 t o = true := by
  have := J_le h
  simp [J]; omega

def cnt (kind : Int) (fin : Bool) : Bool := fin && (kind == 0 || kind == 1)
/-- The ways of a frame of the gateway's. -/
def GoCase (q t o : Nat) (kind : Int) (fin : Bool) : Prop :=
  let r := goF q kind fin
  (r.2 = false ∧ r.1 = 0) ∨
  (r.2 = true ∧ liveF q = true ∧ cnt kind fin = true ∧ ((r.1 = 4 ∧ t = 1 ∧ o = 0) ∨ (r.1 = 3 ∧ t = 0 ∧ o = 0))) ∨
  (r.2 = true ∧ liveF q = true ∧ cnt kind fin = false ∧ (r.1 = 5 ∨ (r.1 = q ∧ q ≠ 4 ∧ q ≠ 5))) ∨
  (r.2 = true ∧ liveF q = false ∧ cnt kind fin = false ∧ r.1 = 5)
instance (q t o : Nat) (kind : Int) (fin : Bool) : Decidable (GoCase q t o kind fin) := by unfold GoCase; infer_instance
/-- The ways of a frame of the client's. -/
def ComeCase (q t o : Nat) (kind : Int) (fin : Bool) : Prop :=
  let m := comeF q kind fin
  (m.skip = true ∧ m.is = false ∧ m.whole = false ∧ m.state = q) ∨
  (m.skip = false ∧ m.is = true ∧ m.whole = true ∧ m.state = q ∧ (q = 0 ∨ q = 4)) ∨
  (m.skip = false ∧ m.is = true ∧ m.whole = false ∧ m.state = 5) ∨
  (m.skip = false ∧ m.is = false ∧ m.whole = false ∧ cnt kind fin = true ∧ t = 0 ∧ ((q = 0 ∧ m.state = 2 ∧ o = 0) ∨ (q = 1 ∧ m.state = 2 ∧ o = 0) ∨ (q = 3 ∧ m.state = 4 ∧ o = 1))) ∨
  (m.skip = false ∧ m.is = false ∧ m.whole = false ∧ cnt kind fin = false ∧ ((q = 0 ∧ m.state = 1) ∨ (liveF q = true ∧ (m.state = q ∨ m.state = 6))))
instance (q t o : Nat) (kind : Int) (fin : Bool) : Decidable (ComeCase q t o kind fin) := by unfold ComeCase; infer_instance

theorem fin_0 : ∀ q < 7, ∀ t < 2, ∀ o < 2, ∀ fin : Bool, J q t o = true → GoCase q t o 0 fin ∧ ComeCase q t o 0 fin := by decide +kernel
theorem fin_1 : ∀ q < 7, ∀ t < 2, ∀ o < 2, ∀ fin : Bool, J q t o = true → GoCase q t o 1 fin ∧ ComeCase q t o 1 fin := by decide +kernel
theorem fin_2 : ∀ q < 7, ∀ t < 2, ∀ o < 2, ∀ fin : Bool, J q t o = true → GoCase q t o 2 fin ∧ ComeCase q t o 2 fin := by decide +kernel
theorem fin_3 : ∀ q < 7, ∀ t < 2, ∀ o < 2, ∀ fin : Bool, J q t o = true → GoCase q t o 3 fin ∧ ComeCase q t o 3 fin := by decide +kernel
theorem fin_8 : ∀ q < 7, ∀ t < 2, ∀ o < 2, ∀ fin : Bool, J q t o = true → GoCase q t o 8 fin ∧ ComeCase q t o 8 fin := by decide +kernel
theorem cases_any {q t o : Nat} (kind : Int) (fin : Bool) (h : J q t o = true) : GoCase q t o kind fin ∧ ComeCase q t o kind fin := by
  obtain ⟨h1, h2, h3⟩ := J_le h
  rcases kinds kind with rfl | rfl | rfl | rfl | rfl | ⟨k0, k1, k3, k8, k2⟩
  · exact fin_0 q (by omega) t (by omega) o (by omega) fin h
  · exact fin_1 q (by omega) t (by omega) o (by omega) fin h
  · exact fin_3 q (by omega) t (by omega) o (by omega) fin h
  · exact fin_8 q (by omega) t (by omega) o (by omega) fin h
  · exact fin_2 q (by omega) t (by omega) o (by omega) fin h
  · refine ⟨.inl ?_, .inl ?_⟩
    · have : goF (q : Int) kind fin = (0, false) := by
        unfold goF
        rw [if_neg (fun x => k3 x.1), if_neg (fun x => k8 x.1), if_pos ⟨k0, k1⟩]
      rw [this]; exact ⟨rfl, rfl⟩
    · have : comeF (q : Int) kind fin = ⟨q, true, false, 0, false⟩ := by
        unfold comeF colF
        rw [if_neg (by omega), if_neg k0, if_neg k1, if_neg k3, if_neg k8, if_neg k2]
      rw [this]; exact ⟨rfl, rfl, rfl, rfl⟩
/-- Behind a fault of its own nothing goes, nothing is heard. -/
theorem dropped (kind : Int) (fin : Bool) : ∃ c, comeF 5 kind fin = ⟨5, true, false, c, false⟩ := by
  rcases kinds kind with rfl | rfl | rfl | rfl | rfl | ⟨k0, k1, k3, k8, k2⟩
  case inr.inr.inr.inr.inr =>
    refine ⟨0, ?_⟩
    unfold comeF colF
    rw [if_neg (by omega), if_neg k0, if_neg k1, if_neg k3, if_neg k8, if_neg k2]
  all_goals (cases fin <;> exact ⟨_, rfl⟩)
end Go.Proofs.Ytoicclgcbemffaa
