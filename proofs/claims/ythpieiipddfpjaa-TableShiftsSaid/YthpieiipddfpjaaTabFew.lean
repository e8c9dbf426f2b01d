/- The walk of drawbridgelaw04.few. -/
import Derived.Test.YthpieiipddfpjaaScript
import Derived.Test.YthpieiipddfpjaaTab7
namespace Go.Proofs.Ythpieiipddfpjaa
open Go.RowKit

/-- What is gone through is not too long. -/
def Few (n : Nat) (D : Nat → St) : Prop := ∀ i, i < n → i < 120 → (D i).sf.1.size ≤ 100000 ∧ (D i).sf.2.size ≤ 100000
def FewRel (W : World) (n : Nat) (D : Nat → St) (tv iv : Value) (wr : World) : Prop :=
  ∃ (k : Nat) (t : Int), iv = .int .i64 k ∧ tv = .int .i64 t ∧ 0 ≤ t ∧ t ≤ k * 200000 ∧ k ≤ n ∧ k ≤ 120 ∧ (∀ i, i < k → (D i).sf.1.size ≤ 100000 ∧ (D i).sf.2.size ≤ 100000) ∧ Below W.heap.size W wr
def FewPost (W : World) (n : Nat) (D : Nat → St) (e : Ending) (w' : World) : Prop := ∃ b, e = .returned (.bool b) ∧ Below W.heap.size W w' ∧ (b = true → Few n D)
set_option maxRecDepth 100000 in
set_option maxHeartbeats 2000000 in
theorem few_any {B n c : Nat} {A : Option Addr} {D : Nat → St} (w : World) (h : Script w B A n D) (hB : B ≤ w.heap.size) (hn : n ≤ 140737488351232) :
    Calls Try.prog 14 #[.slice A n c] w (FewPost w n D) := by
  have H := Lib.hid h
  clear h
  go_enter Try.func14, Try.ntmps14
  go_wp2
  go_loopw [3, 4] (fun t i wr => FewRel w n D t i wr) (fun _ i _ => n - (intOf i).toNat)
  case atStart => exact ⟨0, 0, rfl, rfl, by omega, by omega, by omega, by omega, fun i hi => by omega, Below.refl _ _⟩
  case round =>
    obtain ⟨k, t, rfl, rfl, ht0, ht1, hk, hk2, hall, hbel⟩ := hrel
    have HA := Lib.hid hall
    have HB := Lib.hid hbel
    clear hall hbel
    by_cases hlt : k < n
    · by_cases h120 : k < 120
      · obtain ⟨b, o, rfl, hbB, hc⟩ := (H.out.below (HB.out.mono hB)).2 (by omega)
        obtain ⟨-, c1, c2, -, -⟩ := hc k hlt
        have n1 : (k : Int) < n := by omega
        have n2 : (k : Int) < 120 := by omega
        obtain ⟨a, ha⟩ : ∃ a : Nat, (D k).sf.1.size = a := ⟨_, rfl⟩
        obtain ⟨a', ha'⟩ : ∃ a' : Nat, (D k).sf.2.size = a' := ⟨_, rfl⟩
        clear hc
        by_cases h1 : a ≤ 100000
        · by_cases h2 : a' ≤ 100000
          · go_wp2
            go_quiet (fail)
            go_wp2
            go_roundw
            case rel =>
              refine ⟨k + 1, t + a + a', by go_num, by first | rfl | (congr 1; go_num), by omega, by omega, by omega, by omega, fun i hi => ?_, below_dN HB.out _⟩
              rcases Nat.lt_succ_iff_lt_or_eq.1 hi with h | rfl
              · exact HA.out i h
              · omega
            case measure => simp [intOf]; omega
          · go_wp2
            go_ret
            exact ⟨false, rfl, HB.out, fun h => by cases h⟩
        · go_wp2
          go_ret
          exact ⟨false, rfl, HB.out, fun h => by cases h⟩
      · go_wp2
        go_ret
        exact ⟨_, rfl, HB.out, fun _ i hi h => HA.out i (by omega)⟩
    · go_wp2
      go_ret
      exact ⟨_, rfl, HB.out, fun _ i hi h => HA.out i (by omega)⟩
end Go.Proofs.Ythpieiipddfpjaa
