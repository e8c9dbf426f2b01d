/- The walk of drawbridgeref04.At. -/
import Derived.Test.YthpieiipddfpjaaRTab1
import Derived.Test.YthpieiipddfpjaaTab6
import Derived.Deep.DeepCutAuto
namespace Go.Proofs.Ythpieiipddfpjaa
open Go.RowKit

theorem fstatV_get {i : Nat} {r : Rw} (h : statF[i]? = some r) : fstatV.toArray[i * 3]? = some (.string r.1) ∧ fstatV.toArray[i * 3 + 1]? = some (.string r.2) ∧ fstatV.toArray[i * 3 + 2]? = some (.bool false) := by
  have := fcs_get h
  simpa [fstatV] using this

set_option maxRecDepth 100000 in
set_option maxHeartbeats 2000000 in
theorem rat_any {g : Nat} {F : Nat → Prop} {most : Int} {rows : List Rw} (n : Int) (w : World) (h : RIs w g F most rows) (hs : Small rows) (hnb : n ≤ 9223372036854775807) :
    Calls Try.prog 24 #[.pointer (some ⟨g, 0, none⟩), .int .i64 n] w fun e w' => e = .returned (atV (atRows rows n)) ∧ Below w.heap.size w w' := by
  obtain ⟨A, c, rfl, ht⟩ := h
  have hl := hs.len
  have hgl := ht.lt g (.inl rfl)
  obtain ⟨W0, hW0⟩ : ∃ W0, (w.alloc (.cells #[.string emptyB, .string emptyB, .bool false] 24)).alloc (.cells fstatV.toArray 24) = W0 := ⟨_, rfl⟩
  have b0 : Below w.heap.size w W0 := by rw [← hW0]; exact ((Below.refl _ _).alloc (Nat.le_refl _) _).alloc (by simp) _
  obtain ⟨p, hp⟩ : ∃ p, w.heap.size = p := ⟨_, rfl⟩
  have k0 : W0.heap[p]? = some (.cells #[.string emptyB, .string emptyB, .bool false] 24 (0, 0)) := by
    rw [← hW0, ← hp]; exact (Below.heap_alloc _ _ _ (by simp)).trans (heapNew _ _)
  have k1 : W0.heap[p + 1]? = some (.cells fstatV.toArray 24 (0, 0)) := by rw [← hW0, ← hp]; exact heapNew1 _ _ _
  have p0 : W0.cell? ⟨p, 0, none⟩ = some (.string emptyB) := by unfold World.cell?; rw [k0]; rfl
  have p1 : W0.cell? ⟨p, 1, none⟩ = some (.string emptyB) := by unfold World.cell?; rw [k0]; rfl
  have p2 : W0.cell? ⟨p, 2, none⟩ = some (.bool false) := by unfold World.cell?; rw [k0]; rfl
  have f0 : ∀ o, W0.frozen? ⟨p, o, none⟩ = false := fun o => by unfold World.frozen?; rw [k0]; simp
  have ht0 : RT W0 g A c most rows := ht.keep fun k hk => b0.block k (ht.lt k hk)
  obtain ⟨-, d1⟩ := ht0.cells
  have HW0 := Lib.hid hW0
  have HP := Lib.hid hp
  have hq1 : (w.alloc (.cells #[.string emptyB, .string emptyB, .bool false] 24)).heap.size = p + 1 := by rw [← hp]; simp
  have HQ := Lib.hid hq1
  have HB := Lib.hid b0
  have HK1 := Lib.hid k1
  have HT := Lib.hid ht0
  have hend : ∀ x y z : Value, Below w.heap.size w (((W0.setCell ⟨p, 0, none⟩ x).setCell ⟨p, 1, none⟩ y).setCell ⟨p, 2, none⟩ z) := fun x y z =>
    ((HB.out.setCell (by show w.heap.size ≤ p; omega) x).setCell (by show w.heap.size ≤ p; omega) y).setCell (by show w.heap.size ≤ p; omega) z
  have HE := Lib.hid hend
  clear hW0 hp b0 k0 k1 ht ht0 hend hs hq1
  by_cases h1 : n < 1
  · have ha := Lib.hid (atRows_none (rows := rows) (.inl h1))
    go_enter Try.func24, Try.ntmps24
    go_wp2_with fail
    refine (static_any _).mono ?_
    rintro e w1 ⟨rfl, rfl⟩
    rw [show (w.alloc (.cells #[.string ⟨#[]⟩, .string ⟨#[]⟩, .bool false] 24)).alloc (.cells fstatV.toArray 24) = W0 from HW0.out, HP.out]
    go_wp2
    refine bodyPost_ret (v := atV none) (by simp [results, Try.results24, go_sem, atV, fieldV, emptyB, p0, p1, p2]) rfl ?_
    rw [ha.out]
    exact ⟨rfl, HE.out _ _ _⟩
  by_cases h2 : n ≤ 61
  · obtain ⟨i, hi⟩ : ∃ i : Nat, n = i + 1 := ⟨(n - 1).toNat, by omega⟩
    subst hi
    obtain ⟨r, hr, ha⟩ := atRows_stat rows (i := i) (by omega)
    have HA := Lib.hid ha
    obtain ⟨s0, s1, s2⟩ := fstatV_get hr
    have t0 : W0.cell? ⟨p + 1, i * 3, none⟩ = some (.string r.1) := by unfold World.cell?; rw [HK1.out]; exact s0
    have t1 : W0.cell? ⟨p + 1, i * 3 + 1, none⟩ = some (.string r.2) := by unfold World.cell?; rw [HK1.out]; exact s1
    have t2 : W0.cell? ⟨p + 1, i * 3 + 2, none⟩ = some (.bool false) := by unfold World.cell?; rw [HK1.out]; exact s2
    clear hr ha s0 s1 s2
    go_enter Try.func24, Try.ntmps24
    go_wp2_with fail
    refine (static_any _).mono ?_
    rintro e w1 ⟨rfl, rfl⟩
    rw [show (w.alloc (.cells #[.string ⟨#[]⟩, .string ⟨#[]⟩, .bool false] 24)).alloc (.cells fstatV.toArray 24) = W0 from HW0.out]
    rw [show (w.alloc (.cells #[.string ⟨#[]⟩, .string ⟨#[]⟩, .bool false] 24)).heap.size = p + 1 from HQ.out, HP.out]
    go_wp2
    refine bodyPost_ret (v := atV (some r)) (by simp [results, Try.results24, go_sem, atV, fieldV, p0, p1, p2]) rfl ?_
    rw [HA.out]
    exact ⟨rfl, HE.out _ _ _⟩
  by_cases h3 : 61 + (rows.length : Int) < n
  · have ha := Lib.hid (atRows_none (rows := rows) (.inr h3))
    go_enter Try.func24, Try.ntmps24
    go_wp2_with fail
    refine (static_any _).mono ?_
    rintro e w1 ⟨rfl, rfl⟩
    rw [show (w.alloc (.cells #[.string ⟨#[]⟩, .string ⟨#[]⟩, .bool false] 24)).alloc (.cells fstatV.toArray 24) = W0 from HW0.out]
    rw [show (w.alloc (.cells #[.string ⟨#[]⟩, .string ⟨#[]⟩, .bool false] 24)).heap.size = p + 1 from HQ.out, HP.out]
    go_wp2
    refine bodyPost_ret (v := atV none) (by simp [results, Try.results24, go_sem, atV, fieldV, emptyB, p0, p1, p2]) rfl ?_
    rw [ha.out]
    exact ⟨rfl, HE.out _ _ _⟩
  · obtain ⟨j, hj⟩ : ∃ j : Nat, (n - 62).toNat = j := ⟨_, rfl⟩
    have hjl : j < rows.length := by omega
    obtain ⟨r, hr, ha⟩ := atRows_came rows (i := rows.length - 1 - j) (by omega)
    rw [show (61 + rows.length - ((rows.length - 1 - j : Nat) : Int)) = n by omega] at ha
    have hrv : rows.reverse[j]? = some r := by rw [List.getElem?_reverse hjl]; exact hr
    obtain ⟨q, o, rfl, hq, q0, q1, q2⟩ := HT.out.at_ hrv
    have HA := Lib.hid ha
    have n1 : 61 < n := by omega
    have n2 : n - 61 ≤ rows.length := by omega
    have n3 : n ≤ 61 + rows.length := by omega
    have hj2 : (n - 61).toNat - 1 = j := by omega
    rw [← hj2] at q0 q1 q2
    clear hr ha hrv hj hj2 hjl h1 h2 h3
    go_enter Try.func24, Try.ntmps24
    go_wp2_with fail
    refine (static_any _).mono ?_
    rintro e w1 ⟨rfl, rfl⟩
    rw [show (w.alloc (.cells #[.string ⟨#[]⟩, .string ⟨#[]⟩, .bool false] 24)).alloc (.cells fstatV.toArray 24) = W0 from HW0.out]
    rw [show (w.alloc (.cells #[.string ⟨#[]⟩, .string ⟨#[]⟩, .bool false] 24)).heap.size = p + 1 from HQ.out, HP.out]
    go_wp2
    refine bodyPost_ret (v := atV (some r)) (by simp [results, Try.results24, go_sem, atV, fieldV, p0, p1, p2]) rfl ?_
    rw [HA.out]
    exact ⟨rfl, HE.out _ _ _⟩
end Go.Proofs.Ythpieiipddfpjaa
