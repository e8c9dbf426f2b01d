/- The walk of drawbridgelaw04.TableStatic. -/
import Derived.Test.YthpieiipddfpjaaTabAwake
import Derived.Test.YthpieiipddfpjaaRTab4
namespace Go.Proofs.Ythpieiipddfpjaa
open Go.RowKit

theorem atV_form (v : Option Rw) : ∃ (f : Rw) (e : Int), atV v = .tuple #[.agg #[.string f.1, .string f.2, .bool false], .int .i64 e] := by
  cases v with
  | none => exact ⟨(emptyB, emptyB), 40, rfl⟩
  | some r => exact ⟨r, 0, rfl⟩

set_option maxRecDepth 100000 in
set_option maxHeartbeats 4000000 in
theorem tstatic_any (n : Int) (w : World) (hn : n ≤ 9223372036854775807) : Calls Try.prog 5 #[.int .i64 n] w (RetT w) := by
  obtain ⟨f, er, hf⟩ := atV_form (atRows [] n)
  have HF := Lib.hid hf
  clear hf
  go_enter Try.func5, Try.ntmps5
  go_wp2_with fail
  refine (awake4_any w).mono ?_
  rintro e w0 ⟨rfl, hb0⟩
  have HB0 := Lib.hid hb0
  have hs0 := hb0.size
  clear hb0
  go_wp2_with fail
  refine (tnew_any 0 w0 (by decide) (by decide)).mono ?_
  rintro e w1 ⟨g, F, rfl, ht, hF, hb⟩
  have H1 := Lib.hid (And.intro ht (And.intro (show New w0 F from hF) hb))
  have hs1 := hb.size
  have hgF := ht.lt
  clear ht hF hb hgF
  go_wp2_with fail
  obtain ⟨w2, hw2⟩ : ∃ w2, w1.alloc (.cells #[.int .i64 0, .slice none 0 0] 34) = w2 := ⟨_, rfl⟩
  have hb2 : Below w1.heap.size w1 w2 := by rw [← hw2]; exact (Below.refl _ _).alloc (Nat.le_refl _) _
  obtain ⟨q, hq⟩ : ∃ q, w1.heap.size = q := ⟨_, rfl⟩
  have hr2 : RIs w2 q (rfoot q none) 0 [] := ⟨none, 0, rfl, ⟨by rw [← hw2, ← hq]; exact heapNew _ _, Lies.nil _ _ _, fun a h => by cases h⟩⟩
  have ht2 : TabIs w2 g F 0 ⟨0, 0, []⟩ := H1.out.1.keep fun k hk => hb2.block k (H1.out.1.lt k hk)
  have H2 := Lib.hid (And.intro ht2 (And.intro hr2 hb2))
  have hs2 := hb2.size
  rw [hw2, hq]
  clear hb2 hr2 ht2 hw2
  have HQ := Lib.hid hq
  clear hq
  refine (at_any n w2 H2.out.1 hn).mono ?_
  rw [HF.out]
  rintro e w3 ⟨rfl, hb3⟩
  have H3 := Lib.hid hb3
  have hs3 := hb3.size
  clear hb3
  go_wp2_with fail
  refine (at_nil n _ hn).mono ?_
  rw [HF.out]
  rintro e w4 ⟨rfl, hb4⟩
  have H4 := Lib.hid hb4
  have hs4 := hb4.size
  simp at hs4
  clear hb4
  go_wp2_with fail
  have hb4 : Below w2.heap.size w2 (w4.alloc (.cells #[.string f.1, .string f.2, .bool false] 24)) :=
    ((H3.out.alloc hs3 _).trans (H4.out.mono (by simp; omega))).alloc (by omega) _
  have HB4 := Lib.hid hb4
  have hlt2 := H2.out.2.1.lt
  have hr4 := H2.out.2.1.keep (w' := w4.alloc (.cells #[.string f.1, .string f.2, .bool false] 24)) fun k hk => HB4.out.block k (hlt2 k hk)
  have HR4 := Lib.hid hr4
  clear hb4 hlt2 hr4
  refine (rat_any n _ HR4.out ⟨by decide, fun r h => by cases h⟩ hn).mono ?_
  rw [HF.out]
  rintro e w5 ⟨rfl, hb5⟩
  have H5 := Lib.hid hb5
  have hs5 := hb5.size
  simp at hs5
  clear hb5
  go_wp2_with fail
  refine (add_nil false (⟨#[97]⟩, ⟨#[]⟩) _).mono ?_
  rintro e w6 ⟨rfl, hb6⟩
  have H6 := Lib.hid hb6
  have hs6 := hb6.size
  simp at hs6
  clear hb6
  have c4 : ∀ j, w6.cell? ⟨w5.heap.size, j, none⟩ = (w5.alloc (.cells #[.string f.1, .string f.2, .bool false] 24)).cell? ⟨w5.heap.size, j, none⟩ := fun j => H6.out.cell (p := ⟨w5.heap.size, j, none⟩) (by simp)
  have d4 : ∀ j, w6.cell? ⟨w4.heap.size, j, none⟩ = (w4.alloc (.cells #[.string f.1, .string f.2, .bool false] 24)).cell? ⟨w4.heap.size, j, none⟩ := fun j => by
    rw [H6.out.cell (p := ⟨w4.heap.size, j, none⟩) (by simp; omega), ((Below.refl w5.heap.size w5).alloc (Nat.le_refl _) _).cell (p := ⟨w4.heap.size, j, none⟩) (by show w4.heap.size < w5.heap.size; omega)]
    exact H5.out.cell (p := ⟨w4.heap.size, j, none⟩) (by simp)
  have e4 : ∀ j, w6.cell? ⟨w3.heap.size, j, none⟩ = (w3.alloc (.cells #[.string f.1, .string f.2, .bool false] 24)).cell? ⟨w3.heap.size, j, none⟩ := fun j => by
    rw [H6.out.cell (p := ⟨w3.heap.size, j, none⟩) (by simp; omega), ((Below.refl w5.heap.size w5).alloc (Nat.le_refl _) _).cell (p := ⟨w3.heap.size, j, none⟩) (by show w3.heap.size < w5.heap.size; omega), H5.out.cell (p := ⟨w3.heap.size, j, none⟩) (by simp; omega), ((Below.refl w4.heap.size w4).alloc (Nat.le_refl _) _).cell (p := ⟨w3.heap.size, j, none⟩) (by show w3.heap.size < w4.heap.size; omega)]
    exact H4.out.cell (p := ⟨w3.heap.size, j, none⟩) (by simp)
  have c0 : w6.cell? ⟨w5.heap.size, 0, none⟩ = some (.string f.1) := (c4 0).trans (World.cell?_alloc_at _ _ _ _ rfl)
  have c1 : w6.cell? ⟨w5.heap.size, 1, none⟩ = some (.string f.2) := (c4 1).trans (World.cell?_alloc_at _ _ _ _ rfl)
  have c2 : w6.cell? ⟨w5.heap.size, 2, none⟩ = some (.bool false) := (c4 2).trans (World.cell?_alloc_at _ _ _ _ rfl)
  have d0 : w6.cell? ⟨w4.heap.size, 0, none⟩ = some (.string f.1) := (d4 0).trans (World.cell?_alloc_at _ _ _ _ rfl)
  have d1 : w6.cell? ⟨w4.heap.size, 1, none⟩ = some (.string f.2) := (d4 1).trans (World.cell?_alloc_at _ _ _ _ rfl)
  have d2 : w6.cell? ⟨w4.heap.size, 2, none⟩ = some (.bool false) := (d4 2).trans (World.cell?_alloc_at _ _ _ _ rfl)
  have e0 : w6.cell? ⟨w3.heap.size, 0, none⟩ = some (.string f.1) := (e4 0).trans (World.cell?_alloc_at _ _ _ _ rfl)
  have e1 : w6.cell? ⟨w3.heap.size, 1, none⟩ = some (.string f.2) := (e4 1).trans (World.cell?_alloc_at _ _ _ _ rfl)
  have e2 : w6.cell? ⟨w3.heap.size, 2, none⟩ = some (.bool false) := (e4 2).trans (World.cell?_alloc_at _ _ _ _ rfl)
  clear c4 d4 e4
  have HE : Hid (Below w.heap.size w w6) := Lib.hid <| ((((HB0.out.trans (H1.out.2.2.mono hs0)).trans (H2.out.2.2.mono (by omega))).trans (HB4.out.mono (by omega))).trans (H5.out.mono (by simp; omega))).alloc (by omega) _ |>.trans (H6.out.mono (by simp; omega))
  go_wp2_with (first
    | (go_at_call 23; refine (len_nil _).mono ?_; rintro e w9 ⟨rfl, rfl⟩)
    | (go_at_call 21; refine (size_nil _).mono ?_; rintro e w9 ⟨rfl, rfl⟩)
    | (go_at_call 20; refine (most_nil _).mono ?_; rintro e w9 ⟨rfl, rfl⟩)
    | (go_at_call 26; refine (resize_nil 5 _).mono ?_; rintro e w9 ⟨rfl, rfl⟩))
  go_ret
  exact ⟨rfl, HE.out⟩
end Go.Proofs.Ythpieiipddfpjaa
