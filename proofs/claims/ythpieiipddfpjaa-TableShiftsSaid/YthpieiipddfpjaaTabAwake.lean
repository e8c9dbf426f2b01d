/- The walk of drawbridgelaw04.awake. -/
import Derived.Test.YthpieiipddfpjaaTab5
import Derived.Test.YthpieiipddfpjaaTab7
namespace Go.Proofs.Ythpieiipddfpjaa
open Go.RowKit Go.Maps

def ra : Rw := (⟨#[97]⟩, ⟨#[98]⟩)
def rc : Rw := (⟨#[99]⟩, ⟨#[100]⟩)
theorem aw_add1 : (⟨100, 0, []⟩ : Tb).add ra = ⟨100, 0, [ra]⟩ := by kernel_rfl
theorem aw_add2 : (⟨100, 0, [ra]⟩ : Tb).add rc = ⟨100, 0, [ra, rc]⟩ := by kernel_rfl
theorem aw_at : atRows [ra, rc] 63 = some ra := by decide +kernel
theorem aw_find : findT [ra, rc] 0 (⟨#[58, 112, 97, 116, 104]⟩, ⟨#[47]⟩) = (4, true) := by decide +kernel
theorem aw_size : sumc [ra, rc] = 68 := by decide +kernel
/-- The footprint is new. -/
def New (W : World) (F : Nat → Prop) : Prop := ∀ k, F k → W.heap.size ≤ k
theorem New.grew {W w : World} {F F' : Nat → Prop} (h : New W F) (hg : Grew w F F') (hs : W.heap.size ≤ w.heap.size) : New W F' := fun k hk => (hg k hk).elim (h k) (fun h2 => by omega)
theorem New.below {W w w' : World} {F : Nat → Prop} (h : New W F) (hb : Below W.heap.size W w) (hk : Kept F w w') : Below W.heap.size W w' := hb.trans (hk.below h hb.size)

set_option maxHeartbeats 2000000 in
theorem awake4_any (w : World) : Calls Try.prog 13 #[] w (RetT w) := by
  go_enter Try.func13, Try.ntmps13
  go_wp2_with fail
  refine (tnew_any 100 w (by decide) (by decide)).mono ?_
  rintro e w1 ⟨g, F, rfl, ht, hF, hb⟩
  have H1 := Lib.hid (And.intro ht (And.intro (show New w F from hF) hb))
  clear ht hF hb
  go_wp2_with fail
  refine (add_any (N := 0) ra false w1 H1.out.1 (by decide) (by decide) (by decide)).mono ?_
  rw [aw_add1]
  rintro e w2 ⟨rfl, F2, ht, hk, hg⟩
  have H2 := Lib.hid (And.intro ht (And.intro (H1.out.2.1.grew hg H1.out.2.2.size) (H1.out.2.1.below H1.out.2.2 hk)))
  clear ht hk hg H1
  go_wp2_with fail
  refine (add_any (N := 1) rc false w2 H2.out.1 (by decide) (by decide) (by decide)).mono ?_
  rw [aw_add2]
  rintro e w3 ⟨rfl, F3, ht, hk, hg⟩
  have H3 := Lib.hid (And.intro ht (And.intro (H2.out.2.1.grew hg H2.out.2.2.size) (H2.out.2.1.below H2.out.2.2 hk)))
  clear ht hk hg H2
  go_wp2_with fail
  refine (at_any 63 w3 H3.out.1 (by decide)).mono ?_
  rw [aw_at]
  rintro e w4 ⟨rfl, hb⟩
  simp only [atV, fieldV]
  have HB4 := Lib.hid hb
  have hsz4 := hb.size
  clear hb
  go_wp2_with fail
  have hlt := H3.out.1.lt
  have ht4 : TabIs (w4.alloc (.cells #[.string ra.1, .string ra.2, .bool false] 24)) g F3 2 ⟨100, 0, [ra, rc]⟩ := (H3.out.1.keep (w' := w4) (fun k hk => HB4.out.block k (hlt k hk))).alloc _
  have H4 := Lib.hid ht4
  have hb4 : Below w.heap.size w (w4.alloc (.cells #[.string ra.1, .string ra.2, .bool false] 24)) := (H3.out.2.2.trans (HB4.out.mono H3.out.2.2.size)).alloc (Nat.le_trans H3.out.2.2.size hsz4) _
  have HBB := Lib.hid hb4
  clear ht4 hb4 hlt
  refine (find_any (⟨#[58, 112, 97, 116, 104]⟩, ⟨#[47]⟩) false _ H4.out (by decide) (by decide)).mono ?_
  rw [aw_find]
  rintro e w5 ⟨rfl, hb5⟩
  have hx : ∀ j, w5.cell? ⟨w4.heap.size, j, none⟩ = (w4.alloc (.cells #[.string ra.1, .string ra.2, .bool false] 24)).cell? ⟨w4.heap.size, j, none⟩ := fun j => hb5.cell (p := ⟨w4.heap.size, j, none⟩) (by simp)
  have x0 : w5.cell? ⟨w4.heap.size, 0, none⟩ = some (.string ⟨#[97]⟩) := (hx 0).trans (World.cell?_alloc_at _ _ _ _ rfl)
  have HB5 := Lib.hid hb5
  have hlt := H4.out.lt
  have H5 : Hid (TabIs w5 g F3 2 ⟨100, 0, [ra, rc]⟩) := Lib.hid (H4.out.keep (w' := w5) (fun k hk => hb5.block k (hlt k hk)))
  clear hb5 hx hlt
  go_wp2_with (go_at_call 21; refine (size_any w5 H5.out).mono ?_; rintro e w9 ⟨rfl, rfl⟩; rw [aw_size])
  go_ret
  exact ⟨rfl, HBB.out.trans (HB5.out.mono HBB.out.size)⟩
end Go.Proofs.Ythpieiipddfpjaa
