/- The document's table in memory; the walks of drawbridgeref04.Size, Resize. -/
import Derived.Test.YthpieiipddfpjaaRTabStatic
import Derived.Test.YthpieiipddfpjaaTab4
import Derived.Deep.RegionLaw
import Derived.Deep.LoopGhost
import Derived.Deep.DeepCutAuto
namespace Go.Proofs.Ythpieiipddfpjaa
open Go.RowKit

def rfoot (g : Nat) (A : Option Addr) (k : Nat) : Prop := k = g ∨ ∃ a, A = some a ∧ a.block = k
/-- The document's table: the rows (here the oldest first) lie the youngest first. -/
structure RT (w : World) (g : Nat) (A : Option Addr) (c : Nat) (most : Int) (rows : List Rw) : Prop where
  book : w.heap[g]? = some (.cells #[.int .i64 most, .slice A rows.length c] 34 (0, 0))
  row : Lies w 24 3 (.slice A rows.length c) rows.length (fcs rows.reverse)
  ne : ∀ a, A = some a → a.block ≠ g
def RIs (w : World) (g : Nat) (F : Nat → Prop) (most : Int) (rows : List Rw) : Prop := ∃ A c, F = rfoot g A ∧ RT w g A c most rows
section
variable {w w' : World} {g c : Nat} {A : Option Addr} {most : Int} {rows : List Rw} {F : Nat → Prop}
theorem RT.lt (h : RT w g A c most rows) : ∀ k, rfoot g A k → k < w.heap.size := by
  rintro k (rfl | ⟨a, ha, rfl⟩)
  · exact (Array.getElem?_eq_some_iff.1 h.book).1
  · obtain ⟨A', c', hv, _, _, hb⟩ := h.row.form
    injection hv with e1
    subst e1
    exact hb a ha
theorem RT.keep (h : RT w g A c most rows) (hk : ∀ k, rfoot g A k → w'.heap[k]? = w.heap[k]?) : RT w' g A c most rows := by
  refine ⟨(hk g (.inl rfl)).trans h.book, h.row.keep fun q hq => hk q ?_, h.ne⟩
  cases A with
  | none => cases hq
  | some a => exact .inr ⟨a, rfl, by simpa [Value.ownBlock] using hq⟩
theorem RT.cells (h : RT w g A c most rows) : w.cell? ⟨g, 0, none⟩ = some (.int .i64 most) ∧ w.cell? ⟨g, 1, none⟩ = some (.slice A rows.length c) := by
  refine ⟨?_, ?_⟩ <;> (unfold World.cell?; rw [h.book]; rfl)
theorem RT.free (h : RT w g A c most rows) (o : Nat) : w.frozen? ⟨g, o, none⟩ = false := by
  unfold World.frozen?; rw [h.book]; simp
theorem RT.setMost (h : RT w g A c most rows) (v : Int) : RT (w.setCell ⟨g, 0, none⟩ (.int .i64 v)) g A c v rows := by
  refine ⟨?_, h.row.keep fun q hq => Below.heap_setCell _ _ _ _ (fun e => ?_), h.ne⟩
  · simp only [World.setCell, Array.getElem?_modify, if_true]
    rw [h.book]; rfl
  · cases A with
    | none => cases hq
    | some a => simp only [Value.ownBlock, Option.some.injEq] at hq; exact h.ne a rfl (hq.trans e)
theorem RIs.lt (h : RIs w g F most rows) : ∀ k, F k → k < w.heap.size := by
  obtain ⟨A, c, rfl, ht⟩ := h
  exact ht.lt
theorem RIs.keep (h : RIs w g F most rows) (hk : ∀ k, F k → w'.heap[k]? = w.heap[k]?) : RIs w' g F most rows := by
  obtain ⟨A, c, rfl, ht⟩ := h
  exact ⟨A, c, rfl, ht.keep hk⟩
theorem RIs.below (h : RIs w g F most rows) (hb : Below w.heap.size w w') : RIs w' g F most rows := h.keep fun k hk => hb.block k (h.lt k hk)
theorem RIs.kept {G : Nat → Prop} (h : RIs w g F most rows) (hk : Kept G w w') (hd : ∀ k, F k → ¬ G k) : RIs w' g F most rows := h.keep fun k hf => hk.block k (h.lt k hf) (hd k hf)
/-- A row's cells, by its place from the youngest. -/
theorem RT.at_ (h : RT w g A c most rows) {i : Nat} {r : Rw} (hi : rows.reverse[i]? = some r) : ∃ q o, A = some ⟨q, o, none⟩ ∧ q < w.heap.size ∧ w.cell? ⟨q, o + i * 3, none⟩ = some (.string r.1) ∧ w.cell? ⟨q, o + i * 3 + 1, none⟩ = some (.string r.2) ∧ w.cell? ⟨q, o + i * 3 + 2, none⟩ = some (.bool false) := by
  have hlt : i < rows.length := by have := (List.getElem?_eq_some_iff.1 hi).1; simpa using this
  obtain ⟨q, o, hA, hq, hc⟩ := (h.row.rd rfl).2 (by omega)
  have e := fcs_get hi
  exact ⟨q, o, hA, hq, (hc _ (by omega)).trans e.1, (hc (i * 3 + 1) (by omega)).trans e.2.1, (hc (i * 3 + 2) (by omega)).trans e.2.2⟩
end
/-- What the rows' bytes come to. -/
def Small (rows : List Rw) : Prop := sumc rows ≤ 1099511627776 ∧ ∀ r ∈ rows, okR r
theorem Small.len {rows : List Rw} (h : Small rows) : (rows.length : Int) * 32 ≤ 1099511627776 := by
  have h1 := h.1
  have : ∀ l : List Rw, (l.length : Int) * 32 ≤ sumc l := by
    intro l
    induction l with
    | nil => exact Int.le_refl _
    | cons r l ih => rw [sumc_cons]; simp only [List.length_cons]; unfold cost; omega
  have := this rows
  omega
theorem Small.mem {rows : List Rw} (h : Small rows) {r : Rw} (hr : r ∈ rows) : r.1.size ≤ 1099511627776 ∧ r.2.size ≤ 1099511627776 := by
  have : ∀ l : List Rw, r ∈ l → (cost r : Int) ≤ sumc l := by
    intro l
    induction l with
    | nil => intro h; cases h
    | cons a l ih =>
      intro hm
      rw [sumc_cons]
      have := sumc_nonneg l
      rcases List.mem_cons.1 hm with rfl | h
      · omega
      · have := ih h; omega
  have h1 := this rows hr
  have h2 := h.1
  have h3 : (cost r : Int) = r.1.size + r.2.size + 32 := by unfold cost; omega
  omega

theorem sumc_app (l k : List Rw) : sumc (l ++ k) = sumc l + sumc k := by unfold sumc; simp
theorem sumc_rev (l : List Rw) : sumc l.reverse = sumc l := by
  induction l with
  | nil => rfl
  | cons r l ih => rw [List.reverse_cons, sumc_app, ih, sumc_cons]; unfold sumc; simp; omega
theorem sumc_take {l : List Rw} {k : Nat} {r : Rw} (h : l[k]? = some r) : sumc (l.take (k + 1)) = sumc (l.take k) + cost r := by
  rw [List.take_add_one, h, sumc_app]; unfold sumc; simp
theorem sumc_take_le (l : List Rw) (k : Nat) : sumc (l.take k) ≤ sumc l := by
  have h := sumc_app (l.take k) (l.drop k)
  rw [List.take_append_drop] at h
  have := sumc_nonneg (l.drop k)
  omega
def RSzRel (W : World) (L : List Rw) (nv iv : Value) (wr : World) : Prop := ∃ k : Nat, iv = .int .i64 k ∧ nv = .int .i64 (sumc (L.take k)) ∧ k ≤ L.length ∧ Below W.heap.size W wr

set_option maxHeartbeats 1000000 in
theorem rsize_any {g : Nat} {F : Nat → Prop} {most : Int} {rows : List Rw} (w : World) (h : RIs w g F most rows) (hs : Small rows) :
    Calls Try.prog 22 #[.pointer (some ⟨g, 0, none⟩)] w fun e w' => e = .returned (.int .i64 (sumc rows)) ∧ Below w.heap.size w w' := by
  obtain ⟨A, c, rfl, ht⟩ := h
  have H := Lib.hid ht
  have hlen := hs.len
  have HS := Lib.hid hs
  clear ht hs
  go_enter Try.func22, Try.ntmps22
  go_wp2
  go_loopw [3, 4] (fun n i wr => RSzRel w rows.reverse n i wr) (fun _ i _ => rows.length - (intOf i).toNat)
  case atStart => exact ⟨0, rfl, rfl, by omega, Below.refl _ _⟩
  case round =>
    obtain ⟨k, rfl, rfl, hk, hbel⟩ := hrel
    rw [List.length_reverse] at hk
    have hrt := H.out.keep (w' := wr) (fun j hj => hbel.block j (H.out.lt j hj))
    obtain ⟨-, c1⟩ := hrt.cells
    have HB := Lib.hid hbel
    have hsz := hbel.size
    have h0 := sumc_nonneg (rows.reverse.take k)
    have h1 := sumc_take_le rows.reverse k
    rw [sumc_rev] at h1
    have hsm := HS.out.1
    have HR := Lib.hid hrt
    clear hrt hbel
    by_cases hlt : k < rows.length
    · obtain ⟨r, hr⟩ : ∃ r, rows.reverse[k]? = some r := ⟨_, List.getElem?_eq_getElem (by simpa using hlt)⟩
      obtain ⟨q, o, rfl, hq, q0, q1, q2⟩ := HR.out.at_ hr
      have hm := HS.out.mem (List.mem_reverse.1 (List.mem_of_getElem? hr))
      have HT := Lib.hid (sumc_take hr)
      have h2 := sumc_take_le rows.reverse (k + 1)
      rw [sumc_rev, HT.out] at h2
      clear hr
      go_wp2_with fail
      refine (cost_ref r false wr (by omega) (by omega)).mono ?_
      rintro e w' ⟨rfl, rfl⟩
      go_wp2
      go_roundw
      case rel => exact ⟨k + 1, by go_num, by rw [HT.out], by rw [List.length_reverse]; omega, HB.out.alloc hsz _⟩
      case measure => simp [intOf]; omega
    · obtain rfl : k = rows.length := by omega
      go_wp2
      go_ret
      rw [← List.length_reverse, List.take_length, sumc_rev]
      exact ⟨rfl, HB.out⟩
end Go.Proofs.Ythpieiipddfpjaa
