/- The walks of table.Most, Size, Len, Resize. -/
import Derived.Test.YthpieiipddfpjaaTab3
namespace Go.Proofs.Ythpieiipddfpjaa
open Go.RowKit Go.Maps

theorem shrunk_fits {m : Int} (hm : 0 ≤ m) : ∀ (l : List Rw) (g : Int), sumc (shrunk m g l).2 ≤ m := by
  intro l
  induction l with
  | nil => intro g; rw [shrunk_nil]; exact hm
  | cons r l ih =>
    intro g
    by_cases h : m < sumc (r :: l)
    · rw [shrunk_go h]; exact ih _
    · rw [shrunk_stop (show sumc (r :: l) ≤ m by omega)]; show sumc (r :: l) ≤ m; omega
section
variable {w w' : World} {g mb mn c N : Nat} {A : Option Addr} {T : Tb} {F : Nat → Prop}
theorem TM.tbl (h : TM w g mb mn A c N T) : Tbl w g mb mn A c N T.most T.gone T.rows :=
  ⟨h.raw, h.ok, h.gone0, h.many, h.few, by have h1 := h.fits; have h2 := h.most1; show (T.size : Int) ≤ _; omega⟩
theorem TM.of {most gone : Int} {rows : List Rw} (h : Tbl w g mb mn A c N most gone rows) (h0 : 0 ≤ most) (h1 : most ≤ 65536) (hf : sumc rows ≤ most) : TM w g mb mn A c N ⟨most, gone, rows⟩ :=
  ⟨h.1, h.2.1, h0, h1, h.2.2.1, h.2.2.2.1, h.2.2.2.2.1, hf⟩
theorem TM.keep (h : TM w g mb mn A c N T) (hk : ∀ k, foot g mb mn A k → w'.heap[k]? = w.heap[k]?) : TM w' g mb mn A c N T := ⟨h.raw.keep hk, h.ok, h.most0, h.most1, h.gone0, h.many, h.few, h.fits⟩
theorem TabIs.keep (h : TabIs w g F N T) (hk : ∀ k, F k → w'.heap[k]? = w.heap[k]?) : TabIs w' g F N T := by
  obtain ⟨mb, mn, A, c, rfl, ht⟩ := h
  exact ⟨mb, mn, A, c, rfl, ht.keep hk⟩
theorem TabIs.lt (h : TabIs w g F N T) : ∀ k, F k → k < w.heap.size := by
  obtain ⟨mb, mn, A, c, rfl, ht⟩ := h
  exact ht.raw.lt
theorem TabIs.alloc (h : TabIs w g F N T) (o : Obj) : TabIs (w.alloc o) g F N T := h.keep fun k hk => Below.heap_alloc _ _ _ (h.lt k hk)
/-- Another thing's call leaves it. -/
theorem TabIs.kept {G : Nat → Prop} (h : TabIs w g F N T) (hk : Kept G w w') (hd : ∀ k, F k → ¬ G k) : TabIs w' g F N T := h.keep fun k hf => hk.block k (h.lt k hf) (hd k hf)
theorem TabIs.inv (h : TabIs w g F N T) : (∀ r ∈ T.rows, okR r) ∧ 0 ≤ T.most ∧ T.most ≤ 65536 ∧ 0 ≤ T.gone ∧ T.gone + T.rows.length ≤ N ∧ N ≤ 1099511627776 ∧ sumc T.rows ≤ T.most := by
  obtain ⟨mb, mn, A, c, rfl, ht⟩ := h
  exact ⟨ht.ok, ht.most0, ht.most1, ht.gone0, ht.many, ht.few, ht.fits⟩
end
/-- What a call that changes a table hands back. -/
def TStep (W : World) (g : Nat) (F : Nat → Prop) (N : Nat) (T' : Tb) (v : Value) (e : Ending) (w' : World) : Prop :=
  e = .returned v ∧ ∃ F', TabIs w' g F' N T' ∧ Kept F W w' ∧ Grew W F F'

theorem most_any {g N : Nat} {F : Nat → Prop} {T : Tb} (w : World) (h : TabIs w g F N T) : Calls Try.prog 20 #[.pointer (some ⟨g, 0, none⟩)] w fun e w' => e = .returned (.int .i64 T.most) ∧ w = w' := by
  obtain ⟨mb, mn, A, c, rfl, ht⟩ := h
  obtain ⟨c0, -⟩ := ht.raw.cells
  clear ht
  go_enter Try.func20, Try.ntmps20
  go_wp2; go_ret; exact ⟨rfl, rfl⟩
theorem size_any {g N : Nat} {F : Nat → Prop} {T : Tb} (w : World) (h : TabIs w g F N T) : Calls Try.prog 21 #[.pointer (some ⟨g, 0, none⟩)] w fun e w' => e = .returned (.int .i64 (sumc T.rows)) ∧ w = w' := by
  obtain ⟨mb, mn, A, c, rfl, ht⟩ := h
  obtain ⟨-, c0, -⟩ := ht.tbl.1.cells
  clear ht
  go_enter Try.func21, Try.ntmps21
  go_wp2; go_ret; exact ⟨rfl, rfl⟩
theorem len_any {g N : Nat} {F : Nat → Prop} {T : Tb} (w : World) (h : TabIs w g F N T) : Calls Try.prog 23 #[.pointer (some ⟨g, 0, none⟩)] w fun e w' => e = .returned (.int .i64 (T.rows.length : Int)) ∧ w = w' := by
  obtain ⟨mb, mn, A, c, rfl, ht⟩ := h
  obtain ⟨-, -, c0, -⟩ := ht.raw.cells
  clear ht
  go_enter Try.func23, Try.ntmps23
  go_wp2; go_ret; exact ⟨rfl, rfl⟩
theorem most_nil (w : World) : Calls Try.prog 20 #[.pointer none] w fun e w' => e = .returned (.int .i64 0) ∧ w = w' := by
  go_enter Try.func20, Try.ntmps20
  go_wp2; go_ret; exact ⟨rfl, rfl⟩
theorem size_nil (w : World) : Calls Try.prog 21 #[.pointer none] w fun e w' => e = .returned (.int .i64 0) ∧ w = w' := by
  go_enter Try.func21, Try.ntmps21
  go_wp2; go_ret; exact ⟨rfl, rfl⟩
theorem len_nil (w : World) : Calls Try.prog 23 #[.pointer none] w fun e w' => e = .returned (.int .i64 0) ∧ w = w' := by
  go_enter Try.func23, Try.ntmps23
  go_wp2; go_ret; exact ⟨rfl, rfl⟩
theorem resize_nil (m : Int) (w : World) : Calls Try.prog 26 #[.pointer none, .int .i64 m] w fun e w' => e = .returned (.int .i64 1) ∧ w = w' := by
  go_enter Try.func26, Try.ntmps26
  go_wp2; go_ret; exact ⟨rfl, rfl⟩
theorem resize_bad {g : Nat} (m : Int) (w : World) (hm : m < 0 ∨ 65536 < m) : Calls Try.prog 26 #[.pointer (some ⟨g, 0, none⟩), .int .i64 m] w fun e w' => e = .returned (.int .i64 1) ∧ w = w' := by
  by_cases h1 : m < 0
  · clear hm
    go_enter Try.func26, Try.ntmps26
    go_wp2; go_ret; exact ⟨rfl, rfl⟩
  · have h2 : 65536 < m := by omega
    clear hm
    go_enter Try.func26, Try.ntmps26
    go_wp2; go_ret; exact ⟨rfl, rfl⟩

set_option maxHeartbeats 1000000 in
theorem resize_any {g N : Nat} {F : Nat → Prop} {T : Tb} (m : Int) (w : World) (h : TabIs w g F N T) (h0 : 0 ≤ m) (h1 : m ≤ 65536) :
    Calls Try.prog 26 #[.pointer (some ⟨g, 0, none⟩), .int .i64 m] w (TStep w g F N (T.resize m) (.int .i64 0)) := by
  obtain ⟨mb, mn, A, c, rfl, ht⟩ := h
  have htb := ht.tbl
  obtain ⟨c0, -⟩ := ht.raw.cells
  have hf := ht.raw.free 0
  have hC := Lib.hid (shrink_any m (w.setCell ⟨g, 0, none⟩ (.int .i64 m)) (most := m) (show Tbl (w.setCell ⟨g, 0, none⟩ (.int .i64 m)) g mb mn A c N m T.gone T.rows from ⟨htb.1.setMost m, htb.2⟩))
  clear ht htb
  go_enter Try.func26, Try.ntmps26
  go_wp2_with fail
  refine hC.out.mono ?_
  rintro e w' ⟨rfl, A', c', htb, hk, hs⟩
  have H := Lib.hid (And.intro htb (And.intro hk hs))
  clear htb hk hs hC
  go_wp2
  go_ret
  exact ⟨rfl, foot g mb mn A', ⟨mb, mn, A', c', rfl, TM.of H.out.1 h0 h1 (shrunk_fits h0 _ _)⟩, ((Kept.refl _ _).setCell (.inl rfl) _ _).same H.out.2.1, fun k hf => .inl (H.out.2.2.foot hf)⟩
end Go.Proofs.Ythpieiipddfpjaa
