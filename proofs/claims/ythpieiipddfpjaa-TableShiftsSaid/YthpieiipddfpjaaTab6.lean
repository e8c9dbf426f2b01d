/- The walk of table.At. -/
import Derived.Test.YthpieiipddfpjaaTab4
import Derived.Test.YthpieiipddfpjaaTabFixed
import Derived.Outline
import Derived.IntWalk
import Derived.StillTailTactics
import Derived.Deep.DeepCutAuto
namespace Go.Proofs.Ythpieiipddfpjaa
open Go.RowKit Go.Maps

/-- The row with a number: first those that never change, then those that came, the youngest first. -/
def atRows (rows : List Rw) (n : Int) : Option Rw :=
  if 1 ≤ n ∧ n ≤ 61 then statF[(n - 1).toNat]? else if 61 < n ∧ n - 61 ≤ rows.length then rows[(rows.length - (n - 61)).toNat]? else none
def fieldV (r : Rw) (b : Bool) : Value := .agg #[.string r.1, .string r.2, .bool b]
def atV : Option Rw → Value
  | some r => .tuple #[fieldV r false, .int .i64 0]
  | none => .tuple #[fieldV (emptyB, emptyB) false, .int .i64 40]
theorem atRows_stat (rows : List Rw) {i : Nat} (h : i < 61) : ∃ r, statF[i]? = some r ∧ atRows rows (i + 1 : Int) = some r := by
  obtain ⟨r, hr⟩ : ∃ r, statF[i]? = some r := ⟨_, List.getElem?_eq_getElem (by rw [statF_length]; exact h)⟩
  refine ⟨r, hr, ?_⟩
  unfold atRows
  rw [if_pos (by omega), show ((i : Int) + 1 - 1).toNat = i by omega, hr]
theorem atRows_came (rows : List Rw) {i : Nat} (h : i < rows.length) : ∃ r, rows[i]? = some r ∧ atRows rows (61 + rows.length - i : Int) = some r := by
  obtain ⟨r, hr⟩ : ∃ r, rows[i]? = some r := ⟨_, List.getElem?_eq_getElem h⟩
  refine ⟨r, hr, ?_⟩
  unfold atRows
  rw [if_neg (by omega), if_pos (by omega), show ((rows.length : Int) - (61 + rows.length - i - 61)).toNat = i by omega, hr]
theorem atRows_none {rows : List Rw} {n : Int} (h : n < 1 ∨ 61 + rows.length < n) : atRows rows n = none := by
  unfold atRows
  rw [if_neg (by omega), if_neg (by omega)]
theorem statV_get {i : Nat} {r : Rw} (h : statF[i]? = some r) : statV.toArray[i * 2]? = some (.string r.1) ∧ statV.toArray[i * 2 + 1]? = some (.string r.2) := by
  have := rcs_get h
  simpa [statV] using this

set_option maxRecDepth 100000 in
set_option maxHeartbeats 2000000 in
/-- A row that never changes: whatever the table. -/
theorem at_stat {i : Nat} {r : Rw} (A : Option Addr) (w : World) (hi : i < 61) (hr : statF[i]? = some r) :
    Calls Try.prog 19 #[.pointer A, .int .i64 (i + 1)] w fun e w' => e = .returned (atV (some r)) ∧ Below w.heap.size w w' := by
  have hs := statV_get hr
  obtain ⟨s0, s1⟩ := hs
  have HS := Lib.hid (And.intro s0 s1)
  clear s0 s1 hr
  go_enter Try.func19, Try.ntmps19
  go_wp2_with fail
  refine (fixed_any _).mono ?_
  rintro e w1 ⟨rfl, hb⟩
  obtain ⟨W0, hW0⟩ : ∃ W0, (w.alloc (.cells #[.string emptyB, .string emptyB, .bool false] 24)).alloc (.cells #[.string emptyB, .string emptyB] 85) = W0 := ⟨_, rfl⟩
  have hb' : Below W0.heap.size W0 w1 := by rw [← hW0]; exact hb
  clear hb
  obtain ⟨p, hp⟩ : ∃ p, w.heap.size = p := ⟨_, rfl⟩
  have hsz0 : W0.heap.size = p + 2 := by rw [← hW0, ← hp]; simp
  have hsz := hb'.size
  have hp1 : p < w1.heap.size := by omega
  have hp2 : p + 1 < w1.heap.size := by omega
  have g0 : W0.heap[p]? = some (.cells #[.string emptyB, .string emptyB, .bool false] 24 (0, 0)) := by
    rw [← hW0, ← hp]; exact (Below.heap_alloc _ _ _ (by simp)).trans (heapNew _ _)
  have g1 : W0.heap[p + 1]? = some (.cells #[.string emptyB, .string emptyB] 85 (0, 0)) := by
    rw [← hW0, ← hp]; exact heapNew1 _ _ _
  have k0 := (hb'.block p (by omega)).trans g0
  have k1 := (hb'.block (p + 1) (by omega)).trans g1
  obtain ⟨w2, hw2⟩ : ∃ w2, (w1.alloc (.cells (Array.replicate 122 (.string ByteArray.empty)) 86)).setRow w1.heap.size statV.toArray = w2 := ⟨_, rfl⟩
  have ha : w2.heap[w1.heap.size]? = some (.cells statV.toArray 86 (0, 0)) := by rw [← hw2]; exact setRow_heap _ _ _ _ _ _ (heapNew w1 _)
  have ho : ∀ k, k < w1.heap.size → w2.heap[k]? = w1.heap[k]? := fun k hk => by rw [← hw2]; exact (setRow_other _ _ _ _ (by omega)).trans (Below.heap_alloc _ _ _ hk)
  have hb2 : Below w1.heap.size w1 w2 := ⟨by rw [← hw2]; rfl, by rw [← hw2]; rfl, by rw [← hw2]; rfl, by rw [← hw2]; simp, ho⟩
  have t0 : w2.cell? ⟨w1.heap.size, i * 2, none⟩ = some (.string r.1) := by unfold World.cell?; rw [ha]; exact HS.out.1
  have t1 : w2.cell? ⟨w1.heap.size, i * 2 + 1, none⟩ = some (.string r.2) := by unfold World.cell?; rw [ha]; exact HS.out.2
  have p0 : w2.cell? ⟨p, 0, none⟩ = some (.string emptyB) := by unfold World.cell?; rw [ho p hp1, k0]; rfl
  have p1 : w2.cell? ⟨p, 1, none⟩ = some (.string emptyB) := by unfold World.cell?; rw [ho p hp1, k0]; rfl
  have p2 : w2.cell? ⟨p, 2, none⟩ = some (.bool false) := by unfold World.cell?; rw [ho p hp1, k0]; rfl
  have f0 : ∀ o, w2.frozen? ⟨p, o, none⟩ = false := fun o => by unfold World.frozen?; rw [ho p hp1, k0]; simp
  have q0 : w2.cell? ⟨p + 1, 0, none⟩ = some (.string emptyB) := by unfold World.cell?; rw [ho _ hp2, k1]; rfl
  have q1 : w2.cell? ⟨p + 1, 1, none⟩ = some (.string emptyB) := by unfold World.cell?; rw [ho _ hp2, k1]; rfl
  have f1 : ∀ o, w2.frozen? ⟨p + 1, o, none⟩ = false := fun o => by unfold World.frozen?; rw [ho _ hp2, k1]; simp
  have HB := Lib.hid (And.intro hb' (And.intro hb2 (And.intro hp (And.intro hsz0 hW0))))
  have HW2 := Lib.hid hw2
  rw [hp]
  clear hb' k0 k1 g0 g1 hW0 hsz0 hsz hb2 ho ha hw2 hp
  simp only []
  go_at_K
  go_step
  refine Great.wpList_runTo rfl (some 7) rfl (.pointer (some ⟨w1.heap.size, 0, none⟩)) (w1.alloc (.cells (Array.replicate 122 (.string ByteArray.empty)) 86)) (by kernel_rfl) ?_
  refine wpList_store_rowTo rfl 86 (.tmp 7) (.tmp 16) rfl rfl w1.heap.size statV.toArray (by kernel_rfl) (by kernel_rfl) 86 (Array.replicate 122 (.string ByteArray.empty)) (heapNew w1 _) (by kernel_rfl) (by kernel_rfl) (by kernel_rfl) ?_
  rw [HW2.out]
  go_wp2
  refine bodyPost_ret (v := atV (some r)) (by simp [results, Try.results19, go_sem, atV, fieldV, p0, p1, p2]) rfl ⟨rfl, ?_⟩
  obtain ⟨b1, b2, e1, e2, e3⟩ := HB.out
  have b0 : Below w.heap.size w W0 := by rw [← e3]; exact ((Below.refl _ _).alloc (Nat.le_refl _) _).alloc (by simp) _
  exact (((((((b0.trans (b1.mono b0.size)).trans (b2.mono (Nat.le_trans b0.size b1.size))).setCell (by show w.heap.size ≤ p + 1; omega) _).setCell (by show w.heap.size ≤ p + 1; omega) _).setCell (by show w.heap.size ≤ p; omega) _).setCell (by show w.heap.size ≤ p; omega) _).setCell (by show w.heap.size ≤ p; omega) _)

set_option maxRecDepth 100000 in
set_option maxHeartbeats 2000000 in
theorem at_out {g N : Nat} {F : Nat → Prop} {T : Tb} (n : Int) (w : World) (h : TabIs w g F N T) (hn : n < 1 ∨ 61 + T.rows.length < n) (hnb : n ≤ 9223372036854775807) :
    Calls Try.prog 19 #[.pointer (some ⟨g, 0, none⟩), .int .i64 n] w fun e w' => e = .returned (atV none) ∧ Below w.heap.size w w' := by
  obtain ⟨h1, h2, h3, h4, h5, h6, h7⟩ := h.inv
  have HC := Lib.hid (fun (o1 o2 : Obj) => len_any _ ((h.alloc o1).alloc o2))
  clear h1 h7
  by_cases hneg : n < 1
  · clear hn
    go_enter Try.func19, Try.ntmps19
    go_wp2
    refine bodyPost_ret (v := atV none) (by simp [results, Try.results19, go_sem, atV, fieldV, emptyB]) rfl ⟨rfl, ?_⟩
    exact ((Below.refl _ _).alloc (Nat.le_refl _) _).alloc (by simp) _
  · have hbig : 61 + (T.rows.length : Int) < n := by omega
    have h61 : 61 < n := by omega
    clear hn hneg
    go_enter Try.func19, Try.ntmps19
    go_wp2_with fail
    refine (HC.out _ _).mono ?_
    rintro e w1 ⟨rfl, rfl⟩
    go_wp2
    refine bodyPost_ret (v := atV none) (by simp [results, Try.results19, go_sem, atV, fieldV, emptyB]) rfl ⟨rfl, ?_⟩
    exact ((Below.refl _ _).alloc (Nat.le_refl _) _).alloc (by simp) _

set_option maxRecDepth 100000 in
set_option maxHeartbeats 2000000 in
theorem at_came {g N : Nat} {F : Nat → Prop} {T : Tb} {i : Nat} {r : Rw} (w : World) (h : TabIs w g F N T) (hi : T.rows[i]? = some r) (n : Int) (hn : n = 61 + T.rows.length - i) :
    Calls Try.prog 19 #[.pointer (some ⟨g, 0, none⟩), .int .i64 n] w fun e w' => e = .returned (atV (some r)) ∧ Below w.heap.size w w' := by
  obtain ⟨h1, h2, h3, h4, h5, h6, h7⟩ := h.inv
  have hlt : i < T.rows.length := (List.getElem?_eq_some_iff.1 hi).1
  have HC := Lib.hid (fun (o1 o2 : Obj) => len_any _ ((h.alloc o1).alloc o2))
  obtain ⟨mb, mn, A, c, rfl, ht⟩ := h
  have hgl := ht.raw.lt g (.inl rfl)
  have ht2 := (ht.raw.alloc (.cells #[.string emptyB, .string emptyB, .bool false] 24)).alloc (.cells #[.string emptyB, .string emptyB] 85)
  obtain ⟨-, -, c2, -⟩ := ht.raw.cells
  obtain ⟨q, o, rfl, hq, r0, r1⟩ := ht.raw.at_ hi
  have n1 : 61 < n := by omega
  have n2 : n ≤ 61 + T.rows.length := by omega
  have s1 : IntKind.i64.wrap (n - 61) = n - 61 := by rw [IntWalk.i64_in _ ⟨by omega, by omega⟩]
  have s2 : IntKind.i64.wrap ((T.rows.length : Int) - (n - 61)) = i := by rw [IntWalk.i64_in _ ⟨by omega, by omega⟩]; omega
  generalize T.rows.length = len at *
  clear h1 h7 hi ht ht2 hn
  go_enter Try.func19, Try.ntmps19
  go_wp2_with fail
  refine (HC.out _ _).mono ?_
  rintro e w1 ⟨rfl, rfl⟩
  obtain ⟨W0, hW0⟩ : ∃ W0, (w.alloc (.cells #[.string emptyB, .string emptyB, .bool false] 24)).alloc (.cells #[.string emptyB, .string emptyB] 85) = W0 := ⟨_, rfl⟩
  have b0 : Below w.heap.size w W0 := by rw [← hW0]; exact ((Below.refl _ _).alloc (Nat.le_refl _) _).alloc (by simp) _
  have HB := Lib.hid b0
  have HQ := Lib.hid hW0
  go_upto_region 7 with fail
  rw [show (w.alloc (.cells #[.string ⟨#[]⟩, .string ⟨#[]⟩, .bool false] 24)).alloc (.cells #[.string ⟨#[]⟩, .string ⟨#[]⟩] 85) = W0 from HQ.out]
  obtain ⟨p, hp⟩ : ∃ p, w.heap.size = p := ⟨_, rfl⟩
  have k0 : W0.heap[p]? = some (.cells #[.string emptyB, .string emptyB, .bool false] 24 (0, 0)) := by
    rw [← hW0, ← hp]; exact (Below.heap_alloc _ _ _ (by simp)).trans (heapNew _ _)
  have k1 : W0.heap[p + 1]? = some (.cells #[.string emptyB, .string emptyB] 85 (0, 0)) := by
    rw [← hW0, ← hp]; exact heapNew1 _ _ _
  have p0 : W0.cell? ⟨p, 0, none⟩ = some (.string emptyB) := by unfold World.cell?; rw [k0]; rfl
  have p1 : W0.cell? ⟨p, 1, none⟩ = some (.string emptyB) := by unfold World.cell?; rw [k0]; rfl
  have p2 : W0.cell? ⟨p, 2, none⟩ = some (.bool false) := by unfold World.cell?; rw [k0]; rfl
  have f0 : ∀ o, W0.frozen? ⟨p, o, none⟩ = false := fun o => by unfold World.frozen?; rw [k0]; simp
  have q0 : W0.cell? ⟨p + 1, 0, none⟩ = some (.string emptyB) := by unfold World.cell?; rw [k1]; rfl
  have q1 : W0.cell? ⟨p + 1, 1, none⟩ = some (.string emptyB) := by unfold World.cell?; rw [k1]; rfl
  have f1 : ∀ o, W0.frozen? ⟨p + 1, o, none⟩ = false := fun o => by unfold World.frozen?; rw [k1]; simp
  have d2 := (b0.cell (p := ⟨g, 2, none⟩) hgl).trans c2
  have e0 := (b0.cell (p := ⟨q, o + i * 2, none⟩) hq).trans r0
  have e1 := (b0.cell (p := ⟨q, o + i * 2 + 1, none⟩) hq).trans r1
  rw [hp]
  have HP := Lib.hid hp
  clear c2 r0 r1 b0 hW0 k0 k1 hp HQ
  go_still_tail 14, (by kernel_rfl)
  change wpList _ _ _ _ _ W0.drew
  go_wp2
  refine bodyPost_ret (v := atV (some r)) (by simp [results, Try.results19, go_sem, atV, fieldV, p0, p1, p2]) rfl ⟨rfl, ?_⟩
  exact (((((HB.out.setCell (by show w.heap.size ≤ p + 1; have := HP.out; omega) _).setCell (by show w.heap.size ≤ p + 1; have := HP.out; omega) _).setCell (by show w.heap.size ≤ p; have := HP.out; omega) _).setCell (by show w.heap.size ≤ p; have := HP.out; omega) _).setCell (by show w.heap.size ≤ p; have := HP.out; omega) _).drew

theorem at_any {g N : Nat} {F : Nat → Prop} {T : Tb} (n : Int) (w : World) (h : TabIs w g F N T) (hnb : n ≤ 9223372036854775807) :
    Calls Try.prog 19 #[.pointer (some ⟨g, 0, none⟩), .int .i64 n] w fun e w' => e = .returned (atV (atRows T.rows n)) ∧ Below w.heap.size w w' := by
  by_cases h1 : n < 1 ∨ 61 + T.rows.length < n
  · rw [atRows_none h1]; exact at_out n w h h1 hnb
  · by_cases h2 : n ≤ 61
    · obtain ⟨i, hi⟩ : ∃ i : Nat, n = i + 1 := ⟨(n - 1).toNat, by omega⟩
      subst hi
      obtain ⟨r, hr, ha⟩ := atRows_stat T.rows (i := i) (by omega)
      rw [ha]
      exact at_stat _ w (by omega) hr
    · obtain ⟨i, hi⟩ : ∃ i : Nat, n = 61 + T.rows.length - i := ⟨(61 + T.rows.length - n).toNat, by omega⟩
      obtain ⟨r, hr, ha⟩ := atRows_came T.rows (i := i) (by omega)
      have hn := hi
      subst hi
      rw [ha]
      exact at_came w h hr _ rfl

set_option maxRecDepth 100000 in
set_option maxHeartbeats 2000000 in
theorem at_nil (n : Int) (w : World) (hnb : n ≤ 9223372036854775807) :
    Calls Try.prog 19 #[.pointer none, .int .i64 n] w fun e w' => e = .returned (atV (atRows [] n)) ∧ Below w.heap.size w w' := by
  by_cases h1 : n < 1 ∨ 61 < n
  · have ha : atRows [] n = none := atRows_none (by simpa using h1)
    rw [ha]
    clear ha
    by_cases hneg : n < 1
    · clear h1
      go_enter Try.func19, Try.ntmps19
      go_wp2
      refine bodyPost_ret (v := atV none) (by simp [results, Try.results19, go_sem, atV, fieldV, emptyB]) rfl ⟨rfl, ?_⟩
      exact ((Below.refl _ _).alloc (Nat.le_refl _) _).alloc (by simp) _
    · have h61 : 61 < n := by omega
      clear h1 hneg
      go_enter Try.func19, Try.ntmps19
      go_wp2_with fail
      refine (len_nil _).mono ?_
      rintro e w1 ⟨rfl, rfl⟩
      go_wp2
      refine bodyPost_ret (v := atV none) (by simp [results, Try.results19, go_sem, atV, fieldV, emptyB]) rfl ⟨rfl, ?_⟩
      exact ((Below.refl _ _).alloc (Nat.le_refl _) _).alloc (by simp) _
  · obtain ⟨i, hi⟩ : ∃ i : Nat, n = i + 1 := ⟨(n - 1).toNat, by omega⟩
    subst hi
    obtain ⟨r, hr, ha⟩ := atRows_stat [] (i := i) (by omega)
    rw [ha]
    exact at_stat _ w (by omega) hr
end Go.Proofs.Ythpieiipddfpjaa
