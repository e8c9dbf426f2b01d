/- 9 texts in one: Tab6, RTabStatic, RTab1, HDecPlain, Take, RefPut, Laws3a, HuffLen, HuffOpen. -/
import Derived.Test.YtfpcamkimjecdaaM3
import Derived.Outline
import Derived.IntWalk
import Derived.StillTailTactics
import Derived.Deep.DeepCutAuto
import Derived.Great.BuildSlice
import Derived.Great.Walk
import Derived.Great.Ranges
import Derived.Deep.RegionLaw
import Derived.Deep.LoopGhost
import Derived.Test.YtfpcamkimjecdaaM2
import Derived.Test.YtfpcamkimjecdaaM1
/- The walk of table.At. -/
namespace Go.Proofs.Ytfpcamkimjecdaa
open Go.RowKit Go.Maps

/-- The row with a number: first those that never change, then those that came, the youngest first. -/
def atRows (rows : List Rw) (n : Int) : Option Rw :=
  if 1 ≤ n ∧ n ≤ 61 then statF[(n - 1).toNat]? else if 61 < n ∧ n - 61 ≤ rows.length then rows[(rows.length - (n - 61)).toNat]? else none
def fieldV (r : Rw) (b : Bool) : Value := .agg #[.string r.1, .string r.2, .bool b]
def atV : Option Rw → Value
  | some r => .tuple #[fieldV r false, .int .i64 0]
  | none => .tuple #[fieldV (emptyB, emptyB) false, .int .i64 40]
theorem atRows_stat (rows : List Rw) {i : Nat} (h : i < 61) : ∃ r, statF[i]? = some r ∧ atRows rows (i + 1 : Int) = some r := by
  obtain ⟨r, hr⟩ : ∃ r, statF[i]? = some r := ⟨_, List.getElem?_eq_getElem (by rw [statF_length]; exact h)⟩
  refine ⟨r, hr, ?_⟩
  unfold atRows
  rw [if_pos (by omega), show ((i : Int) + 1 - 1).toNat = i by omega, hr]
theorem atRows_came (rows : List Rw) {i : Nat} (h : i < rows.length) : ∃ r, rows[i]? = some r ∧ atRows rows (61 + rows.length - i : Int) = some r := by
  obtain ⟨r, hr⟩ : ∃ r, rows[i]? = some r := ⟨_, List.getElem?_eq_getElem h⟩
  refine ⟨r, hr, ?_⟩
  unfold atRows
  rw [if_neg (by omega), if_pos (by omega), show ((rows.length : Int) - (61 + rows.length - i - 61)).toNat = i by omega, hr]
theorem atRows_none {rows : List Rw} {n : Int} (h : n < 1 ∨ 61 + rows.length < n) : atRows rows n = none := by
  unfold atRows
  rw [if_neg (by omega), if_neg (by omega)]
theorem statV_get {i : Nat} {r : Rw} (h : statF[i]? = some r) : statV.toArray[i * 2]? = some (.string r.1) ∧ statV.toArray[i * 2 + 1]? = some (.string r.2) := by
  have := rcs_get h
  simpa [statV] using this

set_option maxRecDepth 100000 in
set_option maxHeartbeats 2000000 in
/-- A row that never changes: whatever the table. -/
theorem at_stat {i : Nat} {r : Rw} (A : Option Addr) (w : World) (hi : i < 61) (hr : statF[i]? = some r) :
    Calls Try.prog 41 #[.pointer A, .int .i64 (i + 1)] w fun e w' => e = .returned (atV (some r)) ∧ Below w.heap.size w w' := by
  have hs := statV_get hr
  obtain ⟨s0, s1⟩ := hs
  have HS := Lib.hid (And.intro s0 s1)
  clear s0 s1 hr
  go_enter Try.func41, Try.ntmps41
  go_wp2_with fail
  refine (fixed_any _).mono ?_
  rintro e w1 ⟨rfl, hb⟩
  obtain ⟨W0, hW0⟩ : ∃ W0, (w.alloc (.cells #[.string emptyB, .string emptyB, .bool false] 43)).alloc (.cells #[.string emptyB, .string emptyB] 109) = W0 := ⟨_, rfl⟩
  have hb' : Below W0.heap.size W0 w1 := by rw [← hW0]; exact hb
  clear hb
  obtain ⟨p, hp⟩ : ∃ p, w.heap.size = p := ⟨_, rfl⟩
  have hsz0 : W0.heap.size = p + 2 := by rw [← hW0, ← hp]; simp
  have hsz := hb'.size
  have hp1 : p < w1.heap.size := by omega
  have hp2 : p + 1 < w1.heap.size := by omega
  have g0 : W0.heap[p]? = some (.cells #[.string emptyB, .string emptyB, .bool false] 43 (0, 0)) := by
    rw [← hW0, ← hp]; exact (Below.heap_alloc _ _ _ (by simp)).trans (heapNew _ _)
  have g1 : W0.heap[p + 1]? = some (.cells #[.string emptyB, .string emptyB] 109 (0, 0)) := by
    rw [← hW0, ← hp]; exact heapNew1 _ _ _
  have k0 := (hb'.block p (by omega)).trans g0
  have k1 := (hb'.block (p + 1) (by omega)).trans g1
  obtain ⟨w2, hw2⟩ : ∃ w2, (w1.alloc (.cells (Array.replicate 122 (.string ByteArray.empty)) 110)).setRow w1.heap.size statV.toArray = w2 := ⟨_, rfl⟩
  have ha : w2.heap[w1.heap.size]? = some (.cells statV.toArray 110 (0, 0)) := by rw [← hw2]; exact setRow_heap _ _ _ _ _ _ (heapNew w1 _)
  have ho : ∀ k, k < w1.heap.size → w2.heap[k]? = w1.heap[k]? := fun k hk => by rw [← hw2]; exact (setRow_other _ _ _ _ (by omega)).trans (Below.heap_alloc _ _ _ hk)
  have hb2 : Below w1.heap.size w1 w2 := ⟨by rw [← hw2]; rfl, by rw [← hw2]; rfl, by rw [← hw2]; rfl, by rw [← hw2]; simp, ho⟩
  have t0 : w2.cell? ⟨w1.heap.size, i * 2, none⟩ = some (.string r.1) := by unfold World.cell?; rw [ha]; exact HS.out.1
  have t1 : w2.cell? ⟨w1.heap.size, i * 2 + 1, none⟩ = some (.string r.2) := by unfold World.cell?; rw [ha]; exact HS.out.2
  have p0 : w2.cell? ⟨p, 0, none⟩ = some (.string emptyB) := by unfold World.cell?; rw [ho p hp1, k0]; rfl
  have p1 : w2.cell? ⟨p, 1, none⟩ = some (.string emptyB) := by unfold World.cell?; rw [ho p hp1, k0]; rfl
  have p2 : w2.cell? ⟨p, 2, none⟩ = some (.bool false) := by unfold World.cell?; rw [ho p hp1, k0]; rfl
  have f0 : ∀ o, w2.frozen? ⟨p, o, none⟩ = false := fun o => by unfold World.frozen?; rw [ho p hp1, k0]; simp
  have q0 : w2.cell? ⟨p + 1, 0, none⟩ = some (.string emptyB) := by unfold World.cell?; rw [ho _ hp2, k1]; rfl
  have q1 : w2.cell? ⟨p + 1, 1, none⟩ = some (.string emptyB) := by unfold World.cell?; rw [ho _ hp2, k1]; rfl
  have f1 : ∀ o, w2.frozen? ⟨p + 1, o, none⟩ = false := fun o => by unfold World.frozen?; rw [ho _ hp2, k1]; simp
  have HB := Lib.hid (And.intro hb' (And.intro hb2 (And.intro hp (And.intro hsz0 hW0))))
  have HW2 := Lib.hid hw2
  rw [hp]
  clear hb' k0 k1 g0 g1 hW0 hsz0 hsz hb2 ho ha hw2 hp
  simp only []
  go_at_K
  go_step
  refine Great.wpList_runTo rfl (some 7) rfl (.pointer (some ⟨w1.heap.size, 0, none⟩)) (w1.alloc (.cells (Array.replicate 122 (.string ByteArray.empty)) 110)) (by kernel_rfl) ?_
  refine wpList_store_rowTo rfl 110 (.tmp 7) (.tmp 16) rfl rfl w1.heap.size statV.toArray (by kernel_rfl) (by kernel_rfl) 110 (Array.replicate 122 (.string ByteArray.empty)) (heapNew w1 _) (by kernel_rfl) (by kernel_rfl) (by kernel_rfl) ?_
  rw [HW2.out]
  go_wp2
  refine bodyPost_ret (v := atV (some r)) (by simp [results, Try.results41, go_sem, atV, fieldV, p0, p1, p2]) rfl ⟨rfl, ?_⟩
  obtain ⟨b1, b2, e1, e2, e3⟩ := HB.out
  have b0 : Below w.heap.size w W0 := by rw [← e3]; exact ((Below.refl _ _).alloc (Nat.le_refl _) _).alloc (by simp) _
  exact (((((((b0.trans (b1.mono b0.size)).trans (b2.mono (Nat.le_trans b0.size b1.size))).setCell (by show w.heap.size ≤ p + 1; omega) _).setCell (by show w.heap.size ≤ p + 1; omega) _).setCell (by show w.heap.size ≤ p; omega) _).setCell (by show w.heap.size ≤ p; omega) _).setCell (by show w.heap.size ≤ p; omega) _)

set_option maxRecDepth 100000 in
set_option maxHeartbeats 2000000 in
theorem at_out {g N : Nat} {F : Nat → Prop} {T : Tb} (n : Int) (w : World) (h : TabIs w g F N T) (hn : n < 1 ∨ 61 + T.rows.length < n) (hnb : n ≤ 9223372036854775807) :
    Calls Try.prog 41 #[.pointer (some ⟨g, 0, none⟩), .int .i64 n] w fun e w' => e = .returned (atV none) ∧ Below w.heap.size w w' := by
  obtain ⟨h1, h2, h3, h4, h5, h6, h7⟩ := h.inv
  have HC := Lib.hid (fun (o1 o2 : Obj) => len_any _ ((h.alloc o1).alloc o2))
  clear h1 h7
  by_cases hneg : n < 1
  · clear hn
    go_enter Try.func41, Try.ntmps41
    go_wp2
    refine bodyPost_ret (v := atV none) (by simp [results, Try.results41, go_sem, atV, fieldV, emptyB]) rfl ⟨rfl, ?_⟩
    exact ((Below.refl _ _).alloc (Nat.le_refl _) _).alloc (by simp) _
  · have hbig : 61 + (T.rows.length : Int) < n := by omega
    have h61 : 61 < n := by omega
    clear hn hneg
    go_enter Try.func41, Try.ntmps41
    go_wp2_with fail
    refine (HC.out _ _).mono ?_
    rintro e w1 ⟨rfl, rfl⟩
    go_wp2
    refine bodyPost_ret (v := atV none) (by simp [results, Try.results41, go_sem, atV, fieldV, emptyB]) rfl ⟨rfl, ?_⟩
    exact ((Below.refl _ _).alloc (Nat.le_refl _) _).alloc (by simp) _

set_option maxRecDepth 100000 in
set_option maxHeartbeats 2000000 in
theorem at_came {g N : Nat} {F : Nat → Prop} {T : Tb} {i : Nat} {r : Rw} (w : World) (h : TabIs w g F N T) (hi : T.rows[i]? = some r) (n : Int) (hn : n = 61 + T.rows.length - i) :
    Calls Try.prog 41 #[.pointer (some ⟨g, 0, none⟩), .int .i64 n] w fun e w' => e = .returned (atV (some r)) ∧ Below w.heap.size w w' := by
  obtain ⟨h1, h2, h3, h4, h5, h6, h7⟩ := h.inv
  have hlt : i < T.rows.length := (List.getElem?_eq_some_iff.1 hi).1
  have HC := Lib.hid (fun (o1 o2 : Obj) => len_any _ ((h.alloc o1).alloc o2))
  obtain ⟨mb, mn, A, c, rfl, ht⟩ := h
  have hgl := ht.raw.lt g (.inl rfl)
  have ht2 := (ht.raw.alloc (.cells #[.string emptyB, .string emptyB, .bool false] 43)).alloc (.cells #[.string emptyB, .string emptyB] 109)
  obtain ⟨-, -, c2, -⟩ := ht.raw.cells
  obtain ⟨q, o, rfl, hq, r0, r1⟩ := ht.raw.at_ hi
  have n1 : 61 < n := by omega
  have n2 : n ≤ 61 + T.rows.length := by omega
  have s1 : IntKind.i64.wrap (n - 61) = n - 61 := by rw [IntWalk.i64_in _ ⟨by omega, by omega⟩]
  have s2 : IntKind.i64.wrap ((T.rows.length : Int) - (n - 61)) = i := by rw [IntWalk.i64_in _ ⟨by omega, by omega⟩]; omega
  generalize T.rows.length = len at *
  clear h1 h7 hi ht ht2 hn
  go_enter Try.func41, Try.ntmps41
  go_wp2_with fail
  refine (HC.out _ _).mono ?_
  rintro e w1 ⟨rfl, rfl⟩
  obtain ⟨W0, hW0⟩ : ∃ W0, (w.alloc (.cells #[.string emptyB, .string emptyB, .bool false] 43)).alloc (.cells #[.string emptyB, .string emptyB] 109) = W0 := ⟨_, rfl⟩
  have b0 : Below w.heap.size w W0 := by rw [← hW0]; exact ((Below.refl _ _).alloc (Nat.le_refl _) _).alloc (by simp) _
  have HB := Lib.hid b0
  have HQ := Lib.hid hW0
  go_upto_region 7 with fail
  rw [show (w.alloc (.cells #[.string ⟨#[]⟩, .string ⟨#[]⟩, .bool false] 43)).alloc (.cells #[.string ⟨#[]⟩, .string ⟨#[]⟩] 109) = W0 from HQ.out]
  obtain ⟨p, hp⟩ : ∃ p, w.heap.size = p := ⟨_, rfl⟩
  have k0 : W0.heap[p]? = some (.cells #[.string emptyB, .string emptyB, .bool false] 43 (0, 0)) := by
    rw [← hW0, ← hp]; exact (Below.heap_alloc _ _ _ (by simp)).trans (heapNew _ _)
  have k1 : W0.heap[p + 1]? = some (.cells #[.string emptyB, .string emptyB] 109 (0, 0)) := by
    rw [← hW0, ← hp]; exact heapNew1 _ _ _
  have p0 : W0.cell? ⟨p, 0, none⟩ = some (.string emptyB) := by unfold World.cell?; rw [k0]; rfl
  have p1 : W0.cell? ⟨p, 1, none⟩ = some (.string emptyB) := by unfold World.cell?; rw [k0]; rfl
  have p2 : W0.cell? ⟨p, 2, none⟩ = some (.bool false) := by unfold World.cell?; rw [k0]; rfl
  have f0 : ∀ o, W0.frozen? ⟨p, o, none⟩ = false := fun o => by unfold World.frozen?; rw [k0]; simp
  have q0 : W0.cell? ⟨p + 1, 0, none⟩ = some (.string emptyB) := by unfold World.cell?; rw [k1]; rfl
  have q1 : W0.cell? ⟨p + 1, 1, none⟩ = some (.string emptyB) := by unfold World.cell?; rw [k1]; rfl
  have f1 : ∀ o, W0.frozen? ⟨p + 1, o, none⟩ = false := fun o => by unfold World.frozen?; rw [k1]; simp
  have d2 := (b0.cell (p := ⟨g, 2, none⟩) hgl).trans c2
  have e0 := (b0.cell (p := ⟨q, o + i * 2, none⟩) hq).trans r0
  have e1 := (b0.cell (p := ⟨q, o + i * 2 + 1, none⟩) hq).trans r1
  rw [hp]
  have HP := Lib.hid hp
  clear c2 r0 r1 b0 hW0 k0 k1 hp HQ
  go_still_tail 14, (by kernel_rfl)
  change wpList _ _ _ _ _ W0.drew
  go_wp2
  refine bodyPost_ret (v := atV (some r)) (by simp [results, Try.results41, go_sem, atV, fieldV, p0, p1, p2]) rfl ⟨rfl, ?_⟩
  exact (((((HB.out.setCell (by show w.heap.size ≤ p + 1; have := HP.out; omega) _).setCell (by show w.heap.size ≤ p + 1; have := HP.out; omega) _).setCell (by show w.heap.size ≤ p; have := HP.out; omega) _).setCell (by show w.heap.size ≤ p; have := HP.out; omega) _).setCell (by show w.heap.size ≤ p; have := HP.out; omega) _).drew

theorem at_any {g N : Nat} {F : Nat → Prop} {T : Tb} (n : Int) (w : World) (h : TabIs w g F N T) (hnb : n ≤ 9223372036854775807) :
    Calls Try.prog 41 #[.pointer (some ⟨g, 0, none⟩), .int .i64 n] w fun e w' => e = .returned (atV (atRows T.rows n)) ∧ Below w.heap.size w w' := by
  by_cases h1 : n < 1 ∨ 61 + T.rows.length < n
  · rw [atRows_none h1]; exact at_out n w h h1 hnb
  · by_cases h2 : n ≤ 61
    · obtain ⟨i, hi⟩ : ∃ i : Nat, n = i + 1 := ⟨(n - 1).toNat, by omega⟩
      subst hi
      obtain ⟨r, hr, ha⟩ := atRows_stat T.rows (i := i) (by omega)
      rw [ha]
      exact at_stat _ w (by omega) hr
    · obtain ⟨i, hi⟩ : ∃ i : Nat, n = 61 + T.rows.length - i := ⟨(61 + T.rows.length - n).toNat, by omega⟩
      obtain ⟨r, hr, ha⟩ := atRows_came T.rows (i := i) (by omega)
      have hn := hi
      subst hi
      rw [ha]
      exact at_came w h hr _ rfl

set_option maxRecDepth 100000 in
set_option maxHeartbeats 2000000 in
theorem at_nil (n : Int) (w : World) (hnb : n ≤ 9223372036854775807) :
    Calls Try.prog 41 #[.pointer none, .int .i64 n] w fun e w' => e = .returned (atV (atRows [] n)) ∧ Below w.heap.size w w' := by
  by_cases h1 : n < 1 ∨ 61 < n
  · have ha : atRows [] n = none := atRows_none (by simpa using h1)
    rw [ha]
    clear ha
    by_cases hneg : n < 1
    · clear h1
      go_enter Try.func41, Try.ntmps41
      go_wp2
      refine bodyPost_ret (v := atV none) (by simp [results, Try.results41, go_sem, atV, fieldV, emptyB]) rfl ⟨rfl, ?_⟩
      exact ((Below.refl _ _).alloc (Nat.le_refl _) _).alloc (by simp) _
    · have h61 : 61 < n := by omega
      clear h1 hneg
      go_enter Try.func41, Try.ntmps41
      go_wp2_with fail
      refine (len_nil _).mono ?_
      rintro e w1 ⟨rfl, rfl⟩
      go_wp2
      refine bodyPost_ret (v := atV none) (by simp [results, Try.results41, go_sem, atV, fieldV, emptyB]) rfl ⟨rfl, ?_⟩
      exact ((Below.refl _ _).alloc (Nat.le_refl _) _).alloc (by simp) _
  · obtain ⟨i, hi⟩ : ∃ i : Nat, n = i + 1 := ⟨(n - 1).toNat, by omega⟩
    subst hi
    obtain ⟨r, hr, ha⟩ := atRows_stat [] (i := i) (by omega)
    rw [ha]
    exact at_stat _ w (by omega) hr
end Go.Proofs.Ytfpcamkimjecdaa

/- Fields in memory; the walk of drawbridgeref04.Static. Printed by wip/gen_static.py. -/
namespace Go.Proofs.Ytfpcamkimjecdaa
open Go.RowKit

/-- Fields, as cells; none of them never to be kept. -/
def fcs (l : List Rw) : List Value := l.flatMap fun r => [.string r.1, .string r.2, .bool false]
theorem fcs_cons (r : Rw) (l : List Rw) : fcs (r :: l) = .string r.1 :: .string r.2 :: .bool false :: fcs l := rfl
theorem fcs_length (l : List Rw) : (fcs l).length = l.length * 3 := by
  induction l with
  | nil => rfl
  | cons p l ih => rw [fcs_cons]; simp only [List.length_cons, ih]; omega
theorem fcs_get {l : List Rw} : ∀ {i : Nat} {r : Rw}, l[i]? = some r → (fcs l)[i * 3]? = some (.string r.1) ∧ (fcs l)[i * 3 + 1]? = some (.string r.2) ∧ (fcs l)[i * 3 + 2]? = some (.bool false) := by
  induction l with
  | nil => intro i p h; simp at h
  | cons q L ih =>
    intro i p h
    rw [fcs_cons]
    cases i with
    | zero => simp at h; subst h; exact ⟨rfl, rfl, rfl⟩
    | succ i =>
      have := ih (i := i) (r := p) (by simpa using h)
      rw [show (i + 1) * 3 = i * 3 + 1 + 1 + 1 by omega]
      simpa using this
theorem fcs_app (l k : List Rw) : fcs (l ++ k) = fcs l ++ fcs k := by simp [fcs, List.flatMap_append]
theorem fcs_one (l : List Rw) : ∀ u ∈ fcs l, u.oneCell' = true := by
  induction l with
  | nil => intro u h; cases h
  | cons p L ih =>
    intro u h
    rw [fcs_cons] at h
    simp only [List.mem_cons] at h
    rcases h with rfl | rfl | rfl | h
    · rfl
    · rfl
    · rfl
    · exact ih u h
theorem tFields : SlT Try.prog 26 43 (.agg #[.string ByteArray.empty, .string ByteArray.empty, .bool false]) 3 40 :=
  ⟨Try.underlying26, by kernel_rfl, rfl, by decide⟩
def fstatV : List Value := fcs statF
end Go.Proofs.Ytfpcamkimjecdaa

/- The document's table in memory; the walks of drawbridgeref04.Size, Resize. -/
namespace Go.Proofs.Ytfpcamkimjecdaa
open Go.RowKit

def rfoot (g : Nat) (A : Option Addr) (k : Nat) : Prop := k = g ∨ ∃ a, A = some a ∧ a.block = k
section
variable {w w' : World} {g c : Nat} {A : Option Addr} {most : Int} {rows : List Rw} {F : Nat → Prop}
end
/-- What the rows' bytes come to. -/
def Small (rows : List Rw) : Prop := sumc rows ≤ 1099511627776 ∧ ∀ r ∈ rows, okR r
theorem Small.len {rows : List Rw} (h : Small rows) : (rows.length : Int) * 32 ≤ 1099511627776 := by
  have h1 := h.1
  have : ∀ l : List Rw, (l.length : Int) * 32 ≤ sumc l := by
    intro l
    induction l with
    | nil => exact Int.le_refl _
    | cons r l ih => rw [sumc_cons]; simp only [List.length_cons]; unfold cost; omega
  have := this rows
  omega
theorem Small.mem {rows : List Rw} (h : Small rows) {r : Rw} (hr : r ∈ rows) : r.1.size ≤ 1099511627776 ∧ r.2.size ≤ 1099511627776 := by
  have : ∀ l : List Rw, r ∈ l → (cost r : Int) ≤ sumc l := by
    intro l
    induction l with
    | nil => intro h; cases h
    | cons a l ih =>
      intro hm
      rw [sumc_cons]
      have := sumc_nonneg l
      rcases List.mem_cons.1 hm with rfl | h
      · omega
      · have := ih h; omega
  have h1 := this rows hr
  have h2 := h.1
  have h3 : (cost r : Int) = r.1.size + r.2.size + 32 := by unfold cost; omega
  omega

theorem sumc_app (l k : List Rw) : sumc (l ++ k) = sumc l + sumc k := by unfold sumc; simp
theorem sumc_rev (l : List Rw) : sumc l.reverse = sumc l := by
  induction l with
  | nil => rfl
  | cons r l ih => rw [List.reverse_cons, sumc_app, ih, sumc_cons]; unfold sumc; simp; omega
theorem sumc_take {l : List Rw} {k : Nat} {r : Rw} (h : l[k]? = some r) : sumc (l.take (k + 1)) = sumc (l.take k) + cost r := by
  rw [List.take_add_one, h, sumc_app]; unfold sumc; simp
theorem sumc_take_le (l : List Rw) (k : Nat) : sumc (l.take k) ≤ sumc l := by
  have h := sumc_app (l.take k) (l.drop k)
  rw [List.take_append_drop] at h
  have := sumc_nonneg (l.drop k)
  omega
def RSzRel (W : World) (L : List Rw) (nv iv : Value) (wr : World) : Prop := ∃ k : Nat, iv = .int .i64 k ∧ nv = .int .i64 (sumc (L.take k)) ∧ k ≤ L.length ∧ Below W.heap.size W wr

end Go.Proofs.Ytfpcamkimjecdaa

/- What a decoder of header blocks reads, in plain Lean. No program in sight. -/
namespace Go.Proofs.Ytfpcamkimjecdaa
open Go.RowKit

/-- A field: its row; whether it never comes into a table. -/
abbrev Fd := Rw × Bool
/-- A decoder within a block. -/
structure HSt where
  T : Tb
  left : List UInt8
  fields : List Fd
  cost : Nat
  changes : Nat
def prefF (c : Nat) : Nat := if 128 ≤ c then 127 else if 64 ≤ c then 63 else if 32 ≤ c then 31 else 15
def takeS (l : List UInt8) : Except Nat (ByteArray × List UInt8) := if (takeT l).2.2 ≠ 0 then .error (takeT l).2.2 else .ok (⟨(takeT l).1.toArray⟩, l.drop (takeT l).2.1)
def takeN (T : Tb) (n : Nat) (l : List UInt8) : Except Nat (ByteArray × List UInt8) :=
  if 0 < n then (match atRows T.rows n with
    | none => .error 40
    | some r => .ok (r.1, l)) else takeS l
def litP (T : Tb) (n : Nat) (l : List UInt8) : Except Nat (Rw × List UInt8) := match takeN T n l with
  | .error e => .error e
  | .ok (nm, l1) => match takeS l1 with
    | .error e => .error e
    | .ok (v, l2) => .ok ((nm, v), l2)
def HSt.put (S : HSt) (l : List UInt8) (f : Fd) : HSt := { S with left := l, fields := S.fields ++ [f], cost := S.cost + Go.Proofs.Ytfpcamkimjecdaa.cost f.1 }
/-- Behind a part's number n. -/
def afterP (mo : Int) (c n : Nat) (l : List UInt8) (S : HSt) : Except Nat HSt :=
  if 128 ≤ c then (match atRows S.T.rows n with
    | none => .error 40
    | some r => .ok (S.put l (r, false)))
  else if 64 ≤ c then (match litP S.T n l with
    | .error e => .error e
    | .ok (f, l2) => .ok ({ S with T := S.T.add f }.put l2 (f, false)))
  else if 32 ≤ c then (if 0 < S.fields.length ∨ 2 < S.changes + 1 ∨ mo < n then .error 50 else .ok { S with T := S.T.resize n, left := l, changes := S.changes + 1 })
  else (match litP S.T n l with
    | .error e => .error e
    | .ok (f, l2) => .ok (S.put l2 (f, decide (16 ≤ c))))
def partP (mo : Int) (S : HSt) : Except Nat HSt :=
  if (takeI (prefF (ba S.left 0)) S.left).2.2 ≠ 0 then .error (takeI (prefF (ba S.left 0)) S.left).2.2
  else afterP mo (ba S.left 0) (takeI (prefF (ba S.left 0)) S.left).1 (S.left.drop (takeI (prefF (ba S.left 0)) S.left).2.1) S
def decP (mo : Int) : Nat → HSt → Except Nat HSt
  | 0, S => .ok S
  | k + 1, S => if S.left.length = 0 then .ok S else match partP mo S with
    | .error e => .error e
    | .ok S' => decP mo k S'
/-- A whole block: the fields, the error; the table behind it, if the decoder isn't broken. -/
def outD (mo li : Int) (T : Tb) (l : List UInt8) : List Fd × Nat × Option Tb := match decP mo l.length ⟨T, l, [], 0, 0⟩ with
  | .error e => ([], e, none)
  | .ok S => if li < (S.cost : Int) then ([], 51, some S.T) else (S.fields, 0, some S.T)

theorem prefF_bd (c : Nat) : prefF c ≤ 255 ∧ 1 ≤ prefF c := by unfold prefF; repeat' split
                                                               all_goals omega
theorem takeT_bd2 (l : List UInt8) : ((takeT l).2.2 = 0 → (takeT l).1.length ≤ 4096 ∧ 1 ≤ (takeT l).2.1 ∧ (takeT l).2.1 ≤ l.length) ∧ (takeT l).2.2 ≤ 12 := by
  have hb := takeI_bd (show 127 ≤ 255 by omega) l
  have he := takeI_err 127 l
  unfold takeT
  split
  · rename_i h
    exact ⟨fun h2 => absurd h2 h, he⟩
  · rename_i h0
    have h0 : (takeI 127 l).2.2 = 0 := by simpa using h0
    have hb := hb h0
    split
    · exact ⟨fun h => by simp at h, by simp⟩
    · rename_i h1
      split
      · exact ⟨fun h => by simp at h, by simp⟩
      · rename_i h2
        split
        · exact ⟨fun _ => ⟨by unfold pieceT; rw [List.length_take]; omega, by simp only; omega, by simp only; omega⟩, by simp⟩
        · split
          · exact ⟨fun h => by simp at h, by simp⟩
          · split
            · exact ⟨fun h => by simp at h, by simp⟩
            · exact ⟨fun _ => ⟨by simp only; omega, by simp only; omega, by simp only; omega⟩, by simp⟩
theorem takeS_ok {l l2 : List UInt8} {s : ByteArray} (h : takeS l = .ok (s, l2)) : s.size ≤ 4096 ∧ l2.length < l.length := by
  unfold takeS at h
  split at h
  · cases h
  · rename_i he
    injection h with h
    injection h with h1 h2
    have := (takeT_bd2 l).1 (by simpa using he)
    subst h1 h2
    refine ⟨?_, by rw [List.length_drop]; omega⟩
    show (takeT l).1.toArray.size ≤ 4096
    simpa using this.1
theorem takeS_err {l : List UInt8} {e : Nat} (h : takeS l = .error e) : e ≠ 0 ∧ e ≤ 12 := by
  unfold takeS at h
  split at h
  · rename_i he
    injection h with h
    subst h
    exact ⟨he, (takeT_bd2 l).2⟩
  · cases h
theorem shrunk_mem (m : Int) : ∀ (l : List Rw) (g : Int) {r : Rw}, r ∈ (shrunk m g l).2 → r ∈ l
  | [], g, r, h => by cases h
  | a :: l, g, r, h => by
    by_cases hc : m < ((((a :: l).map cost).sum : Nat) : Int)
    · rw [shrunk_go hc] at h
      exact List.mem_cons_of_mem _ (shrunk_mem m l (g + 1) h)
    · rw [shrunk_stop (by omega)] at h
      exact h
/-- A table that may be. -/
structure TOk (T : Tb) : Prop where
  most0 : 0 ≤ T.most
  most1 : T.most ≤ 65536
  fits : sumc T.rows ≤ T.most
  okr : ∀ r ∈ T.rows, okR r
theorem TOk.small {T : Tb} (h : TOk T) : Small T.rows := ⟨by have := h.fits; have := h.most1; omega, h.okr⟩
theorem TOk.mem {T : Tb} (h : TOk T) {r : Rw} (hr : r ∈ T.rows) : r.1.size ≤ 65536 ∧ r.2.size ≤ 65536 := by
  have : ∀ l : List Rw, r ∈ l → (Go.Proofs.Ytfpcamkimjecdaa.cost r : Int) ≤ sumc l := by
    intro l
    induction l with
    | nil => intro h; cases h
    | cons a l ih =>
      intro hm
      rw [sumc_cons]
      have := sumc_nonneg l
      rcases List.mem_cons.1 hm with rfl | h
      · omega
      · have := ih h; omega
  have h1 := this T.rows hr
  have h2 := h.fits
  have h3 := h.most1
  have h4 : (cost r : Int) = r.1.size + r.2.size + 32 := by unfold cost; omega
  omega
theorem stat_sizes : ∀ r ∈ statF, r.1.size ≤ 100 ∧ r.2.size ≤ 100 := by decide +kernel
theorem atRows_mem {rows : List Rw} {n : Int} {r : Rw} (h : atRows rows n = some r) : r ∈ statF ∨ r ∈ rows := by
  unfold atRows at h
  split at h
  · exact .inl (List.mem_of_getElem? h)
  · split at h
    · exact .inr (List.mem_of_getElem? h)
    · cases h
theorem atRows_size {T : Tb} (hT : TOk T) {n : Int} {r : Rw} (h : atRows T.rows n = some r) : r.1.size ≤ 65536 ∧ r.2.size ≤ 65536 := by
  rcases atRows_mem h with h | h
  · have := stat_sizes r h; omega
  · exact hT.mem h
theorem takeN_ok {T : Tb} (hT : TOk T) {n : Nat} {l l2 : List UInt8} {s : ByteArray} (h : takeN T n l = .ok (s, l2)) : s.size ≤ 65536 ∧ l2.length ≤ l.length := by
  unfold takeN at h
  split at h
  · split at h
    · cases h
    · rename_i r hr
      injection h with h
      injection h with h1 h2
      subst h1 h2
      exact ⟨(atRows_size hT hr).1, Nat.le_refl _⟩
  · have := takeS_ok h; omega
theorem litP_ok {T : Tb} (hT : TOk T) {n : Nat} {l l2 : List UInt8} {f : Rw} (h : litP T n l = .ok (f, l2)) : f.1.size ≤ 65536 ∧ f.2.size ≤ 4096 ∧ l2.length ≤ l.length := by
  unfold litP at h
  split at h
  · cases h
  · rename_i nm l1 h1
    split at h
    · cases h
    · rename_i v l3 h2
      injection h with h
      injection h with e1 e2
      subst e1 e2
      have := takeN_ok hT h1
      have := takeS_ok h2
      simp only; omega
theorem TOk.resize {T : Tb} (h : TOk T) {n : Int} (h0 : 0 ≤ n) (h1 : n ≤ 65536) : TOk (T.resize n) := by
  refine ⟨h0, h1, ?_, fun r hr => h.okr r ?_⟩
  · exact shrunk_fits h0 _ _
  · exact shrunk_mem _ _ _ hr
theorem TOk.add {T : Tb} (h : TOk T) {r : Rw} (h1 : r.1.size ≤ 1099511627776) (h2 : r.2.size ≤ 1099511627776) : TOk (T.add r) := by
  have hok : okR r := by unfold okR okS; unfold maxLen; omega
  unfold Tb.add
  split
  · refine ⟨h.most0, h.most1, ?_, fun r' hr => h.okr r' (shrunk_mem _ _ _ hr)⟩
    have := shrunk_fits (Int.le_refl 0) T.rows T.gone
    have := h.most0
    show sumc (shrunk 0 T.gone T.rows).2 ≤ T.most
    omega
  · rename_i hc
    have hc0 : (0 : Int) ≤ T.most - cost r := by omega
    have hf := shrunk_fits hc0 T.rows T.gone
    refine ⟨h.most0, h.most1, ?_, fun r' hr => ?_⟩
    · show sumc ((shrunk (T.most - cost r) T.gone T.rows).2 ++ [r]) ≤ T.most
      rw [sumc_app]
      have : sumc [r] = cost r := by unfold sumc; simp
      omega
    · rcases List.mem_append.1 hr with h3 | h3
      · exact h.okr r' (shrunk_mem _ _ _ h3)
      · have : r' = r := by simpa using h3
        rw [this]; exact hok
/-- What holds of a decoder within a block of L bytes. -/
structure HOk (L : Nat) (S : HSt) : Prop where
  tok : TOk S.T
  sz : ∀ f ∈ S.fields, f.1.1.size ≤ 65536 ∧ f.1.2.size ≤ 65536
  cost : S.cost = (S.fields.map fun f => Go.Proofs.Ytfpcamkimjecdaa.cost f.1).sum
  len : S.fields.length + S.left.length ≤ L
  chg : S.changes ≤ 2
theorem HOk.costle {L : Nat} {S : HSt} (h : HOk L S) : S.cost ≤ 131104 * S.fields.length := by
  rw [h.cost]
  have : ∀ l : List Fd, (∀ f ∈ l, f.1.1.size ≤ 65536 ∧ f.1.2.size ≤ 65536) → (l.map fun f => Go.Proofs.Ytfpcamkimjecdaa.cost f.1).sum ≤ 131104 * l.length := by
    intro l
    induction l with
    | nil => intro _; simp
    | cons f l ih =>
      intro hf
      have h1 := hf f (by simp)
      have h2 := ih fun g hg => hf g (by simp [hg])
      simp only [List.map_cons, List.sum_cons, List.length_cons]
      have : Go.Proofs.Ytfpcamkimjecdaa.cost f.1 = f.1.1.size + f.1.2.size + 32 := rfl
      omega
  exact this _ h.sz
theorem HOk.put {L : Nat} {S : HSt} (h : HOk L S) {l : List UInt8} {f : Fd} (hl : l.length < S.left.length) (h1 : f.1.1.size ≤ 65536) (h2 : f.1.2.size ≤ 65536) : HOk L (S.put l f) :=
  ⟨h.tok, fun g hg => by
    rcases List.mem_append.1 hg with h3 | h3
    · exact h.sz g h3
    · have : g = f := by simpa using h3
      rw [this]; exact ⟨h1, h2⟩, by show S.cost + Go.Proofs.Ytfpcamkimjecdaa.cost f.1 = ((S.fields ++ [f]).map _).sum; rw [List.map_append, List.sum_append, ← h.cost]; simp, by have := h.len; show (S.fields ++ [f]).length + l.length ≤ L; rw [List.length_append]; simp only [List.length_cons, List.length_nil]; omega, h.chg⟩
theorem HOk.setT {L : Nat} {S : HSt} (h : HOk L S) {T : Tb} (hT : TOk T) : HOk L { S with T := T } := ⟨hT, h.sz, h.cost, h.len, h.chg⟩
theorem HOk.after {L : Nat} {mo : Int} {c n : Nat} {l : List UInt8} {S S' : HSt} (h : HOk L S) (hl : l.length < S.left.length) (hmo : mo ≤ 65536) (he : afterP mo c n l S = .ok S') : HOk L S' ∧ S'.left.length < S.left.length := by
  unfold afterP at he
  split at he
  · split at he
    · cases he
    · rename_i r hr
      injection he with he
      subst he
      have := atRows_size h.tok hr
      exact ⟨h.put hl this.1 this.2, hl⟩
  · split at he
    · split at he
      · cases he
      · rename_i f l2 hf
        injection he with he
        subst he
        obtain ⟨a, b, d⟩ := litP_ok h.tok hf
        exact ⟨(h.setT (h.tok.add (by omega) (by omega))).put (f := (f, false)) (by simp only; omega) (by simp only; omega) (by simp only; omega), by show l2.length < _; omega⟩
    · split at he
      · split at he
        · cases he
        · rename_i hn
          injection he with he
          subst he
          have hc := h.chg
          exact ⟨⟨h.tok.resize (by omega) (by omega), h.sz, h.cost, by have := h.len; simp only; omega, by simp only; omega⟩, hl⟩
      · split at he
        · cases he
        · rename_i f l2 hf
          injection he with he
          subst he
          obtain ⟨a, b, d⟩ := litP_ok h.tok hf
          exact ⟨h.put (f := (f, _)) (by omega) (by simp only; omega) (by simp only; omega), by show l2.length < _; omega⟩
theorem HOk.part {L : Nat} {mo : Int} {S S' : HSt} (h : HOk L S) (hmo : mo ≤ 65536) (he : partP mo S = .ok S') : HOk L S' ∧ S'.left.length < S.left.length := by
  unfold partP at he
  split at he
  · cases he
  · rename_i h0
    have h0 : (takeI (prefF (ba S.left 0)) S.left).2.2 = 0 := by simpa using h0
    have := takeI_bd (prefF_bd _).1 S.left h0
    exact h.after (by rw [List.length_drop]; omega) hmo he
theorem decP_more {mo : Int} {L : Nat} (hmo : mo ≤ 65536) : ∀ (j k : Nat) (S : HSt), HOk L S → S.left.length ≤ j → j ≤ k → decP mo k S = decP mo j S
  | 0, 0, S, _, _, _ => rfl
  | 0, k + 1, S, _, hj, _ => by show decP mo (k + 1) S = .ok S; unfold decP; rw [if_pos (by omega)]
  | j + 1, 0, S, _, _, h => by omega
  | j + 1, k + 1, S, hok, hj, hk => by
    show (if S.left.length = 0 then Except.ok S else match partP mo S with | .error e => .error e | .ok S' => decP mo k S') = (if S.left.length = 0 then Except.ok S else match partP mo S with | .error e => .error e | .ok S' => decP mo j S')
    split
    · rfl
    · split
      · rfl
      · rename_i S' hS
        obtain ⟨a, b⟩ := hok.part hmo hS
        exact decP_more hmo j k S' a (by omega) (by omega)
theorem decP_step {mo : Int} {L : Nat} (hmo : mo ≤ 65536) {S S' : HSt} (hok : HOk L S) (h0 : 0 < S.left.length) (h : partP mo S = .ok S') : decP mo S.left.length S = decP mo S'.left.length S' := by
  obtain ⟨a, b⟩ := hok.part hmo h
  obtain ⟨k, hk⟩ : ∃ k, S.left.length = k + 1 := ⟨S.left.length - 1, by omega⟩
  rw [hk, decP, if_neg (by omega), h]
  exact decP_more hmo _ _ _ a (Nat.le_refl _) (by omega)
theorem decP_fail {mo : Int} {S : HSt} {e : Nat} (h0 : 0 < S.left.length) (h : partP mo S = .error e) : decP mo S.left.length S = .error e := by
  obtain ⟨k, hk⟩ : ∃ k, S.left.length = k + 1 := ⟨S.left.length - 1, by omega⟩
  rw [hk, decP, if_neg (by omega), h]
theorem decP_done {mo : Int} {S : HSt} (h0 : S.left.length = 0) : decP mo S.left.length S = .ok S := by rw [h0]; rfl
theorem HOk.start {T : Tb} (hT : TOk T) (l : List UInt8) : HOk l.length ⟨T, l, [], 0, 0⟩ :=
  { tok := hT, sz := (fun f hf => by cases hf), cost := rfl, len := by simp, chg := by simp }
end Go.Proofs.Ytfpcamkimjecdaa

/- The walk of prefix.TakeInt. -/
namespace Go.Proofs.Ytfpcamkimjecdaa
open Go.RowKit

def TakeRel (F : Nat) (l : List UInt8) (m : Nat) (x i : Value) : Prop :=
  ∃ k s : Nat, i = .int .i64 k ∧ x = .int .i64 s ∧ k ≤ m ∧ s ≤ 254 + 128 ^ k ∧ takeI F l = takeTail (5 - k) (k + 1) s (128 ^ k) (l.drop (k + 1))

theorem u8_and127' (l : List UInt8) (k : Nat) : Go.bits .and .u8 (ba l k : Int) 127 = ((ba l k % 128 : Nat) : Int) := u8_and127 _
theorem tri_eq {a b c : Int} {r : Nat × Nat × Nat} {x y z : Nat} (h : r = (x, y, z)) (h1 : a = x) (h2 : b = y) (h3 : c = z) : Ending.returned (.tuple #[.int .i64 a, .int .i64 b, .int .i64 c]) = .returned (tri r) := by
  subst h h1 h2 h3; rfl
theorem num_eq {k : IntKind} {a b : Int} (h : a = b) : Value.int k a = .int k b := by rw [h]

set_option maxRecDepth 100000 in
set_option maxHeartbeats 1000000 in
theorem take_lt6 (b o n cap bits F : Nat) (l : List UInt8) (w : World) (hF : Full bits F) (hl : 1 < n) (hl5 : n < 6) (hcap : n ≤ cap) (_hm : cap ≤ maxLen) (hn : n = l.length) (hc : ∀ j, j < n → w.cell? ⟨b, o + j, none⟩ = some (.int .u8 (ba l j : Int))) :
    Calls Try.prog 68 #[.slice (some ⟨b, o, none⟩) n cap, .int .i64 bits] w fun e w' => e = .returned (tri (takeI F l)) ∧ w = w' := by
  have h1 := hF.lo
  have h8 := hF.hi
  have hF' := hF.le
  have e1 := hF.shl64
  have e5 : decide ((bits : Int) < 1) = false := by simp; omega
  have e6 : decide (8 < (bits : Int)) = false := by simp; omega
  have hc0 : w.cell? ⟨b, o, none⟩ = some (.int .u8 (ba l 0 : Int)) := hc 0 (by omega)
  have hb0 := ba_lt l 0
  have e2 := hF.and64 hb0
  obtain ⟨r, hr⟩ : ∃ r, r = ba l 0 % (F + 1) := ⟨_, rfl⟩
  rw [← hr] at e2
  have hrF : r ≤ F := by rw [hr]; have := Nat.mod_lt (ba l 0) (show 0 < F + 1 by omega); omega
  have HR := Lib.hid hr
  have HN := Lib.hid hn
  have HC := Lib.hid hc
  clear hr hn hc
  unfold maxLen at _hm
  go_enter Try.func68, Try.ntmps68
  by_cases hsm : r < F
  · go_wp2
    go_ret3
    exact ⟨by rw [take_small (by have := HN.out; omega) HR.out hsm]; rfl, rfl⟩
  · go_wp2
    clear e1 e2 e5 e6
    go_loop [8, 39] (TakeRel F l (n - 1)) (fun _ i => 6 - (intOf i).toNat)
    case atStart => exact ⟨0, r, rfl, rfl, by omega, by omega, take_big (by have := HN.out; omega) HR.out hsm⟩
    case round =>
      obtain ⟨k, s, rfl, rfl, hk, hs, ht⟩ := hrel
      have HT := Lib.hid ht
      clear ht
      by_cases hlt : k < n - 1
      · have hk5 : k = 0 ∨ k = 1 ∨ k = 2 ∨ k = 3 := by omega
        rcases hk5 with rfl | rfl | rfl | rfl
        · have hcell : w.cell? ⟨b, o + 1, none⟩ = some (.int .u8 (ba l 1 : Int)) := HC.out 1 (by omega)
          have hb1 := ba_lt l 1
          have e7 := u8_and127' l 1
          obtain ⟨m, hm⟩ : ∃ m, m = ba l 1 % 128 := ⟨_, rfl⟩
          have hst := take_in (T := 1) 1 128 2 HT.out (by omega) rfl rfl rfl (by have := HN.out; omega) hm
          rw [← hm] at e7
          have hm128 : m < 128 := by omega
          have HM := Lib.hid hm
          have HST := Lib.hid hst
          clear hm hst
          by_cases hlo : ba l 1 < 128
          · have hbig : s + 1 * m ≤ 2147483647 := by omega
            · go_wp2
              go_ret3
              exact ⟨tri_eq (HST.out.2.1 hlo (by omega)) (by omega) (by omega) rfl, rfl⟩
          · go_wp2
            go_round
            case rel => exact ⟨1, s + 1 * m, rfl, num_eq (by omega), by omega, by omega, HST.out.2.2 (by omega)⟩
            case measure => simp [intOf]
        · have hcell : w.cell? ⟨b, o + 2, none⟩ = some (.int .u8 (ba l 2 : Int)) := HC.out 2 (by omega)
          have hb1 := ba_lt l 2
          have e7 := u8_and127' l 2
          obtain ⟨m, hm⟩ : ∃ m, m = ba l 2 % 128 := ⟨_, rfl⟩
          have hst := take_in (T := 128) 2 16384 3 HT.out (by omega) rfl rfl rfl (by have := HN.out; omega) hm
          rw [← hm] at e7
          have hm128 : m < 128 := by omega
          have HM := Lib.hid hm
          have HST := Lib.hid hst
          clear hm hst
          by_cases hlo : ba l 2 < 128
          · have hbig : s + 128 * m ≤ 2147483647 := by omega
            · go_wp2
              go_ret3
              exact ⟨tri_eq (HST.out.2.1 hlo (by omega)) (by omega) (by omega) rfl, rfl⟩
          · go_wp2
            go_round
            case rel => exact ⟨2, s + 128 * m, rfl, num_eq (by omega), by omega, by omega, HST.out.2.2 (by omega)⟩
            case measure => simp [intOf]
        · have hcell : w.cell? ⟨b, o + 3, none⟩ = some (.int .u8 (ba l 3 : Int)) := HC.out 3 (by omega)
          have hb1 := ba_lt l 3
          have e7 := u8_and127' l 3
          obtain ⟨m, hm⟩ : ∃ m, m = ba l 3 % 128 := ⟨_, rfl⟩
          have hst := take_in (T := 16384) 3 2097152 4 HT.out (by omega) rfl rfl rfl (by have := HN.out; omega) hm
          rw [← hm] at e7
          have hm128 : m < 128 := by omega
          have HM := Lib.hid hm
          have HST := Lib.hid hst
          clear hm hst
          by_cases hlo : ba l 3 < 128
          · have hbig : s + 16384 * m ≤ 2147483647 := by omega
            · go_wp2
              go_ret3
              exact ⟨tri_eq (HST.out.2.1 hlo (by omega)) (by omega) (by omega) rfl, rfl⟩
          · go_wp2
            go_round
            case rel => exact ⟨3, s + 16384 * m, rfl, num_eq (by omega), by omega, by omega, HST.out.2.2 (by omega)⟩
            case measure => simp [intOf]
        · have hcell : w.cell? ⟨b, o + 4, none⟩ = some (.int .u8 (ba l 4 : Int)) := HC.out 4 (by omega)
          have hb1 := ba_lt l 4
          have e7 := u8_and127' l 4
          obtain ⟨m, hm⟩ : ∃ m, m = ba l 4 % 128 := ⟨_, rfl⟩
          have hst := take_in (T := 2097152) 4 268435456 5 HT.out (by omega) rfl rfl rfl (by have := HN.out; omega) hm
          rw [← hm] at e7
          have hm128 : m < 128 := by omega
          have HM := Lib.hid hm
          have HST := Lib.hid hst
          clear hm hst
          by_cases hlo : ba l 4 < 128
          · have hbig : s + 2097152 * m ≤ 2147483647 := by omega
            · go_wp2
              go_ret3
              exact ⟨tri_eq (HST.out.2.1 hlo (by omega)) (by omega) (by omega) rfl, rfl⟩
          · go_wp2
            go_round
            case rel => exact ⟨4, s + 2097152 * m, rfl, num_eq (by omega), by omega, by omega, HST.out.2.2 (by omega)⟩
            case measure => simp [intOf]
      · go_wp2
        go_ret3
        exact ⟨by rw [take_end HT.out (by omega) (by have := HN.out; omega)]; rfl, rfl⟩

set_option maxRecDepth 100000 in
set_option maxHeartbeats 1000000 in
theorem take_gt6 (b o n cap bits F : Nat) (l : List UInt8) (w : World) (hF : Full bits F) (hl : 6 < n) (hcap : n ≤ cap) (_hm : cap ≤ maxLen) (hn : n = l.length) (hc : ∀ j, j < n → w.cell? ⟨b, o + j, none⟩ = some (.int .u8 (ba l j : Int))) :
    Calls Try.prog 68 #[.slice (some ⟨b, o, none⟩) n cap, .int .i64 bits] w fun e w' => e = .returned (tri (takeI F l)) ∧ w = w' := by
  have h1 := hF.lo
  have h8 := hF.hi
  have hF' := hF.le
  have e1 := hF.shl64
  have e5 : decide ((bits : Int) < 1) = false := by simp; omega
  have e6 : decide (8 < (bits : Int)) = false := by simp; omega
  have hc0 : w.cell? ⟨b, o, none⟩ = some (.int .u8 (ba l 0 : Int)) := hc 0 (by omega)
  have hb0 := ba_lt l 0
  have e2 := hF.and64 hb0
  obtain ⟨r, hr⟩ : ∃ r, r = ba l 0 % (F + 1) := ⟨_, rfl⟩
  rw [← hr] at e2
  have hrF : r ≤ F := by rw [hr]; have := Nat.mod_lt (ba l 0) (show 0 < F + 1 by omega); omega
  have HR := Lib.hid hr
  have HN := Lib.hid hn
  have HC := Lib.hid hc
  clear hr hn hc
  unfold maxLen at _hm
  go_enter Try.func68, Try.ntmps68
  by_cases hsm : r < F
  · go_wp2
    go_ret3
    exact ⟨by rw [take_small (by have := HN.out; omega) HR.out hsm]; rfl, rfl⟩
  · go_wp2
    clear e1 e2 e5 e6
    go_loop [8, 39] (TakeRel F l (5)) (fun _ i => 6 - (intOf i).toNat)
    case atStart => exact ⟨0, r, rfl, rfl, by omega, by omega, take_big (by have := HN.out; omega) HR.out hsm⟩
    case round =>
      obtain ⟨k, s, rfl, rfl, hk, hs, ht⟩ := hrel
      have HT := Lib.hid ht
      clear ht
      by_cases hlt : k < 5
      · have hk5 : k = 0 ∨ k = 1 ∨ k = 2 ∨ k = 3 ∨ k = 4 := by omega
        rcases hk5 with rfl | rfl | rfl | rfl | rfl
        · have hcell : w.cell? ⟨b, o + 1, none⟩ = some (.int .u8 (ba l 1 : Int)) := HC.out 1 (by omega)
          have hb1 := ba_lt l 1
          have e7 := u8_and127' l 1
          obtain ⟨m, hm⟩ : ∃ m, m = ba l 1 % 128 := ⟨_, rfl⟩
          have hst := take_in (T := 1) 1 128 2 HT.out (by omega) rfl rfl rfl (by have := HN.out; omega) hm
          rw [← hm] at e7
          have hm128 : m < 128 := by omega
          have HM := Lib.hid hm
          have HST := Lib.hid hst
          clear hm hst
          by_cases hlo : ba l 1 < 128
          · have hbig : s + 1 * m ≤ 2147483647 := by omega
            · go_wp2
              go_ret3
              exact ⟨tri_eq (HST.out.2.1 hlo (by omega)) (by omega) (by omega) rfl, rfl⟩
          · go_wp2
            go_round
            case rel => exact ⟨1, s + 1 * m, rfl, num_eq (by omega), by omega, by omega, HST.out.2.2 (by omega)⟩
            case measure => simp [intOf]
        · have hcell : w.cell? ⟨b, o + 2, none⟩ = some (.int .u8 (ba l 2 : Int)) := HC.out 2 (by omega)
          have hb1 := ba_lt l 2
          have e7 := u8_and127' l 2
          obtain ⟨m, hm⟩ : ∃ m, m = ba l 2 % 128 := ⟨_, rfl⟩
          have hst := take_in (T := 128) 2 16384 3 HT.out (by omega) rfl rfl rfl (by have := HN.out; omega) hm
          rw [← hm] at e7
          have hm128 : m < 128 := by omega
          have HM := Lib.hid hm
          have HST := Lib.hid hst
          clear hm hst
          by_cases hlo : ba l 2 < 128
          · have hbig : s + 128 * m ≤ 2147483647 := by omega
            · go_wp2
              go_ret3
              exact ⟨tri_eq (HST.out.2.1 hlo (by omega)) (by omega) (by omega) rfl, rfl⟩
          · go_wp2
            go_round
            case rel => exact ⟨2, s + 128 * m, rfl, num_eq (by omega), by omega, by omega, HST.out.2.2 (by omega)⟩
            case measure => simp [intOf]
        · have hcell : w.cell? ⟨b, o + 3, none⟩ = some (.int .u8 (ba l 3 : Int)) := HC.out 3 (by omega)
          have hb1 := ba_lt l 3
          have e7 := u8_and127' l 3
          obtain ⟨m, hm⟩ : ∃ m, m = ba l 3 % 128 := ⟨_, rfl⟩
          have hst := take_in (T := 16384) 3 2097152 4 HT.out (by omega) rfl rfl rfl (by have := HN.out; omega) hm
          rw [← hm] at e7
          have hm128 : m < 128 := by omega
          have HM := Lib.hid hm
          have HST := Lib.hid hst
          clear hm hst
          by_cases hlo : ba l 3 < 128
          · have hbig : s + 16384 * m ≤ 2147483647 := by omega
            · go_wp2
              go_ret3
              exact ⟨tri_eq (HST.out.2.1 hlo (by omega)) (by omega) (by omega) rfl, rfl⟩
          · go_wp2
            go_round
            case rel => exact ⟨3, s + 16384 * m, rfl, num_eq (by omega), by omega, by omega, HST.out.2.2 (by omega)⟩
            case measure => simp [intOf]
        · have hcell : w.cell? ⟨b, o + 4, none⟩ = some (.int .u8 (ba l 4 : Int)) := HC.out 4 (by omega)
          have hb1 := ba_lt l 4
          have e7 := u8_and127' l 4
          obtain ⟨m, hm⟩ : ∃ m, m = ba l 4 % 128 := ⟨_, rfl⟩
          have hst := take_in (T := 2097152) 4 268435456 5 HT.out (by omega) rfl rfl rfl (by have := HN.out; omega) hm
          rw [← hm] at e7
          have hm128 : m < 128 := by omega
          have HM := Lib.hid hm
          have HST := Lib.hid hst
          clear hm hst
          by_cases hlo : ba l 4 < 128
          · have hbig : s + 2097152 * m ≤ 2147483647 := by omega
            · go_wp2
              go_ret3
              exact ⟨tri_eq (HST.out.2.1 hlo (by omega)) (by omega) (by omega) rfl, rfl⟩
          · go_wp2
            go_round
            case rel => exact ⟨4, s + 2097152 * m, rfl, num_eq (by omega), by omega, by omega, HST.out.2.2 (by omega)⟩
            case measure => simp [intOf]
        · have hcell : w.cell? ⟨b, o + 5, none⟩ = some (.int .u8 (ba l 5 : Int)) := HC.out 5 (by omega)
          have hb1 := ba_lt l 5
          have e7 := u8_and127' l 5
          obtain ⟨m, hm⟩ : ∃ m, m = ba l 5 % 128 := ⟨_, rfl⟩
          have hst := take_in (T := 268435456) 5 34359738368 6 HT.out (by omega) rfl rfl rfl (by have := HN.out; omega) hm
          rw [← hm] at e7
          have hm128 : m < 128 := by omega
          have HM := Lib.hid hm
          have HST := Lib.hid hst
          clear hm hst
          by_cases hlo : ba l 5 < 128
          · by_cases hbig : 2147483647 < s + 268435456 * m
            · go_wp2
              go_ret3
              exact ⟨tri_eq (HST.out.1 hlo (by omega)) rfl rfl rfl, rfl⟩
            · go_wp2
              go_ret3
              exact ⟨tri_eq (HST.out.2.1 hlo (by omega)) (by omega) (by omega) rfl, rfl⟩
          · go_wp2
            go_round
            case rel => exact ⟨5, s + 268435456 * m, rfl, num_eq (by omega), by omega, by omega, HST.out.2.2 (by omega)⟩
            case measure => simp [intOf]
      · go_wp2
        go_ret3
        obtain rfl : k = 5 := by omega
        exact ⟨by rw [take_full HT.out]; rfl, rfl⟩
set_option maxRecDepth 100000 in
set_option maxHeartbeats 1000000 in
theorem take_eq6 (b o cap bits F : Nat) (l : List UInt8) (w : World) (hF : Full bits F) (hcap : 6 ≤ cap) (_hm : cap ≤ maxLen) (hn : 6 = l.length) (hc : ∀ j, j < 6 → w.cell? ⟨b, o + j, none⟩ = some (.int .u8 (ba l j : Int))) :
    Calls Try.prog 68 #[.slice (some ⟨b, o, none⟩) 6 cap, .int .i64 bits] w fun e w' => e = .returned (tri (takeI F l)) ∧ w = w' := by
  have h1 := hF.lo
  have h8 := hF.hi
  have hF' := hF.le
  have e1 := hF.shl64
  have e5 : decide ((bits : Int) < 1) = false := by simp; omega
  have e6 : decide (8 < (bits : Int)) = false := by simp; omega
  have hc0 : w.cell? ⟨b, o, none⟩ = some (.int .u8 (ba l 0 : Int)) := hc 0 (by omega)
  have hb0 := ba_lt l 0
  have e2 := hF.and64 hb0
  obtain ⟨r, hr⟩ : ∃ r, r = ba l 0 % (F + 1) := ⟨_, rfl⟩
  rw [← hr] at e2
  have hrF : r ≤ F := by rw [hr]; have := Nat.mod_lt (ba l 0) (show 0 < F + 1 by omega); omega
  have HR := Lib.hid hr
  have HN := Lib.hid hn
  have HC := Lib.hid hc
  clear hr hn hc
  unfold maxLen at _hm
  go_enter Try.func68, Try.ntmps68
  by_cases hsm : r < F
  · go_wp2
    go_ret3
    exact ⟨by rw [take_small (by have := HN.out; omega) HR.out hsm]; rfl, rfl⟩
  · go_wp2
    clear e1 e2 e5 e6
    go_loop [8, 39] (TakeRel F l (5)) (fun _ i => 6 - (intOf i).toNat)
    case atStart => exact ⟨0, r, rfl, rfl, by omega, by omega, take_big (by have := HN.out; omega) HR.out hsm⟩
    case round =>
      obtain ⟨k, s, rfl, rfl, hk, hs, ht⟩ := hrel
      have HT := Lib.hid ht
      clear ht
      by_cases hlt : k < 5
      · have hk5 : k = 0 ∨ k = 1 ∨ k = 2 ∨ k = 3 ∨ k = 4 := by omega
        rcases hk5 with rfl | rfl | rfl | rfl | rfl
        · have hcell : w.cell? ⟨b, o + 1, none⟩ = some (.int .u8 (ba l 1 : Int)) := HC.out 1 (by omega)
          have hb1 := ba_lt l 1
          have e7 := u8_and127' l 1
          obtain ⟨m, hm⟩ : ∃ m, m = ba l 1 % 128 := ⟨_, rfl⟩
          have hst := take_in (T := 1) 1 128 2 HT.out (by omega) rfl rfl rfl (by have := HN.out; omega) hm
          rw [← hm] at e7
          have hm128 : m < 128 := by omega
          have HM := Lib.hid hm
          have HST := Lib.hid hst
          clear hm hst
          by_cases hlo : ba l 1 < 128
          · have hbig : s + 1 * m ≤ 2147483647 := by omega
            · go_wp2
              go_ret3
              exact ⟨tri_eq (HST.out.2.1 hlo (by omega)) (by omega) (by omega) rfl, rfl⟩
          · go_wp2
            go_round
            case rel => exact ⟨1, s + 1 * m, rfl, num_eq (by omega), by omega, by omega, HST.out.2.2 (by omega)⟩
            case measure => simp [intOf]
        · have hcell : w.cell? ⟨b, o + 2, none⟩ = some (.int .u8 (ba l 2 : Int)) := HC.out 2 (by omega)
          have hb1 := ba_lt l 2
          have e7 := u8_and127' l 2
          obtain ⟨m, hm⟩ : ∃ m, m = ba l 2 % 128 := ⟨_, rfl⟩
          have hst := take_in (T := 128) 2 16384 3 HT.out (by omega) rfl rfl rfl (by have := HN.out; omega) hm
          rw [← hm] at e7
          have hm128 : m < 128 := by omega
          have HM := Lib.hid hm
          have HST := Lib.hid hst
          clear hm hst
          by_cases hlo : ba l 2 < 128
          · have hbig : s + 128 * m ≤ 2147483647 := by omega
            · go_wp2
              go_ret3
              exact ⟨tri_eq (HST.out.2.1 hlo (by omega)) (by omega) (by omega) rfl, rfl⟩
          · go_wp2
            go_round
            case rel => exact ⟨2, s + 128 * m, rfl, num_eq (by omega), by omega, by omega, HST.out.2.2 (by omega)⟩
            case measure => simp [intOf]
        · have hcell : w.cell? ⟨b, o + 3, none⟩ = some (.int .u8 (ba l 3 : Int)) := HC.out 3 (by omega)
          have hb1 := ba_lt l 3
          have e7 := u8_and127' l 3
          obtain ⟨m, hm⟩ : ∃ m, m = ba l 3 % 128 := ⟨_, rfl⟩
          have hst := take_in (T := 16384) 3 2097152 4 HT.out (by omega) rfl rfl rfl (by have := HN.out; omega) hm
          rw [← hm] at e7
          have hm128 : m < 128 := by omega
          have HM := Lib.hid hm
          have HST := Lib.hid hst
          clear hm hst
          by_cases hlo : ba l 3 < 128
          · have hbig : s + 16384 * m ≤ 2147483647 := by omega
            · go_wp2
              go_ret3
              exact ⟨tri_eq (HST.out.2.1 hlo (by omega)) (by omega) (by omega) rfl, rfl⟩
          · go_wp2
            go_round
            case rel => exact ⟨3, s + 16384 * m, rfl, num_eq (by omega), by omega, by omega, HST.out.2.2 (by omega)⟩
            case measure => simp [intOf]
        · have hcell : w.cell? ⟨b, o + 4, none⟩ = some (.int .u8 (ba l 4 : Int)) := HC.out 4 (by omega)
          have hb1 := ba_lt l 4
          have e7 := u8_and127' l 4
          obtain ⟨m, hm⟩ : ∃ m, m = ba l 4 % 128 := ⟨_, rfl⟩
          have hst := take_in (T := 2097152) 4 268435456 5 HT.out (by omega) rfl rfl rfl (by have := HN.out; omega) hm
          rw [← hm] at e7
          have hm128 : m < 128 := by omega
          have HM := Lib.hid hm
          have HST := Lib.hid hst
          clear hm hst
          by_cases hlo : ba l 4 < 128
          · have hbig : s + 2097152 * m ≤ 2147483647 := by omega
            · go_wp2
              go_ret3
              exact ⟨tri_eq (HST.out.2.1 hlo (by omega)) (by omega) (by omega) rfl, rfl⟩
          · go_wp2
            go_round
            case rel => exact ⟨4, s + 2097152 * m, rfl, num_eq (by omega), by omega, by omega, HST.out.2.2 (by omega)⟩
            case measure => simp [intOf]
        · have hcell : w.cell? ⟨b, o + 5, none⟩ = some (.int .u8 (ba l 5 : Int)) := HC.out 5 (by omega)
          have hb1 := ba_lt l 5
          have e7 := u8_and127' l 5
          obtain ⟨m, hm⟩ : ∃ m, m = ba l 5 % 128 := ⟨_, rfl⟩
          have hst := take_in (T := 268435456) 5 34359738368 6 HT.out (by omega) rfl rfl rfl (by have := HN.out; omega) hm
          rw [← hm] at e7
          have hm128 : m < 128 := by omega
          have HM := Lib.hid hm
          have HST := Lib.hid hst
          clear hm hst
          by_cases hlo : ba l 5 < 128
          · by_cases hbig : 2147483647 < s + 268435456 * m
            · go_wp2
              go_ret3
              exact ⟨tri_eq (HST.out.1 hlo (by omega)) rfl rfl rfl, rfl⟩
            · go_wp2
              go_ret3
              exact ⟨tri_eq (HST.out.2.1 hlo (by omega)) (by omega) (by omega) rfl, rfl⟩
          · go_wp2
            go_round
            case rel => exact ⟨5, s + 268435456 * m, rfl, num_eq (by omega), by omega, by omega, HST.out.2.2 (by omega)⟩
            case measure => simp [intOf]
      · go_wp2
        go_ret3
        obtain rfl : k = 5 := by omega
        exact ⟨by rw [take_full HT.out]; rfl, rfl⟩

set_option maxRecDepth 100000 in
set_option maxHeartbeats 1000000 in
theorem take_1 (b o cap bits F : Nat) (l : List UInt8) (w : World) (hF : Full bits F) (hcap : 1 ≤ cap) (_hm : cap ≤ maxLen) (hn : 1 = l.length) (hc : ∀ j, j < 1 → w.cell? ⟨b, o + j, none⟩ = some (.int .u8 (ba l j : Int))) :
    Calls Try.prog 68 #[.slice (some ⟨b, o, none⟩) 1 cap, .int .i64 bits] w fun e w' => e = .returned (tri (takeI F l)) ∧ w = w' := by
  have h1 := hF.lo
  have h8 := hF.hi
  have hF' := hF.le
  have e1 := hF.shl64
  have e5 : decide ((bits : Int) < 1) = false := by simp; omega
  have e6 : decide (8 < (bits : Int)) = false := by simp; omega
  have hc0 : w.cell? ⟨b, o, none⟩ = some (.int .u8 (ba l 0 : Int)) := hc 0 (by omega)
  have hb0 := ba_lt l 0
  have e2 := hF.and64 hb0
  obtain ⟨r, hr⟩ : ∃ r, r = ba l 0 % (F + 1) := ⟨_, rfl⟩
  rw [← hr] at e2
  have hrF : r ≤ F := by rw [hr]; have := Nat.mod_lt (ba l 0) (show 0 < F + 1 by omega); omega
  have HR := Lib.hid hr
  have HN := Lib.hid hn
  clear hr hn hc
  unfold maxLen at _hm
  go_enter Try.func68, Try.ntmps68
  by_cases hsm : r < F
  · go_wp2
    go_ret3
    exact ⟨by rw [take_small (by have := HN.out; omega) HR.out hsm]; rfl, rfl⟩
  · by_cases hc1 : cap = 1
    · subst hc1
      go_wp2
      refine wp_loop_rounds 1 ?_
      rw [rounds_succ]
      go_wp2
      go_ret3
      exact ⟨by rw [take_end (take_big (by have := HN.out; omega) HR.out hsm) (by omega) (by have := HN.out; omega)]; rfl, rfl⟩
    · go_wp2
      refine wp_loop_rounds 1 ?_
      rw [rounds_succ]
      go_wp2
      go_ret3
      exact ⟨by rw [take_end (take_big (by have := HN.out; omega) HR.out hsm) (by omega) (by have := HN.out; omega)]; rfl, rfl⟩

/-- TakeInt, whatever the bytes: a prefix of 1 to 8 bits. -/
theorem take_any {A : Option Addr} {B n cap bits F : Nat} {l : List UInt8} {w : World} (hF : Full bits F) (hr : Rd w B 1 A n (bvs l)) (hcap : n ≤ cap) (hm : cap ≤ maxLen) :
    Calls Try.prog 68 #[.slice A n cap, .int .i64 bits] w fun e w' => e = .returned (tri (takeI F l)) ∧ w = w' := by
  rcases Nat.eq_zero_or_pos n with rfl | hn
  · have hl := hr.blen
    have hl0 : l = [] := List.eq_nil_of_length_eq_zero hl
    subst hl0
    have h1 := hF.lo
    have h8 := hF.hi
    clear hr hl
    go_enter Try.func68, Try.ntmps68
    go_wp2
    go_ret3
    exact ⟨rfl, rfl⟩
  · obtain ⟨hl, b, o, rfl, -, hc⟩ := hr.bas hn
    rcases Nat.lt_trichotomy n 6 with h6 | h6 | h6
    · rcases Nat.lt_or_ge 1 n with h1 | h1
      · exact take_lt6 b o n cap bits F l w hF h1 h6 hcap hm hl.symm hc
      · obtain rfl : n = 1 := by omega
        exact take_1 b o cap bits F l w hF hcap hm hl.symm hc
    · subst h6
      exact take_eq6 b o cap bits F l w hF hcap hm hl.symm hc
    · exact take_gt6 b o n cap bits F l w hF h6 hcap hm hl.symm hc
end Go.Proofs.Ytfpcamkimjecdaa

/- The walk of drawbridgeref03.PutInt: it writes what prefix.PutInt writes. -/
namespace Go.Proofs.Ytfpcamkimjecdaa
open Go.RowKit

/-- The doubling loop: behind k rounds the number is 2^k. -/
def DblRel (kd : IntKind) (bits : Nat) (a i : Value) : Prop := ∃ k p : Nat, i = .int .i64 k ∧ a = .int kd p ∧ k ≤ bits ∧ p = 2 ^ k ∧ p ≤ 256
theorem DblRel.next {bits k p : Nat} (h : p = 2 ^ k) (hk : k < bits) (hb : bits ≤ 8) : p * 2 = 2 ^ (k + 1) ∧ p ≤ 128 := by
  subst h
  refine ⟨by rw [Nat.pow_succ], ?_⟩
  exact Nat.pow_le_pow_right (by omega) (show k ≤ 7 by omega)

end Go.Proofs.Ytfpcamkimjecdaa

/- The walks of drawbridgeref01.Bytes, drawbridgelaw03.counts, PrefixPuts. -/
namespace Go.Proofs.Ytfpcamkimjecdaa
open Go.RowKit

/-- The lowest bits of flags, one by one. -/
def LowRel (f bits : Nat) (low i : Value) : Prop := ∃ k p : Nat, i = .int .i64 k ∧ low = .int .u8 p ∧ k ≤ bits ∧ (k ≤ 7 → p = 2 ^ k) ∧ 1 ≤ p ∧ p ≤ 128 ∧ f % 2 ^ k = 0

theorem low_next {f k q : Nat} (h0 : f % 2 ^ k = 0) (hq : q = f / 2 ^ k) (h1 : q % 2 = 0) : f % 2 ^ (k + 1) = 0 := by
  subst hq
  rw [Nat.mod_pow_succ, h0, h1]; simp

theorem put_ok (f bits n F : Nat) (w : World) (hF : Full bits F) (hf : f < 256) (hfl : f % (F + 1) = 0) (hn32 : n < 4294967296) :
    Calls Try.prog 48 #[.int .u8 f, .int .i64 bits, .int .u32 n] w (RetBE w (putB f F n) 0) := by
  by_cases hn : n < F
  · exact put_small f bits n F w hF hf hfl hn
  · exact put_big f bits n F w hF hf hfl (by omega) hn32

theorem low_zero {f k q B : Nat} (h : f % 2 ^ B = 0) (hk : k < B) (hq : q = f / 2 ^ k) : q % 2 = 0 := by
  subst hq
  obtain ⟨d, rfl⟩ : ∃ d, B = k + 1 + d := ⟨B - (k + 1), by omega⟩
  have h2 : f % 2 ^ (k + 1) = 0 := by
    have := Nat.mod_mod_of_dvd f (show 2 ^ (k + 1) ∣ 2 ^ (k + 1 + d) from ⟨2 ^ d, by rw [Nat.pow_add]⟩)
    rw [h] at this
    simpa using this.symm
  rw [Nat.mod_pow_succ] at h2
  have hp : 0 < 2 ^ k := Nat.pow_pos (by decide)
  rcases Nat.mod_two_eq_zero_or_one (f / 2 ^ k) with h0 | h0
  · exact h0
  · rw [h0] at h2; omega

end Go.Proofs.Ytfpcamkimjecdaa

/- The walk of huff.lengths; a whole array out of a block. -/
namespace Go.Proofs.Ytfpcamkimjecdaa
open Go.RowKit

/-- The lengths, as cells. -/
def lensV : List Value := lensN.map fun n : Nat => Value.int .u8 (n : Int)
theorem lensV_ints : lensV = (lensN.map fun n : Nat => (n : Int)).map (Value.int .u8) := by rw [List.map_map]; rfl
theorem lensV_length : lensV.length = 257 := by decide +kernel
theorem lensV_get {i : Nat} (hi : i < 257) : lensV[i]? = some (.int .u8 ((lensN.getD i 0 : Nat) : Int)) := by
  have hl : i < lensN.length := by rw [tab_lengths.1]; exact hi
  simp [lensV, List.getD, List.getElem?_eq_getElem hl]

set_option maxRecDepth 100000 in
set_option maxHeartbeats 1000000 in
theorem lengths_any (w : World) : Calls Try.prog 76 #[] w fun e w' => e = .returned (.agg lensV.toArray) ∧ Below w.heap.size w w' := by
  go_enter Try.func76, Try.ntmps76
  go_step; go_step; go_step
  refine Great.wpList_runTo rfl (some 0) rfl (.pointer (some ⟨w.heap.size, 0, none⟩)) (w.alloc (.cells (Array.replicate 257 (.int .u8 0)) 139)) (by kernel_rfl) ?_
  go_step; go_step; go_step; go_step; go_step
  refine wpList_buildFlatArrTo rfl 139 5 257 _ rfl .u8 (lensN.map fun n : Nat => (n : Int)) (some 1) rfl Try.underlying139 (by kernel_rfl) (by kernel_rfl) (by kernel_rfl) ?_
  rw [← lensV_ints]
  refine wpList_store_rowTo rfl 139 _ _ rfl rfl w.heap.size lensV.toArray rfl rfl 139 (Array.replicate 257 (.int .u8 0)) (heap_alloc_new w _) (by kernel_rfl) (by kernel_rfl) (by kernel_rfl) ?_
  go_wp2_with fail
  refine bodyPost_ret (results_cell_row rfl _ _ w.heap.size 139 lensV.toArray (0, 0) _ rfl (setRow_heap _ _ _ _ _ _ (heap_alloc_new w _)) Try.underlying139 rfl (by kernel_rfl)) rfl ?_
  exact ⟨rfl, ((Below.refl _ _).alloc (Nat.le_refl _) _).trans ⟨rfl, rfl, rfl, by simp, fun k hk => setRow_other _ _ _ _ (by omega)⟩⟩

section
variable {P : Program}
/-- An element of an array that is a value. -/
theorem run_index_arr {t e : TypeId} {n : Nat} {k ki : IntKind} (ht : P.underlying t = some (.array n e)) (he : P.underlying e = some (.int k)) (hsz : (P.info? e).map (·.size) = some 1)
    {cs : List Value} {i : Nat} {v : Value} (w : World) (hi : i < n) (hv : cs[i]? = some v) : (Instr.index t (.agg cs.toArray) (.int ki (i : Int))).run P w = .ok v w := by
  cases hq : P.info? e with
  | none => simp [hq] at hsz
  | some ie =>
    have hs : ie.size = 1 := by simpa [hq] using hsz
    have hag : (isAgg e).run P w = .ok false w := by
      unfold isAgg
      rw [Sem.run_bind, run_underlying he w]
      rfl
    simp [Instr.index, asIntOf, run_underlying ht, sizeOf, typeInfo, hq, hs, part, hag, hi, hv]
/-- A whole array loaded out of the middle of a block. -/
theorem wpList_load_part {ops : Array Oper} {rest : List Oper} {o : Oper} {a : Act} {w : World} {Q : Exit → Act → World → Prop} (ty : TypeId) (x : Operand) (hgd : o.guard = none) (ho : o.op = .load ty x)
    (g off : Nat) (cs : List Value) (d : TypeDesc) (hx : a.eval x = .pointer (some ⟨g, off, none⟩)) (hc : ∀ j v, cs[j]? = some v → w.cell? ⟨g, off + j, none⟩ = some v)
    (hu : P.underlying ty = some d) (hd : (match d with | .struct _ | .array _ _ => true | _ => false) = true) (hi : (P.info? ty).map (·.size) = some cs.length)
    (h : wpList P ops Q rest (a.put o.dst (.agg cs.toArray)) w) : wpList P ops Q (o :: rest) a w := by
  refine wpList_plain hgd fun _ hK => ?_
  have hl : (loadCells ⟨g, off, none⟩ cs.length).run P w = .ok cs.toArray w :=
    run_loadCells_list (P := P) w ⟨g, off, none⟩ cs (fun j v hv => by rw [Addr.add_lit]; exact hc j v hv)
  have hrun : (loadVar ty ⟨g, off, none⟩).run P w = .ok (.agg cs.toArray) w := by
    cases hq : P.info? ty with
    | none => simp [hq] at hi
    | some i =>
      have hs : i.size = cs.length := by simpa [hq] using hi
      have hagg : (isAgg ty).run P w = .ok true w := by
        unfold isAgg
        rw [Sem.run_bind, run_underlying hu w]
        cases d <;> simp_all
      simp [loadVar, Sem.run_bind, hagg, sizeOf, typeInfo, hq, hs, hl]
  unfold Oper.wp execOp
  simp only [ho, hx, Instr.loadAt, Instr.sureAddr, Sem.run_bind, Sem.run_pure, Result.andThen_ok, hrun]
  exact hK _ _ h
end

end Go.Proofs.Ytfpcamkimjecdaa

/- The walk of huff.open. -/
namespace Go.Proofs.Ytfpcamkimjecdaa
open Go.RowKit

/-- The book's block. -/
def Book (w : World) (B : Nat) (m : List Nat) (st : OSt) : Prop := w.heap[B]? = some (.cells (blk m st).toArray 149 (0, 0))
theorem Book.cell {w : World} {B : Nat} {m : List Nat} {st : OSt} (h : Book w B m st) (i : Nat) : w.cell? ⟨B, i, none⟩ = (blk m st)[i]? := by
  rw [cell_of_row w B i _ _ (0, 0) h]; simp
theorem Book.frozen {w : World} {B : Nat} {m : List Nat} {st : OSt} (h : Book w B m st) (i : Nat) : w.frozen? ⟨B, i, none⟩ = false := frozen_of_row w B i _ _ h
theorem Book.lt {w : World} {B : Nat} {m : List Nat} {st : OSt} (h : Book w B m st) : B < w.heap.size := (Array.getElem?_eq_some_iff.1 h).1
theorem Book.set_ {w : World} {B : Nat} {m m' : List Nat} {st st' : OSt} (h : Book w B m st) (i : Nat) (v : Value) (hs : (blk m st).set i v = blk m' st') : Book (w.setCell ⟨B, i, none⟩ v) B m' st' := by
  have := heap_setCell_same w B i _ _ v h
  unfold Book
  rw [this, ← hs]
  simp
theorem Book.set2 {w : World} {B : Nat} {m m' : List Nat} {st st' : OSt} (h : Book w B m st) (i j : Nat) (u v : Value) (hs : ((blk m st).set i u).set j v = blk m' st') :
    Book ((w.setCell ⟨B, i, none⟩ u).setCell ⟨B, j, none⟩ v) B m' st' := by
  have h1 := heap_setCell_same w B i _ _ u h
  have h2 := heap_setCell_same _ B j _ _ v h1
  unfold Book
  rw [h2, ← hs]
  simp
/-- The loop over the lengths; over the symbols. -/
def LenRel (W : World) (B : Nat) (p c i : Value) (w : World) : Prop :=
  ∃ n : Nat, i = .int .i64 n ∧ n ≤ 31 ∧ p = .int .i64 ((OSt.at_ n).pos : Int) ∧ c = .int .u32 ((OSt.at_ n).code : Int) ∧ Book w B manyT (OSt.at_ n) ∧ Below W.heap.size W w
def SymRel (W : World) (B n : Nat) (p c i : Value) (w : World) : Prop :=
  ∃ s : Nat, i = .int .i64 s ∧ s ≤ 257 ∧ p = .int .i64 ((OSt.inner n s (OSt.begin n (OSt.at_ n))).pos : Int) ∧ c = .int .u32 ((OSt.inner n s (OSt.begin n (OSt.at_ n))).code : Int) ∧
    Book w B manyT (OSt.inner n s (OSt.begin n (OSt.at_ n))) ∧ Below W.heap.size W w
/-- The counting loop. -/
def CntRel (W : World) (B : Nat) (i : Value) (w : World) : Prop := ∃ k : Nat, i = .int .i64 k ∧ k ≤ 257 ∧ Book w B (cntAt k) OSt.zero ∧ Below W.heap.size W w

set_option maxRecDepth 100000 in
set_option maxHeartbeats 2000000 in
theorem open_any (w : World) : Calls Try.prog 77 #[] w fun e w' => ∃ B, e = .returned (.pointer (some ⟨B, 0, none⟩)) ∧ Book w' B manyT (OSt.at_ 31) ∧ w.heap.size ≤ B ∧ Below w.heap.size w w' := by
  have hidx : ∀ (i : Nat) (w : World), i < 257 → (Instr.index 139 (.agg lensV.toArray) (.int .i64 (i : Int))).run Try.prog w = .ok (.int .u8 ((lensN.getD i 0 : Nat) : Int)) w :=
    fun i w hi => run_index_arr Try.underlying139 Try.underlying5 (by kernel_rfl) w hi (lensV_get hi)
  have HIDX := Lib.hid hidx
  clear hidx
  go_enter Try.func77, Try.ntmps77
  go_wp2_with fail
  refine (lengths_any w).mono ?_
  rintro e w1 ⟨rfl, hb1⟩
  simp only []
  go_step
  refine wpList_buildTo rfl 149 _ rfl (some 9) rfl (blk (List.replicate 31 0) OSt.zero).toArray (by kernel_rfl) ?_
  refine Great.wpList_boxTo rfl 149 _ rfl (some 10) rfl w1.heap.size rfl (blk (List.replicate 31 0) OSt.zero).toArray rfl ?_
  have hbk : Book (w1.alloc (.cells (blk (List.replicate 31 0) OSt.zero).toArray 149)) w1.heap.size (cntAt 0) OSt.zero := heap_alloc_new w1 _
  have hbel := hb1.alloc hb1.size (.cells (blk (List.replicate 31 0) OSt.zero).toArray 149)
  generalize w1.alloc (.cells (blk (List.replicate 31 0) OSt.zero).toArray 149) = w2 at hbk hbel ⊢
  have hB := hb1.size
  generalize w1.heap.size = B at hbk hB ⊢
  have HBK := Lib.hid hbk
  clear hbk hb1
  generalize (blk (List.replicate 31 0) OSt.zero).toArray = arr0
  go_wp2_with (first | (with_reducible refine wpList_load_part 139 (.tmp 13) rfl rfl B 0 lensV _ rfl ?_ Try.underlying139 rfl (by kernel_rfl) ?_))
  · intro j v hj
    have hj' : j < 257 := by rw [← lensV_length]; exact (List.getElem?_eq_some_iff.1 hj).1
    rw [Nat.zero_add, HBK.out.cell, blk_size hj', ← lensV_get hj']
    exact hj
  go_loopw [15] (CntRel w B) (fun i _ => 257 - (intOf i).toNat)
  case atStart => exact ⟨0, rfl, by omega, HBK.out, hbel⟩
  case round =>
    obtain ⟨k, rfl, hk, hbk, hbel'⟩ := hrel
    have hBw := hbk.lt
    by_cases hlt : k < 257
    · have hi := HIDX.out k wr hlt
      have hn := lens_le k
      have hcell := hbk.cell (545 + lensN.getD k 0)
      rw [blk_many (cnt_length k) OSt.Wf.zero (show lensN.getD k 0 < 31 by omega)] at hcell
      have hfro := hbk.frozen (545 + lensN.getD k 0)
      have hnext := cnt_next hlt
      have hset := set_many (cnt_length k) OSt.Wf.zero (show lensN.getD k 0 < 31 by omega) ((cntAt k).getD (lensN.getD k 0) 0 + 1)
      rw [← cntStep, ← hnext] at hset
      have hc := cnt_le k (lensN.getD k 0) (by omega)
      generalize lensN.getD k 0 = n at *
      generalize (cntAt k).getD n 0 = c at *
      have HBK := Lib.hid hbk
      have HS := Lib.hid hset
      clear hbk hset hnext
      have hn31 : (n : Int) < 31 := by omega
      go_wp2
      go_region
      go_wp2
      go_roundw
      case rel => exact ⟨k + 1, by go_num, by omega, HBK.out.set_ _ _ HS.out, (hbel'.setCell (p := ⟨B, _, none⟩) hB _).drew⟩
      case measure => simp [intOf]; omega
    · obtain rfl : k = 257 := by omega
      rw [cnt_end] at hbk
      have HBK := Lib.hid hbk
      clear hbk
      have hmany : manyT.length = 31 := tab_lengths.2.2.2.1
      go_wp2
      go_loopw [4, 5, 29] (LenRel w B) (fun _ _ i _ => 31 - (intOf i).toNat)
      case atStart => exact ⟨0, rfl, by omega, rfl, rfl, HBK.out, hbel'⟩
      case round =>
        obtain ⟨n, rfl, hn, rfl, rfl, hbk, hbel'⟩ := hrel
        have hBw := hbk.lt
        by_cases hlt : n < 31
        · have hcell1 := hbk.cell (514 + n)
          rw [blk_first (OSt.Wf.at_ n) hlt] at hcell1
          have hcell2 := hbk.cell (576 + n)
          rw [blk_from hmany (OSt.Wf.at_ n) hlt] at hcell2
          have hfro1 := hbk.frozen (514 + n)
          have hfro2 := hbk.frozen (576 + n)
          have hset := set_begin hmany (OSt.Wf.at_ n) hlt
          have hc32 := (OSt.Wf.at_ n).code
          have hpos := hpos_at n
          have hi0 : (OSt.inner n 0 (OSt.begin n (OSt.at_ n))) = OSt.begin n (OSt.at_ n) := rfl
          have hp0 : (OSt.begin n (OSt.at_ n)).pos = (OSt.at_ n).pos := rfl
          have hc0 : (OSt.begin n (OSt.at_ n)).code = (OSt.at_ n).code * 2 % 4294967296 := rfl
          generalize (OSt.at_ n).pos = p at *
          generalize (OSt.at_ n).code = c at *
          have HBK := Lib.hid hbk
          have HS := Lib.hid hset
          have HI := Lib.hid (And.intro hi0 (And.intro hp0 hc0))
          clear hbk hset hi0 hp0 hc0
          have hn31 : (n : Int) < 31 := by omega
          go_wp2
          go_region
          go_wp2
          go_loopw [4, 5, 46] (SymRel w B n) (fun _ _ i _ => 257 - (intOf i).toNat)
          case atStart =>
            refine ⟨0, rfl, by omega, ?_, ?_, ?_, ?_⟩
            · rw [HI.out.1, HI.out.2.1]
            · rw [HI.out.1, HI.out.2.2]; congr 1
            · rw [HI.out.1]
              exact HBK.out.set2 _ _ _ _ HS.out
            · exact ((hbel'.setCell (p := ⟨B, _, none⟩) hB _).setCell (p := ⟨B, _, none⟩) hB _).drew
          case round =>
            clear hcell1 hcell2 hfro1 hfro2
            obtain ⟨s, rfl, hs, rfl, rfl, hbk, hbel''⟩ := hrel
            have hBw := hbk.lt
            have hwf : (OSt.inner n s (OSt.begin n (OSt.at_ n))).Wf := ((OSt.Wf.at_ n).begin n).inner hs
            have hc32 := hwf.code
            have hposs := pos_le hs (n := n) (OSt.begin n (OSt.at_ n))
            rw [HI.out.2.1] at hposs
            by_cases hlt : s < 257
            · have hnext := inner_next n (OSt.begin n (OSt.at_ n)) hlt
              have hcell := hbk.cell s
              rw [blk_size hlt] at hcell
              by_cases heq : lensN.getD s 0 = n
              · have hroom := pos_room (by omega) hlt heq
                have hset := set_sym hmany hwf hlt hroom heq
                rw [← hnext] at hset
                have hcell3 := hbk.cell (607 + (OSt.inner n s (OSt.begin n (OSt.at_ n))).pos)
                rw [blk_sym hmany hwf hroom] at hcell3
                have hfro3 := hbk.frozen (607 + (OSt.inner n s (OSt.begin n (OSt.at_ n))).pos)
                have hcell4 := hbk.cell (257 + s)
                rw [blk_code hwf hlt] at hcell4
                have hfro4 := hbk.frozen (257 + s)
                have hp1 : (OSt.inner n (s + 1) (OSt.begin n (OSt.at_ n))).pos = (OSt.inner n s (OSt.begin n (OSt.at_ n))).pos + 1 := by rw [hnext, OSt.sym1, if_pos heq]
                have hc1 : (OSt.inner n (s + 1) (OSt.begin n (OSt.at_ n))).code = ((OSt.inner n s (OSt.begin n (OSt.at_ n))).code + 1) % 4294967296 := by rw [hnext, OSt.sym1, if_pos heq]
                generalize (OSt.inner n s (OSt.begin n (OSt.at_ n))).pos = p1 at *
                generalize (OSt.inner n s (OSt.begin n (OSt.at_ n))).code = c1 at *
                have HBK := Lib.hid hbk
                have HS := Lib.hid hset
                have HI := Lib.hid (And.intro hp1 hc1)
                rw [heq] at hcell
                clear hbk hset hp1 hc1 hnext heq
                have hs257 : (s : Int) < 257 := by omega
                have hp257 : (p1 : Int) < 257 := by omega
                go_wp2
                go_region
                go_wp2
                refine ⟨⟨s + 1, by go_num, by omega, ?_, ?_, HBK.out.set2 _ _ _ _ HS.out, ((hbel''.setCell (p := ⟨B, _, none⟩) hB _).setCell (p := ⟨B, _, none⟩) hB _).drew⟩, by simp [intOf]; omega⟩
                · rw [HI.out.1]; go_num
                · rw [HI.out.2]; go_num
              · have hnext' : OSt.inner n (s + 1) (OSt.begin n (OSt.at_ n)) = OSt.inner n s (OSt.begin n (OSt.at_ n)) := by rw [hnext, OSt.sym1, if_neg heq]
                have heqb : (((lensN.getD s 0 : Nat) : Int) == (n : Int)) = false := by rw [beq_eq_false_iff_ne]; omega
                have hls := lens_le s
                generalize lensN.getD s 0 = ls at *
                generalize hp1 : (OSt.inner n s (OSt.begin n (OSt.at_ n))).pos = p1 at *
                generalize hc1 : (OSt.inner n s (OSt.begin n (OSt.at_ n))).code = c1 at *
                have HBK := Lib.hid hbk
                have HI := Lib.hid (And.intro hp1 hc1)
                have HN := Lib.hid hnext'
                clear hbk hp1 hc1 hnext heq hnext'
                go_wp2
                refine ⟨⟨s + 1, by go_num, by omega, ?_, ?_, by rw [HN.out]; exact HBK.out, hbel''⟩, by simp [intOf]; omega⟩
                · rw [HN.out, HI.out.1]
                · rw [HN.out, HI.out.2]
            · obtain rfl : s = 257 := by omega
              rw [← at_next] at *
              have hp2 := hpos_at (n + 1)
              generalize hp1 : (OSt.at_ (n + 1)).pos = p1 at *
              generalize hc1 : (OSt.at_ (n + 1)).code = c1 at *
              have HBK := Lib.hid hbk
              have HI := Lib.hid (And.intro hp1 hc1)
              clear hbk hp1 hc1
              go_wp2
              refine ⟨⟨n + 1, by go_num, by omega, ?_, ?_, HBK.out, hbel''⟩, by simp [intOf]; omega⟩
              · rw [HI.out.1]
              · rw [HI.out.2]
        · obtain rfl : n = 31 := by omega
          have HBK := Lib.hid hbk
          clear hbk
          go_wp2
          go_ret
          exact ⟨B, rfl, HBK.out, hB, hbel'⟩
end Go.Proofs.Ytfpcamkimjecdaa
