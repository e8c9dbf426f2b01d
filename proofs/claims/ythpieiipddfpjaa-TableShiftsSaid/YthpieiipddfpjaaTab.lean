/- A table in memory; the walks of table.New, Most, Size, Len, cost. -/
import Derived.Test.YthpieiipddfpjaaChecked
import Derived.Test.YthpieiipddfpjaaLies
import Derived.Test.YthpieiipddfpjaaTabPlain
import Derived.Maps.OwnOps
import Derived.DeepKeys4
import Derived.MapViews
import Derived.ChangeSame
namespace Go.Proofs.Ythpieiipddfpjaa
open Go.RowKit Go.Maps

theorem laidOutT : laidOutB Try.prog = true := by kernel_rfl
theorem rowRow : (85 : TypeId) < Try.prog.types.size := of_decide_eq_true (by kernel_rfl)
theorem wideRow : (match Try.prog.underlying 85 with | some (.array _ _) | some (.struct _) => true | _ => false) = true := by kernel_rfl
set_option maxRecDepth 100000 in
theorem lawRow : Keyed Try.prog 85 := Keyed.of_law (deep_law_laid laidOutT (m := 3) (by omega) rowRow (by kernel_rfl) wideRow)
theorem lawStr : Keyed Try.prog 9 := string_keyed Try.underlying9
theorem zeroInt (w : World) : (zeroValue 3).run Try.prog w = .ok (.int .i64 0) w := by kernel_rfl
theorem tRows : SlT Try.prog 80 85 (.agg #[.string ByteArray.empty, .string ByteArray.empty]) 2 32 :=
  ⟨Try.underlying80, by kernel_rfl, rfl, by decide⟩

def rowV (r : Rw) : Value := .agg #[.string r.1, .string r.2]
def rcs (l : List Rw) : List Value := l.flatMap fun r => [.string r.1, .string r.2]
theorem rcs_cons (r : Rw) (l : List Rw) : rcs (r :: l) = .string r.1 :: .string r.2 :: rcs l := rfl
theorem rcs_length (l : List Rw) : (rcs l).length = l.length * 2 := by
  induction l with
  | nil => rfl
  | cons p l ih => rw [rcs_cons]; simp only [List.length_cons, ih]; omega
theorem rcs_get {l : List Rw} : ∀ {i : Nat} {r : Rw}, l[i]? = some r → (rcs l)[i * 2]? = some (.string r.1) ∧ (rcs l)[i * 2 + 1]? = some (.string r.2) := by
  induction l with
  | nil => intro i p h; simp at h
  | cons q L ih =>
    intro i p h
    rw [rcs_cons]
    cases i with
    | zero => simp at h; subst h; exact ⟨rfl, rfl⟩
    | succ i =>
      have := ih (i := i) (r := p) (by simpa using h)
      rw [show (i + 1) * 2 = i * 2 + 1 + 1 by omega]
      simpa using this
theorem rcs_app (l k : List Rw) : rcs (l ++ k) = rcs l ++ rcs k := by simp [rcs, List.flatMap_append]
theorem rcs_drop (r : Rw) (l : List Rw) : (rcs (r :: l)).drop 2 = rcs l := rfl

def okS (s : ByteArray) : Prop := s.size ≤ maxLen
def okR (r : Rw) : Prop := okS r.1 ∧ okS r.2
def strKey (s : ByteArray) : Lit := .string s.data.toList
theorem strKey_ok {s : ByteArray} (h : okS s) : keyOf Try.prog 9 (.string s) = some (strKey s) := WideMaps.keyOf_string_mk Try.underlying9 h
theorem keyTypeRow : Try.prog.keyType 85 = true := by kernel_rfl
theorem cellsRow : Try.prog.cellsOf 85 = 2 := by kernel_rfl
theorem cellsStr : Try.prog.cellsOf 9 = 1 := by kernel_rfl
theorem keyLits_str (d : Nat) {s : ByteArray} (h : okS s) : Try.prog.keyLits (d + 1) 9 [.string s] = some [.string s.data.toList] := by
  unfold Program.keyLits
  rw [Try.underlying9]
  simp only
  exact if_pos h
theorem keyLits_row (d : Nat) {r : Rw} (h : okR r) : Try.prog.keyLits (d + 2) 85 [.string r.1, .string r.2] = some [.string r.1.data.toList, .string r.2.data.toList] := by
  have h1 := keyLits_str d h.1
  have h2 := keyLits_str d h.2
  unfold Program.keyLits
  rw [Try.underlying85]
  simp only
  rw [if_pos ⟨by rw [cellsRow]; rfl, by simp⟩]
  simp [cellsStr, h1, h2]
theorem rowKey_ex {r : Rw} (h : okR r) : ∃ l, keyOf Try.prog 85 (rowV r) = some l := by
  obtain ⟨d, hd⟩ : ∃ d, Try.prog.types.size + 1 = d + 2 := ⟨Try.prog.types.size - 1, by have h := Nat.lt_of_le_of_lt (Nat.zero_le _) rowRow; omega⟩
  have hf : (rowV r).formed Try.prog 85 = true := by
    unfold rowV
    simp [Value.formed, Try.underlying85, cellsRow]
  refine ⟨.string (keyBytes [.string r.1.data.toList, .string r.2.data.toList]), ?_⟩
  unfold keyOf
  rw [Try.underlying85]
  simp only
  rw [keyTypeRow, hf, hd]
  simp only [Bool.and_self, if_true]
  rw [show (rowV r).cells.toList = [.string r.1, .string r.2] from rfl, keyLits_row d h]
  rfl
noncomputable def rowKey (r : Rw) : Lit := (keyOf Try.prog 85 (rowV r)).getD (.bool true)
theorem rowKey_ok {r : Rw} (h : okR r) : keyOf Try.prog 85 (rowV r) = some (rowKey r) := by
  obtain ⟨l, hl⟩ := rowKey_ex h
  unfold rowKey
  rw [hl]; rfl
theorem rowKey_ne (a b : Rw) (ha : okR a) (hb : okR b) (h : a ≠ b) : rowKey a ≠ rowKey b := by
  intro e
  have h1 := rowKey_ok ha
  rw [e] at h1
  have := Keyed.inj lawRow h1 (rowKey_ok hb)
  obtain ⟨a1, a2⟩ := a
  obtain ⟨b1, b2⟩ := b
  simp [rowV] at this
  exact h (by rw [this.1, this.2])
set_option maxRecDepth 100000 in
theorem rowKey_lit (a : Rw) (ha : okR a) : WideAt.IsKeyLit (rowKey a) := Keyed.key lawRow (rowKey_ok ha)
theorem strKey_ne (a b : ByteArray) (ha : okS a) (hb : okS b) (h : a ≠ b) : strKey a ≠ strKey b := by
  intro e
  have h1 := strKey_ok ha
  rw [e] at h1
  have := Keyed.inj lawStr h1 (strKey_ok hb)
  simp at this
  exact h this
set_option maxRecDepth 100000 in
theorem strKey_lit (a : ByteArray) (ha : okS a) : WideAt.IsKeyLit (strKey a) := Keyed.key lawStr (strKey_ok ha)

/-- A table's blocks. -/
def foot (g mb mn : Nat) (A : Option Addr) (k : Nat) : Prop := k = g ∨ k = mb ∨ k = mn ∨ ∃ a, A = some a ∧ a.block = k
/-- A table in memory, as it lies there. -/
structure Raw (w : World) (g mb mn : Nat) (A : Option Addr) (c N : Nat) (most size gone : Int) (rows : List Rw) (fb : Rw → Option Int) (fn : ByteArray → Option Int) : Prop where
  book : w.heap[g]? = some (.cells #[.int .i64 most, .int .i64 size, .slice A rows.length c, .int .i64 gone, .map (some mb), .map (some mn)] 82 (0, 0))
  row : Lies w 85 2 (.slice A rows.length c) rows.length (rcs rows)
  both : ∃ D : DataW Unit, w.ownsMap Try.prog 85 (plainElem Try.prog 3) mb N D ∧ View rowKey okR D fb
  name : ∃ D : DataW Unit, w.ownsMap Try.prog 9 (plainElem Try.prog 3) mn N D ∧ View strKey okS D fn
  ne : g ≠ mb ∧ g ≠ mn ∧ mb ≠ mn
  apart : ∀ a, A = some a → a.block ≠ g ∧ a.block ≠ mb ∧ a.block ≠ mn
section
variable {w w' : World} {g mb mn c N : Nat} {A : Option Addr} {most size gone : Int} {rows : List Rw} {fb : Rw → Option Int} {fn : ByteArray → Option Int}
theorem Raw.lt (h : Raw w g mb mn A c N most size gone rows fb fn) : ∀ k, foot g mb mn A k → k < w.heap.size := by
  rintro k (rfl | rfl | rfl | ⟨a, ha, rfl⟩)
  · exact (Array.getElem?_eq_some_iff.1 h.book).1
  · obtain ⟨D, hD, _⟩ := h.both; exact hD.lt
  · obtain ⟨D, hD, _⟩ := h.name; exact hD.lt
  · obtain ⟨A', c', hv, _, _, hb⟩ := h.row.form
    injection hv with e1
    subst e1
    exact hb a ha
theorem Raw.keep (h : Raw w g mb mn A c N most size gone rows fb fn) (hk : ∀ k, foot g mb mn A k → w'.heap[k]? = w.heap[k]?) : Raw w' g mb mn A c N most size gone rows fb fn := by
  obtain ⟨D1, ⟨e1, l1, a1, b1⟩, v1⟩ := h.both
  obtain ⟨D2, ⟨e2, l2, a2, b2⟩, v2⟩ := h.name
  refine ⟨(hk g (.inl rfl)).trans h.book, h.row.keep fun q hq => hk q ?_, ⟨D1, ⟨e1, l1, (hk mb (.inr (.inl rfl))).trans a1, b1⟩, v1⟩, ⟨D2, ⟨e2, l2, (hk mn (.inr (.inr (.inl rfl)))).trans a2, b2⟩, v2⟩, h.ne, h.apart⟩
  cases A with
  | none => cases hq
  | some a => exact .inr (.inr (.inr ⟨a, rfl, by simpa [Value.ownBlock] using hq⟩))
theorem Raw.alloc (h : Raw w g mb mn A c N most size gone rows fb fn) (o : Obj) : Raw (w.alloc o) g mb mn A c N most size gone rows fb fn := h.keep fun k hk => Below.heap_alloc _ _ _ (h.lt k hk)
theorem Raw.cells (h : Raw w g mb mn A c N most size gone rows fb fn) : w.cell? ⟨g, 0, none⟩ = some (.int .i64 most) ∧ w.cell? ⟨g, 1, none⟩ = some (.int .i64 size) ∧ w.cell? ⟨g, 2, none⟩ = some (.slice A rows.length c) ∧
    w.cell? ⟨g, 3, none⟩ = some (.int .i64 gone) ∧ w.cell? ⟨g, 4, none⟩ = some (.map (some mb)) ∧ w.cell? ⟨g, 5, none⟩ = some (.map (some mn)) := by
  refine ⟨?_, ?_, ?_, ?_, ?_, ?_⟩ <;> (unfold World.cell?; rw [h.book]; rfl)
theorem Raw.free (h : Raw w g mb mn A c N most size gone rows fb fn) (o : Nat) : w.frozen? ⟨g, o, none⟩ = false := by
  unfold World.frozen?; rw [h.book]; simp
/-- A row's cells. -/
theorem Raw.at_ (h : Raw w g mb mn A c N most size gone rows fb fn) {i : Nat} {r : Rw} (hi : rows[i]? = some r) : ∃ q o, A = some ⟨q, o, none⟩ ∧ q < w.heap.size ∧ w.cell? ⟨q, o + i * 2, none⟩ = some (.string r.1) ∧ w.cell? ⟨q, o + i * 2 + 1, none⟩ = some (.string r.2) := by
  have hlt : i < rows.length := (List.getElem?_eq_some_iff.1 hi).1
  obtain ⟨q, o, hA, hq, hc⟩ := (h.row.rd rfl).2 (by omega)
  have e := rcs_get hi
  exact ⟨q, o, hA, hq, (hc _ (by omega)).trans e.1, (hc (i * 2 + 1) (by omega)).trans e.2⟩
end

theorem cost_any (r : Rw) (w : World) (h1 : r.1.size ≤ 140737488355328) (h2 : r.2.size ≤ 140737488355328) :
    Calls Try.prog 48 #[.agg #[.string r.1, .string r.2]] w fun e w' => e = .returned (.int .i64 (cost r : Nat)) ∧ w' = w.alloc (.cells #[.string r.1, .string r.2] 85) := by
  go_enter Try.func48, Try.ntmps48
  go_wp2
  go_ret
  exact ⟨ret_v (by unfold cost; congr 1), rfl⟩

theorem tnew_bad (n : Int) (w : World) (h : n < 0 ∨ 65536 < n) : Calls Try.prog 15 #[.int .i64 n] w fun e w' => e = .returned (.tuple #[.pointer none, .int .i64 1]) ∧ w = w' := by
  rcases h with h | h
  · go_enter Try.func15, Try.ntmps15
    go_wp2; go_ret2; exact ⟨rfl, rfl⟩
  · have h0 : ¬ n < 0 := by omega
    go_enter Try.func15, Try.ntmps15
    go_wp2; go_ret2; exact ⟨rfl, rfl⟩

/-- A table in memory, as a table. -/
structure TM (w : World) (g mb mn : Nat) (A : Option Addr) (c N : Nat) (T : Tb) : Prop where
  raw : Raw w g mb mn A c N T.most T.size T.gone T.rows (pos T.rows T.gone) (pos (T.rows.map (·.1)) T.gone)
  ok : ∀ r ∈ T.rows, okR r
  most0 : 0 ≤ T.most
  most1 : T.most ≤ 65536
  gone0 : 0 ≤ T.gone
  many : T.gone + T.rows.length ≤ N
  few : N ≤ 1099511627776
  fits : (T.size : Int) ≤ T.most
/-- A table in memory: its block, its footprint. -/
def TabIs (w : World) (g : Nat) (F : Nat → Prop) (N : Nat) (T : Tb) : Prop := ∃ mb mn A c, F = foot g mb mn A ∧ TM w g mb mn A c N T
def TNew (n : Int) (W : World) (e : Ending) (w' : World) : Prop := ∃ g F, e = .returned (.tuple #[.pointer (some ⟨g, 0, none⟩), .int .i64 0]) ∧ TabIs w' g F 0 ⟨n, 0, []⟩ ∧ (∀ k, F k → W.heap.size ≤ k) ∧ Below W.heap.size W w'

theorem tnew_any (n : Int) (w : World) (h0 : 0 ≤ n) (h1 : n ≤ 65536) : Calls Try.prog 15 #[.int .i64 n] w (TNew n w) := by
  have hmm := @run_makeMap Try.prog
  go_enter Try.func15, Try.ntmps15
  go_wp2
  go_ret2
  refine ⟨w.heap.size + 2, foot (w.heap.size + 2) w.heap.size (w.heap.size + 1) none, rfl, ⟨w.heap.size, w.heap.size + 1, none, 0, rfl, ⟨⟨?_, Lies.nil _ _ _, ⟨.map [], ?_, View.empty _ _⟩, ⟨.map [], ?_, View.empty _ _⟩, ⟨by omega, by omega, by omega⟩, fun a ha => by cases ha⟩, (fun r hr => by cases hr), h0, h1, Int.le_refl _, by simp, by omega, h0⟩⟩, ?_, (((Below.refl _ _).alloc (Nat.le_refl _) _).alloc (by simp) _).alloc (by simp; omega) _⟩
  · have := heapNew ((w.alloc (.map #[] 0)).alloc (.map #[] 0)) (.cells #[.int .i64 n, .int .i64 0, .slice none 0 0, .int .i64 0, .map (some w.heap.size), .map (some (w.heap.size + 1))] 82)
    rw [show ((w.alloc (.map #[] 0)).alloc (.map #[] 0)).heap.size = w.heap.size + 2 by simp] at this
    exact this
  · exact ((World.ownsMap_made w _ _ _).alloc _).alloc _
  · have := (World.ownsMap_made (w.alloc (.map #[] 0)) Try.prog 9 (plainElem (H := Unit) Try.prog 3)).alloc (.cells #[.int .i64 n, .int .i64 0, .slice none 0 0, .int .i64 0, .map (some w.heap.size), .map (some (w.heap.size + 1))] 82)
    rwa [show (w.alloc (.map #[] 0)).heap.size = w.heap.size + 1 by simp] at this
  · rintro k (rfl | rfl | rfl | ⟨a, ha, _⟩)
    · omega
    · omega
    · omega
    · cases ha
end Go.Proofs.Ythpieiipddfpjaa
