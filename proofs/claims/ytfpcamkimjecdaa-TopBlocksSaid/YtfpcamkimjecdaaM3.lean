/- 6 texts in one: Tab, Tab2, Tab3, Tab4, TabRows, TabFixed. -/
import Derived.Test.YtfpcamkimjecdaaChecked
import Derived.Test.YtfpcamkimjecdaaM1
import Derived.Test.YtfpcamkimjecdaaM2
import Derived.Maps.OwnOps
import Derived.DeepKeys4
import Derived.MapViews
import Derived.ChangeSame
import Derived.StillTailTactics
import Derived.Deep.LoopGhost
import Derived.Deep.DeepCutAuto
import Derived.Deep.RegionLaw
import Derived.Deep.QuietTactic
import Derived.BigQuiet
import Derived.Outline
import Derived.IntWalk
import Derived.Great.BuildSlice
import Derived.Great.Walk
import Derived.Great.Ranges
/- A table in memory; the walks of table.New, Most, Size, Len, cost. -/
namespace Go.Proofs.Ytfpcamkimjecdaa
open Go.RowKit Go.Maps

theorem laidOutT : laidOutB Try.prog = true := by kernel_rfl
theorem rowRow : (109 : TypeId) < Try.prog.types.size := of_decide_eq_true (by kernel_rfl)
theorem wideRow : (match Try.prog.underlying 109 with | some (.array _ _) | some (.struct _) => true | _ => false) = true := by kernel_rfl
set_option maxRecDepth 100000 in
theorem lawRow : Keyed Try.prog 109 := Keyed.of_law (deep_law_laid laidOutT (m := 3) (by omega) rowRow (by kernel_rfl) wideRow)
theorem lawStr : Keyed Try.prog 9 := string_keyed Try.underlying9
theorem zeroInt (w : World) : (zeroValue 3).run Try.prog w = .ok (.int .i64 0) w := by kernel_rfl
theorem tRows : SlT Try.prog 85 109 (.agg #[.string ByteArray.empty, .string ByteArray.empty]) 2 32 :=
  ⟨Try.underlying85, by kernel_rfl, rfl, by decide⟩

def rowV (r : Rw) : Value := .agg #[.string r.1, .string r.2]
def rcs (l : List Rw) : List Value := l.flatMap fun r => [.string r.1, .string r.2]
theorem rcs_cons (r : Rw) (l : List Rw) : rcs (r :: l) = .string r.1 :: .string r.2 :: rcs l := rfl
theorem rcs_length (l : List Rw) : (rcs l).length = l.length * 2 := by
  induction l with
  | nil => rfl
  | cons p l ih => rw [rcs_cons]; simp only [List.length_cons, ih]; omega
theorem rcs_get {l : List Rw} : ∀ {i : Nat} {r : Rw}, l[i]? = some r → (rcs l)[i * 2]? = some (.string r.1) ∧ (rcs l)[i * 2 + 1]? = some (.string r.2) := by
  induction l with
  | nil => intro i p h; simp at h
  | cons q L ih =>
    intro i p h
    rw [rcs_cons]
    cases i with
    | zero => simp at h; subst h; exact ⟨rfl, rfl⟩
    | succ i =>
      have := ih (i := i) (r := p) (by simpa using h)
      rw [show (i + 1) * 2 = i * 2 + 1 + 1 by omega]
      simpa using this
theorem rcs_app (l k : List Rw) : rcs (l ++ k) = rcs l ++ rcs k := by simp [rcs, List.flatMap_append]
theorem rcs_drop (r : Rw) (l : List Rw) : (rcs (r :: l)).drop 2 = rcs l := rfl

def okS (s : ByteArray) : Prop := s.size ≤ maxLen
def okR (r : Rw) : Prop := okS r.1 ∧ okS r.2
def strKey (s : ByteArray) : Lit := .string s.data.toList
theorem strKey_ok {s : ByteArray} (h : okS s) : keyOf Try.prog 9 (.string s) = some (strKey s) := WideMaps.keyOf_string_mk Try.underlying9 h
theorem keyTypeRow : Try.prog.keyType 109 = true := by kernel_rfl
theorem cellsRow : Try.prog.cellsOf 109 = 2 := by kernel_rfl
theorem cellsStr : Try.prog.cellsOf 9 = 1 := by kernel_rfl
theorem keyLits_str (d : Nat) {s : ByteArray} (h : okS s) : Try.prog.keyLits (d + 1) 9 [.string s] = some [.string s.data.toList] := by
  unfold Program.keyLits
  rw [Try.underlying9]
  simp only
  exact if_pos h
theorem keyLits_row (d : Nat) {r : Rw} (h : okR r) : Try.prog.keyLits (d + 2) 109 [.string r.1, .string r.2] = some [.string r.1.data.toList, .string r.2.data.toList] := by
  have h1 := keyLits_str d h.1
  have h2 := keyLits_str d h.2
  unfold Program.keyLits
  rw [Try.underlying109]
  simp only
  rw [if_pos ⟨by rw [cellsRow]; rfl, by simp⟩]
  simp [cellsStr, h1, h2]
theorem rowKey_ex {r : Rw} (h : okR r) : ∃ l, keyOf Try.prog 109 (rowV r) = some l := by
  obtain ⟨d, hd⟩ : ∃ d, Try.prog.types.size + 1 = d + 2 := ⟨Try.prog.types.size - 1, by have h := Nat.lt_of_le_of_lt (Nat.zero_le _) rowRow; omega⟩
  have hf : (rowV r).formed Try.prog 109 = true := by
    unfold rowV
    simp [Value.formed, Try.underlying109, cellsRow]
  refine ⟨.string (keyBytes [.string r.1.data.toList, .string r.2.data.toList]), ?_⟩
  unfold keyOf
  rw [Try.underlying109]
  simp only
  rw [keyTypeRow, hf, hd]
  simp only [Bool.and_self, if_true]
  rw [show (rowV r).cells.toList = [.string r.1, .string r.2] from rfl, keyLits_row d h]
  rfl
noncomputable def rowKey (r : Rw) : Lit := (keyOf Try.prog 109 (rowV r)).getD (.bool true)
theorem rowKey_ok {r : Rw} (h : okR r) : keyOf Try.prog 109 (rowV r) = some (rowKey r) := by
  obtain ⟨l, hl⟩ := rowKey_ex h
  unfold rowKey
  rw [hl]; rfl
theorem rowKey_ne (a b : Rw) (ha : okR a) (hb : okR b) (h : a ≠ b) : rowKey a ≠ rowKey b := by
  intro e
  have h1 := rowKey_ok ha
  rw [e] at h1
  have := Keyed.inj lawRow h1 (rowKey_ok hb)
  obtain ⟨a1, a2⟩ := a
  obtain ⟨b1, b2⟩ := b
  simp [rowV] at this
  exact h (by rw [this.1, this.2])
set_option maxRecDepth 100000 in
theorem rowKey_lit (a : Rw) (ha : okR a) : WideAt.IsKeyLit (rowKey a) := Keyed.key lawRow (rowKey_ok ha)
theorem strKey_ne (a b : ByteArray) (ha : okS a) (hb : okS b) (h : a ≠ b) : strKey a ≠ strKey b := by
  intro e
  have h1 := strKey_ok ha
  rw [e] at h1
  have := Keyed.inj lawStr h1 (strKey_ok hb)
  simp at this
  exact h this
set_option maxRecDepth 100000 in
theorem strKey_lit (a : ByteArray) (ha : okS a) : WideAt.IsKeyLit (strKey a) := Keyed.key lawStr (strKey_ok ha)

/-- A table's blocks. -/
def foot (g mb mn : Nat) (A : Option Addr) (k : Nat) : Prop := k = g ∨ k = mb ∨ k = mn ∨ ∃ a, A = some a ∧ a.block = k
/-- A table in memory, as it lies there. -/
structure Raw (w : World) (g mb mn : Nat) (A : Option Addr) (c N : Nat) (most size gone : Int) (rows : List Rw) (fb : Rw → Option Int) (fn : ByteArray → Option Int) : Prop where
  book : w.heap[g]? = some (.cells #[.int .i64 most, .int .i64 size, .slice A rows.length c, .int .i64 gone, .map (some mb), .map (some mn)] 87 (0, 0))
  row : Lies w 109 2 (.slice A rows.length c) rows.length (rcs rows)
  both : ∃ D : DataW Unit, w.ownsMap Try.prog 109 (plainElem Try.prog 3) mb N D ∧ View rowKey okR D fb
  name : ∃ D : DataW Unit, w.ownsMap Try.prog 9 (plainElem Try.prog 3) mn N D ∧ View strKey okS D fn
  ne : g ≠ mb ∧ g ≠ mn ∧ mb ≠ mn
  apart : ∀ a, A = some a → a.block ≠ g ∧ a.block ≠ mb ∧ a.block ≠ mn
section
variable {w w' : World} {g mb mn c N : Nat} {A : Option Addr} {most size gone : Int} {rows : List Rw} {fb : Rw → Option Int} {fn : ByteArray → Option Int}
theorem Raw.lt (h : Raw w g mb mn A c N most size gone rows fb fn) : ∀ k, foot g mb mn A k → k < w.heap.size := by
  rintro k (rfl | rfl | rfl | ⟨a, ha, rfl⟩)
  · exact (Array.getElem?_eq_some_iff.1 h.book).1
  · obtain ⟨D, hD, _⟩ := h.both; exact hD.lt
  · obtain ⟨D, hD, _⟩ := h.name; exact hD.lt
  · obtain ⟨A', c', hv, _, _, hb⟩ := h.row.form
    injection hv with e1
    subst e1
    exact hb a ha
theorem Raw.keep (h : Raw w g mb mn A c N most size gone rows fb fn) (hk : ∀ k, foot g mb mn A k → w'.heap[k]? = w.heap[k]?) : Raw w' g mb mn A c N most size gone rows fb fn := by
  obtain ⟨D1, ⟨e1, l1, a1, b1⟩, v1⟩ := h.both
  obtain ⟨D2, ⟨e2, l2, a2, b2⟩, v2⟩ := h.name
  refine ⟨(hk g (.inl rfl)).trans h.book, h.row.keep fun q hq => hk q ?_, ⟨D1, ⟨e1, l1, (hk mb (.inr (.inl rfl))).trans a1, b1⟩, v1⟩, ⟨D2, ⟨e2, l2, (hk mn (.inr (.inr (.inl rfl)))).trans a2, b2⟩, v2⟩, h.ne, h.apart⟩
  cases A with
  | none => cases hq
  | some a => exact .inr (.inr (.inr ⟨a, rfl, by simpa [Value.ownBlock] using hq⟩))
theorem Raw.alloc (h : Raw w g mb mn A c N most size gone rows fb fn) (o : Obj) : Raw (w.alloc o) g mb mn A c N most size gone rows fb fn := h.keep fun k hk => Below.heap_alloc _ _ _ (h.lt k hk)
theorem Raw.cells (h : Raw w g mb mn A c N most size gone rows fb fn) : w.cell? ⟨g, 0, none⟩ = some (.int .i64 most) ∧ w.cell? ⟨g, 1, none⟩ = some (.int .i64 size) ∧ w.cell? ⟨g, 2, none⟩ = some (.slice A rows.length c) ∧
    w.cell? ⟨g, 3, none⟩ = some (.int .i64 gone) ∧ w.cell? ⟨g, 4, none⟩ = some (.map (some mb)) ∧ w.cell? ⟨g, 5, none⟩ = some (.map (some mn)) := by
  refine ⟨?_, ?_, ?_, ?_, ?_, ?_⟩ <;> (unfold World.cell?; rw [h.book]; rfl)
theorem Raw.free (h : Raw w g mb mn A c N most size gone rows fb fn) (o : Nat) : w.frozen? ⟨g, o, none⟩ = false := by
  unfold World.frozen?; rw [h.book]; simp
/-- A row's cells. -/
theorem Raw.at_ (h : Raw w g mb mn A c N most size gone rows fb fn) {i : Nat} {r : Rw} (hi : rows[i]? = some r) : ∃ q o, A = some ⟨q, o, none⟩ ∧ q < w.heap.size ∧ w.cell? ⟨q, o + i * 2, none⟩ = some (.string r.1) ∧ w.cell? ⟨q, o + i * 2 + 1, none⟩ = some (.string r.2) := by
  have hlt : i < rows.length := (List.getElem?_eq_some_iff.1 hi).1
  obtain ⟨q, o, hA, hq, hc⟩ := (h.row.rd rfl).2 (by omega)
  have e := rcs_get hi
  exact ⟨q, o, hA, hq, (hc _ (by omega)).trans e.1, (hc (i * 2 + 1) (by omega)).trans e.2⟩
end

theorem cost_any (r : Rw) (w : World) (h1 : r.1.size ≤ 140737488355328) (h2 : r.2.size ≤ 140737488355328) :
    Calls Try.prog 66 #[.agg #[.string r.1, .string r.2]] w fun e w' => e = .returned (.int .i64 (cost r : Nat)) ∧ w' = w.alloc (.cells #[.string r.1, .string r.2] 109) := by
  go_enter Try.func66, Try.ntmps66
  go_wp2
  go_ret
  exact ⟨ret_v (by unfold cost; congr 1), rfl⟩

theorem tnew_bad (n : Int) (w : World) (h : n < 0 ∨ 65536 < n) : Calls Try.prog 18 #[.int .i64 n] w fun e w' => e = .returned (.tuple #[.pointer none, .int .i64 1]) ∧ w = w' := by
  rcases h with h | h
  · go_enter Try.func18, Try.ntmps18
    go_wp2; go_ret2; exact ⟨rfl, rfl⟩
  · have h0 : ¬ n < 0 := by omega
    go_enter Try.func18, Try.ntmps18
    go_wp2; go_ret2; exact ⟨rfl, rfl⟩

/-- A table in memory, as a table. -/
structure TM (w : World) (g mb mn : Nat) (A : Option Addr) (c N : Nat) (T : Tb) : Prop where
  raw : Raw w g mb mn A c N T.most T.size T.gone T.rows (pos T.rows T.gone) (pos (T.rows.map (·.1)) T.gone)
  ok : ∀ r ∈ T.rows, okR r
  most0 : 0 ≤ T.most
  most1 : T.most ≤ 65536
  gone0 : 0 ≤ T.gone
  many : T.gone + T.rows.length ≤ N
  few : N ≤ 1099511627776
  fits : (T.size : Int) ≤ T.most
/-- A table in memory: its block, its footprint. -/
def TabIs (w : World) (g : Nat) (F : Nat → Prop) (N : Nat) (T : Tb) : Prop := ∃ mb mn A c, F = foot g mb mn A ∧ TM w g mb mn A c N T
def TNew (n : Int) (W : World) (e : Ending) (w' : World) : Prop := ∃ g F, e = .returned (.tuple #[.pointer (some ⟨g, 0, none⟩), .int .i64 0]) ∧ TabIs w' g F 0 ⟨n, 0, []⟩ ∧ (∀ k, F k → W.heap.size ≤ k) ∧ Below W.heap.size W w'

theorem tnew_any (n : Int) (w : World) (h0 : 0 ≤ n) (h1 : n ≤ 65536) : Calls Try.prog 18 #[.int .i64 n] w (TNew n w) := by
  have hmm := @run_makeMap Try.prog
  go_enter Try.func18, Try.ntmps18
  go_wp2
  go_ret2
  refine ⟨w.heap.size + 2, foot (w.heap.size + 2) w.heap.size (w.heap.size + 1) none, rfl, ⟨w.heap.size, w.heap.size + 1, none, 0, rfl, ⟨⟨?_, Lies.nil _ _ _, ⟨.map [], ?_, View.empty _ _⟩, ⟨.map [], ?_, View.empty _ _⟩, ⟨by omega, by omega, by omega⟩, fun a ha => by cases ha⟩, (fun r hr => by cases hr), h0, h1, Int.le_refl _, by simp, by omega, h0⟩⟩, ?_, (((Below.refl _ _).alloc (Nat.le_refl _) _).alloc (by simp) _).alloc (by simp; omega) _⟩
  · have := heapNew ((w.alloc (.map #[] 0)).alloc (.map #[] 0)) (.cells #[.int .i64 n, .int .i64 0, .slice none 0 0, .int .i64 0, .map (some w.heap.size), .map (some (w.heap.size + 1))] 87)
    rw [show ((w.alloc (.map #[] 0)).alloc (.map #[] 0)).heap.size = w.heap.size + 2 by simp] at this
    exact this
  · exact ((World.ownsMap_made w _ _ _).alloc _).alloc _
  · have := (World.ownsMap_made (w.alloc (.map #[] 0)) Try.prog 9 (plainElem (H := Unit) Try.prog 3)).alloc (.cells #[.int .i64 n, .int .i64 0, .slice none 0 0, .int .i64 0, .map (some w.heap.size), .map (some (w.heap.size + 1))] 87)
    rwa [show (w.alloc (.map #[] 0)).heap.size = w.heap.size + 1 by simp] at this
  · rintro k (rfl | rfl | rfl | ⟨a, ha, _⟩)
    · omega
    · omega
    · omega
    · cases ha
end Go.Proofs.Ytfpcamkimjecdaa

/- What stores into a table's block and its maps leave; look-ups in its maps. -/
namespace Go.Proofs.Ytfpcamkimjecdaa
open Go.RowKit Go.Maps

section
variable {w w' : World} {g mb mn c N : Nat} {A : Option Addr} {most size gone : Int} {rows : List Rw} {fb fb' : Rw → Option Int} {fn fn' : ByteArray → Option Int}
theorem Raw.congr (h : Raw w g mb mn A c N most size gone rows fb fn) (h1 : ∀ r, okR r → fb' r = fb r) (h2 : ∀ s, okS s → fn' s = fn s) : Raw w g mb mn A c N most size gone rows fb' fn' := by
  obtain ⟨D1, o1, v1⟩ := h.both
  obtain ⟨D2, o2, v2⟩ := h.name
  exact ⟨h.book, h.row, ⟨D1, o1, v1.congr h1⟩, ⟨D2, o2, v2.congr h2⟩, h.ne, h.apart⟩
theorem Raw.more (h : Raw w g mb mn A c N most size gone rows fb fn) {N' : Nat} (hN : N ≤ N') : Raw w g mb mn A c N' most size gone rows fb fn := by
  obtain ⟨D1, o1, v1⟩ := h.both
  obtain ⟨D2, o2, v2⟩ := h.name
  exact ⟨h.book, h.row, ⟨D1, o1.mono hN, v1⟩, ⟨D2, o2.mono hN, v2⟩, h.ne, h.apart⟩
theorem Raw.put (h : Raw w g mb mn A c N most size gone rows fb fn) {o : Nat} {v : Value} {most' size' gone' : Int} {A' : Option Addr} {c' : Nat} {rows' : List Rw}
    (hb : (#[Value.int .i64 most, .int .i64 size, .slice A rows.length c, .int .i64 gone, .map (some mb), .map (some mn)] : Array Value).setIfInBounds o v = #[.int .i64 most', .int .i64 size', .slice A' rows'.length c', .int .i64 gone', .map (some mb), .map (some mn)])
    (hr : Lies w 109 2 (.slice A' rows'.length c') rows'.length (rcs rows')) (ha : ∀ a, A' = some a → a.block ≠ g ∧ a.block ≠ mb ∧ a.block ≠ mn) :
    Raw (w.setCell ⟨g, o, none⟩ v) g mb mn A' c' N most' size' gone' rows' fb fn := by
  have hk : ∀ k, k ≠ g → (w.setCell ⟨g, o, none⟩ v).heap[k]? = w.heap[k]? := fun k hk => Below.heap_setCell _ _ _ _ (by simpa using hk)
  obtain ⟨D1, ⟨e1, l1, a1, b1⟩, v1⟩ := h.both
  obtain ⟨D2, ⟨e2, l2, a2, b2⟩, v2⟩ := h.name
  refine ⟨?_, hr.keep fun q hq => hk q ?_, ⟨D1, ⟨e1, l1, (hk mb (Ne.symm h.ne.1)).trans a1, b1⟩, v1⟩, ⟨D2, ⟨e2, l2, (hk mn (Ne.symm h.ne.2.1)).trans a2, b2⟩, v2⟩, h.ne, ha⟩
  · simp only [World.setCell, Array.getElem?_modify, if_true]
    rw [h.book]
    simp only [Option.map_some]
    rw [← hb]
    rfl
  · cases A' with
    | none => cases hq
    | some a => simp only [Value.ownBlock, Option.some.injEq] at hq; subst hq; exact (ha a rfl).1
theorem Raw.setMost (h : Raw w g mb mn A c N most size gone rows fb fn) (v : Int) : Raw (w.setCell ⟨g, 0, none⟩ (.int .i64 v)) g mb mn A c N v size gone rows fb fn := h.put rfl h.row h.apart
theorem Raw.setSize (h : Raw w g mb mn A c N most size gone rows fb fn) (v : Int) : Raw (w.setCell ⟨g, 1, none⟩ (.int .i64 v)) g mb mn A c N most v gone rows fb fn := h.put rfl h.row h.apart
theorem Raw.setGone (h : Raw w g mb mn A c N most size gone rows fb fn) (v : Int) : Raw (w.setCell ⟨g, 3, none⟩ (.int .i64 v)) g mb mn A c N most size v rows fb fn := h.put rfl h.row h.apart
theorem Raw.setRows (h : Raw w g mb mn A c N most size gone rows fb fn) {A' : Option Addr} {c' : Nat} {rows' : List Rw} (hr : Lies w 109 2 (.slice A' rows'.length c') rows'.length (rcs rows'))
    (ha : ∀ a, A' = some a → a.block ≠ g ∧ a.block ≠ mb ∧ a.block ≠ mn) : Raw (w.setCell ⟨g, 2, none⟩ (.slice A' rows'.length c')) g mb mn A' c' N most size gone rows' fb fn := h.put rfl hr ha
/-- The oldest row goes. -/
def cut1 (A : Option Addr) (c : Nat) : Option Addr := if c = 1 then A else A.map (·.add 2)
theorem cut1_block {A : Option Addr} {c : Nat} {a : Addr} (h : cut1 A c = some a) : ∃ a0, A = some a0 ∧ a0.block = a.block := by
  unfold cut1 at h
  split at h
  · exact ⟨a, h, rfl⟩
  · cases A with
    | none => cases h
    | some a0 => simp at h; subst h; exact ⟨a0, rfl, rfl⟩
theorem Raw.tail {r : Rw} {l : List Rw} (h : Raw w g mb mn A c N most size gone (r :: l) fb fn) : Raw (w.setCell ⟨g, 2, none⟩ (.slice (cut1 A c) l.length (c - 1))) g mb mn (cut1 A c) (c - 1) N most size gone l fb fn := by
  refine h.setRows ?_ (fun a ha => ?_)
  · have := h.row.tail (by simp) rfl
    simpa [rcs_drop, cut1] using this
  · obtain ⟨a0, h0, hb⟩ := cut1_block ha
    rw [← hb]; exact h.apart a0 h0
/-- A map's block is another. -/
theorem Raw.newBoth (h : Raw w g mb mn A c N most size gone rows fb fn) {D : DataW Unit} {N' : Nat} (hg : w.grownBy w' (some mb)) (ho : w'.ownsMap Try.prog 109 (plainElem Try.prog 3) mb N' D) (hv : View rowKey okR D fb') (hN : N ≤ N') :
    Raw w' g mb mn A c N' most size gone rows fb' fn := by
  obtain ⟨D2, o2, v2⟩ := h.name
  have hl := h.lt
  refine ⟨(hg.block g (hl g (.inl rfl)) (by simpa using h.ne.1)).trans h.book, h.row.keep fun q hq => ?_, ⟨D, ho, hv⟩, ⟨D2, (o2.kept hg (by simpa using Ne.symm h.ne.2.2)).mono hN, v2⟩, h.ne, h.apart⟩
  cases A with
  | none => cases hq
  | some a =>
    simp only [Value.ownBlock, Option.some.injEq] at hq
    subst hq
    exact hg.block _ (hl _ (.inr (.inr (.inr ⟨a, rfl, rfl⟩)))) (by simpa using (h.apart a rfl).2.1)
theorem Raw.newName (h : Raw w g mb mn A c N most size gone rows fb fn) {D : DataW Unit} {N' : Nat} (hg : w.grownBy w' (some mn)) (ho : w'.ownsMap Try.prog 9 (plainElem Try.prog 3) mn N' D) (hv : View strKey okS D fn') (hN : N ≤ N') :
    Raw w' g mb mn A c N' most size gone rows fb fn' := by
  obtain ⟨D1, o1, v1⟩ := h.both
  have hl := h.lt
  refine ⟨(hg.block g (hl g (.inl rfl)) (by simpa using h.ne.2.1)).trans h.book, h.row.keep fun q hq => ?_, ⟨D1, (o1.kept hg (by simpa using h.ne.2.2)).mono hN, v1⟩, ⟨D, ho, hv⟩, h.ne, h.apart⟩
  cases A with
  | none => cases hq
  | some a =>
    simp only [Value.ownBlock, Option.some.injEq] at hq
    subst hq
    exact hg.block _ (hl _ (.inr (.inr (.inr ⟨a, rfl, rfl⟩)))) (by simpa using (h.apart a rfl).2.2)
/-- Looked up. -/
theorem Raw.lookB (h : Raw w g mb mn A c N most size gone rows fb fn) {r : Rw} {x : Int} (hr : okR r) (hf : fb r = some x) (k : Nat) :
    (Instr.lookup 83 (.map (some mb)) (rowV r) false).run Try.prog (w.drewN k) = .ok (.int .i64 x) (w.drewN k) := by
  obtain ⟨D, ho, hv⟩ := (h.keep (w' := w.drewN k) (fun _ _ => rfl)).both
  obtain ⟨y, hrun, hat, _⟩ := ho.lookup_int lawRow Try.underlying83 Try.underlying3 (zeroInt _) (rowKey_ok hr)
  have := (hv.at_ r x hr hf).symm.trans hat
  rw [num_inj this] at hrun
  exact hrun
theorem Raw.lookN (h : Raw w g mb mn A c N most size gone rows fb fn) {s : ByteArray} {x : Int} (hr : okS s) (hf : fn s = some x) (k : Nat) :
    (Instr.lookup 84 (.map (some mn)) (.string s) false).run Try.prog (w.drewN k) = .ok (.int .i64 x) (w.drewN k) := by
  obtain ⟨D, ho, hv⟩ := (h.keep (w' := w.drewN k) (fun _ _ => rfl)).name
  obtain ⟨y, hrun, hat, _⟩ := ho.lookup_int lawStr Try.underlying84 Try.underlying3 (zeroInt _) (strKey_ok hr)
  have := (hv.at_ s x hr hf).symm.trans hat
  rw [num_inj this] at hrun
  exact hrun
/-- 'v, ok := m[k]' -/
def okV : Option Int → Value
  | some x => .tuple #[.int .i64 x, .bool true]
  | none => .tuple #[.int .i64 0, .bool false]
theorem Raw.lookB2 (h : Raw w g mb mn A c N most size gone rows fb fn) {r : Rw} (hr : okR r) (k : Nat) :
    (Instr.lookup 83 (.map (some mb)) (rowV r) true).run Try.prog (w.drewN k) = .ok (okV (fb r)) (w.drewN k) := by
  obtain ⟨D, ho, hv⟩ := (h.keep (w' := w.drewN k) (fun _ _ => rfl)).both
  obtain ⟨v, ps, hrun, hR⟩ := ho.look_ok lawRow Try.underlying83 (zeroInt _) (plainElem_int Try.underlying3 (by decide)) (rowKey_ok hr)
  obtain ⟨y, rfl, hy, _⟩ := plainElem_int_inv Try.underlying3 hR
  simp only [Prod.mk.injEq] at hy
  rw [hrun, hv.has r hr]
  cases hf : fb r with
  | none =>
    have := hy.1.symm.trans (hv.none_ hr hf _)
    simp at this
    rw [this]; rfl
  | some x =>
    have := (hv.at_ r x hr hf).symm.trans hy.1
    rw [num_inj this]; rfl
theorem Raw.lookN2 (h : Raw w g mb mn A c N most size gone rows fb fn) {s : ByteArray} (hr : okS s) (k : Nat) :
    (Instr.lookup 84 (.map (some mn)) (.string s) true).run Try.prog (w.drewN k) = .ok (okV (fn s)) (w.drewN k) := by
  obtain ⟨D, ho, hv⟩ := (h.keep (w' := w.drewN k) (fun _ _ => rfl)).name
  obtain ⟨v, ps, hrun, hR⟩ := ho.look_ok lawStr Try.underlying84 (zeroInt _) (plainElem_int Try.underlying3 (by decide)) (strKey_ok hr)
  obtain ⟨y, rfl, hy, _⟩ := plainElem_int_inv Try.underlying3 hR
  simp only [Prod.mk.injEq] at hy
  rw [hrun, hv.has s hr]
  cases hf : fn s with
  | none =>
    have := hy.1.symm.trans (hv.none_ hr hf _)
    simp at this
    rw [this]; rfl
  | some x =>
    have := (hv.at_ s x hr hf).symm.trans hy.1
    rw [num_inj this]; rfl
end
end Go.Proofs.Ytfpcamkimjecdaa

/- The walk of table.shrink. -/
namespace Go.Proofs.Ytfpcamkimjecdaa
open Go.RowKit Go.Maps

def sumc (l : List Rw) : Int := ((l.map cost).sum : Nat)
theorem sumc_cons (r : Rw) (l : List Rw) : sumc (r :: l) = (cost r : Int) + sumc l := by unfold sumc; simp
theorem sumc_nonneg (l : List Rw) : 0 ≤ sumc l := by unfold sumc; omega
/-- A slice's block is one of the old one's. -/
def Sub (A' A : Option Addr) : Prop := ∀ a, A' = some a → ∃ a0, A = some a0 ∧ a0.block = a.block
theorem Sub.refl (A : Option Addr) : Sub A A := fun a h => ⟨a, h, rfl⟩
theorem Sub.trans {A B C : Option Addr} (h : Sub A B) (h2 : Sub B C) : Sub A C := fun a ha => by
  obtain ⟨b, hb, e⟩ := h a ha
  obtain ⟨c, hc, e2⟩ := h2 b hb
  exact ⟨c, hc, e2.trans e⟩
theorem Sub.foot {A' A : Option Addr} (h : Sub A' A) {g mb mn k : Nat} (hk : foot g mb mn A' k) : foot g mb mn A k := by
  rcases hk with h1 | h1 | h1 | ⟨a, ha, h1⟩
  · exact .inl h1
  · exact .inr (.inl h1)
  · exact .inr (.inr (.inl h1))
  · obtain ⟨a0, h0, e⟩ := h a ha
    exact .inr (.inr (.inr ⟨a0, h0, e.trans h1⟩))
/-- A table whose maps tell the last places. -/
def Tbl (w : World) (g mb mn : Nat) (A : Option Addr) (c N : Nat) (most gone : Int) (rows : List Rw) : Prop :=
  Raw w g mb mn A c N most (sumc rows) gone rows (pos rows gone) (pos (rows.map (·.1)) gone) ∧ (∀ r ∈ rows, okR r) ∧ 0 ≤ gone ∧ gone + rows.length ≤ N ∧ N ≤ 1099511627776 ∧ sumc rows ≤ 4294967296
/-- While it shrinks. -/
def ShrRel (W : World) (g mb mn : Nat) (A0 : Option Addr) (N : Nat) (m most gone0 : Int) (rows0 : List Rw) (k : Nat) (wr : World) : Prop :=
  ∃ A c gone rows, Tbl wr g mb mn A c N most gone rows ∧ Kept (foot g mb mn A0) W wr ∧ Sub A A0 ∧ shrunk m gone0 rows0 = shrunk m gone rows ∧ k = rows.length
/-- Behind the oldest row's going, its places still told. -/
def ShrMid (W : World) (g mb mn : Nat) (A0 : Option Addr) (N x : Nat) (most gone : Int) (r : Rw) (l : List Rw) (wr : World) : Prop :=
  ∃ A c, Raw wr g mb mn A c N most (sumc l) (gone + 1) l (pos (r :: l) gone) (pos ((r :: l).map (·.1)) gone) ∧ Kept (foot g mb mn A0) W wr ∧ Sub A A0 ∧
    wr.cell? ⟨x, 0, none⟩ = some (.string r.1) ∧ wr.cell? ⟨x, 1, none⟩ = some (.string r.2) ∧ x < wr.heap.size ∧ ¬ foot g mb mn A0 x

/-- .. the row's place no more. -/
def ShrMid2 (W : World) (g mb mn : Nat) (A0 : Option Addr) (N x : Nat) (most gone : Int) (r : Rw) (l : List Rw) (wr : World) : Prop :=
  ∃ A c, Raw wr g mb mn A c N most (sumc l) (gone + 1) l (pos l (gone + 1)) (pos ((r :: l).map (·.1)) gone) ∧ Kept (foot g mb mn A0) W wr ∧ Sub A A0 ∧
    wr.cell? ⟨x, 0, none⟩ = some (.string r.1) ∧ wr.cell? ⟨x, 1, none⟩ = some (.string r.2) ∧ x < wr.heap.size ∧ ¬ foot g mb mn A0 x
/-- .. nor its name's. -/
def ShrEnd (W : World) (g mb mn : Nat) (A0 : Option Addr) (N : Nat) (most gone : Int) (l : List Rw) (wr : World) : Prop :=
  ∃ A c, Raw wr g mb mn A c N most (sumc l) (gone + 1) l (pos l (gone + 1)) (pos (l.map (·.1)) (gone + 1)) ∧ Kept (foot g mb mn A0) W wr ∧ Sub A A0
section
variable {α : Type} [DecidableEq α]
theorem pos_head (a : α) (l : List α) (g : Int) : ∃ y, pos (a :: l) g a = some y ∧ (y = g + 1 ↔ pos l (g + 1) a = none) := by
  cases h : pos l (g + 1) a with
  | none => exact ⟨g + 1, pos_cons_out h, by simp⟩
  | some y => exact ⟨y, pos_cons_in h, by have := pos_range h; simp; omega⟩
theorem pos_gone {a : α} {l : List α} {g : Int} (h : pos l (g + 1) a = none) (r : α) : pos l (g + 1) r = if r = a then none else pos (a :: l) g r := by
  by_cases e : r = a
  · subst e; rw [if_pos rfl, h]
  · rw [if_neg e, pos_cons_ne _ _ e]
theorem pos_stays {a : α} {l : List α} {g : Int} (h : pos l (g + 1) a ≠ none) (r : α) : pos l (g + 1) r = pos (a :: l) g r := by
  by_cases e : r = a
  · subst e
    obtain ⟨y, hy⟩ := Option.ne_none_iff_exists'.1 h
    rw [hy, pos_cons_in hy]
  · rw [pos_cons_ne _ _ e]
end

def ShrPost (W : World) (g mb mn : Nat) (A0 : Option Addr) (N : Nat) (m most gone0 : Int) (rows0 : List Rw) (e : Ending) (w' : World) : Prop :=
  e = .returned (.tuple #[]) ∧ ∃ A' c', Tbl w' g mb mn A' c' N most (shrunk m gone0 rows0).1 (shrunk m gone0 rows0).2 ∧ Kept (foot g mb mn A0) W w' ∧ Sub A' A0
set_option maxRecDepth 100000 in
set_option maxHeartbeats 4000000 in
theorem shrink_any {g mb mn c N : Nat} {A : Option Addr} {most gone : Int} {rows : List Rw} (m : Int) (w : World) (h : Tbl w g mb mn A c N most gone rows) :
    Calls Try.prog 67 #[.pointer (some ⟨g, 0, none⟩), .int .i64 m] w (ShrPost w g mb mn A N m most gone rows) := by
  have H := Lib.hid h
  clear h
  go_enter Try.func67, Try.ntmps67
  go_wp2
  go_loopg [4] rows.length (fun k _ wr => ShrRel w g mb mn A N m most gone rows k wr)
  case atStart => exact ⟨A, c, gone, rows, H.out, Kept.refl _ _, Sub.refl _, rfl, rfl⟩
  case round =>
    obtain ⟨A1, c1, gone1, rows1, ⟨hraw, hok, hg0, hmany, hfew, hsm⟩, hkept, hsub, hsh, hk⟩ := hrel
    have HR := Lib.hid hraw
    have HOK := Lib.hid hok
    have HK := Lib.hid hkept
    have HS := Lib.hid hsub
    have HSH := Lib.hid hsh
    have HE := Lib.hid hk
    obtain ⟨c0, c1', c2, c3, c4, c5⟩ := hraw.cells
    have hf1 := hraw.free 1
    have hf2 := hraw.free 2
    have hf3 := hraw.free 3
    have hs0 := sumc_nonneg rows1
    clear hraw hok hkept hsub hsh hk
    cases rows1 with
    | nil =>
      have hfin : ∀ wx : World, wx = wr → ShrPost w g mb mn A N m most gone rows (.returned (.tuple #[])) wx := fun wx hw => by
        subst hw
        refine ⟨rfl, A1, c1, ?_, HK.out, HS.out⟩
        rw [HSH.out, shrunk_nil]
        exact ⟨HR.out, HOK.out, hg0, hmany, hfew, hsm⟩
      have HF := Lib.hid hfin
      clear hfin
      go_wp2
      all_goals (go_end0; exact HF.out _ rfl)
    | cons r l =>
      by_cases hgo : m < sumc (r :: l)
      case neg =>
        have HF : Hid (∀ wx : World, wx = wr → ShrPost w g mb mn A N m most gone rows (.returned (.tuple #[])) wx) := Lib.hid fun wx hw => by
          subst hw
          refine ⟨rfl, A1, c1, ?_, HK.out, HS.out⟩
          rw [HSH.out, shrunk_stop (show sumc (r :: l) ≤ m by omega)]
          exact ⟨HR.out, HOK.out, hg0, hmany, hfew, hsm⟩
        go_wp2
        all_goals (go_end0; exact HF.out _ rfl)
      have HSC := Lib.hid (sumc_cons r l)
      have hsl := sumc_nonneg l
      have hcost : r.1.size + r.2.size + 32 ≤ 4294967296 := by
        have := HSC.out
        have hc : cost r = r.1.size + r.2.size + 32 := rfl
        rw [hc] at this
        omega
      obtain ⟨S, hS⟩ : ∃ S, sumc (r :: l) = S := ⟨_, rfl⟩
      rw [hS] at c1' hgo hsm hs0
      have HSS := Lib.hid hS
      clear hS
      obtain ⟨q, o, rfl, hq, r0, r1⟩ := HR.out.at_ (i := 0) (r := r) rfl
      have hgs := HR.out.lt g (.inl rfl)
      simp only [Nat.zero_mul, Nat.add_zero] at r0 r1
      simp only [List.length_cons] at c2 hmany
      go_upto_region 4 with fail
      obtain ⟨A2, hA2⟩ : ∃ A2, (if c1 = 1 then some (⟨q, o, none⟩ : Addr) else some ⟨q, o + 2, none⟩) = A2 := ⟨_, rfl⟩
      rw [hA2]
      have HA2 : Hid (cut1 (some ⟨q, o, none⟩) c1 = A2) := Lib.hid (by rw [← hA2]; unfold cut1; simp [Addr.add_lit])
      clear hA2
      go_cut [46] (fun _ wx => ShrMid w g mb mn A N wr.heap.size most gone1 r l wx)
      case first =>
        have hfin : IntKind.i64.wrap (S - (cost r : Int)) = sumc l := by
          have := HSC.out
          rw [HSS.out] at this
          rw [IntWalk.i64_in _ ⟨by omega, by omega⟩]
          omega
        have HFIN := Lib.hid hfin
        clear hfin
        have hmid : Hid (ShrMid w g mb mn A N wr.heap.size most gone1 r l (((((wr.setCell ⟨g, 2, none⟩ (.slice A2 l.length (c1 - 1))).setCell ⟨g, 3, none⟩ (.int .i64 (gone1 + 1))).setCell ⟨g, 1, none⟩ (.int .i64 (IntKind.i64.wrap (S - (cost r : Int))))).alloc (.cells #[.string r.1, .string r.2] 109)).alloc (.cells #[.string r.1, .string r.2] 109)).drew) := by
          refine Lib.hid ?_
          have hnf : ¬ foot g mb mn A wr.heap.size := fun hf => by
            have h1 := H.out.1.lt _ hf
            have h2 := HK.out.size
            omega
          rw [HFIN.out]
          refine ⟨A2, c1 - 1, ?_, ?_, ?_, ?_, ?_, ?_, hnf⟩
          · have := (((HR.out.tail.setGone (gone1 + 1)).setSize (sumc l)).alloc (.cells #[.string r.1, .string r.2] 109)).alloc (.cells #[.string r.1, .string r.2] 109)
            rw [HA2.out] at this
            exact this.keep (fun _ _ => rfl)
          · exact (((((HK.out.setCell (.inl rfl) _ _).setCell (.inl rfl) _ _).setCell (.inl rfl) _ _).alloc _).alloc _).drew
          · rw [← HA2.out]
            exact Sub.trans (fun a ha => cut1_block ha) HS.out
          · exact (World.cell?_alloc_lt _ _ _ (by simp [World.setCell])).trans (World.cell?_alloc_at _ _ _ _ (by simp [World.setCell]))
          · exact (World.cell?_alloc_lt _ _ _ (by simp [World.setCell])).trans (World.cell?_alloc_at _ _ _ _ (by simp [World.setCell]))
          · simp [World.setCell]; omega
        clear HR
        go_region_law (first
          | (go_simp; go_at_call 66; refine (cost_any r _ (by omega) (by omega)).mono ?_; rintro e w2 ⟨rfl, rfl⟩))
        all_goals
          go_wp2_with fail
          go_meet
          exact hmid.out
      case rest =>
        obtain ⟨A3, c3', hraw, hkept, hsub, x0, x1, hxl, hxf⟩ := hcut
        obtain ⟨d0, d1, d2, d3, d4, d5⟩ := hraw.cells
        have hokr := HOK.out r (by simp)
        obtain ⟨y, hy, hyn⟩ := pos_head r l gone1
        have hlk : ∀ k, (Instr.lookup 83 (.map (some mb)) (.agg #[.string r.1, .string r.2]) false).run Try.prog (wc.drewN k) = .ok (.int .i64 y) (wc.drewN k) := fun k => hraw.lookB hokr hy k
        have hlk0 : (Instr.lookup 83 (.map (some mb)) (.agg #[.string r.1, .string r.2]) false).run Try.prog wc = .ok (.int .i64 y) wc := hraw.lookB hokr hy 0
        have HM := Lib.hid (And.intro hraw (And.intro hkept (And.intro hsub (And.intro x0 (And.intro x1 (And.intro hxl hxf))))))
        have HY := Lib.hid (And.intro hy hyn)
        have HOKR := Lib.hid hokr
        clear hraw hkept hsub hy hyn HR HK HS c0 c1' c2 c3 c4 c5 hf1 hf2 hf3 r0 r1 hxf hokr
        go_wp2
        go_quiet (fail)
        go_upto_if 59 with fail
        rename_i nq
        obtain ⟨wd, hwd⟩ : ∃ wd, wc.drewN nq = wd := ⟨_, rfl⟩
        rw [hwd]
        have HN : Hid (ShrMid w g mb mn A N wr.heap.size most gone1 r l wd) := Lib.hid (by
          rw [← hwd]
          exact ⟨A3, c3', HM.out.1.keep (fun _ _ => rfl), HM.out.2.1.drewN _, HM.out.2.2⟩)
        clear x0 x1 d0 d1 d2 d3 d4 d5 HM hlk hlk0 hwd hxl
        go_cut [60] (fun _ wx => ShrMid2 w g mb mn A N wr.heap.size most gone1 r l wx)
        case first =>
          obtain ⟨A4, c4', hraw, hkept, hsub, x0, x1, hxl, hxf⟩ := HN.out
          obtain ⟨d0, d1, d2, d3, d4, d5⟩ := hraw.cells
          have HRW := Lib.hid (And.intro hraw (And.intro hkept (And.intro hsub (And.intro x0 (And.intro x1 (And.intro hxl hxf))))))
          obtain ⟨D, ho, hv⟩ := hraw.both
          have HD := Lib.hid ho
          have HV := Lib.hid hv
          clear ho hv hraw hkept hsub hxf
          by_cases hb : y = gone1 + 1
          · have e59 : (y == gone1 + 1) = true := by simpa using hb
            have HB := Lib.hid hb
            clear hb
            go_wp2
            go_still_tail 5, (by kernel_rfl)
            change wpList _ _ _ _ _ wd.drew
            go_wp2_with (at_delete; refine wpList_delete_own _ rfl _ _ 83 109 rfl 3 lawRow Try.underlying83 _ mb _ D rfl HD.out _ (rowKey r) rfl (rowKey_ok HOKR.out) ?_; intro w1 hown1 hturn1)
            go_meet
            obtain ⟨hraw, hkept, hsub, x0, x1, hxl, hxf⟩ := HRW.out
            have hg := hturn1.grown
            have hr2 := (hraw.keep (w' := wd.drew) (fun _ _ => rfl)).newBoth hg hown1 (HV.out.del rowKey_ne HOKR.out) (Nat.le_refl _)
            have hxne : wr.heap.size ≠ mb := fun e => hxf (.inr (.inl e))
            have hcx : ∀ j, w1.cell? ⟨wr.heap.size, j, none⟩ = wd.cell? ⟨wr.heap.size, j, none⟩ := fun j => World.cell?_of_block (hg.block wr.heap.size hxl (by simpa using hxne))
            exact ⟨A4, c4', hr2.congr (fun r' _ => pos_gone (HY.out.2.1 HB.out) r') (fun _ _ => rfl), hkept.drew.grown hg (fun k hk => by cases hk; exact .inl (.inr (.inl rfl))), hsub, (hcx 0).trans x0, (hcx 1).trans x1, Nat.lt_of_lt_of_le hxl hg.size, hxf⟩
          · have e59 : (y == gone1 + 1) = false := by simpa using hb
            have HB := Lib.hid hb
            clear hb
            go_wp2
            go_meet
            obtain ⟨hraw, hrest⟩ := HRW.out
            exact ⟨A4, c4', hraw.congr (fun r' _ => pos_stays (fun e => HB.out (HY.out.2.2 e)) r') (fun _ _ => rfl), hrest⟩
        case rest =>
          obtain ⟨A5, c5', hraw, hkept, hsub, x0, x1, hxl, hxf⟩ := hcut
          obtain ⟨d0, d1, d2, d3, d4, d5⟩ := hraw.cells
          obtain ⟨y2, hy2, hyn2⟩ := pos_head r.1 (l.map (·.1)) gone1
          have hlk : ∀ k, (Instr.lookup 84 (.map (some mn)) (.string r.1) false).run Try.prog (wc.drewN k) = .ok (.int .i64 y2) (wc.drewN k) := fun k => hraw.lookN HOKR.out.1 hy2 k
          have hlk0 : (Instr.lookup 84 (.map (some mn)) (.string r.1) false).run Try.prog wc = .ok (.int .i64 y2) wc := hraw.lookN HOKR.out.1 hy2 0
          have HM := Lib.hid (And.intro hraw (And.intro hkept (And.intro hsub (And.intro x0 (And.intro x1 (And.intro hxl hxf))))))
          have HY2 := Lib.hid (And.intro hy2 hyn2)
          clear hraw hkept hsub hy2 hyn2 HN hxf
          go_wp2
          go_quiet (fail)
          go_upto_if 76 with fail
          obtain ⟨wd2, hwd2⟩ : ∃ wd2, wc.drewN nq = wd2 := ⟨_, rfl⟩
          rw [hwd2]
          have HN : Hid (ShrMid2 w g mb mn A N wr.heap.size most gone1 r l wd2) := Lib.hid (by
            rw [← hwd2]
            exact ⟨A5, c5', HM.out.1.keep (fun _ _ => rfl), HM.out.2.1.drewN _, HM.out.2.2⟩)
          clear x0 x1 d0 d1 d2 d3 d4 d5 HM hlk hlk0 hwd2 hxl
          obtain ⟨A4, c4', hraw, hkept, hsub, x0, x1, hxl, hxf⟩ := HN.out
          obtain ⟨d0, d1, d2, d3, d4, d5⟩ := hraw.cells
          have HRW := Lib.hid (And.intro hraw (And.intro hkept (And.intro hsub (And.intro x0 (And.intro x1 (And.intro hxl hxf))))))
          obtain ⟨D, ho, hv⟩ := hraw.name
          have HD := Lib.hid ho
          have HV := Lib.hid hv
          clear ho hv hraw hkept hsub hxf
          by_cases hb : y2 = gone1 + 1
          · have e59 : (y2 == gone1 + 1) = true := by simpa using hb
            have HB := Lib.hid hb
            clear hb
            go_wp2
            go_still_tail 6, (by kernel_rfl)
            change wpList _ _ _ _ _ wd2.drew
            go_wp2_with (at_delete; refine wpList_delete_own _ rfl _ _ 84 9 rfl 3 lawStr Try.underlying84 _ mn _ D rfl HD.out _ (strKey r.1) rfl (strKey_ok HOKR.out.1) ?_; intro w1 hown1 hturn1)
            have hend : ShrEnd w g mb mn A N most gone1 l w1 := by
              obtain ⟨hraw, hkept, hsub, x0, x1, hxl, hxf⟩ := HRW.out
              have hg := hturn1.grown
              have hr2 := (hraw.keep (w' := wd2.drew) (fun _ _ => rfl)).newName hg hown1 (HV.out.del strKey_ne HOKR.out.1) (Nat.le_refl _)
              exact ⟨A4, c4', hr2.congr (fun _ _ => rfl) (fun r' _ => pos_gone (HY2.out.2.1 HB.out) r'), hkept.drew.grown hg (fun k hk => by cases hk; exact .inl (.inr (.inr (.inl rfl)))), hsub⟩
            have HM := Lib.hid hend
            clear hend
            go_roundg l.length
            case measure => have := HE.out; simp at this; omega
            case rel =>
              obtain ⟨A6, c6', hraw6, hkept6, hsub6⟩ := HM.out
              refine ⟨A6, c6', gone1 + 1, l, ⟨hraw6, fun r' hr' => HOK.out r' (List.mem_cons_of_mem _ hr'), by omega, by omega, hfew, ?_⟩, hkept6, hsub6, ?_, rfl⟩
              · have := HSC.out; rw [HSS.out] at this; omega
              · rw [HSH.out]
                exact shrunk_go (by show m < sumc (r :: l); rw [HSS.out]; exact hgo)
          · have e59 : (y2 == gone1 + 1) = false := by simpa using hb
            have HB := Lib.hid hb
            clear hb
            go_wp2
            have hend : ShrEnd w g mb mn A N most gone1 l wd2 := by
              obtain ⟨hraw, hrest⟩ := HRW.out
              exact ⟨A4, c4', hraw.congr (fun _ _ => rfl) (fun r' _ => pos_stays (fun e => HB.out (HY2.out.2.2 e)) r'), hrest.1, hrest.2.1⟩
            have HM := Lib.hid hend
            clear hend
            go_roundg l.length
            case measure => have := HE.out; simp at this; omega
            case rel =>
              obtain ⟨A6, c6', hraw6, hkept6, hsub6⟩ := HM.out
              refine ⟨A6, c6', gone1 + 1, l, ⟨hraw6, fun r' hr' => HOK.out r' (List.mem_cons_of_mem _ hr'), by omega, by omega, hfew, ?_⟩, hkept6, hsub6, ?_, rfl⟩
              · have := HSC.out; rw [HSS.out] at this; omega
              · rw [HSH.out]
                exact shrunk_go (by show m < sumc (r :: l); rw [HSS.out]; exact hgo)
end Go.Proofs.Ytfpcamkimjecdaa

/- The walks of table.Most, Size, Len, Resize. -/
namespace Go.Proofs.Ytfpcamkimjecdaa
open Go.RowKit Go.Maps

theorem shrunk_fits {m : Int} (hm : 0 ≤ m) : ∀ (l : List Rw) (g : Int), sumc (shrunk m g l).2 ≤ m := by
  intro l
  induction l with
  | nil => intro g; rw [shrunk_nil]; exact hm
  | cons r l ih =>
    intro g
    by_cases h : m < sumc (r :: l)
    · rw [shrunk_go h]; exact ih _
    · rw [shrunk_stop (show sumc (r :: l) ≤ m by omega)]; show sumc (r :: l) ≤ m; omega
section
variable {w w' : World} {g mb mn c N : Nat} {A : Option Addr} {T : Tb} {F : Nat → Prop}
theorem TM.tbl (h : TM w g mb mn A c N T) : Tbl w g mb mn A c N T.most T.gone T.rows :=
  ⟨h.raw, h.ok, h.gone0, h.many, h.few, by have h1 := h.fits; have h2 := h.most1; show (T.size : Int) ≤ _; omega⟩
theorem TM.of {most gone : Int} {rows : List Rw} (h : Tbl w g mb mn A c N most gone rows) (h0 : 0 ≤ most) (h1 : most ≤ 65536) (hf : sumc rows ≤ most) : TM w g mb mn A c N ⟨most, gone, rows⟩ :=
  ⟨h.1, h.2.1, h0, h1, h.2.2.1, h.2.2.2.1, h.2.2.2.2.1, hf⟩
theorem TM.keep (h : TM w g mb mn A c N T) (hk : ∀ k, foot g mb mn A k → w'.heap[k]? = w.heap[k]?) : TM w' g mb mn A c N T := ⟨h.raw.keep hk, h.ok, h.most0, h.most1, h.gone0, h.many, h.few, h.fits⟩
theorem TabIs.keep (h : TabIs w g F N T) (hk : ∀ k, F k → w'.heap[k]? = w.heap[k]?) : TabIs w' g F N T := by
  obtain ⟨mb, mn, A, c, rfl, ht⟩ := h
  exact ⟨mb, mn, A, c, rfl, ht.keep hk⟩
theorem TabIs.lt (h : TabIs w g F N T) : ∀ k, F k → k < w.heap.size := by
  obtain ⟨mb, mn, A, c, rfl, ht⟩ := h
  exact ht.raw.lt
theorem TabIs.alloc (h : TabIs w g F N T) (o : Obj) : TabIs (w.alloc o) g F N T := h.keep fun k hk => Below.heap_alloc _ _ _ (h.lt k hk)
/-- Another thing's call leaves it. -/
theorem TabIs.kept {G : Nat → Prop} (h : TabIs w g F N T) (hk : Kept G w w') (hd : ∀ k, F k → ¬ G k) : TabIs w' g F N T := h.keep fun k hf => hk.block k (h.lt k hf) (hd k hf)
theorem TabIs.inv (h : TabIs w g F N T) : (∀ r ∈ T.rows, okR r) ∧ 0 ≤ T.most ∧ T.most ≤ 65536 ∧ 0 ≤ T.gone ∧ T.gone + T.rows.length ≤ N ∧ N ≤ 1099511627776 ∧ sumc T.rows ≤ T.most := by
  obtain ⟨mb, mn, A, c, rfl, ht⟩ := h
  exact ⟨ht.ok, ht.most0, ht.most1, ht.gone0, ht.many, ht.few, ht.fits⟩
end
/-- What a call that changes a table hands back. -/
def TStep (W : World) (g : Nat) (F : Nat → Prop) (N : Nat) (T' : Tb) (v : Value) (e : Ending) (w' : World) : Prop :=
  e = .returned v ∧ ∃ F', TabIs w' g F' N T' ∧ Kept F W w' ∧ Grew W F F'

theorem most_any {g N : Nat} {F : Nat → Prop} {T : Tb} (w : World) (h : TabIs w g F N T) : Calls Try.prog 31 #[.pointer (some ⟨g, 0, none⟩)] w fun e w' => e = .returned (.int .i64 T.most) ∧ w = w' := by
  obtain ⟨mb, mn, A, c, rfl, ht⟩ := h
  obtain ⟨c0, -⟩ := ht.raw.cells
  clear ht
  go_enter Try.func31, Try.ntmps31
  go_wp2; go_ret; exact ⟨rfl, rfl⟩
theorem len_any {g N : Nat} {F : Nat → Prop} {T : Tb} (w : World) (h : TabIs w g F N T) : Calls Try.prog 40 #[.pointer (some ⟨g, 0, none⟩)] w fun e w' => e = .returned (.int .i64 (T.rows.length : Int)) ∧ w = w' := by
  obtain ⟨mb, mn, A, c, rfl, ht⟩ := h
  obtain ⟨-, -, c0, -⟩ := ht.raw.cells
  clear ht
  go_enter Try.func40, Try.ntmps40
  go_wp2; go_ret; exact ⟨rfl, rfl⟩
theorem most_nil (w : World) : Calls Try.prog 31 #[.pointer none] w fun e w' => e = .returned (.int .i64 0) ∧ w = w' := by
  go_enter Try.func31, Try.ntmps31
  go_wp2; go_ret; exact ⟨rfl, rfl⟩
theorem len_nil (w : World) : Calls Try.prog 40 #[.pointer none] w fun e w' => e = .returned (.int .i64 0) ∧ w = w' := by
  go_enter Try.func40, Try.ntmps40
  go_wp2; go_ret; exact ⟨rfl, rfl⟩
theorem resize_nil (m : Int) (w : World) : Calls Try.prog 70 #[.pointer none, .int .i64 m] w fun e w' => e = .returned (.int .i64 1) ∧ w = w' := by
  go_enter Try.func70, Try.ntmps70
  go_wp2; go_ret; exact ⟨rfl, rfl⟩
theorem resize_bad {g : Nat} (m : Int) (w : World) (hm : m < 0 ∨ 65536 < m) : Calls Try.prog 70 #[.pointer (some ⟨g, 0, none⟩), .int .i64 m] w fun e w' => e = .returned (.int .i64 1) ∧ w = w' := by
  by_cases h1 : m < 0
  · clear hm
    go_enter Try.func70, Try.ntmps70
    go_wp2; go_ret; exact ⟨rfl, rfl⟩
  · have h2 : 65536 < m := by omega
    clear hm
    go_enter Try.func70, Try.ntmps70
    go_wp2; go_ret; exact ⟨rfl, rfl⟩

set_option maxHeartbeats 1000000 in
theorem resize_any {g N : Nat} {F : Nat → Prop} {T : Tb} (m : Int) (w : World) (h : TabIs w g F N T) (h0 : 0 ≤ m) (h1 : m ≤ 65536) :
    Calls Try.prog 70 #[.pointer (some ⟨g, 0, none⟩), .int .i64 m] w (TStep w g F N (T.resize m) (.int .i64 0)) := by
  obtain ⟨mb, mn, A, c, rfl, ht⟩ := h
  have htb := ht.tbl
  obtain ⟨c0, -⟩ := ht.raw.cells
  have hf := ht.raw.free 0
  have hC := Lib.hid (shrink_any m (w.setCell ⟨g, 0, none⟩ (.int .i64 m)) (most := m) (show Tbl (w.setCell ⟨g, 0, none⟩ (.int .i64 m)) g mb mn A c N m T.gone T.rows from ⟨htb.1.setMost m, htb.2⟩))
  clear ht htb
  go_enter Try.func70, Try.ntmps70
  go_wp2_with fail
  refine hC.out.mono ?_
  rintro e w' ⟨rfl, A', c', htb, hk, hs⟩
  have H := Lib.hid (And.intro htb (And.intro hk hs))
  clear htb hk hs hC
  go_wp2
  go_ret
  exact ⟨rfl, foot g mb mn A', ⟨mb, mn, A', c', rfl, TM.of H.out.1 h0 h1 (shrunk_fits h0 _ _)⟩, ((Kept.refl _ _).setCell (.inl rfl) _ _).same H.out.2.1, fun k hf => .inl (H.out.2.2.foot hf)⟩
end Go.Proofs.Ytfpcamkimjecdaa

/- The rows that never change, as plain data. No program in sight. -/
namespace Go.Proofs.Ytfpcamkimjecdaa

/-- The rows that never change. -/
def statF : List Rw := [
  (⟨#[58, 97, 117, 116, 104, 111, 114, 105, 116, 121]⟩, ⟨#[]⟩),
  (⟨#[58, 109, 101, 116, 104, 111, 100]⟩, ⟨#[71, 69, 84]⟩),
  (⟨#[58, 109, 101, 116, 104, 111, 100]⟩, ⟨#[80, 79, 83, 84]⟩),
  (⟨#[58, 112, 97, 116, 104]⟩, ⟨#[47]⟩),
  (⟨#[58, 112, 97, 116, 104]⟩, ⟨#[47, 105, 110, 100, 101, 120, 46, 104, 116, 109, 108]⟩),
  (⟨#[58, 115, 99, 104, 101, 109, 101]⟩, ⟨#[104, 116, 116, 112]⟩),
  (⟨#[58, 115, 99, 104, 101, 109, 101]⟩, ⟨#[104, 116, 116, 112, 115]⟩),
  (⟨#[58, 115, 116, 97, 116, 117, 115]⟩, ⟨#[50, 48, 48]⟩),
  (⟨#[58, 115, 116, 97, 116, 117, 115]⟩, ⟨#[50, 48, 52]⟩),
  (⟨#[58, 115, 116, 97, 116, 117, 115]⟩, ⟨#[50, 48, 54]⟩),
  (⟨#[58, 115, 116, 97, 116, 117, 115]⟩, ⟨#[51, 48, 52]⟩),
  (⟨#[58, 115, 116, 97, 116, 117, 115]⟩, ⟨#[52, 48, 48]⟩),
  (⟨#[58, 115, 116, 97, 116, 117, 115]⟩, ⟨#[52, 48, 52]⟩),
  (⟨#[58, 115, 116, 97, 116, 117, 115]⟩, ⟨#[53, 48, 48]⟩),
  (⟨#[97, 99, 99, 101, 112, 116, 45, 99, 104, 97, 114, 115, 101, 116]⟩, ⟨#[]⟩),
  (⟨#[97, 99, 99, 101, 112, 116, 45, 101, 110, 99, 111, 100, 105, 110, 103]⟩, ⟨#[103, 122, 105, 112, 44, 32, 100, 101, 102, 108, 97, 116, 101]⟩),
  (⟨#[97, 99, 99, 101, 112, 116, 45, 108, 97, 110, 103, 117, 97, 103, 101]⟩, ⟨#[]⟩),
  (⟨#[97, 99, 99, 101, 112, 116, 45, 114, 97, 110, 103, 101, 115]⟩, ⟨#[]⟩),
  (⟨#[97, 99, 99, 101, 112, 116]⟩, ⟨#[]⟩),
  (⟨#[97, 99, 99, 101, 115, 115, 45, 99, 111, 110, 116, 114, 111, 108, 45, 97, 108, 108, 111, 119, 45, 111, 114, 105, 103, 105, 110]⟩, ⟨#[]⟩),
  (⟨#[97, 103, 101]⟩, ⟨#[]⟩),
  (⟨#[97, 108, 108, 111, 119]⟩, ⟨#[]⟩),
  (⟨#[97, 117, 116, 104, 111, 114, 105, 122, 97, 116, 105, 111, 110]⟩, ⟨#[]⟩),
  (⟨#[99, 97, 99, 104, 101, 45, 99, 111, 110, 116, 114, 111, 108]⟩, ⟨#[]⟩),
  (⟨#[99, 111, 110, 116, 101, 110, 116, 45, 100, 105, 115, 112, 111, 115, 105, 116, 105, 111, 110]⟩, ⟨#[]⟩),
  (⟨#[99, 111, 110, 116, 101, 110, 116, 45, 101, 110, 99, 111, 100, 105, 110, 103]⟩, ⟨#[]⟩),
  (⟨#[99, 111, 110, 116, 101, 110, 116, 45, 108, 97, 110, 103, 117, 97, 103, 101]⟩, ⟨#[]⟩),
  (⟨#[99, 111, 110, 116, 101, 110, 116, 45, 108, 101, 110, 103, 116, 104]⟩, ⟨#[]⟩),
  (⟨#[99, 111, 110, 116, 101, 110, 116, 45, 108, 111, 99, 97, 116, 105, 111, 110]⟩, ⟨#[]⟩),
  (⟨#[99, 111, 110, 116, 101, 110, 116, 45, 114, 97, 110, 103, 101]⟩, ⟨#[]⟩),
  (⟨#[99, 111, 110, 116, 101, 110, 116, 45, 116, 121, 112, 101]⟩, ⟨#[]⟩),
  (⟨#[99, 111, 111, 107, 105, 101]⟩, ⟨#[]⟩),
  (⟨#[100, 97, 116, 101]⟩, ⟨#[]⟩),
  (⟨#[101, 116, 97, 103]⟩, ⟨#[]⟩),
  (⟨#[101, 120, 112, 101, 99, 116]⟩, ⟨#[]⟩),
  (⟨#[101, 120, 112, 105, 114, 101, 115]⟩, ⟨#[]⟩),
  (⟨#[102, 114, 111, 109]⟩, ⟨#[]⟩),
  (⟨#[104, 111, 115, 116]⟩, ⟨#[]⟩),
  (⟨#[105, 102, 45, 109, 97, 116, 99, 104]⟩, ⟨#[]⟩),
  (⟨#[105, 102, 45, 109, 111, 100, 105, 102, 105, 101, 100, 45, 115, 105, 110, 99, 101]⟩, ⟨#[]⟩),
  (⟨#[105, 102, 45, 110, 111, 110, 101, 45, 109, 97, 116, 99, 104]⟩, ⟨#[]⟩),
  (⟨#[105, 102, 45, 114, 97, 110, 103, 101]⟩, ⟨#[]⟩),
  (⟨#[105, 102, 45, 117, 110, 109, 111, 100, 105, 102, 105, 101, 100, 45, 115, 105, 110, 99, 101]⟩, ⟨#[]⟩),
  (⟨#[108, 97, 115, 116, 45, 109, 111, 100, 105, 102, 105, 101, 100]⟩, ⟨#[]⟩),
  (⟨#[108, 105, 110, 107]⟩, ⟨#[]⟩),
  (⟨#[108, 111, 99, 97, 116, 105, 111, 110]⟩, ⟨#[]⟩),
  (⟨#[109, 97, 120, 45, 102, 111, 114, 119, 97, 114, 100, 115]⟩, ⟨#[]⟩),
  (⟨#[112, 114, 111, 120, 121, 45, 97, 117, 116, 104, 101, 110, 116, 105, 99, 97, 116, 101]⟩, ⟨#[]⟩),
  (⟨#[112, 114, 111, 120, 121, 45, 97, 117, 116, 104, 111, 114, 105, 122, 97, 116, 105, 111, 110]⟩, ⟨#[]⟩),
  (⟨#[114, 97, 110, 103, 101]⟩, ⟨#[]⟩),
  (⟨#[114, 101, 102, 101, 114, 101, 114]⟩, ⟨#[]⟩),
  (⟨#[114, 101, 102, 114, 101, 115, 104]⟩, ⟨#[]⟩),
  (⟨#[114, 101, 116, 114, 121, 45, 97, 102, 116, 101, 114]⟩, ⟨#[]⟩),
  (⟨#[115, 101, 114, 118, 101, 114]⟩, ⟨#[]⟩),
  (⟨#[115, 101, 116, 45, 99, 111, 111, 107, 105, 101]⟩, ⟨#[]⟩),
  (⟨#[115, 116, 114, 105, 99, 116, 45, 116, 114, 97, 110, 115, 112, 111, 114, 116, 45, 115, 101, 99, 117, 114, 105, 116, 121]⟩, ⟨#[]⟩),
  (⟨#[116, 114, 97, 110, 115, 102, 101, 114, 45, 101, 110, 99, 111, 100, 105, 110, 103]⟩, ⟨#[]⟩),
  (⟨#[117, 115, 101, 114, 45, 97, 103, 101, 110, 116]⟩, ⟨#[]⟩),
  (⟨#[118, 97, 114, 121]⟩, ⟨#[]⟩),
  (⟨#[118, 105, 97]⟩, ⟨#[]⟩),
  (⟨#[119, 119, 119, 45, 97, 117, 116, 104, 101, 110, 116, 105, 99, 97, 116, 101]⟩, ⟨#[]⟩)]
theorem statF_length : statF.length = 61 := rfl
def emptyB : ByteArray := ⟨#[]⟩
end Go.Proofs.Ytfpcamkimjecdaa

/- The walk of table.fixed. Printed by wip/gen_fixed.py. -/
namespace Go.Proofs.Ytfpcamkimjecdaa
open Go.RowKit

def statV : List Value := rcs statF
set_option maxRecDepth 100000 in
set_option maxHeartbeats 2000000 in
theorem fixed_any (w : World) : Calls Try.prog 50 #[] w fun e w' => e = .returned (.agg statV.toArray) ∧ Below w.heap.size w w' := by
  go_enter Try.func50, Try.ntmps50
  go_step; go_step; go_step
  refine Great.wpList_runTo rfl (some 0) rfl (.pointer (some ⟨w.heap.size, 0, none⟩)) (w.alloc (.cells (Array.replicate 122 (.string ByteArray.empty)) 110)) (by kernel_rfl) ?_
  go_step; go_step; go_step; go_step; go_step
  refine Great.wpList_runTo rfl (some 1) rfl (.agg #[.string ⟨#[58, 97, 117, 116, 104, 111, 114, 105, 116, 121]⟩, .string ⟨#[]⟩]) (w.alloc (.cells (Array.replicate 122 (.string ByteArray.empty)) 110)) (by kernel_rfl) ?_
  refine Great.wpList_runTo rfl (some 2) rfl (.agg #[.string ⟨#[58, 109, 101, 116, 104, 111, 100]⟩, .string ⟨#[71, 69, 84]⟩]) (w.alloc (.cells (Array.replicate 122 (.string ByteArray.empty)) 110)) (by kernel_rfl) ?_
  refine Great.wpList_runTo rfl (some 3) rfl (.agg #[.string ⟨#[58, 109, 101, 116, 104, 111, 100]⟩, .string ⟨#[80, 79, 83, 84]⟩]) (w.alloc (.cells (Array.replicate 122 (.string ByteArray.empty)) 110)) (by kernel_rfl) ?_
  refine Great.wpList_runTo rfl (some 4) rfl (.agg #[.string ⟨#[58, 112, 97, 116, 104]⟩, .string ⟨#[47]⟩]) (w.alloc (.cells (Array.replicate 122 (.string ByteArray.empty)) 110)) (by kernel_rfl) ?_
  refine Great.wpList_runTo rfl (some 5) rfl (.agg #[.string ⟨#[58, 112, 97, 116, 104]⟩, .string ⟨#[47, 105, 110, 100, 101, 120, 46, 104, 116, 109, 108]⟩]) (w.alloc (.cells (Array.replicate 122 (.string ByteArray.empty)) 110)) (by kernel_rfl) ?_
  refine Great.wpList_runTo rfl (some 6) rfl (.agg #[.string ⟨#[58, 115, 99, 104, 101, 109, 101]⟩, .string ⟨#[104, 116, 116, 112]⟩]) (w.alloc (.cells (Array.replicate 122 (.string ByteArray.empty)) 110)) (by kernel_rfl) ?_
  refine Great.wpList_runTo rfl (some 7) rfl (.agg #[.string ⟨#[58, 115, 99, 104, 101, 109, 101]⟩, .string ⟨#[104, 116, 116, 112, 115]⟩]) (w.alloc (.cells (Array.replicate 122 (.string ByteArray.empty)) 110)) (by kernel_rfl) ?_
  refine Great.wpList_runTo rfl (some 8) rfl (.agg #[.string ⟨#[58, 115, 116, 97, 116, 117, 115]⟩, .string ⟨#[50, 48, 48]⟩]) (w.alloc (.cells (Array.replicate 122 (.string ByteArray.empty)) 110)) (by kernel_rfl) ?_
  refine Great.wpList_runTo rfl (some 9) rfl (.agg #[.string ⟨#[58, 115, 116, 97, 116, 117, 115]⟩, .string ⟨#[50, 48, 52]⟩]) (w.alloc (.cells (Array.replicate 122 (.string ByteArray.empty)) 110)) (by kernel_rfl) ?_
  refine Great.wpList_runTo rfl (some 10) rfl (.agg #[.string ⟨#[58, 115, 116, 97, 116, 117, 115]⟩, .string ⟨#[50, 48, 54]⟩]) (w.alloc (.cells (Array.replicate 122 (.string ByteArray.empty)) 110)) (by kernel_rfl) ?_
  refine Great.wpList_runTo rfl (some 11) rfl (.agg #[.string ⟨#[58, 115, 116, 97, 116, 117, 115]⟩, .string ⟨#[51, 48, 52]⟩]) (w.alloc (.cells (Array.replicate 122 (.string ByteArray.empty)) 110)) (by kernel_rfl) ?_
  refine Great.wpList_runTo rfl (some 12) rfl (.agg #[.string ⟨#[58, 115, 116, 97, 116, 117, 115]⟩, .string ⟨#[52, 48, 48]⟩]) (w.alloc (.cells (Array.replicate 122 (.string ByteArray.empty)) 110)) (by kernel_rfl) ?_
  refine Great.wpList_runTo rfl (some 13) rfl (.agg #[.string ⟨#[58, 115, 116, 97, 116, 117, 115]⟩, .string ⟨#[52, 48, 52]⟩]) (w.alloc (.cells (Array.replicate 122 (.string ByteArray.empty)) 110)) (by kernel_rfl) ?_
  refine Great.wpList_runTo rfl (some 14) rfl (.agg #[.string ⟨#[58, 115, 116, 97, 116, 117, 115]⟩, .string ⟨#[53, 48, 48]⟩]) (w.alloc (.cells (Array.replicate 122 (.string ByteArray.empty)) 110)) (by kernel_rfl) ?_
  refine Great.wpList_runTo rfl (some 15) rfl (.agg #[.string ⟨#[97, 99, 99, 101, 112, 116, 45, 99, 104, 97, 114, 115, 101, 116]⟩, .string ⟨#[]⟩]) (w.alloc (.cells (Array.replicate 122 (.string ByteArray.empty)) 110)) (by kernel_rfl) ?_
  refine Great.wpList_runTo rfl (some 16) rfl (.agg #[.string ⟨#[97, 99, 99, 101, 112, 116, 45, 101, 110, 99, 111, 100, 105, 110, 103]⟩, .string ⟨#[103, 122, 105, 112, 44, 32, 100, 101, 102, 108, 97, 116, 101]⟩]) (w.alloc (.cells (Array.replicate 122 (.string ByteArray.empty)) 110)) (by kernel_rfl) ?_
  refine Great.wpList_runTo rfl (some 17) rfl (.agg #[.string ⟨#[97, 99, 99, 101, 112, 116, 45, 108, 97, 110, 103, 117, 97, 103, 101]⟩, .string ⟨#[]⟩]) (w.alloc (.cells (Array.replicate 122 (.string ByteArray.empty)) 110)) (by kernel_rfl) ?_
  refine Great.wpList_runTo rfl (some 18) rfl (.agg #[.string ⟨#[97, 99, 99, 101, 112, 116, 45, 114, 97, 110, 103, 101, 115]⟩, .string ⟨#[]⟩]) (w.alloc (.cells (Array.replicate 122 (.string ByteArray.empty)) 110)) (by kernel_rfl) ?_
  refine Great.wpList_runTo rfl (some 19) rfl (.agg #[.string ⟨#[97, 99, 99, 101, 112, 116]⟩, .string ⟨#[]⟩]) (w.alloc (.cells (Array.replicate 122 (.string ByteArray.empty)) 110)) (by kernel_rfl) ?_
  refine Great.wpList_runTo rfl (some 20) rfl (.agg #[.string ⟨#[97, 99, 99, 101, 115, 115, 45, 99, 111, 110, 116, 114, 111, 108, 45, 97, 108, 108, 111, 119, 45, 111, 114, 105, 103, 105, 110]⟩, .string ⟨#[]⟩]) (w.alloc (.cells (Array.replicate 122 (.string ByteArray.empty)) 110)) (by kernel_rfl) ?_
  refine Great.wpList_runTo rfl (some 21) rfl (.agg #[.string ⟨#[97, 103, 101]⟩, .string ⟨#[]⟩]) (w.alloc (.cells (Array.replicate 122 (.string ByteArray.empty)) 110)) (by kernel_rfl) ?_
  refine Great.wpList_runTo rfl (some 22) rfl (.agg #[.string ⟨#[97, 108, 108, 111, 119]⟩, .string ⟨#[]⟩]) (w.alloc (.cells (Array.replicate 122 (.string ByteArray.empty)) 110)) (by kernel_rfl) ?_
  refine Great.wpList_runTo rfl (some 23) rfl (.agg #[.string ⟨#[97, 117, 116, 104, 111, 114, 105, 122, 97, 116, 105, 111, 110]⟩, .string ⟨#[]⟩]) (w.alloc (.cells (Array.replicate 122 (.string ByteArray.empty)) 110)) (by kernel_rfl) ?_
  refine Great.wpList_runTo rfl (some 24) rfl (.agg #[.string ⟨#[99, 97, 99, 104, 101, 45, 99, 111, 110, 116, 114, 111, 108]⟩, .string ⟨#[]⟩]) (w.alloc (.cells (Array.replicate 122 (.string ByteArray.empty)) 110)) (by kernel_rfl) ?_
  refine Great.wpList_runTo rfl (some 25) rfl (.agg #[.string ⟨#[99, 111, 110, 116, 101, 110, 116, 45, 100, 105, 115, 112, 111, 115, 105, 116, 105, 111, 110]⟩, .string ⟨#[]⟩]) (w.alloc (.cells (Array.replicate 122 (.string ByteArray.empty)) 110)) (by kernel_rfl) ?_
  refine Great.wpList_runTo rfl (some 26) rfl (.agg #[.string ⟨#[99, 111, 110, 116, 101, 110, 116, 45, 101, 110, 99, 111, 100, 105, 110, 103]⟩, .string ⟨#[]⟩]) (w.alloc (.cells (Array.replicate 122 (.string ByteArray.empty)) 110)) (by kernel_rfl) ?_
  refine Great.wpList_runTo rfl (some 27) rfl (.agg #[.string ⟨#[99, 111, 110, 116, 101, 110, 116, 45, 108, 97, 110, 103, 117, 97, 103, 101]⟩, .string ⟨#[]⟩]) (w.alloc (.cells (Array.replicate 122 (.string ByteArray.empty)) 110)) (by kernel_rfl) ?_
  refine Great.wpList_runTo rfl (some 28) rfl (.agg #[.string ⟨#[99, 111, 110, 116, 101, 110, 116, 45, 108, 101, 110, 103, 116, 104]⟩, .string ⟨#[]⟩]) (w.alloc (.cells (Array.replicate 122 (.string ByteArray.empty)) 110)) (by kernel_rfl) ?_
  refine Great.wpList_runTo rfl (some 29) rfl (.agg #[.string ⟨#[99, 111, 110, 116, 101, 110, 116, 45, 108, 111, 99, 97, 116, 105, 111, 110]⟩, .string ⟨#[]⟩]) (w.alloc (.cells (Array.replicate 122 (.string ByteArray.empty)) 110)) (by kernel_rfl) ?_
  refine Great.wpList_runTo rfl (some 30) rfl (.agg #[.string ⟨#[99, 111, 110, 116, 101, 110, 116, 45, 114, 97, 110, 103, 101]⟩, .string ⟨#[]⟩]) (w.alloc (.cells (Array.replicate 122 (.string ByteArray.empty)) 110)) (by kernel_rfl) ?_
  refine Great.wpList_runTo rfl (some 31) rfl (.agg #[.string ⟨#[99, 111, 110, 116, 101, 110, 116, 45, 116, 121, 112, 101]⟩, .string ⟨#[]⟩]) (w.alloc (.cells (Array.replicate 122 (.string ByteArray.empty)) 110)) (by kernel_rfl) ?_
  refine Great.wpList_runTo rfl (some 32) rfl (.agg #[.string ⟨#[99, 111, 111, 107, 105, 101]⟩, .string ⟨#[]⟩]) (w.alloc (.cells (Array.replicate 122 (.string ByteArray.empty)) 110)) (by kernel_rfl) ?_
  refine Great.wpList_runTo rfl (some 33) rfl (.agg #[.string ⟨#[100, 97, 116, 101]⟩, .string ⟨#[]⟩]) (w.alloc (.cells (Array.replicate 122 (.string ByteArray.empty)) 110)) (by kernel_rfl) ?_
  refine Great.wpList_runTo rfl (some 34) rfl (.agg #[.string ⟨#[101, 116, 97, 103]⟩, .string ⟨#[]⟩]) (w.alloc (.cells (Array.replicate 122 (.string ByteArray.empty)) 110)) (by kernel_rfl) ?_
  refine Great.wpList_runTo rfl (some 35) rfl (.agg #[.string ⟨#[101, 120, 112, 101, 99, 116]⟩, .string ⟨#[]⟩]) (w.alloc (.cells (Array.replicate 122 (.string ByteArray.empty)) 110)) (by kernel_rfl) ?_
  refine Great.wpList_runTo rfl (some 36) rfl (.agg #[.string ⟨#[101, 120, 112, 105, 114, 101, 115]⟩, .string ⟨#[]⟩]) (w.alloc (.cells (Array.replicate 122 (.string ByteArray.empty)) 110)) (by kernel_rfl) ?_
  refine Great.wpList_runTo rfl (some 37) rfl (.agg #[.string ⟨#[102, 114, 111, 109]⟩, .string ⟨#[]⟩]) (w.alloc (.cells (Array.replicate 122 (.string ByteArray.empty)) 110)) (by kernel_rfl) ?_
  refine Great.wpList_runTo rfl (some 38) rfl (.agg #[.string ⟨#[104, 111, 115, 116]⟩, .string ⟨#[]⟩]) (w.alloc (.cells (Array.replicate 122 (.string ByteArray.empty)) 110)) (by kernel_rfl) ?_
  refine Great.wpList_runTo rfl (some 39) rfl (.agg #[.string ⟨#[105, 102, 45, 109, 97, 116, 99, 104]⟩, .string ⟨#[]⟩]) (w.alloc (.cells (Array.replicate 122 (.string ByteArray.empty)) 110)) (by kernel_rfl) ?_
  refine Great.wpList_runTo rfl (some 40) rfl (.agg #[.string ⟨#[105, 102, 45, 109, 111, 100, 105, 102, 105, 101, 100, 45, 115, 105, 110, 99, 101]⟩, .string ⟨#[]⟩]) (w.alloc (.cells (Array.replicate 122 (.string ByteArray.empty)) 110)) (by kernel_rfl) ?_
  refine Great.wpList_runTo rfl (some 41) rfl (.agg #[.string ⟨#[105, 102, 45, 110, 111, 110, 101, 45, 109, 97, 116, 99, 104]⟩, .string ⟨#[]⟩]) (w.alloc (.cells (Array.replicate 122 (.string ByteArray.empty)) 110)) (by kernel_rfl) ?_
  refine Great.wpList_runTo rfl (some 42) rfl (.agg #[.string ⟨#[105, 102, 45, 114, 97, 110, 103, 101]⟩, .string ⟨#[]⟩]) (w.alloc (.cells (Array.replicate 122 (.string ByteArray.empty)) 110)) (by kernel_rfl) ?_
  refine Great.wpList_runTo rfl (some 43) rfl (.agg #[.string ⟨#[105, 102, 45, 117, 110, 109, 111, 100, 105, 102, 105, 101, 100, 45, 115, 105, 110, 99, 101]⟩, .string ⟨#[]⟩]) (w.alloc (.cells (Array.replicate 122 (.string ByteArray.empty)) 110)) (by kernel_rfl) ?_
  refine Great.wpList_runTo rfl (some 44) rfl (.agg #[.string ⟨#[108, 97, 115, 116, 45, 109, 111, 100, 105, 102, 105, 101, 100]⟩, .string ⟨#[]⟩]) (w.alloc (.cells (Array.replicate 122 (.string ByteArray.empty)) 110)) (by kernel_rfl) ?_
  refine Great.wpList_runTo rfl (some 45) rfl (.agg #[.string ⟨#[108, 105, 110, 107]⟩, .string ⟨#[]⟩]) (w.alloc (.cells (Array.replicate 122 (.string ByteArray.empty)) 110)) (by kernel_rfl) ?_
  refine Great.wpList_runTo rfl (some 46) rfl (.agg #[.string ⟨#[108, 111, 99, 97, 116, 105, 111, 110]⟩, .string ⟨#[]⟩]) (w.alloc (.cells (Array.replicate 122 (.string ByteArray.empty)) 110)) (by kernel_rfl) ?_
  refine Great.wpList_runTo rfl (some 47) rfl (.agg #[.string ⟨#[109, 97, 120, 45, 102, 111, 114, 119, 97, 114, 100, 115]⟩, .string ⟨#[]⟩]) (w.alloc (.cells (Array.replicate 122 (.string ByteArray.empty)) 110)) (by kernel_rfl) ?_
  refine Great.wpList_runTo rfl (some 48) rfl (.agg #[.string ⟨#[112, 114, 111, 120, 121, 45, 97, 117, 116, 104, 101, 110, 116, 105, 99, 97, 116, 101]⟩, .string ⟨#[]⟩]) (w.alloc (.cells (Array.replicate 122 (.string ByteArray.empty)) 110)) (by kernel_rfl) ?_
  refine Great.wpList_runTo rfl (some 49) rfl (.agg #[.string ⟨#[112, 114, 111, 120, 121, 45, 97, 117, 116, 104, 111, 114, 105, 122, 97, 116, 105, 111, 110]⟩, .string ⟨#[]⟩]) (w.alloc (.cells (Array.replicate 122 (.string ByteArray.empty)) 110)) (by kernel_rfl) ?_
  refine Great.wpList_runTo rfl (some 50) rfl (.agg #[.string ⟨#[114, 97, 110, 103, 101]⟩, .string ⟨#[]⟩]) (w.alloc (.cells (Array.replicate 122 (.string ByteArray.empty)) 110)) (by kernel_rfl) ?_
  refine Great.wpList_runTo rfl (some 51) rfl (.agg #[.string ⟨#[114, 101, 102, 101, 114, 101, 114]⟩, .string ⟨#[]⟩]) (w.alloc (.cells (Array.replicate 122 (.string ByteArray.empty)) 110)) (by kernel_rfl) ?_
  refine Great.wpList_runTo rfl (some 52) rfl (.agg #[.string ⟨#[114, 101, 102, 114, 101, 115, 104]⟩, .string ⟨#[]⟩]) (w.alloc (.cells (Array.replicate 122 (.string ByteArray.empty)) 110)) (by kernel_rfl) ?_
  refine Great.wpList_runTo rfl (some 53) rfl (.agg #[.string ⟨#[114, 101, 116, 114, 121, 45, 97, 102, 116, 101, 114]⟩, .string ⟨#[]⟩]) (w.alloc (.cells (Array.replicate 122 (.string ByteArray.empty)) 110)) (by kernel_rfl) ?_
  refine Great.wpList_runTo rfl (some 54) rfl (.agg #[.string ⟨#[115, 101, 114, 118, 101, 114]⟩, .string ⟨#[]⟩]) (w.alloc (.cells (Array.replicate 122 (.string ByteArray.empty)) 110)) (by kernel_rfl) ?_
  refine Great.wpList_runTo rfl (some 55) rfl (.agg #[.string ⟨#[115, 101, 116, 45, 99, 111, 111, 107, 105, 101]⟩, .string ⟨#[]⟩]) (w.alloc (.cells (Array.replicate 122 (.string ByteArray.empty)) 110)) (by kernel_rfl) ?_
  refine Great.wpList_runTo rfl (some 56) rfl (.agg #[.string ⟨#[115, 116, 114, 105, 99, 116, 45, 116, 114, 97, 110, 115, 112, 111, 114, 116, 45, 115, 101, 99, 117, 114, 105, 116, 121]⟩, .string ⟨#[]⟩]) (w.alloc (.cells (Array.replicate 122 (.string ByteArray.empty)) 110)) (by kernel_rfl) ?_
  refine Great.wpList_runTo rfl (some 57) rfl (.agg #[.string ⟨#[116, 114, 97, 110, 115, 102, 101, 114, 45, 101, 110, 99, 111, 100, 105, 110, 103]⟩, .string ⟨#[]⟩]) (w.alloc (.cells (Array.replicate 122 (.string ByteArray.empty)) 110)) (by kernel_rfl) ?_
  refine Great.wpList_runTo rfl (some 58) rfl (.agg #[.string ⟨#[117, 115, 101, 114, 45, 97, 103, 101, 110, 116]⟩, .string ⟨#[]⟩]) (w.alloc (.cells (Array.replicate 122 (.string ByteArray.empty)) 110)) (by kernel_rfl) ?_
  refine Great.wpList_runTo rfl (some 59) rfl (.agg #[.string ⟨#[118, 97, 114, 121]⟩, .string ⟨#[]⟩]) (w.alloc (.cells (Array.replicate 122 (.string ByteArray.empty)) 110)) (by kernel_rfl) ?_
  refine Great.wpList_runTo rfl (some 60) rfl (.agg #[.string ⟨#[118, 105, 97]⟩, .string ⟨#[]⟩]) (w.alloc (.cells (Array.replicate 122 (.string ByteArray.empty)) 110)) (by kernel_rfl) ?_
  refine Great.wpList_runTo rfl (some 61) rfl (.agg #[.string ⟨#[119, 119, 119, 45, 97, 117, 116, 104, 101, 110, 116, 105, 99, 97, 116, 101]⟩, .string ⟨#[]⟩]) (w.alloc (.cells (Array.replicate 122 (.string ByteArray.empty)) 110)) (by kernel_rfl) ?_
  refine Great.wpList_runTo rfl (some 62) rfl (.agg statV.toArray) (w.alloc (.cells (Array.replicate 122 (.string ByteArray.empty)) 110)) (by kernel_rfl) ?_
  refine wpList_store_rowTo rfl 110 (.tmp 0) (.tmp 62) rfl rfl w.heap.size statV.toArray (by kernel_rfl) (by kernel_rfl) 110 (Array.replicate 122 (.string ByteArray.empty)) (heapNew w _) (by kernel_rfl) (by kernel_rfl) (by kernel_rfl) ?_
  go_wp2_with fail
  refine bodyPost_ret (v := .agg statV.toArray) (results_cell_row rfl _ _ w.heap.size 110 statV.toArray (0, 0) _ (by kernel_rfl) (setRow_heap _ _ _ _ _ _ (heapNew w _)) Try.underlying110 rfl (by kernel_rfl)) rfl ?_
  exact ⟨rfl, ((Below.refl _ _).alloc (Nat.le_refl _) _).trans ⟨rfl, rfl, rfl, by simp, fun k hk => setRow_other _ _ _ _ (by omega)⟩⟩
end Go.Proofs.Ytfpcamkimjecdaa
