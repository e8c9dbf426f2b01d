/- What stores into a table's block and its maps leave; look-ups in its maps. -/
import Derived.Test.YthpieiipddfpjaaTab
namespace Go.Proofs.Ythpieiipddfpjaa
open Go.RowKit Go.Maps

section
variable {w w' : World} {g mb mn c N : Nat} {A : Option Addr} {most size gone : Int} {rows : List Rw} {fb fb' : Rw → Option Int} {fn fn' : ByteArray → Option Int}
theorem Raw.congr (h : Raw w g mb mn A c N most size gone rows fb fn) (h1 : ∀ r, okR r → fb' r = fb r) (h2 : ∀ s, okS s → fn' s = fn s) : Raw w g mb mn A c N most size gone rows fb' fn' := by
  obtain ⟨D1, o1, v1⟩ := h.both
  obtain ⟨D2, o2, v2⟩ := h.name
  exact ⟨h.book, h.row, ⟨D1, o1, v1.congr h1⟩, ⟨D2, o2, v2.congr h2⟩, h.ne, h.apart⟩
theorem Raw.more (h : Raw w g mb mn A c N most size gone rows fb fn) {N' : Nat} (hN : N ≤ N') : Raw w g mb mn A c N' most size gone rows fb fn := by
  obtain ⟨D1, o1, v1⟩ := h.both
  obtain ⟨D2, o2, v2⟩ := h.name
  exact ⟨h.book, h.row, ⟨D1, o1.mono hN, v1⟩, ⟨D2, o2.mono hN, v2⟩, h.ne, h.apart⟩
theorem Raw.put (h : Raw w g mb mn A c N most size gone rows fb fn) {o : Nat} {v : Value} {most' size' gone' : Int} {A' : Option Addr} {c' : Nat} {rows' : List Rw}
    (hb : (#[Value.int .i64 most, .int .i64 size, .slice A rows.length c, .int .i64 gone, .map (some mb), .map (some mn)] : Array Value).setIfInBounds o v = #[.int .i64 most', .int .i64 size', .slice A' rows'.length c', .int .i64 gone', .map (some mb), .map (some mn)])
    (hr : Lies w 85 2 (.slice A' rows'.length c') rows'.length (rcs rows')) (ha : ∀ a, A' = some a → a.block ≠ g ∧ a.block ≠ mb ∧ a.block ≠ mn) :
    Raw (w.setCell ⟨g, o, none⟩ v) g mb mn A' c' N most' size' gone' rows' fb fn := by
  have hk : ∀ k, k ≠ g → (w.setCell ⟨g, o, none⟩ v).heap[k]? = w.heap[k]? := fun k hk => Below.heap_setCell _ _ _ _ (by simpa using hk)
  obtain ⟨D1, ⟨e1, l1, a1, b1⟩, v1⟩ := h.both
  obtain ⟨D2, ⟨e2, l2, a2, b2⟩, v2⟩ := h.name
  refine ⟨?_, hr.keep fun q hq => hk q ?_, ⟨D1, ⟨e1, l1, (hk mb (Ne.symm h.ne.1)).trans a1, b1⟩, v1⟩, ⟨D2, ⟨e2, l2, (hk mn (Ne.symm h.ne.2.1)).trans a2, b2⟩, v2⟩, h.ne, ha⟩
  · simp only [World.setCell, Array.getElem?_modify, if_true]
    rw [h.book]
    simp only [Option.map_some]
    rw [← hb]
    rfl
  · cases A' with
    | none => cases hq
    | some a => simp only [Value.ownBlock, Option.some.injEq] at hq; subst hq; exact (ha a rfl).1
theorem Raw.setMost (h : Raw w g mb mn A c N most size gone rows fb fn) (v : Int) : Raw (w.setCell ⟨g, 0, none⟩ (.int .i64 v)) g mb mn A c N v size gone rows fb fn := h.put rfl h.row h.apart
theorem Raw.setSize (h : Raw w g mb mn A c N most size gone rows fb fn) (v : Int) : Raw (w.setCell ⟨g, 1, none⟩ (.int .i64 v)) g mb mn A c N most v gone rows fb fn := h.put rfl h.row h.apart
theorem Raw.setGone (h : Raw w g mb mn A c N most size gone rows fb fn) (v : Int) : Raw (w.setCell ⟨g, 3, none⟩ (.int .i64 v)) g mb mn A c N most size v rows fb fn := h.put rfl h.row h.apart
theorem Raw.setRows (h : Raw w g mb mn A c N most size gone rows fb fn) {A' : Option Addr} {c' : Nat} {rows' : List Rw} (hr : Lies w 85 2 (.slice A' rows'.length c') rows'.length (rcs rows'))
    (ha : ∀ a, A' = some a → a.block ≠ g ∧ a.block ≠ mb ∧ a.block ≠ mn) : Raw (w.setCell ⟨g, 2, none⟩ (.slice A' rows'.length c')) g mb mn A' c' N most size gone rows' fb fn := h.put rfl hr ha
/-- The oldest row goes. -/
def cut1 (A : Option Addr) (c : Nat) : Option Addr := if c = 1 then A else A.map (·.add 2)
theorem cut1_block {A : Option Addr} {c : Nat} {a : Addr} (h : cut1 A c = some a) : ∃ a0, A = some a0 ∧ a0.block = a.block := by
  unfold cut1 at h
  split at h
  · exact ⟨a, h, rfl⟩
  · cases A with
    | none => cases h
    | some a0 => simp at h; subst h; exact ⟨a0, rfl, rfl⟩
theorem Raw.tail {r : Rw} {l : List Rw} (h : Raw w g mb mn A c N most size gone (r :: l) fb fn) : Raw (w.setCell ⟨g, 2, none⟩ (.slice (cut1 A c) l.length (c - 1))) g mb mn (cut1 A c) (c - 1) N most size gone l fb fn := by
  refine h.setRows ?_ (fun a ha => ?_)
  · have := h.row.tail (by simp) rfl
    simpa [rcs_drop, cut1] using this
  · obtain ⟨a0, h0, hb⟩ := cut1_block ha
    rw [← hb]; exact h.apart a0 h0
/-- A map's block is another. -/
theorem Raw.newBoth (h : Raw w g mb mn A c N most size gone rows fb fn) {D : DataW Unit} {N' : Nat} (hg : w.grownBy w' (some mb)) (ho : w'.ownsMap Try.prog 85 (plainElem Try.prog 3) mb N' D) (hv : View rowKey okR D fb') (hN : N ≤ N') :
    Raw w' g mb mn A c N' most size gone rows fb' fn := by
  obtain ⟨D2, o2, v2⟩ := h.name
  have hl := h.lt
  refine ⟨(hg.block g (hl g (.inl rfl)) (by simpa using h.ne.1)).trans h.book, h.row.keep fun q hq => ?_, ⟨D, ho, hv⟩, ⟨D2, (o2.kept hg (by simpa using Ne.symm h.ne.2.2)).mono hN, v2⟩, h.ne, h.apart⟩
  cases A with
  | none => cases hq
  | some a =>
    simp only [Value.ownBlock, Option.some.injEq] at hq
    subst hq
    exact hg.block _ (hl _ (.inr (.inr (.inr ⟨a, rfl, rfl⟩)))) (by simpa using (h.apart a rfl).2.1)
theorem Raw.newName (h : Raw w g mb mn A c N most size gone rows fb fn) {D : DataW Unit} {N' : Nat} (hg : w.grownBy w' (some mn)) (ho : w'.ownsMap Try.prog 9 (plainElem Try.prog 3) mn N' D) (hv : View strKey okS D fn') (hN : N ≤ N') :
    Raw w' g mb mn A c N' most size gone rows fb fn' := by
  obtain ⟨D1, o1, v1⟩ := h.both
  have hl := h.lt
  refine ⟨(hg.block g (hl g (.inl rfl)) (by simpa using h.ne.2.1)).trans h.book, h.row.keep fun q hq => ?_, ⟨D1, (o1.kept hg (by simpa using h.ne.2.2)).mono hN, v1⟩, ⟨D, ho, hv⟩, h.ne, h.apart⟩
  cases A with
  | none => cases hq
  | some a =>
    simp only [Value.ownBlock, Option.some.injEq] at hq
    subst hq
    exact hg.block _ (hl _ (.inr (.inr (.inr ⟨a, rfl, rfl⟩)))) (by simpa using (h.apart a rfl).2.2)
/-- Looked up. -/
theorem Raw.lookB (h : Raw w g mb mn A c N most size gone rows fb fn) {r : Rw} {x : Int} (hr : okR r) (hf : fb r = some x) (k : Nat) :
    (Instr.lookup 78 (.map (some mb)) (rowV r) false).run Try.prog (w.drewN k) = .ok (.int .i64 x) (w.drewN k) := by
  obtain ⟨D, ho, hv⟩ := (h.keep (w' := w.drewN k) (fun _ _ => rfl)).both
  obtain ⟨y, hrun, hat, _⟩ := ho.lookup_int lawRow Try.underlying78 Try.underlying3 (zeroInt _) (rowKey_ok hr)
  have := (hv.at_ r x hr hf).symm.trans hat
  rw [num_inj this] at hrun
  exact hrun
theorem Raw.lookN (h : Raw w g mb mn A c N most size gone rows fb fn) {s : ByteArray} {x : Int} (hr : okS s) (hf : fn s = some x) (k : Nat) :
    (Instr.lookup 79 (.map (some mn)) (.string s) false).run Try.prog (w.drewN k) = .ok (.int .i64 x) (w.drewN k) := by
  obtain ⟨D, ho, hv⟩ := (h.keep (w' := w.drewN k) (fun _ _ => rfl)).name
  obtain ⟨y, hrun, hat, _⟩ := ho.lookup_int lawStr Try.underlying79 Try.underlying3 (zeroInt _) (strKey_ok hr)
  have := (hv.at_ s x hr hf).symm.trans hat
  rw [num_inj this] at hrun
  exact hrun
/-- 'v, ok := m[k]' -/
def okV : Option Int → Value
  | some x => .tuple #[.int .i64 x, .bool true]
  | none => .tuple #[.int .i64 0, .bool false]
theorem Raw.lookB2 (h : Raw w g mb mn A c N most size gone rows fb fn) {r : Rw} (hr : okR r) (k : Nat) :
    (Instr.lookup 78 (.map (some mb)) (rowV r) true).run Try.prog (w.drewN k) = .ok (okV (fb r)) (w.drewN k) := by
  obtain ⟨D, ho, hv⟩ := (h.keep (w' := w.drewN k) (fun _ _ => rfl)).both
  obtain ⟨v, ps, hrun, hR⟩ := ho.look_ok lawRow Try.underlying78 (zeroInt _) (plainElem_int Try.underlying3 (by decide)) (rowKey_ok hr)
  obtain ⟨y, rfl, hy, _⟩ := plainElem_int_inv Try.underlying3 hR
  simp only [Prod.mk.injEq] at hy
  rw [hrun, hv.has r hr]
  cases hf : fb r with
  | none =>
    have := hy.1.symm.trans (hv.none_ hr hf _)
    simp at this
    rw [this]; rfl
  | some x =>
    have := (hv.at_ r x hr hf).symm.trans hy.1
    rw [num_inj this]; rfl
theorem Raw.lookN2 (h : Raw w g mb mn A c N most size gone rows fb fn) {s : ByteArray} (hr : okS s) (k : Nat) :
    (Instr.lookup 79 (.map (some mn)) (.string s) true).run Try.prog (w.drewN k) = .ok (okV (fn s)) (w.drewN k) := by
  obtain ⟨D, ho, hv⟩ := (h.keep (w' := w.drewN k) (fun _ _ => rfl)).name
  obtain ⟨v, ps, hrun, hR⟩ := ho.look_ok lawStr Try.underlying79 (zeroInt _) (plainElem_int Try.underlying3 (by decide)) (strKey_ok hr)
  obtain ⟨y, rfl, hy, _⟩ := plainElem_int_inv Try.underlying3 hR
  simp only [Prod.mk.injEq] at hy
  rw [hrun, hv.has s hr]
  cases hf : fn s with
  | none =>
    have := hy.1.symm.trans (hv.none_ hr hf _)
    simp at this
    rw [this]; rfl
  | some x =>
    have := (hv.at_ s x hr hf).symm.trans hy.1
    rw [num_inj this]; rfl
end
end Go.Proofs.Ythpieiipddfpjaa
