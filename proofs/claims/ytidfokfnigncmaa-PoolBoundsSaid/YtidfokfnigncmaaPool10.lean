/- The walks of pool.forget, pool.Put. -/
import Derived.Test.YtidfokfnigncmaaPool9
import Derived.StillTailTactics
namespace Go.Proofs.Ytidfokfnigncmaa
open Go.RowKit

def Bk.inc (B : Bk) (o : Nat) (d : Int) : Bk := { B with mn := fun j => if j = o then B.mn j + d else B.mn j }
section
variable {w w' : World} {g mb c N : Nat} {A : Option Addr} {H : List Nat} {m : Nat → Lk} {B : Bk}
theorem HM.setMany (h : HM w g mb B A c H m) {o : Nat} (ho : o < 4) (d : Int) : HM (w.setCell ⟨g, 5 + o, none⟩ (.int .i64 (B.mn o + d))) g mb (B.inc o d) A c H m := by
  refine ⟨?_, h.row.keep fun q hq => set_other _ ?_, fun i b hb => (set_other _ (fun (e : b = g) => h.gH (e ▸ List.mem_of_getElem? hb))).trans (h.lk i b hb), h.gH, h.apart, h.nodup⟩
  · rw [set_block h.book]
    match o, ho with
    | 0, _ => rfl
    | 1, _ => rfl
    | 2, _ => rfl
    | 3, _ => rfl
  · cases A with
    | none => cases hq
    | some a => simp only [Value.ownBlock, Option.some.injEq] at hq; subst hq; exact (h.apart a rfl).1
theorem HM.setLast (h : HM w g mb B A c H m) (v : Int) : HM (w.setCell ⟨g, 2, none⟩ (.int .i64 v)) g mb { B with la := v } A c H m := by
  refine ⟨?_, h.row.keep fun q hq => set_other _ ?_, fun i b hb => (set_other _ (fun (e : b = g) => h.gH (e ▸ List.mem_of_getElem? hb))).trans (h.lk i b hb), h.gH, h.apart, h.nodup⟩
  · rw [set_block h.book]; rfl
  · cases A with
    | none => cases hq
    | some a => simp only [Value.ownBlock, Option.some.injEq] at hq; subst hq; exact (h.apart a rfl).1
end
def ForgetPost (W : World) (g mb : Nat) (B : Bk) (A : Option Addr) (c N : Nat) (H : List Nat) (m : Nat → Lk) (f : Int → Option Nat) (k o : Nat) (id : Int) (e : Ending) (w' : World) : Prop :=
  e = .returned (.tuple #[]) ∧ HM w' g mb (B.inc o (-1)) A c H m ∧ MapIs w' mb N (fun j => if j = id then none else f j) (k - 1) ∧ Kept (fun q => q = g ∨ q = mb) W w'
set_option maxRecDepth 100000 in
set_option maxHeartbeats 2000000 in
theorem forget_any {g mb c N k b o : Nat} {A : Option Addr} {H : List Nat} {m : Nat → Lk} {B : Bk} {f : Int → Option Nat} {X : Lk} {p : Int} (w : World) (h : HM w g mb B A c H m) (hm : MapIs w mb N f k) (hx : w.heap[b]? = some (.cells (lkCells X p) 63 (0, 0)))
    (hf : f X.id = some b) (hid : okI X.id) (ho : X.org = o) (ho4 : o < 4) (hmn0 : 0 ≤ B.mn o) (hmn1 : B.mn o ≤ 4) (hbm : b ≠ mb) (hgm : g ≠ mb) (hHm : ¬ hfoot A H mb) :
    Calls Try.prog 29 #[.pointer (some ⟨g, 0, none⟩), .pointer (some ⟨b, 0, none⟩)] w (ForgetPost w g mb B A c N H m f k o X.id) := by
  obtain ⟨-, -, -, c3, -⟩ := h.cells
  have cm := h.many ho4
  have cf := h.free (5 + o)
  obtain ⟨x0, x1, -, -⟩ := lk_cells hx
  rw [ho] at x1
  have hgl := h.glt
  have hbl := (Array.getElem?_eq_some_iff.1 hx).1
  obtain ⟨w1, hrun, hm1, hg1⟩ := MapIs.del (w := w.drew) (hm.keep rfl) hid hf 0
  have hgk : w1.heap[g]? = w.heap[g]? := hg1.block g hgl (by simpa using hgm)
  have hbk : w1.heap[b]? = w.heap[b]? := hg1.block b hbl (by simpa using hbm)
  have c3' : w1.cell? ⟨g, 3, none⟩ = some (.map (some mb)) := (World.cell?_of_block (a := ⟨g, 3, none⟩) hgk).trans c3
  have cm' : w1.cell? ⟨g, 5 + o, none⟩ = some (.int .i64 (B.mn o)) := (World.cell?_of_block (a := ⟨g, 5 + o, none⟩) hgk).trans cm
  have cf' : w1.frozen? ⟨g, 5 + o, none⟩ = false := (World.frozen?_of_block (a := ⟨g, 5 + o, none⟩) hgk).trans cf
  have x1' : w1.cell? ⟨b, 1, none⟩ = some (.int .i64 (o : Int)) := (World.cell?_of_block (a := ⟨b, 1, none⟩) hbk).trans x1
  have h1 : HM w1 g mb B A c H m := h.keep hgk (fun q hq => hg1.block q (h.lt q hq) (by simpa using fun (e : q = mb) => hHm (e ▸ hq)))
  have HH := Lib.hid (And.intro h1 (And.intro hm1 hg1))
  have o0 : (0 : Int) ≤ o := by omega
  have o1 : (o : Int) < 4 := by omega
  have HMM := Lib.hid hHm
  clear h hm hx hf ho hm1 hg1 hgk hbk h1 hHm
  go_enter Try.func29, Try.ntmps29
  go_wp2
  go_still_tail 8, (by kernel_rfl)
  change wpList _ _ _ _ _ w.drew
  go_wp2
  go_region
  all_goals
    go_wp2
    go_end0
    obtain ⟨h1, h2, h3⟩ := HH.out
    refine ⟨rfl, (h1.setMany ho4 (-1)).keep rfl (fun _ _ => rfl), (h2.keep (w' := (w1.setCell ⟨g, 5 + o, none⟩ (.int .i64 (B.mn o - 1))).drew) (set_other _ (Ne.symm hgm))), ?_⟩
    exact ((((Kept.refl _ _).drew).grown h3 (fun q hq => by cases hq; exact .inl (.inr rfl))).setCell (.inl rfl) _ _).drew

theorem pw_inj {α : Type} {f : α → Int} {l : List α} (hs : l.Pairwise (fun a b => f a < f b)) {a b : α} (ha : a ∈ l) (hb : b ∈ l) (h : f a = f b) : a = b := by
  induction l with
  | nil => cases ha
  | cons x l ih =>
    rw [List.pairwise_cons] at hs
    rcases List.mem_cons.1 ha with h1 | h1
    · rcases List.mem_cons.1 hb with h2 | h2
      · rw [h1, h2]
      · have := hs.1 b h2; rw [h1] at h; omega
    · rcases List.mem_cons.1 hb with h2 | h2
      · have := hs.1 a h1; rw [h2] at h; omega
      · exact ih hs.2 h1 h2
theorem nd_inj {E : List (Nat × Ln)} (hs : (E.map (·.1)).Nodup) {b : Nat} {x y : Ln} (ha : (b, x) ∈ E) (hb : (b, y) ∈ E) : x = y := by
  induction E with
  | nil => cases ha
  | cons e l ih =>
    rw [List.map_cons, List.nodup_cons] at hs
    rcases List.mem_cons.1 ha with h1 | h1
    · rcases List.mem_cons.1 hb with h2 | h2
      · rw [← h1] at h2; injection h2 with _ h2; exact h2.symm
      · exact absurd (by rw [← h1]; exact List.mem_map.2 ⟨(b, y), h2, rfl⟩) hs.1
    · rcases List.mem_cons.1 hb with h2 | h2
      · exact absurd (by rw [← h2]; exact List.mem_map.2 ⟨(b, x), h1, rfl⟩) hs.1
      · exact ih hs.2 h1 h2
def setE (E : List (Nat × Ln)) (id s : Int) : List (Nat × Ln) := E.map fun e => if e.2.id = id then (e.1, ⟨e.2.id, e.2.org, s⟩) else e
section
variable {w w' : World} {g mb c N : Nat} {A : Option Addr} {H : List Nat} {m : Nat → Lk} {E : List (Nat × Ln)} {B : Bk} {P : Pl}
theorem PM.pw (h : PM w g mb A c N H m E B P) : E.Pairwise (fun a b => a.2.id < b.2.id) := by
  have := h.ok.sorted
  rw [← h.eL, List.pairwise_map] at this
  exact this
theorem PM.inj (h : PM w g mb A c N H m E B P) {b b' : Nat} {x x' : Ln} (h1 : (b, x) ∈ E) (h2 : (b', x') ∈ E) (he : x.id = x'.id) : b = b' ∧ x = x' := by
  have := pw_inj (f := fun e : Nat × Ln => e.2.id) h.pw h1 h2 he
  injection this with a b
  exact ⟨a, b⟩
theorem setE_fst (E : List (Nat × Ln)) (id s : Int) : (setE E id s).map (·.1) = E.map (·.1) := by
  unfold setE
  rw [List.map_map]
  refine List.map_congr_left fun e _ => ?_
  simp only [Function.comp]
  split <;> rfl
theorem setE_snd (E : List (Nat × Ln)) (id s : Int) : (setE E id s).map (·.2) = setSn (E.map (·.2)) id s := by
  unfold setE setSn
  rw [List.map_map, List.map_map]
  refine List.map_congr_left fun e _ => ?_
  simp only [Function.comp]
  split <;> rfl
theorem setE_blk (E : List (Nat × Ln)) (id s j : Int) : blkOf (setE E id s) j = blkOf E j := by
  unfold blkOf setE
  rw [List.find?_map, Option.map_map]
  have e1 : ((fun e : Nat × Ln => decide (e.2.id = j)) ∘ fun e : Nat × Ln => if e.2.id = id then (e.1, (⟨e.2.id, e.2.org, s⟩ : Ln)) else e) = fun e => decide (e.2.id = j) := by
    funext e
    simp only [Function.comp]
    split <;> rfl
  rw [e1]
  congr 1
  funext e
  simp only [Function.comp]
  split <;> rfl
theorem mem_setE {id s : Int} {b : Nat} {x : Ln} (h : (b, x) ∈ setE E id s) : ∃ y, (b, y) ∈ E ∧ ((y.id ≠ id ∧ x = y) ∨ (y.id = id ∧ x = ⟨y.id, y.org, s⟩)) := by
  obtain ⟨⟨b', y⟩, hy, he⟩ := List.mem_map.1 h
  simp only at he
  split at he
  · rename_i hid
    injection he with e1 e2
    subst e1
    exact ⟨y, hy, .inr ⟨hid, e2.symm⟩⟩
  · rename_i hid
    injection he with e1 e2
    subst e1 e2
    exact ⟨y, hy, .inl ⟨hid, rfl⟩⟩
/-- One connection has gone to rest, or has come to work. -/
theorem PM.turn (h : PM w g mb A c N H m E B P) {b : Nat} {x : Ln} (hx : (b, x) ∈ E) {A' : Option Addr} {c' : Nat} {H' : List Nat} {m' : Nat → Lk} {s : Int} (hm : HM w' g mb B A' c' H' m') (hp : IsHeap m' H' H'.length)
    (hmid : ∀ k, (m' k).id = (m k).id ∧ (m' k).org = (m k).org) (hmo : ∀ k, k ≠ b → m' k = m k) (hH : ∀ k, k ≠ b → (k ∈ H' ↔ k ∈ H))
    (hb0 : s < 0 → b ∉ H' ∧ w'.heap[b]? = some (.cells (lkCells (m' b) (-1)) 63 (0, 0))) (hb1 : 0 ≤ s → (m' b).sn = s ∧ b ∈ H')
    (hk : ∀ k y, (k, y) ∈ E → k ≠ b → k ∉ H → w'.heap[k]? = w.heap[k]?) (hmb : w'.heap[mb]? = w.heap[mb]?) (hA : ∀ a, A' = some a → a.block ≠ mb ∧ ∀ k y, (k, y) ∈ E → a.block ≠ k) (hs0 : -1 ≤ s) (hs1 : s ≤ 1099511627776) :
    PM w' g mb A' c' N H' m' (setE E x.id s) B { P with L := setSn P.L x.id s } := by
  have hmem : ∀ k y, (k, y) ∈ setE E x.id s → ∃ z, (k, z) ∈ E := fun k y hy => by
    obtain ⟨z, hz, _⟩ := mem_setE hy
    exact ⟨z, hz⟩
  refine ⟨by rw [setE_snd, h.eL], hm, hp, fun k y hy => ?_, fun k hkH => ?_, by rw [setE_fst]; exact h.nd, fun k y hy => ?_, ⟨h.gmb.1, fun a ha => (hA a ha).1⟩, ?_, h.bk, fun o ho => ?_, h.ok.set hs0 hs1⟩
  · obtain ⟨z, hz, ⟨h1, rfl⟩ | ⟨h1, rfl⟩⟩ := mem_setE hy
    · obtain ⟨e1, e2, e3⟩ := h.ent k y hz
      have hkb : k ≠ b := fun e => h1 (by subst e; rw [nd_inj h.nd hz hx])
      refine ⟨(hmid k).1.trans e1, (hmid k).2.trans e2, ?_⟩
      rcases e3 with ⟨e3, e4, e5⟩ | ⟨e3, e4, e5⟩
      · exact .inl ⟨e3, fun hh => e4 ((hH k hkb).1 hh), by rw [hk k y hz hkb e4, hmo k hkb]; exact e5⟩
      · exact .inr ⟨e3, by rw [hmo k hkb]; exact e4, (hH k hkb).2 e5⟩
    · obtain ⟨rfl, rfl⟩ := h.inj hz hx h1
      obtain ⟨e1, e2, _⟩ := h.ent k z hz
      refine ⟨(hmid k).1.trans e1, (hmid k).2.trans e2, ?_⟩
      by_cases hs : s < 0
      · exact .inl ⟨hs, hb0 hs⟩
      · exact .inr ⟨by simp only; omega, hb1 (by omega)⟩
  · have : ∃ y, (k, y) ∈ E := by
      by_cases e : k = b
      · subst e; exact ⟨x, hx⟩
      · exact h.hE k ((hH k e).1 hkH)
    obtain ⟨y, hy⟩ := this
    exact ⟨_, List.mem_map.2 ⟨(k, y), hy, by
      show (if y.id = x.id then ((k, ⟨y.id, y.org, s⟩) : Nat × Ln) else (k, y)) = (k, if y.id = x.id then ⟨y.id, y.org, s⟩ else y)
      split <;> rfl⟩⟩
  · obtain ⟨z, hz⟩ := hmem k y hy
    obtain ⟨f1, f2, _⟩ := h.far k z hz
    exact ⟨f1, f2, fun a ha => (hA a ha).2 k z hz⟩
  · have := (h.mp.keep hmb).congr (f' := blkOf (setE E x.id s)) (fun i _ => setE_blk E x.id s i)
    rwa [show (setE E x.id s).length = E.length by simp [setE]]
  · simp only [setSn_cnt]; exact h.mn o ho
theorem setE_foot {g mb : Nat} {A A' : Option Addr} {id s : Int} {k : Nat} (h : pfoot g mb A' (setE E id s) k) : pfoot g mb A E k ∨ ∃ a, A' = some a ∧ a.block = k := by
  rcases h with h | h | h | ⟨x, h⟩
  · exact .inl (.inl h)
  · exact .inl (.inr (.inl h))
  · exact .inr h
  · obtain ⟨y, hy, _⟩ := mem_setE h
    exact .inl (.inr (.inr (.inr ⟨y, hy⟩)))
theorem HM.congr_m (h : HM w g mb B A c H m) {m' : Nat → Lk} (hm : ∀ k ∈ H, m' k = m k) : HM w g mb B A c H m' :=
  ⟨h.book, h.row, fun i b hb => by rw [hm b (List.mem_of_getElem? hb)]; exact h.lk i b hb, h.gH, h.apart, h.nodup⟩
theorem IsHeap.congr_m {m m' : Nat → Lk} {H : List Nat} {n : Nat} (h : IsHeap m H n) (hn : n ≤ H.length) (hm : ∀ k ∈ H, m' k = m k) : IsHeap m' H n := by
  have e : ∀ k, k < n → key m' H k = key m H k := fun k hk => by
    unfold key
    rw [List.getD_eq_getElem?_getD, List.getElem?_eq_getElem (by omega)]
    exact hm _ (List.getElem_mem _)
  intro k h0 hk
  rw [e _ (by omega), e k hk]
  exact h k h0 hk
end
end Go.Proofs.Ytidfokfnigncmaa
