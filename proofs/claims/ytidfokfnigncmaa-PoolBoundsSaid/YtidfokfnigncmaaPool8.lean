/- A pool in memory; the walks of pool.New, time, Origin, Len. -/
import Derived.Test.YtidfokfnigncmaaPoolMap
import Derived.Test.YtidfokfnigncmaaPoolPlain
import Derived.Test.YtidfokfnigncmaaPool7
namespace Go.Proofs.Ytidfokfnigncmaa
open Go.RowKit

def blkOf (E : List (Nat × Ln)) (id : Int) : Option Nat := (E.find? fun e => e.2.id = id).map (·.1)
/-- A pool in memory: E is its connections, each with its block. -/
structure PM (w : World) (g mb : Nat) (A : Option Addr) (c N : Nat) (H : List Nat) (m : Nat → Lk) (E : List (Nat × Ln)) (B : Bk) (P : Pl) : Prop where
  eL : E.map (·.2) = P.L
  hm : HM w g mb B A c H m
  hp : IsHeap m H H.length
  ent : ∀ (b : Nat) (x : Ln), (b, x) ∈ E → (m b).id = x.id ∧ (m b).org = x.org ∧ ((x.sn < 0 ∧ b ∉ H ∧ w.heap[b]? = some (.cells (lkCells (m b) (-1)) 63 (0, 0))) ∨ (0 ≤ x.sn ∧ (m b).sn = x.sn ∧ b ∈ H))
  hE : ∀ b ∈ H, ∃ x, (b, x) ∈ E
  nd : (E.map (·.1)).Nodup
  far : ∀ (b : Nat) (x : Ln), (b, x) ∈ E → b ≠ g ∧ b ≠ mb ∧ ∀ a, A = some a → a.block ≠ b
  gmb : g ≠ mb ∧ ∀ a, A = some a → a.block ≠ mb
  mp : MapIs w mb N (blkOf E) E.length
  bk : B.mo = P.mo ∧ B.idl = P.idl ∧ B.la = P.la
  mn : ∀ o : Nat, o < 4 → B.mn o = cnt P.L o
  ok : PlOk N P
def pfoot (g mb : Nat) (A : Option Addr) (E : List (Nat × Ln)) (k : Nat) : Prop := k = g ∨ k = mb ∨ (∃ a, A = some a ∧ a.block = k) ∨ ∃ x, (k, x) ∈ E
def PoolIs (w : World) (g : Nat) (F : Nat → Prop) (N : Nat) (P : Pl) : Prop := ∃ mb A c H m E B, F = pfoot g mb A E ∧ PM w g mb A c N H m E B P
section
variable {w w' : World} {g mb c N : Nat} {A : Option Addr} {H : List Nat} {m : Nat → Lk} {E : List (Nat × Ln)} {B : Bk} {P : Pl}
theorem PM.blk (h : PM w g mb A c N H m E B P) {b : Nat} {x : Ln} (he : (b, x) ∈ E) : ∃ p : Int, w.heap[b]? = some (.cells (lkCells (m b) p) 63 (0, 0)) ∧ ((x.sn < 0 ∧ p = -1 ∧ b ∉ H) ∨ (0 ≤ x.sn ∧ (m b).sn = x.sn ∧ ∃ i : Nat, p = i ∧ H[i]? = some b)) := by
  obtain ⟨_, _, ⟨h1, h2, h3⟩ | ⟨h1, h2, h3⟩⟩ := h.ent b x he
  · exact ⟨-1, h3, .inl ⟨h1, rfl, h2⟩⟩
  · obtain ⟨i, hi⟩ := List.getElem?_of_mem h3
    exact ⟨i, h.hm.lk i b hi, .inr ⟨h1, h2, i, rfl, hi⟩⟩
theorem PM.lt (h : PM w g mb A c N H m E B P) : ∀ k, pfoot g mb A E k → k < w.heap.size := by
  rintro k (rfl | rfl | ⟨a, ha, rfl⟩ | ⟨x, hx⟩)
  · exact h.hm.glt
  · exact h.mp.lt
  · exact h.hm.lt _ (.inl ⟨a, ha, rfl⟩)
  · obtain ⟨p, hp, _⟩ := h.blk hx
    exact (Array.getElem?_eq_some_iff.1 hp).1
theorem PM.hfoot (h : PM w g mb A c N H m E B P) {k : Nat} (hk : hfoot A H k) : pfoot g mb A E k := by
  rcases hk with h1 | h1
  · exact .inr (.inr (.inl h1))
  · exact .inr (.inr (.inr (h.hE k h1)))
theorem PM.keep (h : PM w g mb A c N H m E B P) (hk : ∀ k, pfoot g mb A E k → w'.heap[k]? = w.heap[k]?) : PM w' g mb A c N H m E B P :=
  ⟨h.eL, h.hm.keep (hk g (.inl rfl)) (fun k hh => hk k (h.hfoot hh)), h.hp, fun b x hx => by
    obtain ⟨h1, h2, ⟨h3, h4, h5⟩ | h3⟩ := h.ent b x hx
    · exact ⟨h1, h2, .inl ⟨h3, h4, (hk b (.inr (.inr (.inr ⟨x, hx⟩)))).trans h5⟩⟩
    · exact ⟨h1, h2, .inr h3⟩, h.hE, h.nd, h.far, h.gmb, h.mp.keep (hk mb (.inr (.inl rfl))), h.bk, h.mn, h.ok⟩
theorem blkOf_find (hE : E.map (·.2) = P.L) (id : Int) : (blkOf E id = none ∧ findId P.L id = none) ∨ ∃ b x, (b, x) ∈ E ∧ blkOf E id = some b ∧ findId P.L id = some x ∧ x.id = id := by
  have h1 : findId P.L id = (E.find? fun e => e.2.id = id).map (·.2) := by
    unfold findId
    rw [← hE, List.find?_map]; rfl
  unfold blkOf
  cases hf : E.find? fun e => e.2.id = id with
  | none => rw [hf] at h1; exact .inl ⟨rfl, h1⟩
  | some e =>
    rw [hf] at h1
    refine .inr ⟨e.1, e.2, List.mem_of_find?_eq_some hf, rfl, h1, ?_⟩
    have := List.find?_some hf
    simpa using this
theorem PoolIs.lt {F : Nat → Prop} (h : PoolIs w g F N P) : ∀ k, F k → k < w.heap.size := by
  obtain ⟨mb, A, c, H, m, E, B, rfl, h⟩ := h
  exact h.lt
theorem PoolIs.keep {F : Nat → Prop} (h : PoolIs w g F N P) (hk : ∀ k, F k → w'.heap[k]? = w.heap[k]?) : PoolIs w' g F N P := by
  obtain ⟨mb, A, c, H, m, E, B, rfl, h⟩ := h
  exact ⟨mb, A, c, H, m, E, B, rfl, h.keep hk⟩
theorem PoolIs.kept {F G : Nat → Prop} (h : PoolIs w g F N P) (hk : Kept G w w') (hd : ∀ k, F k → ¬ G k) : PoolIs w' g F N P := h.keep fun k hf => hk.block k (h.lt k hf) (hd k hf)
theorem PoolIs.ok {F : Nat → Prop} (h : PoolIs w g F N P) : PlOk N P := by
  obtain ⟨mb, A, c, H, m, E, B, rfl, h⟩ := h
  exact h.ok
theorem PoolIs.more {F : Nat → Prop} (h : PoolIs w g F N P) {N' : Nat} (hn : N ≤ N') (hf : N' ≤ 1099511627776) : PoolIs w g F N' P := by
  obtain ⟨mb, A, c, H, m, E, B, rfl, h⟩ := h
  exact ⟨mb, A, c, H, m, E, B, rfl, h.eL, h.hm, h.hp, h.ent, h.hE, h.nd, h.far, h.gmb, h.mp.more hn, h.bk, h.mn, h.ok.more hn hf⟩
end
/-- What a call that changes a pool hands back. -/
def PStep (W : World) (g : Nat) (F : Nat → Prop) (N : Nat) (P' : Pl) (v : Value) (e : Ending) (w' : World) : Prop :=
  e = .returned v ∧ ∃ F', PoolIs w' g F' N P' ∧ Kept F W w' ∧ Grew W F F'
def PNew (mo idl : Int) (W : World) (e : Ending) (w' : World) : Prop := ∃ g F, e = .returned (.tuple #[.pointer (some ⟨g, 0, none⟩), .int .i64 0]) ∧ PoolIs w' g F 0 ⟨mo, idl, 0, []⟩ ∧ (∀ k, F k → W.heap.size ≤ k) ∧ Below W.heap.size W w'
theorem pnew_any (mo idl : Int) (w : World) (h0 : 1 ≤ mo) (h1 : mo ≤ 4) (h2 : 1 ≤ idl) (h3 : idl ≤ 1099511627776) : Calls Try.prog 9 #[.int .i64 mo, .int .i64 idl] w (PNew mo idl w) := by
  have hmm := @run_makeMap Try.prog
  go_enter Try.func9, Try.ntmps9
  go_wp2
  go_ret2
  have hb : ((w.alloc (.map #[] 0)).alloc (.cells #[.int .i64 mo, .int .i64 idl, .int .i64 0, .map (some w.heap.size), .slice none 0 0, .int .i64 0, .int .i64 0, .int .i64 0, .int .i64 0] 59)).heap[w.heap.size + 1]? = some (.cells #[.int .i64 mo, .int .i64 idl, .int .i64 0, .map (some w.heap.size), .slice none 0 0, .int .i64 0, .int .i64 0, .int .i64 0, .int .i64 0] 59 (0, 0)) := heapNew1 _ _ _
  refine ⟨w.heap.size + 1, pfoot (w.heap.size + 1) w.heap.size none [], rfl, ⟨w.heap.size, none, 0, [], fun _ => ⟨0, 0, 0⟩, [], ⟨mo, idl, 0, fun _ => 0⟩, rfl, ⟨rfl, ⟨hb, Lies.nil _ _ _, (fun i b hb => by cases hb), by simp, (fun a ha => by cases ha), List.nodup_nil⟩, (fun k h0 hk => by cases hk), (fun b x hx => by cases hx), (fun b hb => by cases hb), List.nodup_nil, (fun b x hx => by cases hx), ⟨by omega, fun a ha => by cases ha⟩,
    (mapIs_made w).keep (Below.heap_alloc _ _ _ (by simp)), ⟨rfl, rfl, rfl⟩, (fun _ _ => rfl), ⟨List.Pairwise.nil, (fun x hx => by cases hx), Int.le_refl _, Int.le_refl _, h0, h1, h2, h3, (fun o => by show ((0 : Nat) : Int) ≤ mo; omega), Nat.le_refl _, by omega⟩⟩⟩, ?_, ((Below.refl _ _).alloc (Nat.le_refl _) _).alloc (by simp) _⟩
  rintro k (rfl | rfl | ⟨a, ha, _⟩ | ⟨x, hx⟩)
  · omega
  · omega
  · cases ha
  · cases hx
theorem pnew_bad (mo idl : Int) (w : World) (h : mo < 1 ∨ 4 < mo ∨ idl < 1 ∨ 1099511627776 < idl) : Calls Try.prog 9 #[.int .i64 mo, .int .i64 idl] w fun e w' => e = .returned (.tuple #[.pointer none, .int .i64 1]) ∧ w = w' := by
  by_cases h1 : mo < 1
  · clear h
    go_enter Try.func9, Try.ntmps9
    go_wp2; go_ret2; exact ⟨rfl, rfl⟩
  by_cases h2 : 4 < mo
  · clear h
    go_enter Try.func9, Try.ntmps9
    go_wp2; go_ret2; exact ⟨rfl, rfl⟩
  by_cases h3 : idl < 1
  · clear h
    go_enter Try.func9, Try.ntmps9
    go_wp2; go_ret2; exact ⟨rfl, rfl⟩
  · have h4 : 1099511627776 < idl := by omega
    clear h
    go_enter Try.func9, Try.ntmps9
    go_wp2; go_ret2; exact ⟨rfl, rfl⟩
theorem time_ok (now : Int) (w : World) (h0 : 0 ≤ now) (h1 : now ≤ 1099511627776) : Calls Try.prog 24 #[.int .i64 now] w fun e w' => e = .returned (.bool true) ∧ w = w' := by
  go_enter Try.func24, Try.ntmps24
  go_wp2; go_ret; exact ⟨rfl, rfl⟩
theorem time_bad (now : Int) (w : World) (h : now < 0 ∨ 1099511627776 < now) : Calls Try.prog 24 #[.int .i64 now] w fun e w' => e = .returned (.bool false) ∧ w = w' := by
  by_cases h0 : now < 0
  · clear h
    go_enter Try.func24, Try.ntmps24
    go_wp2; go_ret; exact ⟨rfl, rfl⟩
  · have h1 : ¬ now ≤ 1099511627776 := by omega
    have h2 : 0 ≤ now := by omega
    clear h
    go_enter Try.func24, Try.ntmps24
    go_wp2; go_ret; exact ⟨rfl, rfl⟩
theorem porigin_any {g N : Nat} {F : Nat → Prop} {P : Pl} (id : Int) (w : World) (h : PoolIs w g F N P) (h0 : -9223372036854775808 ≤ id) (h1 : id ≤ 9223372036854775807) :
    Calls Try.prog 22 #[.pointer (some ⟨g, 0, none⟩), .int .i64 id] w fun e w' => e = .returned (.tuple #[.int .i64 (P.origin id).1, .bool (P.origin id).2]) ∧ w = w' := by
  obtain ⟨mb, A, c, H, m, E, B, rfl, h⟩ := h
  have hl := h.mp.look (i := id) (WalkArith.wf_i64 (by omega))
  obtain ⟨-, -, -, c3, -⟩ := h.hm.cells
  rcases blkOf_find h.eL id with ⟨e1, e2⟩ | ⟨b, x, e0, e1, e2, e3⟩
  · rw [e1] at hl
    unfold lookV at hl
    have HO : Hid (P.origin id = (0, false)) := Lib.hid (by unfold Pl.origin; rw [e2])
    clear h e1 e2
    go_enter Try.func22, Try.ntmps22
    go_wp2
    go_ret2
    rw [HO.out]
    exact ⟨rfl, rfl⟩
  · rw [e1] at hl
    unfold lookV ptrV at hl
    have HO : Hid (P.origin id = (x.org, true)) := Lib.hid (by unfold Pl.origin; rw [e2])
    obtain ⟨p, hp, -⟩ := h.blk e0
    obtain ⟨-, x1, -⟩ := lk_cells hp
    obtain ⟨-, ho, -⟩ := h.ent b x e0
    rw [ho] at x1
    clear h e0 e1 e2 hp ho
    go_enter Try.func22, Try.ntmps22
    go_wp2
    go_ret2
    rw [HO.out]
    exact ⟨rfl, rfl⟩
theorem plen_any {g N : Nat} {F : Nat → Prop} {P : Pl} (w : World) (h : PoolIs w g F N P) :
    Calls Try.prog 12 #[.pointer (some ⟨g, 0, none⟩)] w fun e w' => e = .returned (.int .i64 (P.L.length : Int)) ∧ w = w' := by
  obtain ⟨mb, A, c, H, m, E, B, rfl, h⟩ := h
  have hl := h.mp.len
  obtain ⟨-, -, -, c3, -⟩ := h.hm.cells
  have he : E.length = P.L.length := by rw [← h.eL, List.length_map]
  rw [he] at hl
  clear h he
  go_enter Try.func12, Try.ntmps12
  go_wp2
  go_ret
  exact ⟨rfl, rfl⟩
end Go.Proofs.Ytidfokfnigncmaa
