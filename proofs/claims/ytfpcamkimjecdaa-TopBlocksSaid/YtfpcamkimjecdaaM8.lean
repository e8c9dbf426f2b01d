/- 7 texts in one: RTab2, RTab3, TabPlay, HDec1, HDec2, HDec3, HDec4. -/
import Derived.Test.YtfpcamkimjecdaaM4
import Derived.IntWalk
import Derived.Deep.RegionHeld3
import Derived.Test.YtfpcamkimjecdaaM7
import Derived.WalkLawsBesides
import Derived.Deep.RegionLaw
import Derived.Deep.DeepCutAuto
import Derived.StillTailTactics
/- The walk of drawbridgeref04.Resize. -/
namespace Go.Proofs.Ytfpcamkimjecdaa
open Go.RowKit

section
variable {P : Program} {w : World}
/-- append as one step of a region that draws. -/
theorem step_app {ops : Array Oper} {o : Oper} {a : Act} {K : Act → World → Prop} {Q : Exit → Act → World → Prop} {E : Prop} (s x : Operand) {t e : TypeId} {z : Value} {size bytes : Nat} (hT : SlT P t e z size bytes)
    (hgd : o.guard = none) (ho : o.op = .call { callee := .builtin .append, args := #[s, x], argTypes := #[t, t] })
    {base : Nat} {v : Value} {n : Nat} {xs : List Value} (hown : w.ownsRow base e size v n xs) (hs : a.eval s = v)
    {B : Nat} {A : Option Addr} {m c : Nat} {news : List Value} (hr : Rd w B size A m news) (hx : a.eval x = .slice A m c) (h1 : ∀ u ∈ news, u.oneCell' = true)
    (h63 : n + m ≤ maxLen) (hbytes : (n + m) * bytes ≤ 140737488355328) (hbase : base ≤ w.heap.size)
    (h : ∀ v' w', w'.ownsRow base e size v' (n + m) (xs ++ news) → w.grownBy w' v.ownBlock → (v'.ownBlock = v.ownBlock ∨ v'.ownBlock = some w.heap.size) → K (a.put o.dst v') w') :
    if Region.wanted o (yielded ops a.tmps) = true then Oper.wp P o a w K Q else E := by
  have hw : Region.wanted o (yielded ops a.tmps) = true := by simp [Region.wanted, hgd]
  rw [if_pos hw]
  obtain ⟨v', w', hrun, h2, h3, h4⟩ := run_app (P := P) o.type hT hown hr (c := c) h1 h63 hbytes hbase
  unfold Oper.wp execOp
  simp only [ho, resolve, invoke, builtin, Sem.run_bind, Sem.run_pure, Result.andThen_ok, List.map_toArray, List.map_cons, List.map_nil, hs, hx, hrun]
  exact h v' w' h2 h3 h4
end
theorem own_new (w : World) (B size : Nat) (e : TypeId) (hB : B ≤ w.heap.size) : (w.alloc (.cells #[] e)).ownsRow B e size (.slice (some ⟨w.heap.size, 0, none⟩) 0 0) 0 [] :=
  ⟨by simp, .inr ⟨_, 0, #[], rfl, hB, heapNew _ _, Nat.le_refl _, Nat.zero_le _, by simp, by simp⟩⟩
/-- The first n of a row. -/
theorem Rd.pre {w : World} {B size n m : Nat} {A : Option Addr} {xs : List Value} (h : Rd w B size A n xs) (hm : m ≤ n) : Rd w B size A m (xs.take (m * size)) := by
  have hmm : m * size ≤ n * size := Nat.mul_le_mul_right _ hm
  refine ⟨by rw [List.length_take, h.1]; omega, fun h0 => ?_⟩
  obtain ⟨b, o, hA, hb, hc⟩ := h.2 (by omega)
  refine ⟨b, o, hA, hb, fun j hj => ?_⟩
  rw [hc j (by omega), List.getElem?_take, if_pos hj]
theorem fcs_pre (M : List Rw) (r : Rw) : (fcs (M ++ [r])).take (M.length * 3) = fcs M := by
  rw [fcs_app, ← fcs_length M, List.take_left]
theorem Small.tail {r : Rw} {l : List Rw} (h : Small (r :: l)) : Small l := ⟨by have := h.1; rw [sumc_cons] at this; have := cost; unfold Small at h; omega, fun r' hr => h.2 r' (List.mem_cons_of_mem _ hr)⟩

end Go.Proofs.Ytfpcamkimjecdaa

/- The walk of drawbridgeref04.Add. -/
namespace Go.Proofs.Ytfpcamkimjecdaa
open Go.RowKit

theorem own_one (w : World) (B : Nat) (e : TypeId) (a b c : Value) (hB : B ≤ w.heap.size) : (w.alloc (.cells #[a, b, c] e)).ownsRow B e 3 (.slice (some ⟨w.heap.size, 0, none⟩) 1 1) 1 [a, b, c] :=
  ⟨by simp, .inr ⟨_, 1, #[a, b, c], rfl, hB, heapNew _ _, Nat.le_refl _, by unfold maxLen; omega, by simp, by simp⟩⟩
def BoolIs (v : Value) (d : Bool) : Prop := ∃ b, v = .bool b ∧ b = d
def raddR (most : Int) (rows : List Rw) (f : Rw) : List Rw := if most < (cost f : Int) then [] else (shrunk (most - cost f) 0 rows).2 ++ [f]
end Go.Proofs.Ytfpcamkimjecdaa

/- The walk of drawbridgelaw04.play: both tables have the same rows. -/
namespace Go.Proofs.Ytfpcamkimjecdaa
open Go.RowKit

theorem shrunk_snd (m g g' : Int) (l : List Rw) : (shrunk m g l).2 = (shrunk m g' l).2 := by
  induction l generalizing g g' with
  | nil => rfl
  | cons r l ih =>
    by_cases h : m < sumc (r :: l)
    · rw [shrunk_go h, shrunk_go h]; exact ih _ _
    · rw [shrunk_stop (show sumc (r :: l) ≤ m by omega), shrunk_stop (show sumc (r :: l) ≤ m by omega)]
theorem Tb.resize_rows (T : Tb) (m : Int) : (T.resize m).rows = (shrunk m 0 T.rows).2 := shrunk_snd _ _ _ _
theorem Tb.resize_most (T : Tb) (m : Int) : (T.resize m).most = m := rfl
theorem shrunk_zero {l : List Rw} {g : Int} : (shrunk 0 g l).2 = [] := by
  have h := shrunk_fits (Int.le_refl 0) l g
  cases e : (shrunk 0 g l).2 with
  | nil => rfl
  | cons r k => rw [e, sumc_cons] at h; have := sumc_nonneg k; unfold cost at h; omega
theorem Tb.add_rows (T : Tb) (r : Rw) : (T.add r).rows = raddR T.most T.rows r := by
  unfold Tb.add raddR
  split
  · exact shrunk_zero
  · show (shrunk _ _ _).2 ++ [r] = _
    rw [shrunk_snd _ T.gone 0]
theorem Tb.add_most (T : Tb) (r : Rw) : (T.add r).most = T.most := by
  unfold Tb.add
  split <;> rfl
theorem TM.more {w : World} {g mb mn c N N' : Nat} {A : Option Addr} {T : Tb} (h : TM w g mb mn A c N T) (hn : N ≤ N') (hN : N' ≤ 1099511627776) : TM w g mb mn A c N' T :=
  ⟨h.raw.more hn, h.ok, h.most0, h.most1, h.gone0, by have := h.many; omega, hN, h.fits⟩
theorem TabIs.more {w : World} {g N N' : Nat} {F : Nat → Prop} {T : Tb} (h : TabIs w g F N T) (hn : N ≤ N') (hN : N' ≤ 1099511627776) : TabIs w g F N' T := by
  obtain ⟨mb, mn, A, c, rfl, ht⟩ := h
  exact ⟨mb, mn, A, c, rfl, ht.more hn hN⟩
theorem TabIs.small {w : World} {g N : Nat} {F : Nat → Prop} {T : Tb} (h : TabIs w g F N T) : Small T.rows := by
  obtain ⟨h1, h2, h3, h4, h5, h6, h7⟩ := h.inv
  exact ⟨by omega, h1⟩

end Go.Proofs.Ytfpcamkimjecdaa

/- A decoder within a block, in memory; the walks of hpack.reader's number, text, row. -/
namespace Go.Proofs.Ytfpcamkimjecdaa
open Go.RowKit

def fds (l : List Fd) : List Value := l.flatMap fun f => [.string f.1.1, .string f.1.2, .bool f.2]
theorem fds_cons (f : Fd) (l : List Fd) : fds (f :: l) = .string f.1.1 :: .string f.1.2 :: .bool f.2 :: fds l := rfl
theorem fds_length (l : List Fd) : (fds l).length = l.length * 3 := by
  induction l with
  | nil => rfl
  | cons p l ih => rw [fds_cons]; simp only [List.length_cons, ih]; omega
theorem fds_app (l k : List Fd) : fds (l ++ k) = fds l ++ fds k := by simp [fds, List.flatMap_append]
theorem fds_one (l : List Fd) : ∀ u ∈ fds l, u.oneCell' = true := by
  induction l with
  | nil => intro u h; cases h
  | cons p L ih =>
    intro u h
    rw [fds_cons] at h
    simp only [List.mem_cons] at h
    rcases h with rfl | rfl | rfl | h
    · rfl
    · rfl
    · rfl
    · exact ih u h
theorem fds_get {l : List Fd} : ∀ {i : Nat} {f : Fd}, l[i]? = some f → (fds l)[i * 3]? = some (.string f.1.1) ∧ (fds l)[i * 3 + 1]? = some (.string f.1.2) ∧ (fds l)[i * 3 + 2]? = some (.bool f.2) := by
  induction l with
  | nil => intro i p h; simp at h
  | cons q L ih =>
    intro i p h
    rw [fds_cons]
    cases i with
    | zero => simp at h; subst h; exact ⟨rfl, rfl, rfl⟩
    | succ i =>
      have := ih (i := i) (f := p) (by simpa using h)
      rw [show (i + 1) * 3 = i * 3 + 1 + 1 + 1 by omega]
      simpa using this
/-- The panic that gives up with an error. -/
def errP (e : Nat) : Ending := .panicked [{ v := .iface 92 (.agg #[.int .i64 (e : Int)]), recovered := false }]
theorem Rd.kept {G : Nat → Prop} {w w' : World} {size n : Nat} {A : Option Addr} {xs : List Value} (h : Rd w w.heap.size size A n xs) (hk : Kept G w w') (hA : 0 < n → ∀ a, A = some a → ¬ G a.block) : Rd w' w'.heap.size size A n xs := by
  refine ⟨h.1, fun hn => ?_⟩
  by_cases h0 : 0 < n
  · obtain ⟨b, o, rfl, hb, hc⟩ := h.2 hn
    refine ⟨b, o, rfl, Nat.lt_of_lt_of_le hb hk.size, fun j hj => ?_⟩
    rw [← hc j hj]
    exact hk.cell hb (hA h0 _ rfl) _
  · exact absurd hn (by have : n = 0 := by omega
                        subst this; omega)
/-- The reader's cells. -/
def rdB (d : Nat) (AL : Option Addr) (n cl : Nat) (fv : Value) (co ch : Nat) : Obj := .cells #[.pointer (some ⟨d, 0, none⟩), .slice AL n cl, fv, .int .i64 (co : Int), .int .i64 (ch : Int)] 96 (0, 0)
def deB (mo li : Int) (g : Nat) (br : Bool) : Obj := .cells #[.int .i64 mo, .int .i64 li, .pointer (some ⟨g, 0, none⟩), .bool br] 64 (0, 0)
structure RdS (W w : World) (p d g N : Nat) (F0 F : Nat → Prop) (mo li : Int) (S : HSt) (AL : Option Addr) (cl : Nat) (fv : Value) : Prop where
  tab : TabIs w g F N S.T
  dec : w.heap[d]? = some (deB mo li g false)
  rdr : w.heap[p]? = some (rdB d AL S.left.length cl fv S.cost S.changes)
  left : Rd w w.heap.size 1 AL S.left.length (bvs S.left)
  lcap : S.left.length ≤ cl ∧ cl ≤ maxLen
  lF : 0 < S.left.length → ∀ a, AL = some a → ¬ F a.block ∧ a.block ≠ d ∧ a.block < W.heap.size
  fld : w.ownsRow W.heap.size 43 3 fv S.fields.length (fds S.fields)
  fF : ∀ k, fv.ownBlock = some k → ¬ F k ∧ k ≠ p
  grew : Grew W F0 F
  kept : Kept (fun k => k = d ∨ F0 k) W w
  dl : d < W.heap.size
  dF : ¬ F d
  pl : W.heap.size ≤ p
  pF : ¬ F p
section
variable {W w w' : World} {p d g N N' cl cl' : Nat} {F0 F F' : Nat → Prop} {mo li : Int} {S : HSt} {AL AL' : Option Addr} {fv fv' : Value}
theorem RdS.pw (h : RdS W w p d g N F0 F mo li S AL cl fv) : p < w.heap.size := (Array.getElem?_eq_some_iff.1 h.rdr).1
theorem RdS.dw (h : RdS W w p d g N F0 F mo li S AL cl fv) : d < w.heap.size := (Array.getElem?_eq_some_iff.1 h.dec).1
theorem RdS.cells (h : RdS W w p d g N F0 F mo li S AL cl fv) : w.cell? ⟨p, 0, none⟩ = some (.pointer (some ⟨d, 0, none⟩)) ∧ w.cell? ⟨p, 1, none⟩ = some (.slice AL S.left.length cl) ∧ w.cell? ⟨p, 2, none⟩ = some fv ∧ w.cell? ⟨p, 3, none⟩ = some (.int .i64 (S.cost : Int)) ∧ w.cell? ⟨p, 4, none⟩ = some (.int .i64 (S.changes : Int)) := by
  refine ⟨?_, ?_, ?_, ?_, ?_⟩ <;> (unfold World.cell?; rw [h.rdr]; rfl)
theorem RdS.dcells (h : RdS W w p d g N F0 F mo li S AL cl fv) : w.cell? ⟨d, 0, none⟩ = some (.int .i64 mo) ∧ w.cell? ⟨d, 1, none⟩ = some (.int .i64 li) ∧ w.cell? ⟨d, 2, none⟩ = some (.pointer (some ⟨g, 0, none⟩)) ∧ w.cell? ⟨d, 3, none⟩ = some (.bool false) := by
  refine ⟨?_, ?_, ?_, ?_⟩ <;> (unfold World.cell?; rw [h.dec]; rfl)
theorem RdS.free (h : RdS W w p d g N F0 F mo li S AL cl fv) (o : Nat) : w.frozen? ⟨p, o, none⟩ = false := by unfold World.frozen?; rw [h.rdr]; simp [rdB]
theorem RdS.dfree (h : RdS W w p d g N F0 F mo li S AL cl fv) (o : Nat) : w.frozen? ⟨d, o, none⟩ = false := by unfold World.frozen?; rw [h.dec]; simp [deB]
theorem RdS.more (h : RdS W w p d g N F0 F mo li S AL cl fv) (hn : N ≤ N') (hN : N' ≤ 1099511627776) : RdS W w p d g N' F0 F mo li S AL cl fv :=
  { h with tab := h.tab.more hn hN }
theorem own_kept4 {w w' : World} {v : Value} {base n : Nat} {e : TypeId} {size : Nat} {xs : List Value} {F : Nat → Prop} (h : w.ownsRow base e size v n xs) (hk : Kept F w w') (hF : ∀ q, v.ownBlock = some q → ¬ F q) : w'.ownsRow base e size v n xs := by
  rcases h with ⟨hl, ⟨rfl, h0⟩ | ⟨g, cap, cur, hv, hg, hb, h3⟩⟩
  · exact ⟨hl, .inl ⟨rfl, h0⟩⟩
  · exact ⟨hl, .inr ⟨g, cap, cur, hv, hg, (hk.block g (Array.getElem?_eq_some_iff.1 hb).1 (hF g (by rw [hv]; rfl))).trans hb, h3⟩⟩
/-- The table has turned; nothing else. -/
theorem RdS.tabStep (h : RdS W w p d g N F0 F mo li S AL cl fv) {T' : Tb} (ht : TabIs w' g F' N' T') (hk : Kept F w w') (hg : Grew w F F') : RdS W w' p d g N' F0 F' mo li { S with T := T' } AL cl fv :=
  { tab := ht
    dec := (hk.block d h.dw h.dF).trans h.dec
    rdr := (hk.block p h.pw h.pF).trans h.rdr
    left := h.left.kept hk (fun h0 a ha => (h.lF h0 a ha).1)
    lcap := h.lcap
    lF := fun h0 a ha => ⟨fun hf => (hg _ hf).elim (h.lF h0 a ha).1 (fun h2 => by have := (h.lF h0 a ha).2.2; have := h.kept.size; omega), (h.lF h0 a ha).2⟩
    fld := own_kept4 h.fld hk (fun q hq => (h.fF q hq).1)
    fF := fun k hk' => ⟨fun hf => (hg k hf).elim (h.fF k hk').1 (fun h2 => by have := (h.fld.lt k hk').2; omega), (h.fF k hk').2⟩
    grew := h.grew.trans hg h.kept.size
    kept := h.kept.trans (hk.mono (G := fun k => k = d ∨ F k) (fun k hk => .inr hk)) (fun k hk => hk.elim (fun e => .inl (.inl e)) (fun hf => (h.grew k hf).elim (fun a => .inl (.inr a)) .inr))
    dl := h.dl
    dF := fun hf => (hg _ hf).elim h.dF (fun h2 => by have := h.dw; omega)
    pl := h.pl
    pF := fun hf => (hg _ hf).elim h.pF (fun h2 => by have := h.pw; omega) }
theorem RdS.below (h : RdS W w p d g N F0 F mo li S AL cl fv) (hb : Below w.heap.size w w') : RdS W w' p d g N F0 F mo li S AL cl fv :=
  h.tabStep (T' := S.T) (h.tab.keep fun k hk => hb.block k (h.tab.lt k hk)) (Kept.of_below hb) (Grew.refl _ _)
/-- The reader's own cells have turned. -/
theorem RdS.turn (h : RdS W w p d g N F0 F mo li S AL cl fv) {S' : HSt} (hT : S'.T = S.T) (hk : Kept (fun k => k = p) w w') (hr : w'.heap[p]? = some (rdB d AL' S'.left.length cl' fv S'.cost S'.changes)) (hf : S'.fields = S.fields)
    (hl : Rd w' w'.heap.size 1 AL' S'.left.length (bvs S'.left)) (hc : S'.left.length ≤ cl' ∧ cl' ≤ maxLen) (hA : 0 < S'.left.length → ∀ a, AL' = some a → ∃ b, AL = some b ∧ a.block = b.block ∧ 0 < S.left.length) : RdS W w' p d g N F0 F mo li S' AL' cl' fv :=
  { tab := by rw [hT]; exact h.tab.keep fun k hk' => hk.block k (h.tab.lt k hk') (fun e => h.pF (e ▸ hk'))
    dec := (hk.block d h.dw (fun e => by have := h.dl; have := h.pl; omega)).trans h.dec
    rdr := hr
    left := hl
    lcap := hc
    lF := fun h0 a ha => by
      obtain ⟨b, hb, e, h1⟩ := hA h0 a ha
      rw [e]
      exact h.lF h1 b hb
    fld := by rw [hf]; exact own_kept4 h.fld hk (fun q hq e => (h.fF q hq).2 e)
    fF := h.fF
    grew := h.grew
    kept := ⟨hk.os.trans h.kept.os, hk.tape.trans h.kept.tape, hk.output.trans h.kept.output, Nat.le_trans h.kept.size hk.size, fun k hk1 hn => (hk.block k (Nat.lt_of_lt_of_le hk1 h.kept.size) (fun e => by have := h.pl; omega)).trans (h.kept.block k hk1 hn)⟩
    dl := h.dl
    dF := h.dF
    pl := h.pl
    pF := h.pF }
theorem set_b {w : World} {p o : Nat} {cs : Array Value} {t : TypeId} (v : Value) (h : w.heap[p]? = some (.cells cs t (0, 0))) : (w.setCell ⟨p, o, none⟩ v).heap[p]? = some (.cells (cs.setIfInBounds o v) t (0, 0)) := by
  simp only [World.setCell, Array.getElem?_modify, if_true]
  rw [h]; rfl
theorem add_block (b : Addr) (k : Nat) : (b.add k).block = b.block := by
  unfold Addr.add
  split <;> rfl
/-- What is left is the rest of it behind k bytes. -/
theorem RdS.advance (h : RdS W w p d g N F0 F mo li S AL cl fv) {k : Nat} (hk1 : 1 ≤ k) (hk : k ≤ S.left.length) {A' : Option Addr} (hA' : A' = if cl = k then AL else AL.map (·.add k)) :
    RdS W (w.setCell ⟨p, 1, none⟩ (.slice A' (S.left.length - k) (cl - k))) p d g N F0 F mo li { S with left := S.left.drop k } A' (cl - k) fv := by
  have hlen : (S.left.drop k).length = S.left.length - k := List.length_drop
  have hkw := (Kept.refl (fun q => q = p) w).setCell (g := p) rfl 1 (.slice A' (S.left.length - k) (cl - k))
  refine h.turn (S' := { S with left := S.left.drop k }) rfl hkw ?_ rfl ?_ ?_ ?_
  · rw [set_b _ h.rdr]
    simp only [hlen]
    rfl
  · have h1 := h.left.piece (lo := k) (hi := S.left.length) hk (Nat.le_refl _) h.lcap.1
    rw [Nat.mul_one, ← hA'] at h1
    have e : ((bvs S.left).drop k).take ((S.left.length - k) * 1) = bvs (S.left.drop k) := by
      unfold bvs
      rw [← List.map_drop, List.take_of_length_le (by simp)]
    rw [e] at h1
    simp only [hlen]
    refine h1.kept hkw (fun h0 a ha e => ?_)
    have hl := h.pl
    by_cases hc : cl = k
    · rw [if_pos hc] at hA'
      have := h.lcap.1
      omega
    · rw [if_neg hc] at hA'
      rw [hA'] at ha
      cases AL with
      | none => cases ha
      | some b =>
        injection ha with ha
        have := (h.lF (by omega) b rfl).2.2
        rw [← ha] at e
        change (b.add k).block = p at e
        rw [add_block] at e
        omega
  · simp only [hlen]
    have := h.lcap
    omega
  · intro h0 a ha
    simp only [hlen] at h0
    have hc : cl ≠ k := fun e => by have := h.lcap.1; omega
    rw [hA', if_neg hc] at ha
    cases AL with
    | none => cases ha
    | some b =>
      injection ha with ha
      exact ⟨b, rfl, by rw [← ha]; exact add_block b k, by omega⟩
end
/-- What a step of the reader may turn: its own block, the table's blocks, the fields' row; what these are afterwards. -/
structure Mv (w w' : World) (p : Nat) (F F' : Nat → Prop) (fv fv' : Value) : Prop where
  kept : Kept (fun k => k = p ∨ F k ∨ fv.ownBlock = some k) w w'
  grew : Grew w F F'
  own : ∀ k, fv'.ownBlock = some k → fv.ownBlock = some k ∨ w.heap.size ≤ k
theorem Mv.refl (w : World) (p : Nat) (F : Nat → Prop) (fv : Value) : Mv w w p F F fv fv := ⟨Kept.refl _ _, Grew.refl _ _, fun _ h => .inl h⟩
theorem Mv.trans {w w1 w2 : World} {p : Nat} {F F1 F2 : Nat → Prop} {fv fv1 fv2 : Value} (h : Mv w w1 p F F1 fv fv1) (h2 : Mv w1 w2 p F1 F2 fv1 fv2) : Mv w w2 p F F2 fv fv2 :=
  ⟨h.kept.trans h2.kept (fun k hk => by
    rcases hk with e | hf | e
    · exact .inl (.inl e)
    · exact (h.grew k hf).imp (fun h => .inr (.inl h)) id
    · exact (h.own k e).imp (fun h => .inr (.inr h)) id), h.grew.trans h2.grew h.kept.size, fun k hk => (h2.own k hk).elim (fun e => h.own k e) (fun e => .inr (Nat.le_trans h.kept.size e))⟩
theorem Mv.below {w w1 w2 : World} {p : Nat} {F F1 : Nat → Prop} {fv fv1 : Value} (h : Mv w w1 p F F1 fv fv1) (hb : Below w1.heap.size w1 w2) : Mv w w2 p F F1 fv fv1 :=
  h.trans ⟨Kept.of_below hb, Grew.refl _ _, fun _ h => .inl h⟩
theorem Mv.same (w : World) {p : Nat} {F : Nat → Prop} {fv : Value} {w' : World} (hk : Kept (fun k => k = p) w w') : Mv w w' p F F fv fv := ⟨hk.mono fun _ h => .inl h, Grew.refl _ _, fun _ h => .inl h⟩
theorem Mv.set (w : World) (p : Nat) (F : Nat → Prop) (fv : Value) (o : Nat) (v : Value) : Mv w (w.setCell ⟨p, o, none⟩ v) p F F fv fv := Mv.same w ((Kept.refl (fun k => k = p) w).setCell rfl o v)
/-- A block beside the reader. -/
structure By (w : World) (p : Nat) (F : Nat → Prop) (fv : Value) (b : Nat) (o : Option Obj) : Prop where
  lt : b < w.heap.size
  np : b ≠ p
  nF : ¬ F b
  nv : fv.ownBlock ≠ some b
  at_ : w.heap[b]? = o
theorem By.mv {w w' : World} {p b : Nat} {F F' : Nat → Prop} {fv fv' : Value} {o : Option Obj} (h : By w p F fv b o) (hm : Mv w w' p F F' fv fv') : By w' p F' fv' b o :=
  ⟨Nat.lt_of_lt_of_le h.lt hm.kept.size, h.np, fun hf => (hm.grew b hf).elim h.nF (fun hl => by have := h.lt; omega), fun hf => (hm.own b hf).elim h.nv (fun hl => by have := h.lt; omega),
    (hm.kept.block b h.lt (fun e => e.elim h.np (fun e => e.elim h.nF h.nv))).trans h.at_⟩
/-- A block that was just laid. -/
theorem By.new {W w : World} {p d g N cl : Nat} {F0 F : Nat → Prop} {mo li : Int} {S : HSt} {AL : Option Addr} {fv : Value} (h : RdS W w p d g N F0 F mo li S AL cl fv) (o : Obj) : By (w.alloc o) p F fv w.heap.size (some o) :=
  ⟨by simp, by have := h.pw; omega, fun hf => by have := h.tab.lt _ hf; omega, fun hf => by have := (h.fld.lt _ hf).2; omega, heapNew _ _⟩
def NumPost (W w : World) (p d g N : Nat) (F0 F : Nat → Prop) (mo li : Int) (S : HSt) (fv : Value) (r : Nat × Nat × Nat) (e : Ending) (w' : World) : Prop :=
  Mv w w' p F F fv fv ∧ ((r.2.2 ≠ 0 ∧ e = errP r.2.2 ∧ ∃ AL cl, RdS W w' p d g N F0 F mo li S AL cl fv) ∨ (r.2.2 = 0 ∧ e = .returned (.int .i64 (r.1 : Int)) ∧ ∃ AL cl, RdS W w' p d g N F0 F mo li { S with left := S.left.drop r.2.1 } AL cl fv))
set_option maxRecDepth 100000 in
set_option maxHeartbeats 2000000 in
theorem number_any2 {W w : World} {p d g N cl bits Fm : Nat} {F0 F : Nat → Prop} {mo li : Int} {S : HSt} {AL : Option Addr} {fv : Value} (hF : Full bits Fm) (h : RdS W w p d g N F0 F mo li S AL cl fv) :
    Calls Try.prog 55 #[.pointer (some ⟨p, 0, none⟩), .int .i64 bits] w (NumPost W w p d g N F0 F mo li S fv (takeI Fm S.left)) := by
  have ht := take_any (w := w) hF h.left h.lcap.1 h.lcap.2
  have hbd := takeI_bd hF.le.2 S.left
  obtain ⟨⟨m, a, z⟩, hv⟩ : ∃ r, takeI Fm S.left = r := ⟨_, rfl⟩
  rw [hv] at ht hbd ⊢
  simp only [tri] at ht hbd
  have HT := Lib.hid ht
  have HH := Lib.hid h
  obtain ⟨-, c1, -, -, -⟩ := h.cells
  have f1 := h.free 1
  have hcap := h.lcap
  obtain ⟨n, hn⟩ : ∃ n, S.left.length = n := ⟨_, rfl⟩
  have HN := Lib.hid hn
  rw [hn] at ht HT c1 hbd hcap
  obtain ⟨hc1, hc2⟩ := hcap
  unfold maxLen at hc2
  clear ht hv h hn
  by_cases hz : z = 0
  · subst hz
    obtain ⟨h31, ha1, han, -⟩ := hbd rfl
    obtain ⟨b, o, rfl⟩ : ∃ b o, AL = some ⟨b, o, none⟩ := by
      obtain ⟨b, o, e, -⟩ := HH.out.left.2 (by rw [HN.out]; omega)
      exact ⟨b, o, e⟩
    clear hbd
    by_cases hca : cl = a
    · obtain rfl : cl = n := by omega
      obtain rfl : a = cl := by omega
      have HE := Lib.hid (HH.out.advance (k := a) ha1 (by rw [HN.out]; exact han) (A' := some ⟨b, o, none⟩) (by rw [if_pos rfl]))
      go_enter Try.func55, Try.ntmps55
      go_wp2_with fail
      refine HT.out.mono ?_
      rintro e w1 ⟨rfl, rfl⟩
      go_wp2
      go_ret
      refine ⟨Mv.set _ _ _ _ _ _, .inr ⟨rfl, rfl, some ⟨b, o, none⟩, a - a, ?_⟩⟩
      have := HE.out
      rw [HN.out, Nat.sub_self] at this
      simpa using this
    · have HE := Lib.hid (HH.out.advance (k := a) ha1 (by rw [HN.out]; exact han) (A' := some ⟨b, o + a, none⟩) (by rw [if_neg hca]; simp [Addr.add_lit]))
      have hcn : a < cl := by omega
      go_enter Try.func55, Try.ntmps55
      go_wp2_with fail
      refine HT.out.mono ?_
      rintro e w1 ⟨rfl, rfl⟩
      go_wp2
      go_ret
      refine ⟨Mv.set _ _ _ _ _ _, .inr ⟨rfl, rfl, some ⟨b, o + a, none⟩, cl - a, ?_⟩⟩
      have := HE.out
      rw [HN.out] at this
      exact this
  · have hzn : ((z : Int) == 0) = false := by rw [beq_eq_false_iff_ne]; omega
    have hzn2 : ((z : Int) != 0) = true := by simpa using (show ¬ z = 0 by omega)
    have HZ := Lib.hid hz
    clear hbd hz
    go_enter Try.func55, Try.ntmps55
    go_wp2_with fail
    refine HT.out.mono ?_
    rintro e w1 ⟨rfl, rfl⟩
    go_wp2
    exact ⟨rfl, Mv.refl _ _ _ _, .inl ⟨HZ.out, rfl, _, _, HH.out⟩⟩
def TxtPost (W w : World) (p d g N : Nat) (F0 F : Nat → Prop) (mo li : Int) (S : HSt) (fv : Value) (r : Except Nat (ByteArray × List UInt8)) (e : Ending) (w' : World) : Prop :=
  Mv w w' p F F fv fv ∧ match r with
  | .error z => e = errP z ∧ ∃ AL cl, RdS W w' p d g N F0 F mo li S AL cl fv
  | .ok (s, l) => e = .returned (.string s) ∧ ∃ AL cl, RdS W w' p d g N F0 F mo li { S with left := l } AL cl fv
set_option maxRecDepth 100000 in
set_option maxHeartbeats 2000000 in
theorem text_any {W w : World} {p d g N cl : Nat} {F0 F : Nat → Prop} {mo li : Int} {S : HSt} {AL : Option Addr} {fv : Value} (h : RdS W w p d g N F0 F mo li S AL cl fv) (hl : S.left.length ≤ 1048576) :
    Calls Try.prog 69 #[.pointer (some ⟨p, 0, none⟩)] w (TxtPost W w p d g N F0 F mo li S fv (takeS S.left)) := by
  have ht := takeText_any (w := w) h.left h.lcap.1 h.lcap.2 hl
  have hbd := (takeT_bd2 S.left).1
  unfold takeS
  obtain ⟨⟨t, a, z⟩, hv⟩ : ∃ r, takeT S.left = r := ⟨_, rfl⟩
  rw [hv] at ht hbd ⊢
  simp only [triT] at ht hbd ⊢
  have HT := Lib.hid ht
  have HH := Lib.hid h
  have HB : Hid (∀ w', Below w.heap.size w w' → RdS W w' p d g N F0 F mo li S AL cl fv) := Lib.hid fun w' hb => h.below hb
  obtain ⟨-, c1, -, -, -⟩ := h.cells
  have hcap := h.lcap
  have hpw := h.pw
  obtain ⟨n, hn⟩ : ∃ n, S.left.length = n := ⟨_, rfl⟩
  have HN := Lib.hid hn
  rw [hn] at ht HT c1 hbd hcap hl
  obtain ⟨hc1, hc2⟩ := hcap
  unfold maxLen at hc2
  clear ht hv h hn
  by_cases hz : z = 0
  · subst hz
    obtain ⟨h31, ha1, han⟩ := hbd rfl
    rw [if_neg (by simp)]
    obtain ⟨b, o, rfl⟩ : ∃ b o, AL = some ⟨b, o, none⟩ := by
      obtain ⟨b, o, e, -⟩ := HH.out.left.2 (by rw [HN.out]; omega)
      exact ⟨b, o, e⟩
    clear hbd
    by_cases hca : cl = a
    · obtain rfl : cl = n := by omega
      obtain rfl : a = cl := by omega
      go_enter Try.func69, Try.ntmps69
      go_wp2_with fail
      refine HT.out.mono ?_
      rintro e w1 ⟨rfl, hb1⟩
      have H1 := Lib.hid (HB.out w1 hb1)
      have HM := Lib.hid ((Mv.refl w p F fv).below hb1)
      obtain ⟨-, d1, -, -, -⟩ := H1.out.cells
      rw [HN.out] at d1
      have f1 := H1.out.free 1
      clear hb1
      go_wp2
      go_ret
      refine ⟨HM.out.trans (Mv.set _ _ _ _ _ _), rfl, some ⟨b, o, none⟩, a - a, ?_⟩
      have := H1.out.advance (k := a) ha1 (by rw [HN.out]; exact han) (A' := some ⟨b, o, none⟩) (by rw [if_pos rfl])
      rw [HN.out, Nat.sub_self] at this
      simpa using this
    · have hcn : a < cl := by omega
      go_enter Try.func69, Try.ntmps69
      go_wp2_with fail
      refine HT.out.mono ?_
      rintro e w1 ⟨rfl, hb1⟩
      have H1 := Lib.hid (HB.out w1 hb1)
      have HM := Lib.hid ((Mv.refl w p F fv).below hb1)
      obtain ⟨-, d1, -, -, -⟩ := H1.out.cells
      rw [HN.out] at d1
      have f1 := H1.out.free 1
      clear hb1
      go_wp2
      go_ret
      refine ⟨HM.out.trans (Mv.set _ _ _ _ _ _), rfl, some ⟨b, o + a, none⟩, cl - a, ?_⟩
      have := H1.out.advance (k := a) ha1 (by rw [HN.out]; exact han) (A' := some ⟨b, o + a, none⟩) (by rw [if_neg hca]; simp [Addr.add_lit])
      rw [HN.out] at this
      exact this
  · have hzn : ((z : Int) == 0) = false := by rw [beq_eq_false_iff_ne]; omega
    have hzn2 : ((z : Int) != 0) = true := by simpa using (show ¬ z = 0 by omega)
    rw [if_pos hz]
    clear hbd hz
    go_enter Try.func69, Try.ntmps69
    go_wp2_with fail
    refine HT.out.mono ?_
    rintro e w1 ⟨rfl, hb1⟩
    have H1 := Lib.hid (HB.out w1 hb1)
    have HM := Lib.hid ((Mv.refl w p F fv).below hb1)
    clear hb1
    go_wp2
    exact ⟨rfl, HM.out, rfl, _, _, H1.out⟩
/-- The row with a number. -/
def RowPost (W w : World) (p d g N : Nat) (F0 F : Nat → Prop) (mo li : Int) (S : HSt) (AL : Option Addr) (cl : Nat) (fv : Value) (r : Option Rw) (e : Ending) (w' : World) : Prop :=
  Below w.heap.size w w' ∧ RdS W w' p d g N F0 F mo li S AL cl fv ∧ e = match r with
  | none => errP 40
  | some r => .returned (fieldV r false)
set_option maxRecDepth 100000 in
set_option maxHeartbeats 2000000 in
theorem row_any {W w : World} {p d g N cl : Nat} {F0 F : Nat → Prop} {mo li : Int} {S : HSt} {AL : Option Addr} {fv : Value} (n : Int) (h : RdS W w p d g N F0 F mo li S AL cl fv) (hnb : n ≤ 9223372036854775807) :
    Calls Try.prog 54 #[.pointer (some ⟨p, 0, none⟩), .int .i64 n] w (RowPost W w p d g N F0 F mo li S AL cl fv (atRows S.T.rows n)) := by
  obtain ⟨W0, hW0⟩ : ∃ W0, w.alloc (.cells #[.string emptyB, .string emptyB, .bool false] 43) = W0 := ⟨_, rfl⟩
  obtain ⟨q, hq⟩ : ∃ q, w.heap.size = q := ⟨_, rfl⟩
  have b0 : Below w.heap.size w W0 := by rw [← hW0]; exact (Below.refl _ _).alloc (Nat.le_refl _) _
  have h0 := h.below b0
  have k0 : W0.heap[q]? = some (.cells #[.string emptyB, .string emptyB, .bool false] 43 (0, 0)) := by rw [← hW0, ← hq]; exact heapNew _ _
  have hql : q < W0.heap.size := by rw [← hW0, ← hq]; simp
  obtain ⟨c0, -, -, -, -⟩ := h0.cells
  obtain ⟨-, -, d2, -⟩ := h0.dcells
  have HA := Lib.hid (at_any n W0 h0.tab hnb)
  have HW0 := Lib.hid hW0
  have HQ := Lib.hid hq
  have HH := Lib.hid h
  have HB0 := Lib.hid b0
  have HK := Lib.hid k0
  clear hW0 hq b0 h0 k0 h
  go_enter Try.func54, Try.ntmps54
  go_upto_region 1 with fail
  rw [show (w.alloc (.cells #[.string ⟨#[]⟩, .string ⟨#[]⟩, .bool false] 43)) = W0 from HW0.out, HQ.out]
  go_wp2_with fail
  refine HA.out.mono ?_
  rintro e w1 ⟨rfl, hb1⟩
  have H1 := Lib.hid (HH.out.below (HB0.out.trans (hb1.mono HB0.out.size)))
  have k1 : w1.heap[q]? = some (.cells #[.string emptyB, .string emptyB, .bool false] 43 (0, 0)) := (hb1.block q hql).trans HK.out
  have HBB := Lib.hid (HB0.out.trans (hb1.mono HB0.out.size))
  have hqs : w.heap.size = q := HQ.out
  have HQE : Hid (w.heap.size ≤ q) := Lib.hid (Nat.le_of_eq hqs)
  have hq1 : q < w1.heap.size := Nat.lt_of_lt_of_le hql hb1.size
  have g0 : w1.cell? ⟨q, 0, none⟩ = some (.string emptyB) := by unfold World.cell?; rw [k1]; rfl
  have g1 : w1.cell? ⟨q, 1, none⟩ = some (.string emptyB) := by unfold World.cell?; rw [k1]; rfl
  have g2 : w1.cell? ⟨q, 2, none⟩ = some (.bool false) := by unfold World.cell?; rw [k1]; rfl
  have fz : ∀ o, w1.frozen? ⟨q, o, none⟩ = false := fun o => by unfold World.frozen?; rw [k1]; simp
  cases hat : atRows S.T.rows n with
  | none =>
    have HAT := Lib.hid hat
    clear hb1 hat hqs k1
    simp only [atV, fieldV]
    go_wp2
    have hle := HBB.out.size
    refine ⟨rfl, HBB.out.alloc (by omega) _, H1.out.below ((Below.refl _ _).alloc (Nat.le_refl _) _), ?_⟩
    rw [HAT.out]; rfl
  | some r =>
    have HAT := Lib.hid hat
    clear hb1 hqs k1 hat
    simp only [atV, fieldV]
    go_wp2
    refine bodyPost_ret (v := fieldV r false) (by simp [results, Try.results54, go_sem, fieldV, g0, g1, g2, hq1]) rfl ?_
    have hle := HQE.out
    have hbb := (((HBB.out.setCell (p := ⟨q, 0, none⟩) (by simp only; omega) (.string r.1)).setCell (p := ⟨q, 1, none⟩) (by simp only; omega) (.string r.2)).setCell (p := ⟨q, 2, none⟩) (by simp only; omega) (.bool false)).alloc (by have := HBB.out.size; simp [World.setCell]; omega) (.cells #[.string r.1, .string r.2, .bool false] 43)
    exact ⟨hbb, HH.out.below hbb, by rw [HAT.out]⟩
end Go.Proofs.Ytfpcamkimjecdaa

/- The walks of hpack.reader's put, resize. -/
namespace Go.Proofs.Ytfpcamkimjecdaa
open Go.RowKit

theorem Rd.one3 (w : World) (x y z : Value) (t : TypeId) : Rd (w.alloc (.cells #[x, y, z] t)) (w.heap.size + 1) 3 (some ⟨w.heap.size, 0, none⟩) 1 [x, y, z] := by
  refine ⟨rfl, fun _ => ⟨_, _, rfl, by omega, fun j hj => ?_⟩⟩
  rw [World.cell?_alloc_at _ _ _ _ rfl]
  simp
/-- One field more. -/
theorem RdS.app {W w w4 : World} {p d g N cl : Nat} {F0 F : Nat → Prop} {mo li : Int} {S : HSt} {AL : Option Addr} {fv v4 : Value} {o : Obj} (f : Fd) (h : RdS W w p d g N F0 F mo li S AL cl fv) (hown : w4.ownsRow W.heap.size 43 3 v4 (S.fields.length + 1) (fds S.fields ++ [.string f.1.1, .string f.1.2, .bool f.2]))
    (hg : (w.alloc o).drew.grownBy w4 fv.ownBlock) (hb : v4.ownBlock = fv.ownBlock ∨ v4.ownBlock = some (w.alloc o).drew.heap.size) :
    RdS W (w4.setCell ⟨p, 2, none⟩ v4) p d g N F0 F mo li { S with fields := S.fields ++ [f] } AL cl v4 := by
  have hsz : w.heap.size + 1 ≤ w4.heap.size := by have := hg.size; simpa [World.drew] using this
  have hkw : Kept (fun k => fv.ownBlock = some k) w w4 := ((Kept.refl _ _).alloc o).drew.grown hg (fun k hk => .inl hk)
  have hold : ∀ k, k < w.heap.size → fv.ownBlock ≠ some k → k ≠ p → (w4.setCell ⟨p, 2, none⟩ v4).heap[k]? = w.heap[k]? := fun k hk hn hp =>
    (Below.heap_setCell _ _ _ _ hp).trans (hkw.block k hk hn)
  have hfF : ∀ k, v4.ownBlock = some k → ¬ F k ∧ k ≠ p := fun k hk => by
    rcases hb with e | e
    · exact h.fF k (e ▸ hk)
    · rw [e] at hk
      injection hk with hk
      simp [World.drew] at hk
      exact ⟨fun hf => by have := h.tab.lt k hf; omega, by have := h.pw; omega⟩
  have hkc : Kept (fun k => k = p ∨ fv.ownBlock = some k) w (w4.setCell ⟨p, 2, none⟩ v4) := (hkw.mono (fun k hk => .inr hk)).setCell (.inl rfl) _ _
  exact
  { tab := h.tab.keep fun k hk => hold k (h.tab.lt k hk) (fun e => (h.fF k e).1 hk) (fun e => h.pF (e ▸ hk))
    dec := (hold d h.dw (fun e => by have := (h.fld.lt d e).1; have := h.dl; omega) (fun e => by have := h.dl; have := h.pl; omega)).trans h.dec
    rdr := by
      have hp4 : w4.heap[p]? = some (rdB d AL S.left.length cl fv S.cost S.changes) := (hkw.block p h.pw (fun e => (h.fF p e).2 rfl)).trans h.rdr
      rw [set_b _ hp4]
      rfl
    left := h.left.kept hkc (fun h0 a ha e => by
      have h1 := (h.lF h0 a ha).2.2
      rcases e with e | e
      · have := h.pl; omega
      · have := (h.fld.lt _ e).1; omega)
    lcap := h.lcap
    lF := h.lF
    fld := by
      rw [List.length_append, fds_app]
      exact own_kept4 hown ((Kept.refl (fun k => k = p) w4).setCell rfl 2 v4) (fun q hq e => (hfF q hq).2 e)
    fF := hfF
    grew := h.grew
    kept := ⟨hkc.os.trans h.kept.os, hkc.tape.trans h.kept.tape, hkc.output.trans h.kept.output, Nat.le_trans h.kept.size hkc.size, fun k hk1 hn => (hkc.block k (Nat.lt_of_lt_of_le hk1 h.kept.size) (fun e => by
      rcases e with e | e
      · have := h.pl; omega
      · have := (h.fld.lt _ e).1; omega)).trans (h.kept.block k hk1 hn)⟩
    dl := h.dl
    dF := h.dF
    pl := h.pl
    pF := h.pF }
set_option maxRecDepth 100000 in
set_option maxHeartbeats 2000000 in
theorem put_any {W w : World} {p d g N cl L : Nat} {F0 F : Nat → Prop} {mo li : Int} {S : HSt} {AL : Option Addr} {fv : Value} (f : Fd) (h : RdS W w p d g N F0 F mo li S AL cl fv) (hok : HOk L S) (hL : L ≤ 1048576) (h1 : f.1.1.size ≤ 65536) (h2 : f.1.2.size ≤ 65536) :
    Calls Try.prog 53 #[.pointer (some ⟨p, 0, none⟩), .agg #[.string f.1.1, .string f.1.2, .bool f.2]] w fun e w' => e = .returned (.tuple #[]) ∧ ∃ fv', RdS W w' p d g N F0 F mo li (S.put S.left f) AL cl fv' ∧ Mv w w' p F F fv fv' := by
  obtain ⟨W0, hW0⟩ : ∃ W0, w.alloc (.cells #[.string f.1.1, .string f.1.2, .bool f.2] 43) = W0 := ⟨_, rfl⟩
  obtain ⟨q, hq⟩ : ∃ q, w.heap.size = q := ⟨_, rfl⟩
  have b0 : Below w.heap.size w W0 := by rw [← hW0]; exact (Below.refl _ _).alloc (Nat.le_refl _) _
  have h0 := h.below b0
  have k0 : W0.heap[q]? = some (.cells #[.string f.1.1, .string f.1.2, .bool f.2] 43 (0, 0)) := by rw [← hW0, ← hq]; exact heapNew _ _
  have g0 : W0.cell? ⟨q, 0, none⟩ = some (.string f.1.1) := by unfold World.cell?; rw [k0]; rfl
  have g1 : W0.cell? ⟨q, 1, none⟩ = some (.string f.1.2) := by unfold World.cell?; rw [k0]; rfl
  have g2 : W0.cell? ⟨q, 2, none⟩ = some (.bool f.2) := by unfold World.cell?; rw [k0]; rfl
  obtain ⟨-, -, -, c3, -⟩ := h0.cells
  have f3 := h0.free 3
  have hpq : p ≠ q := by have := h.pw; omega
  have hc := hok.costle
  have hcl := hok.len
  have HW0 := Lib.hid hW0
  have HQ := Lib.hid hq
  have H0 := Lib.hid h0
  have HB0 := Lib.hid b0
  have HK := Lib.hid k0
  clear hW0 hq b0 h0 k0 h
  go_enter Try.func53, Try.ntmps53
  go_upto_region 1 with fail
  rw [HW0.out, HQ.out]
  go_region
  obtain ⟨W1, hW1⟩ : ∃ W1, (W0.setCell ⟨p, 3, none⟩ (.int .i64 ((S.cost : Int) + ((f.1.1.size : Int) + f.1.2.size + 32)))).drew = W1 := ⟨_, rfl⟩
  have h1 : RdS W W1 p d g N F0 F mo li { S with cost := S.cost + cost f.1 } AL cl fv := by
    rw [← hW1]
    have hkw := ((Kept.refl (fun q => q = p) W0).setCell (g := p) rfl 3 (.int .i64 ((S.cost : Int) + ((f.1.1.size : Int) + f.1.2.size + 32)))).drew
    refine H0.out.turn (S' := { S with cost := S.cost + cost f.1 }) rfl hkw ?_ rfl (H0.out.left.kept hkw (fun h0 a ha e => by have := (H0.out.lF h0 a ha).2.2; have := H0.out.pl; omega)) H0.out.lcap (fun h0 a ha => ⟨a, ha, rfl, h0⟩)
    show (W0.setCell ⟨p, 3, none⟩ _).heap[p]? = _
    rw [set_b _ H0.out.rdr]
    rfl
  have hq1 : W1.heap[q]? = W0.heap[q]? := by rw [← hW1]; exact Below.heap_setCell _ _ _ _ (fun e => hpq e.symm)
  have HM1 : Hid (Mv w W1 p F F fv fv) := Lib.hid (by rw [← hW1]; exact (((Mv.refl w p F fv).below HB0.out).trans (Mv.set _ _ _ _ _ _)).below (Below.refl _ _).drew)
  rw [hW1]
  clear hW1
  have k1 := hq1.trans HK.out
  have e0 : W1.cell? ⟨q, 0, none⟩ = some (.string f.1.1) := by unfold World.cell?; rw [k1]; rfl
  have e1 : W1.cell? ⟨q, 1, none⟩ = some (.string f.1.2) := by unfold World.cell?; rw [k1]; rfl
  have e2 : W1.cell? ⟨q, 2, none⟩ = some (.bool f.2) := by unfold World.cell?; rw [k1]; rfl
  obtain ⟨-, -, c2, -, -⟩ := h1.cells
  have f2 := h1.free 2
  have hpw := h1.pw
  obtain ⟨A9, c9, hv9, -⟩ := own_slice h1.fld
  simp only at hv9
  subst hv9
  have H1 := Lib.hid h1
  obtain ⟨n, hn⟩ : ∃ n, S.fields.length = n := ⟨_, rfl⟩
  have HN := Lib.hid hn
  have hown := h1.fld
  simp only at hown
  rw [hn] at hcl hown hc c2
  have HOWN := Lib.hid hown
  clear g0 g1 g2 c3 f3 hq1 k1 h1 hn hown
  go_upto_region 2 with fail
  go_region_law (first
    | (refine step_app (.tmp 23) (.tmp 25) tFields rfl rfl (HOWN.out.alloc _) rfl (Rd.one3 W1 _ _ _ _) rfl (fds_one [f]) (le_maxLen (by omega)) (by omega) (by have := H1.out.kept.size; simp; omega) ?_; intro v4 w4 hown4 hg4 hb4; obtain ⟨A4, c4, rfl, -, -, -, hbase⟩ := own_slice hown4; have hp5 : w4.heap[p]? = W1.heap[p]? := (hg4.block p (by simp; omega) (fun e => (H1.out.fF p (by rw [HN.out]; exact e.symm)).2 rfl)).trans (Below.heap_alloc W1 _ p hpw); have m1 : w4.cell? ⟨p, 2, none⟩ = some (.slice A9 n c9) := (World.cell?_of_block (a := ⟨p, 2, none⟩) hp5).trans c2; have mf : w4.frozen? ⟨p, 2, none⟩ = false := (World.frozen?_of_block (a := ⟨p, 2, none⟩) hp5).trans f2; have H5 := Lib.hid (And.intro hown4 (And.intro hg4 (And.intro hb4 hp5))); clear hown4 hg4 hbase hp5 hb4))
  all_goals
    go_wp2_with fail
    go_end0
    obtain ⟨hown4, hg4, hb4, hp5⟩ := H5.out
    have h9 := H1.out.app f (by rw [HN.out]; exact hown4) (by rw [HN.out]; exact hg4) (by rw [HN.out]; exact hb4)
    have hm : Mv W1 (w4.setCell ⟨p, 2, none⟩ (.slice A4 (n + 1) c4)) p F F (.slice A9 S.fields.length c9) (.slice A4 (n + 1) c4) := by
      have hgg : (W1.alloc (.cells #[.string f.1.1, .string f.1.2, .bool f.2] 43)).drew.grownBy w4 (Value.slice A9 S.fields.length c9).ownBlock := by rw [HN.out]; exact hg4
      refine ⟨((((Kept.refl _ W1).alloc _).drew).grown hgg (fun k hk => .inl (.inr (.inr hk)))).setCell (.inl rfl) _ _, Grew.refl _ _, fun k hk => ?_⟩
      rcases hb4 with e | e
      · left; rw [HN.out]; rw [← e]; exact hk
      · right
        rw [e] at hk
        injection hk with hk
        simp [World.drew] at hk
        omega
    first
      | exact ⟨rfl, _, h9, HM1.out.trans hm⟩
      | exact ⟨rfl, _, h9.below ((Below.refl _ _).drew), (HM1.out.trans hm).below ((Below.refl _ _).drew)⟩
/-- A change of size. -/
def rszP (mo : Int) (S : HSt) : Except Nat HSt :=
  if (takeI 31 S.left).2.2 ≠ 0 then .error (takeI 31 S.left).2.2
  else if 0 < S.fields.length ∨ 2 < S.changes + 1 ∨ mo < ((takeI 31 S.left).1 : Int) then .error 50
  else .ok { S with T := S.T.resize (takeI 31 S.left).1, left := S.left.drop (takeI 31 S.left).2.1, changes := S.changes + 1 }
def PartPost (W w : World) (p d g N : Nat) (F0 F : Nat → Prop) (mo li : Int) (fv : Value) (r : Except Nat HSt) (e : Ending) (w' : World) : Prop :=
  match r with
  | .error z => e = errP z ∧ ∃ S' F' AL cl fv', RdS W w' p d g N F0 F' mo li S' AL cl fv' ∧ Mv w w' p F F' fv fv'
  | .ok S' => e = .returned (.tuple #[]) ∧ ∃ F' AL cl fv', RdS W w' p d g N F0 F' mo li S' AL cl fv' ∧ Mv w w' p F F' fv fv'
theorem RdS.setChg {W w : World} {p d g N cl : Nat} {F0 F : Nat → Prop} {mo li : Int} {S : HSt} {AL : Option Addr} {fv : Value} (h : RdS W w p d g N F0 F mo li S AL cl fv) {k : Nat} {v : Int} (hv : v = (k : Int)) : RdS W (w.setCell ⟨p, 4, none⟩ (.int .i64 v)) p d g N F0 F mo li { S with changes := k } AL cl fv := by
  subst hv
  have hkw := (Kept.refl (fun q => q = p) w).setCell (g := p) rfl 4 (.int .i64 (k : Int))
  refine h.turn (S' := { S with changes := k }) rfl hkw ?_ rfl (h.left.kept hkw (fun h0 a ha e => by have := (h.lF h0 a ha).2.2; have := h.pl; omega)) h.lcap (fun h0 a ha => ⟨a, ha, rfl, h0⟩)
  rw [set_b _ h.rdr]
  rfl
theorem full5 : Full 5 31 := by constructor <;> decide
set_option maxRecDepth 100000 in
set_option maxHeartbeats 2000000 in
theorem resize_any2 {W w : World} {p d g N cl L : Nat} {F0 F : Nat → Prop} {mo li : Int} {S : HSt} {AL : Option Addr} {fv : Value} (h : RdS W w p d g N F0 F mo li S AL cl fv) (hok : HOk L S) (hmo : mo ≤ 65536) :
    Calls Try.prog 57 #[.pointer (some ⟨p, 0, none⟩)] w (PartPost W w p d g N F0 F mo li fv (rszP mo S)) := by
  have HN := Lib.hid (number_any2 full5 h)
  have hchg := hok.chg
  have hlen := hok.len
  have hbd := takeI_bd (show 31 ≤ 255 by omega) S.left
  obtain ⟨⟨n, a, z⟩, hv⟩ : ∃ r, takeI 31 S.left = r := ⟨_, rfl⟩
  have E0 : Hid (z ≠ 0 → rszP mo S = .error z) := Lib.hid fun h => by unfold rszP; rw [hv]; exact if_pos h
  have E1 : Hid (z = 0 → (0 < S.fields.length ∨ 2 < S.changes + 1 ∨ mo < (n : Int)) → rszP mo S = .error 50) := Lib.hid fun h h2 => by unfold rszP; rw [hv]; rw [if_neg (by simpa using h)]; exact if_pos h2
  have E2 : Hid (z = 0 → ¬ (0 < S.fields.length ∨ 2 < S.changes + 1 ∨ mo < (n : Int)) → rszP mo S = .ok { S with T := S.T.resize n, left := S.left.drop a, changes := S.changes + 1 }) := Lib.hid fun h h2 => by unfold rszP; rw [hv]; rw [if_neg (by simpa using h)]; exact if_neg h2
  rw [hv] at HN hbd
  simp only at hbd
  clear hv h hok
  go_enter Try.func57, Try.ntmps57
  go_wp2_with fail
  refine HN.out.mono ?_
  rintro e w1 ⟨hm1, ⟨hz, rfl, AL1, cl1, h1⟩ | ⟨hz, rfl, AL1, cl1, h1⟩⟩
  · simp only at hz
    have H1 := Lib.hid h1
    have HZ := Lib.hid hz
    have HM1 := Lib.hid hm1
    clear h1 hbd hz hm1
    unfold errP
    go_wp2
    rw [E0.out HZ.out]
    exact ⟨rfl, rfl, _, _, _, _, _, H1.out, HM1.out⟩
  · simp only at hz
    subst hz
    simp only at h1
    obtain ⟨h31, -, -, -⟩ := hbd rfl
    obtain ⟨-, -, -, -, c4⟩ := h1.cells
    have f4 := h1.free 4
    have H2 := Lib.hid (h1.setChg (k := S.changes + 1) (v := (S.changes : Int) + 1) (by omega))
    clear h1 hbd
    simp only at c4
    obtain ⟨w2, hw2⟩ : ∃ w2, w1.setCell ⟨p, 4, none⟩ (.int .i64 ((S.changes : Int) + 1)) = w2 := ⟨_, rfl⟩
    rw [hw2] at H2
    have HM2 : Hid (Mv w w2 p F F fv fv) := Lib.hid (by rw [← hw2]; exact hm1.trans (Mv.set _ _ _ _ _ _))
    clear hm1
    obtain ⟨d0, -, d2, -, d4⟩ := H2.out.cells
    obtain ⟨e0, -, e2, -⟩ := H2.out.dcells
    simp only at d2 d4
    obtain ⟨A9, c9, hv9, -⟩ := own_slice H2.out.fld
    simp only at hv9
    subst hv9
    obtain ⟨fl, hfl⟩ : ∃ fl, S.fields.length = fl := ⟨_, rfl⟩
    rw [hfl] at d2 hlen E1 E2
    obtain ⟨ch, hch⟩ : ∃ ch, S.changes + 1 = ch := ⟨_, rfl⟩
    have hch1 : (S.changes : Int) + 1 = ch := by omega
    have HW2 := Lib.hid hw2
    rw [hch] at d4 E1 E2 H2
    have HCH := Lib.hid hch1
    clear hfl hch hw2 hch1
    go_upto_region 2 with fail
    rw [HW2.out]
    have hcase : 0 < fl ∨ (¬ 0 < fl ∧ 2 < ch) ∨ (¬ 0 < fl ∧ ¬ 2 < ch ∧ mo < n) ∨ (¬ 0 < fl ∧ ¬ 2 < ch ∧ ¬ mo < n) := by omega
    clear c4 f4
    rcases hcase with q1 | ⟨q1, q2⟩ | ⟨q1, q2, q3⟩ | ⟨q1, q2, q3⟩
    · have E9 := Lib.hid (E1.out (by trivial) (.inl q1))
      have q4 : (0 : Int) < fl := by omega
      clear q1
      go_wp2
      rw [E9.out]
      exact ⟨rfl, rfl, _, _, _, _, _, H2.out, HM2.out⟩
    · have E9 := Lib.hid (E1.out (by trivial) (.inr (.inl q2)))
      have q4 : ¬ (0 : Int) < fl := by omega
      have q5 : (2 : Int) < ch := by omega
      clear q1 q2
      go_wp2
      rw [E9.out]
      exact ⟨rfl, rfl, _, _, _, _, _, H2.out, HM2.out⟩
    · have E9 := Lib.hid (E1.out (by trivial) (.inr (.inr q3)))
      have q4 : ¬ (0 : Int) < fl := by omega
      have q5 : ¬ (2 : Int) < ch := by omega
      clear q1 q2
      go_wp2
      rw [E9.out]
      exact ⟨rfl, rfl, _, _, _, _, _, H2.out, HM2.out⟩
    · have E9 := Lib.hid (E2.out (by trivial) (by omega))
      have q4 : ¬ (0 : Int) < fl := by omega
      have q5 : ¬ (2 : Int) < ch := by omega
      have HR := Lib.hid (resize_any (n : Int) w2 H2.out.tab (by omega) (by omega))
      clear q1 q2
      go_wp2_with fail
      refine HR.out.mono ?_
      rintro e w3 ⟨rfl, F3, ht3, hk3, hg3⟩
      have H3 := Lib.hid (H2.out.tabStep ht3 hk3 hg3)
      have HM3 := Lib.hid (HM2.out.trans (⟨hk3.mono (fun _ h => .inr (.inl h)), hg3, fun _ h => .inl h⟩ : Mv w2 w3 p F F3 _ _))
      clear ht3 hk3 hg3
      go_wp2_with fail
      go_end0
      rw [E9.out]
      exact ⟨rfl, _, _, _, _, H3.out, HM3.out⟩
end Go.Proofs.Ytfpcamkimjecdaa

/- The walk of hpack.reader's literal. -/
namespace Go.Proofs.Ytfpcamkimjecdaa
open Go.RowKit

def litR (Fm : Nat) (T : Tb) (l : List UInt8) : Except Nat (Rw × List UInt8) := if (takeI Fm l).2.2 ≠ 0 then .error (takeI Fm l).2.2 else litP T (takeI Fm l).1 (l.drop (takeI Fm l).2.1)
def LitPost (W w : World) (p d g N : Nat) (F0 F : Nat → Prop) (mo li : Int) (S : HSt) (fv : Value) (nv : Bool) (r : Except Nat (Rw × List UInt8)) (e : Ending) (w' : World) : Prop :=
  Mv w w' p F F fv fv ∧ match r with
  | .error z => e = errP z ∧ ∃ S' AL cl, RdS W w' p d g N F0 F mo li S' AL cl fv
  | .ok (f, l) => e = .returned (fieldV f nv) ∧ ∃ AL cl, RdS W w' p d g N F0 F mo li { S with left := l } AL cl fv
section
variable {W w w' w0 : World} {p d g N cl b b' : Nat} {F0 F F' : Nat → Prop} {mo li : Int} {S : HSt} {AL : Option Addr} {fv fv' : Value} {o : Option Obj}
/-- Another block has turned. -/
theorem RdS.aside (h : RdS W w p d g N F0 F mo li S AL cl fv) (hb : By w p F fv b o) (hW : W.heap.size ≤ b) (j : Nat) (v : Value) : RdS W (w.setCell ⟨b, j, none⟩ v) p d g N F0 F mo li S AL cl fv := by
  have hkw : Kept (fun k => k = b) w (w.setCell ⟨b, j, none⟩ v) := (Kept.refl (fun k => k = b) w).setCell rfl j v
  exact
  { tab := h.tab.keep fun k hk => hkw.block k (h.tab.lt k hk) (fun e => hb.nF (e ▸ hk))
    dec := (hkw.block d h.dw (fun e => by have := h.dl; omega)).trans h.dec
    rdr := (hkw.block p h.pw (fun e => hb.np e.symm)).trans h.rdr
    left := h.left.kept hkw (fun h0 a ha e => by have := (h.lF h0 a ha).2.2; omega)
    lcap := h.lcap
    lF := h.lF
    fld := own_kept4 h.fld hkw (fun q hq e => hb.nv (by rw [hq, e]))
    fF := h.fF
    grew := h.grew
    kept := ⟨hkw.os.trans h.kept.os, hkw.tape.trans h.kept.tape, hkw.output.trans h.kept.output, Nat.le_trans h.kept.size hkw.size, fun k hk1 hn => (hkw.block k (Nat.lt_of_lt_of_le hk1 h.kept.size) (fun e => by omega)).trans (h.kept.block k hk1 hn)⟩
    dl := h.dl
    dF := h.dF
    pl := h.pl
    pF := h.pF }
theorem Mv.aside (h : Mv w0 w p F F' fv fv') (hb : w0.heap.size ≤ b) (j : Nat) (v : Value) : Mv w0 (w.setCell ⟨b, j, none⟩ v) p F F' fv fv' :=
  ⟨⟨h.kept.os, h.kept.tape, h.kept.output, by have := h.kept.size; simpa [World.setCell] using this, fun k hk hn => (Below.heap_setCell _ ⟨b, j, none⟩ v _ (by show k ≠ b; omega)).trans (h.kept.block k hk hn)⟩, h.grew, h.own⟩
theorem By.other (h : By w p F fv b o) (hne : b ≠ b') (j : Nat) (v : Value) : By (w.setCell ⟨b', j, none⟩ v) p F fv b o :=
  ⟨by simpa [World.setCell] using h.lt, h.np, h.nF, h.nv, (Below.heap_setCell _ ⟨b', j, none⟩ v _ hne).trans h.at_⟩
theorem By.set {cs : Array Value} {t : TypeId} (h : By w p F fv b (some (.cells cs t (0, 0)))) (j : Nat) (v : Value) : By (w.setCell ⟨b, j, none⟩ v) p F fv b (some (.cells (cs.setIfInBounds j v) t (0, 0))) :=
  ⟨by simpa [World.setCell] using h.lt, h.np, h.nF, h.nv, set_b v h.at_⟩
theorem By.below (h : By w p F fv b o) (hb : Below w.heap.size w w') : By w' p F fv b o := ⟨Nat.lt_of_lt_of_le h.lt hb.size, h.np, h.nF, h.nv, (hb.block b h.lt).trans h.at_⟩
end
def zeroF : Obj := .cells #[.string emptyB, .string emptyB, .bool false] 43 (0, 0)
set_option maxRecDepth 100000 in
set_option maxHeartbeats 4000000 in
theorem literal_any {W w : World} {p d g N cl bits Fm : Nat} {F0 F : Nat → Prop} {mo li : Int} {S : HSt} {AL : Option Addr} {fv : Value} (nv : Bool) (hF : Full bits Fm) (h : RdS W w p d g N F0 F mo li S AL cl fv) (hl : S.left.length ≤ 1048576) :
    Calls Try.prog 56 #[.pointer (some ⟨p, 0, none⟩), .int .i64 bits, .bool nv] w (LitPost W w p d g N F0 F mo li S fv nv (litR Fm S.T S.left)) := by
  have run_skip : ∀ (x y z : Value) (w : World), (Instr.field 43 (.agg #[x, y, z]) 0).run Try.prog w = .ok x w := fun _ _ _ _ => rfl
  obtain ⟨W0, hW0⟩ : ∃ W0, w.alloc (.cells #[.string emptyB, .string emptyB, .bool false] 43) = W0 := ⟨_, rfl⟩
  obtain ⟨q, hq⟩ : ∃ q, w.heap.size = q := ⟨_, rfl⟩
  have b0 : Below w.heap.size w W0 := by rw [← hW0]; exact (Below.refl _ _).alloc (Nat.le_refl _) _
  have hby0 : By W0 p F fv q (some zeroF) := by rw [← hW0, ← hq]; exact By.new h _
  have hm0 := Lib.hid ((Mv.refl w p F fv).below b0)
  have hqW : W.heap.size ≤ q := by rw [← hq]; exact h.kept.size
  have HQL : Hid (w.heap.size ≤ q) := Lib.hid (Nat.le_of_eq hq)
  have HN := Lib.hid (number_any2 hF (h.below b0))
  have hbd := takeI_bd hF.le.2 S.left
  have HW0 := Lib.hid hW0
  have HQ := Lib.hid hq
  have HBY0 := Lib.hid hby0
  obtain ⟨⟨n, a, z⟩, hv⟩ : ∃ r, takeI Fm S.left = r := ⟨_, rfl⟩
  have E0 : Hid (z ≠ 0 → litR Fm S.T S.left = .error z) := Lib.hid fun h => by unfold litR; rw [hv]; exact if_pos h
  have E1 : Hid (z = 0 → litR Fm S.T S.left = litP S.T n (S.left.drop a)) := Lib.hid fun h => by unfold litR; rw [hv]; rw [if_neg (by simpa using h)]
  rw [hv] at HN hbd
  obtain ⟨R, hR⟩ : ∃ R, litR Fm S.T S.left = R := ⟨_, rfl⟩
  rw [hR] at E0 E1 ⊢
  clear hv h hW0 hq hby0 b0 hR
  go_enter Try.func56, Try.ntmps56
  go_upto_region 1 with fail
  rw [show (w.alloc (.cells #[.string ⟨#[]⟩, .string ⟨#[]⟩, .bool false] 43)) = W0 from HW0.out, HQ.out]
  go_wp2_with fail
  refine HN.out.mono ?_
  rintro e w1 ⟨hm1, ⟨hz, rfl, AL1, cl1, h1⟩ | ⟨hz, rfl, AL1, cl1, h1⟩⟩
  · simp only at hz
    have H1 := Lib.hid h1
    have HZ := Lib.hid hz
    have HM1 := Lib.hid (hm0.out.trans hm1)
    clear h1 hbd hz hm1
    unfold errP
    go_wp2
    rw [E0.out HZ.out]
    exact ⟨rfl, HM1.out, rfl, _, _, _, H1.out⟩
  simp only at hz
  subst hz
  obtain ⟨h31, ha1, han, -⟩ := hbd rfl
  simp only at h1 h31 ha1 han
  have HM1 := Lib.hid (hm0.out.trans hm1)
  have HBY1 := Lib.hid (HBY0.out.mv hm1)
  have e1 := E1.out (by trivial)
  clear hm1 hbd E0 E1 HBY0
  obtain ⟨W2, hW2⟩ : ∃ W2, w1.alloc (.cells #[.string emptyB, .string emptyB, .bool false] 43) = W2 := ⟨_, rfl⟩
  obtain ⟨x, hx⟩ : ∃ x, w1.heap.size = x := ⟨_, rfl⟩
  have b2 : Below w1.heap.size w1 W2 := by rw [← hW2]; exact (Below.refl _ _).alloc (Nat.le_refl _) _
  have HBX : Hid (By W2 p F fv x (some zeroF)) := Lib.hid (by rw [← hW2, ← hx]; exact By.new h1 _)
  have HBY2 := Lib.hid (HBY1.out.below b2)
  have HM2 := Lib.hid (HM1.out.below b2)
  have hqx : q ≠ x := by have := HBY1.out.lt; omega
  have hxw : w.heap.size ≤ x := by rw [← hx]; exact HM1.out.kept.size
  have hxW : W.heap.size ≤ x := by have := HQL.out; have := HBY1.out.lt; omega
  have H2 := Lib.hid (h1.below b2)
  have HW2 := Lib.hid hW2
  have HX := Lib.hid hx
  clear h1 b2 hW2 hx HM1 HBY1
  go_upto_region 3 with fail
  rw [show (w1.alloc (.cells #[.string ⟨#[]⟩, .string ⟨#[]⟩, .bool false] 43)) = W2 from HW2.out, HX.out]
  have HT0 := Lib.hid hqW
  have HT1 := Lib.hid hqx
  have HT2 := Lib.hid hxw
  have HT3 := Lib.hid hxW
  clear hqW hqx hxw hxW HW2 HX
  by_cases hn0 : 0 < n
  · have n0 : (0 : Int) < n := by omega
    have HR := Lib.hid (row_any (n : Int) H2.out (by omega))
    simp only at HR
    cases hat : atRows S.T.rows n with
    | none =>
      have E9 : Hid (R = .error 40) := Lib.hid (by rw [e1]; unfold litP takeN; rw [if_pos hn0, hat])
      rw [hat] at HR
      clear e1 hat hn0
      go_wp2_with fail
      refine HR.out.mono ?_
      rintro e w3 ⟨hb3, h3, rfl⟩
      have H3 := Lib.hid h3
      have HM3 := Lib.hid (HM2.out.below hb3)
      clear h3 hb3
      simp only
      unfold errP
      go_wp2
      rw [E9.out]
      exact ⟨rfl, HM3.out, rfl, _, _, _, H3.out⟩
    | some r =>
      have E9 : Hid (R = match takeS (S.left.drop a) with
        | .error e => .error e
        | .ok (v, l2) => .ok ((r.1, v), l2)) := Lib.hid (by rw [e1]; unfold litP takeN; rw [if_pos hn0, hat]; rfl)
      rw [hat] at HR
      clear e1 hat hn0
      go_wp2_with fail
      refine HR.out.mono ?_
      rintro e w3 ⟨hb3, h3, rfl⟩
      have HM3 := Lib.hid (HM2.out.below hb3)
      have HBX3 := Lib.hid (HBX.out.below hb3)
      have HBY3 := Lib.hid (HBY2.out.below hb3)
      have H3 := Lib.hid h3
      obtain ⟨l1, hl1⟩ : ∃ l, S.left.drop a = l := ⟨_, rfl⟩
      have HLL : Hid (l1.length ≤ 1048576) := Lib.hid (by rw [← hl1, List.length_drop]; omega)
      rw [hl1] at E9 H3
      obtain ⟨nm, hnm⟩ : ∃ nm, r.1 = nm := ⟨_, rfl⟩
      rw [hnm] at E9
      have k3 := HBX3.out.at_
      have x0 : w3.cell? ⟨x, 0, none⟩ = some (.string emptyB) := by unfold World.cell?; rw [k3]; rfl
      have fx : w3.frozen? ⟨x, 0, none⟩ = false := by unfold World.frozen?; rw [k3]; simp [zeroF]
      clear hb3 h3 hl1 k3
      simp only
      unfold fieldV
      rw [hnm]
      clear hnm
      go_upto_region 6 with fail
      obtain ⟨W4, hW4⟩ : ∃ W4, w3.setCell ⟨x, 0, none⟩ (.string nm) = W4 := ⟨_, rfl⟩
      have H4 : Hid (RdS W W4 p d g N F0 F mo li { S with left := l1 } AL1 cl1 fv) := Lib.hid (by rw [← hW4]; exact H3.out.aside HBX3.out HT3.out _ _)
      have HBX4 : Hid (By W4 p F fv x (some (.cells #[.string nm, .string emptyB, .bool false] 43 (0, 0)))) := Lib.hid (by rw [← hW4]; exact HBX3.out.set 0 _)
      have HBY4 : Hid (By W4 p F fv q (some zeroF)) := Lib.hid (by rw [← hW4]; exact HBY3.out.other HT1.out _ _)
      have HM4 : Hid (Mv w W4 p F F fv fv) := Lib.hid (by rw [← hW4]; exact HM3.out.aside HT2.out _ _)
      rw [hW4]
      have HTX := Lib.hid (text_any H4.out HLL.out)
      simp only at HTX
      clear hW4 x0 fx
      obtain ⟨tr, htr⟩ : ∃ tr, takeS l1 = tr := ⟨_, rfl⟩
      rw [htr] at HTX E9
      cases tr with
      | error z5 =>
        go_wp2_with fail
        refine HTX.out.mono ?_
        rintro e w5 ⟨hm5, rfl, AL5, cl5, h5⟩
        have H5 := Lib.hid h5
        have HM5 := Lib.hid (HM4.out.trans hm5)
        clear h5 hm5 htr
        unfold errP
        go_wp2
        rw [E9.out]
        exact ⟨rfl, HM5.out, rfl, _, _, _, H5.out⟩
      | ok sl =>
        obtain ⟨vl, l5⟩ := sl
        go_wp2_with fail
        refine HTX.out.mono ?_
        rintro e w5 ⟨hm5, rfl, AL5, cl5, h5⟩
        simp only at h5
        have H5 := Lib.hid h5
        have HM5 := Lib.hid (HM4.out.trans hm5)
        have HBX5 := Lib.hid (HBX4.out.mv hm5)
        have HBY5 := Lib.hid (HBY4.out.mv hm5)
        have k5 := HBX5.out.at_
        have y0 : w5.cell? ⟨x, 0, none⟩ = some (.string nm) := by unfold World.cell?; rw [k5]; rfl
        have y1 : w5.cell? ⟨x, 1, none⟩ = some (.string emptyB) := by unfold World.cell?; rw [k5]; rfl
        have y2 : w5.cell? ⟨x, 2, none⟩ = some (.bool false) := by unfold World.cell?; rw [k5]; rfl
        have fy : ∀ o, w5.frozen? ⟨x, o, none⟩ = false := fun o => by unfold World.frozen?; rw [k5]; simp
        have k6 := HBY5.out.at_
        have u0 : w5.cell? ⟨q, 0, none⟩ = some (.string emptyB) := by unfold World.cell?; rw [k6]; rfl
        have u1 : w5.cell? ⟨q, 1, none⟩ = some (.string emptyB) := by unfold World.cell?; rw [k6]; rfl
        have u2 : w5.cell? ⟨q, 2, none⟩ = some (.bool false) := by unfold World.cell?; rw [k6]; rfl
        have fu : ∀ o, w5.frozen? ⟨q, o, none⟩ = false := fun o => by unfold World.frozen?; rw [k6]; simp [zeroF]
        have hqx : q ≠ x := HT1.out
        have hxq : x ≠ q := fun e => hqx e.symm
        clear h5 hm5 htr k5 k6
        go_wp2
        refine bodyPost_ret (v := fieldV (nm, vl) nv) (by simp [results, Try.results56, go_sem, fieldV, u0, u1, u2]) rfl ?_
        rw [E9.out]
        have hs5 := HBX5.out.set 1 (.string vl)
        have hq5 := HBY5.out.other HT1.out 1 (.string vl)
        have hr5 := H5.out.aside HBX5.out HT3.out 1 (.string vl)
        have hs6 := hs5.set 2 (.bool nv)
        have hq6 := hq5.other HT1.out 2 (.bool nv)
        have hr6 := hr5.aside hs5 HT3.out 2 (.bool nv)
        have hq7 := By.set (cs := #[.string emptyB, .string emptyB, .bool false]) hq6 0 (.string nm)
        have hr7 := hr6.aside hq6 HT0.out 0 (.string nm)
        have hq8 := hq7.set 1 (.string vl)
        have hr8 := hr7.aside hq7 HT0.out 1 (.string vl)
        have hr9 := hr8.aside hq8 HT0.out 2 (.bool nv)
        exact ⟨((((HM5.out.aside HT2.out _ _).aside HT2.out _ _).aside HQL.out _ _).aside HQL.out _ _).aside HQL.out _ _, rfl, _, _, hr9⟩
  · obtain rfl : n = 0 := by omega
    have n0 : ¬ (0 : Int) < ((0 : Nat) : Int) := by omega
    have HR := Lib.hid (text_any H2.out (by show (S.left.drop a).length ≤ 1048576; rw [List.length_drop]; omega))
    simp only at HR
    obtain ⟨tr0, htr0⟩ : ∃ tr, takeS (S.left.drop a) = tr := ⟨_, rfl⟩
    rw [htr0] at HR
    cases tr0 with
    | error z3 =>
      have E9 : Hid (R = .error z3) := Lib.hid (by rw [e1]; unfold litP takeN; rw [if_neg (by omega), htr0])
      clear e1 htr0 hn0
      go_wp2_with fail
      refine HR.out.mono ?_
      rintro e w3 ⟨hm3, rfl, AL3, cl3, h3⟩
      have H3 := Lib.hid h3
      have HM3 := Lib.hid (HM2.out.trans hm3)
      clear h3 hm3
      unfold errP
      go_wp2
      rw [E9.out]
      exact ⟨rfl, HM3.out, rfl, _, _, _, H3.out⟩
    | ok sl =>
      obtain ⟨nm, l1⟩ := sl
      have E9 : Hid (R = match takeS l1 with
        | .error e => .error e
        | .ok (v, l2) => .ok ((nm, v), l2)) := Lib.hid (by rw [e1]; unfold litP takeN; rw [if_neg (by omega), htr0]; rfl)
      have HLL : Hid (l1.length ≤ 1048576) := Lib.hid (by have := (takeS_ok htr0).2; rw [List.length_drop] at this; omega)
      clear e1 htr0 hn0
      go_wp2_with fail
      refine HR.out.mono ?_
      rintro e w3 ⟨hm3, rfl, AL3, cl3, h3⟩
      simp only at h3
      have H3 := Lib.hid h3
      have HM3 := Lib.hid (HM2.out.trans hm3)
      have HBX3 := Lib.hid (HBX.out.mv hm3)
      have HBY3 := Lib.hid (HBY2.out.mv hm3)
      have k3 := HBX3.out.at_
      have x0 : w3.cell? ⟨x, 0, none⟩ = some (.string emptyB) := by unfold World.cell?; rw [k3]; rfl
      have fx : w3.frozen? ⟨x, 0, none⟩ = false := by unfold World.frozen?; rw [k3]; simp [zeroF]
      clear h3 hm3 k3
      go_upto_region 6 with fail
      obtain ⟨W4, hW4⟩ : ∃ W4, w3.setCell ⟨x, 0, none⟩ (.string nm) = W4 := ⟨_, rfl⟩
      have H4 : Hid (RdS W W4 p d g N F0 F mo li { S with left := l1 } AL3 cl3 fv) := Lib.hid (by rw [← hW4]; exact H3.out.aside HBX3.out HT3.out _ _)
      have HBX4 : Hid (By W4 p F fv x (some (.cells #[.string nm, .string emptyB, .bool false] 43 (0, 0)))) := Lib.hid (by rw [← hW4]; exact HBX3.out.set 0 _)
      have HBY4 : Hid (By W4 p F fv q (some zeroF)) := Lib.hid (by rw [← hW4]; exact HBY3.out.other HT1.out _ _)
      have HM4 : Hid (Mv w W4 p F F fv fv) := Lib.hid (by rw [← hW4]; exact HM3.out.aside HT2.out _ _)
      rw [hW4]
      have HTX := Lib.hid (text_any H4.out HLL.out)
      simp only at HTX
      clear hW4 x0 fx
      obtain ⟨tr, htr⟩ : ∃ tr, takeS l1 = tr := ⟨_, rfl⟩
      rw [htr] at HTX E9
      cases tr with
      | error z5 =>
        go_wp2_with fail
        refine HTX.out.mono ?_
        rintro e w5 ⟨hm5, rfl, AL5, cl5, h5⟩
        have H5 := Lib.hid h5
        have HM5 := Lib.hid (HM4.out.trans hm5)
        clear h5 hm5 htr
        unfold errP
        go_wp2
        rw [E9.out]
        exact ⟨rfl, HM5.out, rfl, _, _, _, H5.out⟩
      | ok sl =>
        obtain ⟨vl, l5⟩ := sl
        go_wp2_with fail
        refine HTX.out.mono ?_
        rintro e w5 ⟨hm5, rfl, AL5, cl5, h5⟩
        simp only at h5
        have H5 := Lib.hid h5
        have HM5 := Lib.hid (HM4.out.trans hm5)
        have HBX5 := Lib.hid (HBX4.out.mv hm5)
        have HBY5 := Lib.hid (HBY4.out.mv hm5)
        have k5 := HBX5.out.at_
        have y0 : w5.cell? ⟨x, 0, none⟩ = some (.string nm) := by unfold World.cell?; rw [k5]; rfl
        have y1 : w5.cell? ⟨x, 1, none⟩ = some (.string emptyB) := by unfold World.cell?; rw [k5]; rfl
        have y2 : w5.cell? ⟨x, 2, none⟩ = some (.bool false) := by unfold World.cell?; rw [k5]; rfl
        have fy : ∀ o, w5.frozen? ⟨x, o, none⟩ = false := fun o => by unfold World.frozen?; rw [k5]; simp
        have k6 := HBY5.out.at_
        have u0 : w5.cell? ⟨q, 0, none⟩ = some (.string emptyB) := by unfold World.cell?; rw [k6]; rfl
        have u1 : w5.cell? ⟨q, 1, none⟩ = some (.string emptyB) := by unfold World.cell?; rw [k6]; rfl
        have u2 : w5.cell? ⟨q, 2, none⟩ = some (.bool false) := by unfold World.cell?; rw [k6]; rfl
        have fu : ∀ o, w5.frozen? ⟨q, o, none⟩ = false := fun o => by unfold World.frozen?; rw [k6]; simp [zeroF]
        have hqx : q ≠ x := HT1.out
        have hxq : x ≠ q := fun e => hqx e.symm
        clear h5 hm5 htr k5 k6
        go_wp2
        refine bodyPost_ret (v := fieldV (nm, vl) nv) (by simp [results, Try.results56, go_sem, fieldV, u0, u1, u2]) rfl ?_
        rw [E9.out]
        have hs5 := HBX5.out.set 1 (.string vl)
        have hq5 := HBY5.out.other HT1.out 1 (.string vl)
        have hr5 := H5.out.aside HBX5.out HT3.out 1 (.string vl)
        have hs6 := hs5.set 2 (.bool nv)
        have hq6 := hq5.other HT1.out 2 (.bool nv)
        have hr6 := hr5.aside hs5 HT3.out 2 (.bool nv)
        have hq7 := By.set (cs := #[.string emptyB, .string emptyB, .bool false]) hq6 0 (.string nm)
        have hr7 := hr6.aside hq6 HT0.out 0 (.string nm)
        have hq8 := hq7.set 1 (.string vl)
        have hr8 := hr7.aside hq7 HT0.out 1 (.string vl)
        have hr9 := hr8.aside hq8 HT0.out 2 (.bool nv)
        exact ⟨((((HM5.out.aside HT2.out _ _).aside HT2.out _ _).aside HQL.out _ _).aside HQL.out _ _).aside HQL.out _ _, rfl, _, _, hr9⟩
end Go.Proofs.Ytfpcamkimjecdaa

/- The walk of hpack.reader's part. -/
namespace Go.Proofs.Ytfpcamkimjecdaa
open Go.RowKit

section
variable {mo : Int} {S : HSt} {c : Nat}
theorem partP_128 (hc : ba S.left 0 = c) (h : 128 ≤ c) : ((takeI 127 S.left).2.2 ≠ 0 → partP mo S = .error (takeI 127 S.left).2.2) ∧
    ((takeI 127 S.left).2.2 = 0 → atRows S.T.rows (takeI 127 S.left).1 = none → partP mo S = .error 40) ∧
    (∀ r, (takeI 127 S.left).2.2 = 0 → atRows S.T.rows (takeI 127 S.left).1 = some r → partP mo S = .ok (S.put (S.left.drop (takeI 127 S.left).2.1) (r, false))) := by
  have e : prefF c = 127 := by unfold prefF; rw [if_pos h]
  unfold partP
  rw [hc, e]
  refine ⟨fun h1 => if_pos h1, fun h1 h2 => ?_, fun r h1 h2 => ?_⟩
  · rw [if_neg (by simpa using h1)]; unfold afterP; rw [if_pos h, h2]
  · rw [if_neg (by simpa using h1)]; unfold afterP; rw [if_pos h, h2]
theorem partP_64 (hc : ba S.left 0 = c) (h1 : ¬ 128 ≤ c) (h : 64 ≤ c) : (∀ z, litR 63 S.T S.left = .error z → partP mo S = .error z) ∧
    (∀ f l2, litR 63 S.T S.left = .ok (f, l2) → partP mo S = .ok ({ S with T := S.T.add f }.put l2 (f, false))) := by
  have e : prefF c = 63 := by unfold prefF; rw [if_neg h1, if_pos h]
  unfold partP litR
  rw [hc, e]
  by_cases hz : (takeI 63 S.left).2.2 ≠ 0
  · rw [if_pos hz, if_pos hz]
    exact ⟨fun z hq => by injection hq with hq; rw [hq], fun f l2 hq => by cases hq⟩
  · rw [if_neg hz, if_neg hz]
    unfold afterP
    rw [if_neg h1, if_pos h]
    exact ⟨fun z hq => by rw [hq], fun f l2 hq => by rw [hq]⟩
theorem partP_32 (hc : ba S.left 0 = c) (h1 : ¬ 128 ≤ c) (h2 : ¬ 64 ≤ c) (h : 32 ≤ c) : partP mo S = rszP mo S := by
  have e : prefF c = 31 := by unfold prefF; rw [if_neg h1, if_neg h2, if_pos h]
  unfold partP rszP
  rw [hc, e]
  unfold afterP
  rw [if_neg h1, if_neg h2, if_pos h]
theorem partP_0 (hc : ba S.left 0 = c) (h : ¬ 32 ≤ c) : (∀ z, litR 15 S.T S.left = .error z → partP mo S = .error z) ∧
    (∀ f l2, litR 15 S.T S.left = .ok (f, l2) → partP mo S = .ok (S.put l2 (f, decide (16 ≤ c)))) := by
  have h1 : ¬ 128 ≤ c := by omega
  have h2 : ¬ 64 ≤ c := by omega
  have e : prefF c = 15 := by unfold prefF; rw [if_neg h1, if_neg h2, if_neg h]
  unfold partP litR
  rw [hc, e]
  by_cases hz : (takeI 15 S.left).2.2 ≠ 0
  · rw [if_pos hz, if_pos hz]
    exact ⟨fun z hq => by injection hq with hq; rw [hq], fun f l2 hq => by cases hq⟩
  · rw [if_neg hz, if_neg hz]
    unfold afterP
    rw [if_neg h1, if_neg h2, if_neg h]
    exact ⟨fun z hq => by rw [hq], fun f l2 hq => by rw [hq]⟩
end
theorem litR_ok {T : Tb} (hT : TOk T) {Fm : Nat} (hF : Fm ≤ 255) {l l2 : List UInt8} {f : Rw} (h : litR Fm T l = .ok (f, l2)) : f.1.size ≤ 65536 ∧ f.2.size ≤ 4096 ∧ l2.length < l.length := by
  unfold litR at h
  split at h
  · cases h
  · rename_i h0
    have := takeI_bd hF l (by simpa using h0)
    have h2 := litP_ok hT h
    rw [List.length_drop] at h2
    omega
theorem full4 : Full 4 15 := by constructor <;> decide
theorem full6 : Full 6 63 := by constructor <;> decide
set_option maxRecDepth 100000 in
set_option maxHeartbeats 4000000 in
theorem part_any {W w : World} {p d g N cl L : Nat} {F0 F : Nat → Prop} {mo li : Int} {S : HSt} {AL : Option Addr} {fv : Value} (h : RdS W w p d g N F0 F mo li S AL cl fv) (hok : HOk L S) (hL : L ≤ 1048576) (hmo : mo ≤ 65536) (h0 : 0 < S.left.length) (hN : N + 1 ≤ 1099511627776) :
    Calls Try.prog 39 #[.pointer (some ⟨p, 0, none⟩)] w (PartPost W w p d g (N + 1) F0 F mo li fv (partP mo S)) := by
  obtain ⟨hlen, b, o, rfl, hbw, hcs⟩ := h.left.bas h0
  have q0 := hcs 0 h0
  rw [Nat.add_zero] at q0
  have hba := ba_lt S.left 0
  obtain ⟨c, hc⟩ : ∃ c, ba S.left 0 = c := ⟨_, rfl⟩
  rw [hc] at q0 hba
  obtain ⟨-, c1, -, -, -⟩ := h.cells
  have H := Lib.hid h
  have HOK := Lib.hid hok
  have HC := Lib.hid hc
  have hl20 : S.left.length ≤ 1048576 := by have := hok.len; omega
  have HL20 := Lib.hid hl20
  obtain ⟨R, hR⟩ : ∃ R, partP mo S = R := ⟨_, rfl⟩
  have HR := Lib.hid hR
  obtain ⟨ln, hln⟩ : ∃ ln, S.left.length = ln := ⟨_, rfl⟩
  have HLN := Lib.hid hln
  rw [hR]
  rw [hln] at c1 h0
  have n0 : (0 : Int) < ln := by omega
  clear hR hcs h hok hc hl20 hln
  by_cases hc1 : 128 ≤ c
  · have E := partP_128 (mo := mo) HC.out hc1
    rw [HR.out] at E
    have HE := Lib.hid E
    have hbd := takeI_bd (show 127 ≤ 255 by omega) S.left
    have HNU := Lib.hid (number_any2 full7 H.out)
    obtain ⟨⟨n, a, z⟩, hv⟩ : ∃ r, takeI 127 S.left = r := ⟨_, rfl⟩
    rw [hv] at HE HNU hbd
    have g1 : (128 : Int) ≤ c := by omega
    clear E hv hc1
    go_enter Try.func39, Try.ntmps39
    go_wp2_with fail
    refine HNU.out.mono ?_
    rintro e w1 ⟨hm1, ⟨hz, rfl, AL1, cl1, h1⟩ | ⟨hz, rfl, AL1, cl1, h1⟩⟩
    · simp only at hz
      have H1 := Lib.hid (h1.more (Nat.le_succ N) hN)
      have HZ := Lib.hid hz
      have HM1 := Lib.hid hm1
      clear h1 hbd hz hm1
      unfold errP
      go_wp2
      rw [HE.out.1 HZ.out]
      exact ⟨rfl, rfl, _, _, _, _, _, H1.out, HM1.out⟩
    · simp only at hz
      subst hz
      obtain ⟨h31, ha1, han, -⟩ := hbd rfl
      simp only at h1 h31 ha1 han
      have HRW := Lib.hid (row_any (n : Int) h1 (by omega))
      have HM1 := Lib.hid hm1
      simp only at HRW
      clear hm1 hbd h1
      cases hat : atRows S.T.rows n with
      | none =>
        have E9 := Lib.hid (HE.out.2.1 (by trivial) hat)
        rw [hat] at HRW
        clear hat
        go_wp2_with fail
        refine HRW.out.mono ?_
        rintro e w3 ⟨hb3, h3, rfl⟩
        have H3 := Lib.hid (h3.more (Nat.le_succ N) hN)
        have HM3 := Lib.hid (HM1.out.below hb3)
        clear h3 hb3
        simp only
        unfold errP
        go_wp2
        rw [E9.out]
        exact ⟨rfl, rfl, _, _, _, _, _, H3.out, HM3.out⟩
      | some r =>
        have E9 := Lib.hid (HE.out.2.2 r (by trivial) hat)
        have hrs := atRows_size HOK.out.tok hat
        rw [hat] at HRW
        clear hat
        go_wp2_with fail
        refine HRW.out.mono ?_
        rintro e w3 ⟨hb3, h3, rfl⟩
        have HM3 := Lib.hid (HM1.out.below hb3)
        have hok3 : HOk L { S with left := S.left.drop a } := { tok := HOK.out.tok, sz := HOK.out.sz, cost := HOK.out.cost, len := by have := HOK.out.len; simp only [List.length_drop]; omega, chg := HOK.out.chg }
        have HP := Lib.hid (put_any (r, false) (h3.more (Nat.le_succ N) hN) hok3 hL hrs.1 hrs.2)
        simp only at HP
        clear h3 hb3 hok3
        simp only
        unfold fieldV
        go_wp2_with fail
        refine HP.out.mono ?_
        rintro e w4 ⟨rfl, fv4, h4, hm4⟩
        have H4 := Lib.hid h4
        have HM4 := Lib.hid (HM3.out.trans hm4)
        clear h4 hm4
        go_wp2_with fail
        go_end0
        rw [E9.out]
        exact ⟨rfl, _, _, _, _, H4.out, HM4.out⟩
  by_cases hc2 : 64 ≤ c
  · have E := partP_64 (mo := mo) HC.out hc1 hc2
    rw [HR.out] at E
    have HE := Lib.hid E
    have g1 : ¬ (128 : Int) ≤ c := by omega
    have g2 : (64 : Int) ≤ c := by omega
    have HLT := Lib.hid (literal_any false full6 H.out HL20.out)
    obtain ⟨lr, hlr⟩ : ∃ lr, litR 63 S.T S.left = lr := ⟨_, rfl⟩
    rw [hlr] at HLT HE
    have HLR := Lib.hid hlr
    clear hc1 hc2 E hlr
    go_enter Try.func39, Try.ntmps39
    go_wp2_with fail
    refine HLT.out.mono ?_
    cases lr with
    | error z =>
      rintro e w1 ⟨hm1, rfl, S1, AL1, cl1, h1⟩
      have H1 := Lib.hid (h1.more (Nat.le_succ N) hN)
      have HM1 := Lib.hid hm1
      clear h1 hm1
      unfold errP
      go_wp2
      rw [HE.out.1 z rfl]
      exact ⟨rfl, rfl, _, _, _, _, _, H1.out, HM1.out⟩
    | ok fl =>
      obtain ⟨f, l2⟩ := fl
      have hfs := litR_ok HOK.out.tok (by omega) HLR.out
      rintro e w1 ⟨hm1, rfl, AL1, cl1, h1⟩
      obtain ⟨W2, hW2⟩ : ∃ W2, w1.alloc (.cells #[.string f.1, .string f.2, .bool false] 43) = W2 := ⟨_, rfl⟩
      obtain ⟨x, hx⟩ : ∃ x, w1.heap.size = x := ⟨_, rfl⟩
      have b2 : Below w1.heap.size w1 W2 := by rw [← hW2]; exact (Below.refl _ _).alloc (Nat.le_refl _) _
      have HBX : Hid (By W2 p F fv x (some (.cells #[.string f.1, .string f.2, .bool false] 43 (0, 0)))) := Lib.hid (by rw [← hW2, ← hx]; exact By.new h1 _)
      have HM2 := Lib.hid (hm1.below b2)
      have h2 := h1.below b2
      have hdx : d ≠ x := by have := h1.dw; omega
      obtain ⟨d0, -, -, -, -⟩ := h2.cells
      obtain ⟨-, -, e2, -⟩ := h2.dcells
      have k2 := HBX.out.at_
      have x0 : W2.cell? ⟨x, 0, none⟩ = some (.string f.1) := by unfold World.cell?; rw [k2]; rfl
      have x1 : W2.cell? ⟨x, 1, none⟩ = some (.string f.2) := by unfold World.cell?; rw [k2]; rfl
      have x2 : W2.cell? ⟨x, 2, none⟩ = some (.bool false) := by unfold World.cell?; rw [k2]; rfl
      have H2 := Lib.hid h2
      have HA : Hid (∀ w', w'.heap = W2.heap → Calls Try.prog 52 #[.pointer (some ⟨g, 0, none⟩), .agg #[.string f.1, .string f.2, .bool false]] w' (TStep w' g F (N + 1) (S.T.add f) (.tuple #[]))) := Lib.hid fun w' hw => add_any f false w' (h2.tab.keep fun k _ => by rw [hw]) (by omega) (by omega) hN
      have HW2 := Lib.hid hW2
      have HX := Lib.hid hx
      clear h1 hm1 hW2 hx b2 h2 k2 c1
      unfold fieldV
      go_upto_region 6 with fail
      rw [HW2.out, HX.out]
      go_region_held3 (fun w' => w'.cell? ⟨p, 0, none⟩ = some (.pointer (some ⟨d, 0, none⟩)) ∧ w'.cell? ⟨d, 2, none⟩ = some (.pointer (some ⟨g, 0, none⟩)) ∧ w'.cell? ⟨x, 0, none⟩ = some (.string f.1) ∧ w'.cell? ⟨x, 1, none⟩ = some (.string f.2) ∧ w'.cell? ⟨x, 2, none⟩ = some (.bool false))
        (first | go_keep | exact ⟨k0, k1, k2, k3, k4⟩)
        (first
          | (go_at_call 52; refine (HA.out _ (by rfl)).mono ?_; rintro e w3 ⟨rfl, F3, ht3, hk3, hg3⟩; have hk3' : Kept F W2 w3 := ⟨hk3.os, hk3.tape, hk3.output, hk3.size, hk3.block⟩; have hg3' : Grew W2 F F3 := hg3; have h3 := H2.out.tabStep ht3 hk3' hg3'; have hm3 : Mv W2 w3 p F F3 fv fv := ⟨hk3'.mono (fun _ h => .inr (.inl h)), hg3', fun _ h => .inl h⟩; have hb3 := HBX.out.mv hm3; obtain ⟨k0, -, -, -, -⟩ := h3.cells; obtain ⟨-, -, k1, -⟩ := h3.dcells; have kk := hb3.at_; have k2 : w3.cell? ⟨x, 0, none⟩ = some (.string f.1) := (by unfold World.cell?; rw [kk]; rfl); have k3 : w3.cell? ⟨x, 1, none⟩ = some (.string f.2) := (by unfold World.cell?; rw [kk]; rfl); have k4 : w3.cell? ⟨x, 2, none⟩ = some (.bool false) := (by unfold World.cell?; rw [kk]; rfl); have H3 := Lib.hid (And.intro h3 (And.intro hm3 hb3)); clear ht3 hk3 hg3 hk3' hg3' h3 hm3 hb3 kk))
      all_goals
        have hok3 : HOk L { S with T := S.T.add f, left := l2 } := { tok := HOK.out.tok.add (by omega) (by omega), sz := HOK.out.sz, cost := HOK.out.cost, len := by have := HOK.out.len; simp only; omega, chg := HOK.out.chg }
        have HP : Hid (∀ w', Below w3.heap.size w3 w' → Calls Try.prog 53 #[.pointer (some ⟨p, 0, none⟩), .agg #[.string f.1, .string f.2, .bool false]] w' fun e w4 => e = .returned (.tuple #[]) ∧ ∃ fv4, RdS W w4 p d g (N + 1) F0 F3 mo li ({ S with T := S.T.add f }.put l2 (f, false)) AL1 cl1 fv4 ∧ Mv w w4 p F F3 fv fv4) := Lib.hid fun w' hb => by
          refine (put_any (f, false) (H3.out.1.below hb) hok3 hL hfs.1 (by simp only; omega)).mono ?_
          rintro e w4 ⟨rfl, fv4, h4, hm4⟩
          exact ⟨rfl, fv4, h4, (HM2.out.trans (H3.out.2.1.below hb)).trans hm4⟩
        clear hok3 x0 x1 x2 d0 e2
        go_wp2_with fail
        refine (HP.out _ (by first | exact Below.refl _ _ | exact (Below.refl _ _).drew)).mono ?_
        rintro e w4 ⟨rfl, fv4, h4, hm4⟩
        have H4 := Lib.hid h4
        have HM4 := Lib.hid hm4
        clear h4 hm4
        go_wp2_with fail
        go_end0
        rw [HE.out.2 f l2 rfl]
        exact ⟨rfl, _, _, _, _, H4.out, HM4.out⟩
  by_cases hc3 : 32 ≤ c
  · have E9 : Hid (R = rszP mo S) := Lib.hid (HR.out.symm.trans (partP_32 HC.out hc1 hc2 hc3))
    have HS := Lib.hid (resize_any2 H.out HOK.out hmo)
    have g1 : ¬ (128 : Int) ≤ c := by omega
    have g2 : ¬ (64 : Int) ≤ c := by omega
    have g3 : (32 : Int) ≤ c := by omega
    obtain ⟨R2, hR2⟩ : ∃ R2, rszP mo S = R2 := ⟨_, rfl⟩
    rw [hR2] at HS E9
    clear hc1 hc2 hc3 hR2
    go_enter Try.func39, Try.ntmps39
    go_wp2_with fail
    refine HS.out.mono ?_
    cases R2 with
    | error z =>
      rintro e w1 ⟨rfl, S1, F1, AL1, cl1, fv1, h1, hm1⟩
      have H1 := Lib.hid (h1.more (Nat.le_succ N) hN)
      have HM1 := Lib.hid hm1
      clear h1 hm1
      unfold errP
      go_wp2
      rw [E9.out]
      exact ⟨rfl, rfl, _, _, _, _, _, H1.out, HM1.out⟩
    | ok S1 =>
      rintro e w1 ⟨rfl, F1, AL1, cl1, fv1, h1, hm1⟩
      have H1 := Lib.hid (h1.more (Nat.le_succ N) hN)
      have HM1 := Lib.hid hm1
      clear h1 hm1
      go_wp2_with fail
      go_end0
      rw [E9.out]
      exact ⟨rfl, _, _, _, _, H1.out, HM1.out⟩
  · have E := partP_0 (mo := mo) HC.out hc3
    rw [HR.out] at E
    have HE := Lib.hid E
    have g1 : ¬ (128 : Int) ≤ c := by omega
    have g2 : ¬ (64 : Int) ≤ c := by omega
    have g3 : ¬ (32 : Int) ≤ c := by omega
    obtain ⟨nv, hnv⟩ : ∃ nv, decide (16 ≤ c) = nv := ⟨_, rfl⟩
    have hnv2 : decide ((16 : Int) ≤ c) = nv := by rw [← hnv]; congr 1; simp; omega
    rw [hnv] at HE
    have HLT := Lib.hid (literal_any nv full4 H.out HL20.out)
    obtain ⟨lr, hlr⟩ : ∃ lr, litR 15 S.T S.left = lr := ⟨_, rfl⟩
    rw [hlr] at HLT HE
    have HLR := Lib.hid hlr
    clear hc1 hc2 hc3 hnv E hlr
    go_enter Try.func39, Try.ntmps39
    go_wp2_with fail
    refine HLT.out.mono ?_
    cases lr with
    | error z =>
      rintro e w1 ⟨hm1, rfl, S1, AL1, cl1, h1⟩
      have H1 := Lib.hid (h1.more (Nat.le_succ N) hN)
      have HM1 := Lib.hid hm1
      clear h1 hm1
      unfold errP
      go_wp2
      rw [HE.out.1 z rfl]
      exact ⟨rfl, rfl, _, _, _, _, _, H1.out, HM1.out⟩
    | ok fl =>
      obtain ⟨f, l2⟩ := fl
      have hfs := litR_ok HOK.out.tok (by omega) HLR.out
      rintro e w1 ⟨hm1, rfl, AL1, cl1, h1⟩
      have HM1 := Lib.hid hm1
      have hok3 : HOk L { S with left := l2 } := { tok := HOK.out.tok, sz := HOK.out.sz, cost := HOK.out.cost, len := by have := HOK.out.len; simp only; omega, chg := HOK.out.chg }
      have HP := Lib.hid (put_any (f, nv) (h1.more (Nat.le_succ N) hN) hok3 hL hfs.1 (by simp only; omega))
      simp only at HP
      clear h1 hm1 hok3
      unfold fieldV
      go_wp2_with fail
      refine HP.out.mono ?_
      rintro e w4 ⟨rfl, fv4, h4, hm4⟩
      have H4 := Lib.hid h4
      have HM4 := Lib.hid (HM1.out.trans hm4)
      clear h4 hm4
      go_wp2_with fail
      go_end0
      rw [HE.out.2 f l2 rfl]
      exact ⟨rfl, _, _, _, _, H4.out, HM4.out⟩
end Go.Proofs.Ytfpcamkimjecdaa
