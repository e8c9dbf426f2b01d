/- 12 texts in one: HDec5, RTab4, HTab1, HTab2, HTab3, HTab4, HNew, HRows, FindPlain, RTab5, HEnc1, HEnc2. -/
import Derived.Test.YtfpcamkimjecdaaM8
import Derived.Defers
import Derived.Recover
import Derived.Test.YtfpcamkimjecdaaM4
import Derived.Deep.DeepCutAuto
import Derived.IntWalk
import Derived.Deep.RegionHeld3
import Derived.Deep.QuietTactic
import Derived.BigQuiet
import Derived.Test.YtfpcamkimjecdaaM7
import Derived.Test.YtfpcamkimjecdaaM5
/- The walks of hpack.Decoder's Decode and of what it defers. -/
namespace Go.Proofs.Ytfpcamkimjecdaa
open Go.RowKit

theorem wpOpsS_recover {P : Program} {o0 o1 : Oper} {K : Exit → Act → List Frame → World → Prop} {a : Act} {c₀ : Frame} {cs : List Frame} {w : World} {v : Value} {older : List PanicEntry} {d0 d1 : Nat}
    (h0 : o0.op = .call { callee := .builtin .recover, args := #[], argTypes := #[] }) (g0 : o0.guard = none) (hd : o0.dst = some d0) (h1 : o1.op = .assign (.tmp d0)) (g1 : o1.guard = none) (hd1 : o1.dst = some d1)
    (hm : c₀.mode = .panicking ({ v := v, recovered := false } :: older)) (hsz : d0 < a.tmps.size)
    (h : K .normal ((a.put (some d0) v).put (some d1) v) ({ c₀ with mode := .panicking ({ v := v, recovered := true } :: older) } :: cs) w) : wpOpsS P #[o0, o1] K (List.range 2) a (c₀ :: cs) w := by
  have e : List.range 2 = [0, 1] := rfl
  rw [e]
  simp [wpOpsS, Region.wanted, g0, g1, execOp, h0, h1, hd, hd1, go_sem, recoverD, hm, hsz]
  exact h
theorem run_asF (v : Value) (w : World) : (Instr.typeAssert (.iface 92 v) 20 92 true).run Try.prog w = .ok (.tuple #[v, .bool true]) w := by
  simp [Instr.typeAssert, run_underlying Try.underlying92, go_sem, Result.andThen]
theorem wp_at {P : Program} {c : Code} {Q : Exit → Act → World → Prop} {a a' : Act} {w : World} (h : a = a') (h2 : c.wp P Q a' w) : c.wp P Q a w := h ▸ h2
/-- What giving up has turned: the decoder is broken; the results. -/
structure Cat (w w' : World) (d x4 x5 : Nat) (mo li : Int) (g z : Nat) : Prop where
  dec : w'.heap[d]? = some (deB mo li g true)
  r4 : w'.heap[x4]? = some (.cells #[.slice none 0 0] 26 (0, 0))
  r5 : w'.heap[x5]? = some (.cells #[.int .i64 (z : Int)] 29 (0, 0))
  kept : Kept (fun k => k = d ∨ k = x4 ∨ k = x5) w w'
set_option maxRecDepth 100000 in
set_option maxHeartbeats 1000000 in
theorem catch_panicking (x2 x4 x5 d : Nat) (mo li : Int) (g z : Nat) (v4 : Value) (v5 : Int) (older : List PanicEntry) (w : World)
    (h2 : w.heap[x2]? = some (.cells #[.pointer (some ⟨d, 0, none⟩)] 32 (0, 0))) (h4 : w.heap[x4]? = some (.cells #[v4] 26 (0, 0))) (h5 : w.heap[x5]? = some (.cells #[.int .i64 v5] 29 (0, 0)))
    (hd : w.heap[d]? = some (deB mo li g false)) (n4 : d ≠ x4) (n5 : d ≠ x5) (n6 : x4 ≠ x5) :
    CallsD Try.prog 38 #[.pointer (some ⟨x2, 0, none⟩), .pointer (some ⟨x4, 0, none⟩), .pointer (some ⟨x5, 0, none⟩)] (.panicking ({ v := .iface 92 (.agg #[.int .i64 (z : Int)]), recovered := false } :: older)) w fun e u' w' =>
      e = .returned (.tuple #[]) ∧ u' = .panicking ({ v := .iface 92 (.agg #[.int .i64 (z : Int)]), recovered := true } :: older) ∧ Cat w w' d x4 x5 mo li g z := by
  refine callsD_of_wpS Try.func38 rfl fun c₀ cs hu => ?_
  have c2 : w.cell? ⟨x2, 0, none⟩ = some (.pointer (some ⟨d, 0, none⟩)) := by unfold World.cell?; rw [h2]; rfl
  have c4 : w.cell? ⟨x4, 0, none⟩ = some v4 := by unfold World.cell?; rw [h4]; rfl
  have c5 : w.cell? ⟨x5, 0, none⟩ = some (.int .i64 v5) := by unfold World.cell?; rw [h5]; rfl
  have cd : w.cell? ⟨d, 3, none⟩ = some (.bool false) := by unfold World.cell?; rw [hd]; rfl
  have f4 : w.frozen? ⟨x4, 0, none⟩ = false := by unfold World.frozen?; rw [h4]; simp
  have f5 : w.frozen? ⟨x5, 0, none⟩ = false := by unfold World.frozen?; rw [h5]; simp
  have fd : w.frozen? ⟨d, 3, none⟩ = false := by unfold World.frozen?; rw [hd]; simp [deB]
  refine wpS_seq (wpS_region (wpOpsS_recover rfl rfl rfl rfl rfl rfl hu (by simp [Try.ntmps38]) ?_))
  refine wpS_of_wp ?_
  refine Code.wp_mono (Q := fun e a' w' => e = .normal ∧ a'.defers = [] ∧ Cat w w' d x4 x5 mo li g z) ?_ ?_
  · rintro e a w' ⟨rfl, had, hc⟩
    exact ⟨had, _, rfl, .tuple #[], by simp [results, Try.results38, go_sem], rfl, rfl, hc⟩
  rw [Try.ntmps38]
  refine wp_at (a' := { tmps := #[.pointer (some ⟨x2, 0, none⟩), .pointer (some ⟨x4, 0, none⟩), .pointer (some ⟨x5, 0, none⟩), .iface 92 (.agg #[.int .i64 (z : Int)]), undef, undef, .iface 92 (.agg #[.int .i64 (z : Int)]), undef, undef, undef, undef, undef, undef, undef, undef, undef, undef, undef, undef, undef, undef, undef], defers := [] }) (by kernel_rfl) ?_
  have hasf := run_asF
  obtain ⟨Q, hQ⟩ : ∃ Q : World → Prop, (fun w' => Cat w w' d x4 x5 mo li g z) = Q := ⟨_, rfl⟩
  have HQ := Lib.hid hQ
  have l2 := (Array.getElem?_eq_some_iff.1 h2).1
  have l4 := (Array.getElem?_eq_some_iff.1 h4).1
  have l5 := (Array.getElem?_eq_some_iff.1 h5).1
  have ld := (Array.getElem?_eq_some_iff.1 hd).1
  have H2 := Lib.hid h2
  have H4 := Lib.hid h4
  have H5 := Lib.hid h5
  have HD := Lib.hid hd
  clear hQ h2 h4 h5 hd
  go_wp2
  go_region
  obtain ⟨W1, hW1⟩ : ∃ W1, w.setCell ⟨d, 3, none⟩ (.bool true) = W1 := ⟨_, rfl⟩
  have a1 : W1.heap[d]? = some (deB mo li g true) := by rw [← hW1, set_b _ HD.out]; rfl
  have o1 : ∀ k, k ≠ d → W1.heap[k]? = w.heap[k]? := fun k hk => by rw [← hW1]; exact Below.heap_setCell _ _ _ _ hk
  have k1 : Kept (fun k => k = d ∨ k = x4 ∨ k = x5) w W1 := by rw [← hW1]; exact (Kept.refl (fun k => k = d ∨ k = x4 ∨ k = x5) w).setCell (.inl rfl) _ _
  rw [hW1]
  obtain ⟨W2, hW2⟩ : ∃ W2, W1.setCell ⟨x4, 0, none⟩ (.slice none 0 0) = W2 := ⟨_, rfl⟩
  have a2 : W2.heap[x4]? = some (.cells #[.slice none 0 0] 26 (0, 0)) := by rw [← hW2, set_b _ ((o1 x4 (Ne.symm n4)).trans H4.out)]; rfl
  have o2 : ∀ k, k ≠ x4 → W2.heap[k]? = W1.heap[k]? := fun k hk => by rw [← hW2]; exact Below.heap_setCell _ _ _ _ hk
  have k2 : Kept (fun k => k = d ∨ k = x4 ∨ k = x5) w W2 := by rw [← hW2]; exact k1.setCell (.inr (.inl rfl)) _ _
  rw [hW2]
  obtain ⟨W3, hW3⟩ : ∃ W3, W2.setCell ⟨x5, 0, none⟩ (.int .i64 (z : Int)) = W3 := ⟨_, rfl⟩
  have a3 : W3.heap[x5]? = some (.cells #[.int .i64 (z : Int)] 29 (0, 0)) := by rw [← hW3, set_b _ (((o2 x5 (Ne.symm n6)).trans (o1 x5 (Ne.symm n5))).trans H5.out)]; rfl
  have o3 : ∀ k, k ≠ x5 → W3.heap[k]? = W2.heap[k]? := fun k hk => by rw [← hW3]; exact Below.heap_setCell _ _ _ _ hk
  have k3 : Kept (fun k => k = d ∨ k = x4 ∨ k = x5) w W3 := by rw [← hW3]; exact k2.setCell (.inr (.inr rfl)) _ _
  rw [hW3]
  have hs := k3.size
  have hal : ∀ k (o : Obj), k < W3.heap.size → (W3.alloc o).drew.heap[k]? = W3.heap[k]? := fun k o hk => Below.heap_alloc W3 o k hk
  exact ⟨rfl, rfl, (hal d _ (by omega)).trans (((o3 d n5).trans (o2 d n4)).trans a1), (hal x4 _ (by omega)).trans ((o3 x4 n6).trans a2), (hal x5 _ (by omega)).trans a3, (k3.alloc _).drew⟩
theorem wpOpsS_idle {P : Program} {o0 o1 : Oper} {K : Exit → Act → List Frame → World → Prop} {a : Act} {c₀ : Frame} {cs : List Frame} {w : World} {d0 d1 : Nat}
    (h0 : o0.op = .call { callee := .builtin .recover, args := #[], argTypes := #[] }) (g0 : o0.guard = none) (hd : o0.dst = some d0) (h1 : o1.op = .assign (.tmp d0)) (g1 : o1.guard = none) (hd1 : o1.dst = some d1)
    (hm : c₀.mode = .returning) (hsz : d0 < a.tmps.size)
    (h : K .normal ((a.put (some d0) .nilIface).put (some d1) .nilIface) (c₀ :: cs) w) : wpOpsS P #[o0, o1] K (List.range 2) a (c₀ :: cs) w := by
  have e : List.range 2 = [0, 1] := rfl
  rw [e]
  simp [wpOpsS, Region.wanted, g0, g1, execOp, h0, h1, hd, hd1, go_sem, recoverD, hm, hsz]
  exact h
set_option maxRecDepth 100000 in
set_option maxHeartbeats 1000000 in
theorem catch_idle (x2 x4 x5 : Nat) (w : World) :
    CallsD Try.prog 38 #[.pointer (some ⟨x2, 0, none⟩), .pointer (some ⟨x4, 0, none⟩), .pointer (some ⟨x5, 0, none⟩)] .returning w fun e u' w' =>
      e = .returned (.tuple #[]) ∧ u' = .returning ∧ w' = w := by
  refine callsD_of_wpS Try.func38 rfl fun c₀ cs hu => ?_
  refine wpS_seq (wpS_region (wpOpsS_idle rfl rfl rfl rfl rfl rfl hu (by simp [Try.ntmps38]) ?_))
  refine wpS_of_wp ?_
  refine Code.wp_mono (Q := fun e a' w' => e = .normal ∧ a'.defers = [] ∧ w' = w) ?_ ?_
  · rintro e a w' ⟨rfl, had, rfl⟩
    refine ⟨had, .returning, by rw [← hu], .tuple #[], by simp [results, Try.results38, go_sem], rfl, rfl, rfl⟩
  rw [Try.ntmps38]
  refine wp_at (a' := { tmps := #[.pointer (some ⟨x2, 0, none⟩), .pointer (some ⟨x4, 0, none⟩), .pointer (some ⟨x5, 0, none⟩), .nilIface, undef, undef, .nilIface, undef, undef, undef, undef, undef, undef, undef, undef, undef, undef, undef, undef, undef, undef, undef], defers := [] }) (by kernel_rfl) ?_
  go_wp2
/-- A decoder in memory. -/
def DecIs (w : World) (d : Nat) (G : Nat → Prop) (N : Nat) (mo li : Int) (T : Tb) (br : Bool) : Prop :=
  ∃ g F, G = (fun k => k = d ∨ F k) ∧ w.heap[d]? = some (deB mo li g br) ∧ TabIs w g F N T ∧ ¬ F d
set_option maxRecDepth 100000 in
set_option maxHeartbeats 4000000 in
theorem decode_nil (v : Value) (w : World) : Calls Try.prog 21 #[.pointer none, v] w fun e w' => e = .returned (.tuple #[.slice none 0 0, .int .i64 5]) ∧ Below w.heap.size w w' := by
  have hmf : ∀ (fn : Fn) (first cap : Array Value) (w : World), (Instr.makeFunc fn first cap).run Try.prog w = .ok (.func fn first cap) w := fun _ _ _ _ => rfl
  go_enter_defers Try.func21, Try.ntmps21
  go_wp2
  refine ⟨_, (by simp [results, Try.results21, go_sem]), rfl, ?_⟩
  exact (((Below.refl _ w).alloc (Nat.le_refl _) _).alloc (by simp) _).alloc (by simp; omega) _
theorem DecIs.lt {w : World} {d N : Nat} {G : Nat → Prop} {mo li : Int} {T : Tb} {br : Bool} (h : DecIs w d G N mo li T br) : ∀ k, G k → k < w.heap.size := by
  obtain ⟨g, F, rfl, hd, ht, hF⟩ := h
  rintro k (rfl | hk)
  · exact (Array.getElem?_eq_some_iff.1 hd).1
  · exact ht.lt k hk
theorem DecIs.keep {w w' : World} {d N : Nat} {G : Nat → Prop} {mo li : Int} {T : Tb} {br : Bool} (h : DecIs w d G N mo li T br) (hk : ∀ k, G k → w'.heap[k]? = w.heap[k]?) : DecIs w' d G N mo li T br := by
  obtain ⟨g, F, rfl, hd, ht, hF⟩ := h
  exact ⟨g, F, rfl, (hk d (.inl rfl)).trans hd, ht.keep fun k hf => hk k (.inr hf), hF⟩
theorem DecIs.more {w : World} {d N N' : Nat} {G : Nat → Prop} {mo li : Int} {T : Tb} {br : Bool} (h : DecIs w d G N mo li T br) (hn : N ≤ N') (hN : N' ≤ 1099511627776) : DecIs w d G N' mo li T br := by
  obtain ⟨g, F, hG, hd, ht, hF⟩ := h
  exact ⟨g, F, hG, hd, ht.more hn hN, hF⟩
theorem TabIs.tok {w : World} {g N : Nat} {F : Nat → Prop} {T : Tb} (h : TabIs w g F N T) : TOk T := by
  obtain ⟨h1, h2, h3, h4, h5, h6, h7⟩ := h.inv
  exact ⟨h2, h3, h7, h1⟩
theorem DecIs.tok {w : World} {d N : Nat} {G : Nat → Prop} {mo li : Int} {T : Tb} {br : Bool} (h : DecIs w d G N mo li T br) : TOk T := by
  obtain ⟨g, F, hG, hd, ht, hF⟩ := h
  exact ht.tok
set_option maxRecDepth 100000 in
set_option maxHeartbeats 4000000 in
theorem decode_broken {d N : Nat} {G : Nat → Prop} {mo li : Int} {T : Tb} (v : Value) (w : World) (h : DecIs w d G N mo li T true) : Calls Try.prog 21 #[.pointer (some ⟨d, 0, none⟩), v] w fun e w' => e = .returned (.tuple #[.slice none 0 0, .int .i64 5]) ∧ Below w.heap.size w w' := by
  have hmf : ∀ (fn : Fn) (first cap : Array Value) (w : World), (Instr.makeFunc fn first cap).run Try.prog w = .ok (.func fn first cap) w := fun _ _ _ _ => rfl
  obtain ⟨g, F, -, hd, -, -⟩ := h
  have hdl := (Array.getElem?_eq_some_iff.1 hd).1
  obtain ⟨W3, hW3⟩ : ∃ W3, ((w.alloc (.cells #[.pointer (some ⟨d, 0, none⟩)] 32)).alloc (.cells #[.slice none 0 0] 26)).alloc (.cells #[.int .i64 0] 29) = W3 := ⟨_, rfl⟩
  have b3 : Below w.heap.size w W3 := by rw [← hW3]; exact (((Below.refl _ w).alloc (Nat.le_refl _) _).alloc (by simp) _).alloc (by simp; omega) _
  have k3 : W3.heap[d]? = some (deB mo li g true) := (b3.block d hdl).trans hd
  have c3 : W3.cell? ⟨d, 3, none⟩ = some (.bool true) := by unfold World.cell?; rw [k3]; rfl
  have e2 : W3.heap[w.heap.size]? = some (.cells #[.pointer (some ⟨d, 0, none⟩)] 32 (0, 0)) := by
    rw [← hW3]
    exact ((Below.heap_alloc _ _ _ (by simp; omega)).trans (Below.heap_alloc _ _ _ (by simp))).trans (heapNew _ _)
  have e4 : W3.heap[w.heap.size + 1]? = some (.cells #[.slice none 0 0] 26 (0, 0)) := by
    rw [← hW3]
    exact (Below.heap_alloc _ _ _ (by simp)).trans (heapNew1 _ _ _)
  have e5 : W3.heap[w.heap.size + 1 + 1]? = some (.cells #[.int .i64 0] 29 (0, 0)) := by
    rw [← hW3]
    have := heapNew ((w.alloc (.cells #[.pointer (some ⟨d, 0, none⟩)] 32)).alloc (.cells #[.slice none 0 0] 26)) (.cells #[.int .i64 0] 29)
    simpa using this
  obtain ⟨x2, hx2⟩ : ∃ x, w.heap.size = x := ⟨_, rfl⟩
  rw [hx2] at e2 e4 e5
  have q2 : W3.cell? ⟨x2, 0, none⟩ = some (.pointer (some ⟨d, 0, none⟩)) := by unfold World.cell?; rw [e2]; rfl
  have q4 : W3.cell? ⟨x2 + 1, 0, none⟩ = some (.slice none 0 0) := by unfold World.cell?; rw [e4]; rfl
  have q5 : W3.cell? ⟨x2 + 1 + 1, 0, none⟩ = some (.int .i64 0) := by unfold World.cell?; rw [e5]; rfl
  have fq4 : W3.frozen? ⟨x2 + 1, 0, none⟩ = false := by unfold World.frozen?; rw [e4]; simp
  have fq5 : W3.frozen? ⟨x2 + 1 + 1, 0, none⟩ = false := by unfold World.frozen?; rw [e5]; simp
  have HW3 := Lib.hid hW3
  have HB3 := Lib.hid b3
  have HX2 := Lib.hid hx2
  clear hd k3 e2 e4 e5 hW3 b3 hx2
  go_enter_defers Try.func21, Try.ntmps21
  go_upto_region 1 with fail
  rw [HW3.out, HX2.out]
  go_wp2
  refine ⟨_, (by simp [results, Try.results21, go_sem, q4, q5]), rfl, ?_⟩
  exact (HB3.out.setCell (by rw [HX2.out]; show x2 ≤ x2 + 1; omega) _).setCell (by rw [HX2.out]; show x2 ≤ x2 + 1 + 1; omega) _
/-- What a block's reading hands back. -/
def DPost (W : World) (d : Nat) (G : Nat → Prop) (N : Nat) (mo li : Int) (out : List Fd × Nat × Option Tb) (e : Ending) (w' : World) : Prop :=
  ∃ A c, e = .returned (.tuple #[.slice A out.1.length c, .int .i64 (out.2.1 : Int)]) ∧ w'.ownsRow W.heap.size 43 3 (.slice A out.1.length c) out.1.length (fds out.1) ∧
    ∃ G' T', DecIs w' d G' N mo li T' out.2.2.isNone ∧ (∀ T1, out.2.2 = some T1 → T' = T1) ∧ (∀ a, A = some a → ¬ G' a.block) ∧ Kept G W w' ∧ Grew W G G'
def HDRel (W : World) (p d g N L : Nat) (F : Nat → Prop) (mo li : Int) (x2 x4 x5 : Nat) (S0 : HSt) (k : Nat) (wr : World) : Prop :=
  ∃ S N' F' AL cl fv, k = S.left.length ∧ RdS W wr p d g N' F F' mo li S AL cl fv ∧ HOk L S ∧ decP mo L S0 = decP mo S.left.length S ∧ N' + S.left.length ≤ N + L ∧
    By wr p F' fv x2 (some (.cells #[.pointer (some ⟨d, 0, none⟩)] 32 (0, 0))) ∧ By wr p F' fv x4 (some (.cells #[.slice none 0 0] 26 (0, 0))) ∧ By wr p F' fv x5 (some (.cells #[.int .i64 0] 29 (0, 0)))
section
variable {mo li : Int} {T : Tb} {l : List UInt8} {S : HSt} {z : Nat}
theorem outD_err (h : decP mo l.length ⟨T, l, [], 0, 0⟩ = .error z) : outD mo li T l = ([], z, none) := by unfold outD; rw [h]
theorem outD_list (h : decP mo l.length ⟨T, l, [], 0, 0⟩ = .ok S) (h2 : li < (S.cost : Int)) : outD mo li T l = ([], 51, some S.T) := by unfold outD; rw [h]; exact if_pos h2
theorem outD_ok (h : decP mo l.length ⟨T, l, [], 0, 0⟩ = .ok S) (h2 : ¬ li < (S.cost : Int)) : outD mo li T l = (S.fields, 0, some S.T) := by unfold outD; rw [h]; exact if_neg h2
end
theorem Kept.but {F : Nat → Prop} {w w1 w2 : World} {x4 x5 d : Nat} (h : Kept (fun k => k = d ∨ F k) w w1) (h2 : Kept (fun k => k = d ∨ k = x4 ∨ k = x5) w1 w2) (h4 : w.heap.size ≤ x4) (h5 : w.heap.size ≤ x5) : Kept (fun k => k = d ∨ F k) w w2 :=
  ⟨h2.os.trans h.os, h2.tape.trans h.tape, h2.output.trans h.output, Nat.le_trans h.size h2.size, fun k hk hn => (h2.block k (Nat.lt_of_lt_of_le hk h.size) (fun e => by
    rcases e with e | e | e
    · exact hn (.inl e)
    · omega
    · omega)).trans (h.block k hk hn)⟩
set_option maxRecDepth 100000 in
set_option maxHeartbeats 4000000 in
theorem decode_any {d N n cap : Nat} {G : Nat → Prop} {mo li : Int} {T : Tb} {A : Option Addr} {l : List UInt8} (w : World) (h : DecIs w d G N mo li T false) (hr : Rd w w.heap.size 1 A n (bvs l)) (hcap : n ≤ cap) (hm : cap ≤ maxLen) (hn : n ≤ 1048576) (hA : 0 < n → ∀ a, A = some a → ¬ G a.block) (hmo : mo ≤ 65536) (hN : N + n ≤ 1099511627776) :
    Calls Try.prog 21 #[.pointer (some ⟨d, 0, none⟩), .slice A n cap] w (DPost w d G (N + n) mo li (outD mo li T l)) := by
  have hmf : ∀ (fn : Fn) (first cap : Array Value) (w : World), (Instr.makeFunc fn first cap).run Try.prog w = .ok (.func fn first cap) w := fun _ _ _ _ => rfl
  obtain ⟨g, F, hG, hd, ht, hF⟩ := h
  have hln := hr.blen
  have hdl := (Array.getElem?_eq_some_iff.1 hd).1
  have c3 : w.cell? ⟨d, 3, none⟩ = some (.bool false) := by unfold World.cell?; rw [hd]; rfl
  obtain ⟨W3, hW3⟩ : ∃ W3, ((w.alloc (.cells #[.pointer (some ⟨d, 0, none⟩)] 32)).alloc (.cells #[.slice none 0 0] 26)).alloc (.cells #[.int .i64 0] 29) = W3 := ⟨_, rfl⟩
  have b3 : Below w.heap.size w W3 := by rw [← hW3]; exact (((Below.refl _ w).alloc (Nat.le_refl _) _).alloc (by simp) _).alloc (by simp; omega) _
  have s3 : W3.heap.size = w.heap.size + 1 + 1 + 1 := by rw [← hW3]; simp
  have k3 : W3.heap[d]? = some (deB mo li g false) := (b3.block d hdl).trans hd
  have c3 : W3.cell? ⟨d, 3, none⟩ = some (.bool false) := by unfold World.cell?; rw [k3]; rfl
  have e2 : W3.heap[w.heap.size]? = some (.cells #[.pointer (some ⟨d, 0, none⟩)] 32 (0, 0)) := by
    rw [← hW3]
    exact ((Below.heap_alloc _ _ _ (by simp; omega)).trans (Below.heap_alloc _ _ _ (by simp))).trans (heapNew _ _)
  have e4 : W3.heap[w.heap.size + 1]? = some (.cells #[.slice none 0 0] 26 (0, 0)) := by
    rw [← hW3]
    exact (Below.heap_alloc _ _ _ (by simp)).trans (heapNew1 _ _ _)
  have e5 : W3.heap[w.heap.size + 1 + 1]? = some (.cells #[.int .i64 0] 29 (0, 0)) := by
    rw [← hW3]
    have := heapNew ((w.alloc (.cells #[.pointer (some ⟨d, 0, none⟩)] 32)).alloc (.cells #[.slice none 0 0] 26)) (.cells #[.int .i64 0] 29)
    simpa using this
  have hlw : w.heap.size ≤ W3.heap.size := b3.size
  obtain ⟨W4, hW4⟩ : ∃ W4, W3.alloc (.cells #[.pointer (some ⟨d, 0, none⟩), .slice A n cap, .slice none 0 0, .int .i64 0, .int .i64 0] 96) = W4 := ⟨_, rfl⟩
  have b4 : Below W3.heap.size W3 W4 := by rw [← hW4]; exact (Below.refl _ _).alloc (Nat.le_refl _) _
  have b34 : Below w.heap.size w W4 := b3.trans (b4.mono hlw)
  have hr4 := hr.kept (Kept.of_below (F := fun _ => False) b34) (fun _ _ _ h => h)
  have hrd0 : RdS w W4 W3.heap.size d g N F F mo li ⟨T, l, [], 0, 0⟩ A cap (.slice none 0 0) :=
    { tab := ht.keep fun k hk => b34.block k (ht.lt k hk)
      dec := (b34.block d hdl).trans hd
      rdr := by rw [← hW4, hln]; exact heapNew _ _
      left := by rw [hln]; exact hr4
      lcap := by rw [hln]; exact ⟨hcap, hm⟩
      lF := fun h0 a ha => by
        rw [hln] at h0
        have h1 := hA h0 a ha
        rw [hG] at h1
        obtain ⟨b, o, e, hb, -⟩ := hr.2 (by omega)
        rw [e] at ha
        injection ha with ha
        subst ha
        exact ⟨fun hf => h1 (.inr hf), fun hf => h1 (.inl hf), hb⟩
      fld := World.ownsRow_nil _ _ _ _
      fF := fun k hk => by cases hk
      grew := Grew.refl _ _
      kept := Kept.of_below b34
      dl := hdl
      dF := hF
      pl := hlw
      pF := fun hf => by have := ht.lt _ hf; omega }
  have hby : ∀ b o, w.heap.size ≤ b → b < W3.heap.size → W3.heap[b]? = o → By W4 W3.heap.size F (.slice none 0 0) b o := fun b o h1 h2 h3 =>
    ⟨Nat.lt_of_lt_of_le h2 b4.size, by omega, fun hf => by have := ht.lt _ hf; omega, by simp [Value.ownBlock], (b4.block b h2).trans h3⟩
  have hy2 := hby _ _ (Nat.le_refl _) (by omega) e2
  have hy4 := hby _ _ (by omega) (by omega) e4
  have hy5 := hby _ _ (by omega) (by omega) e5
  obtain ⟨x2, hx2⟩ : ∃ x, w.heap.size = x := ⟨_, rfl⟩
  have hx2' : w.heap.size ≤ x2 := by omega
  rw [hx2] at e2 hy2 hy4 hy5
  have q2 : W3.cell? ⟨x2, 0, none⟩ = some (.pointer (some ⟨d, 0, none⟩)) := by unfold World.cell?; rw [e2]; rfl
  obtain ⟨x4, hx4⟩ : ∃ x, x2 + 1 = x := ⟨_, rfl⟩
  obtain ⟨x5, hx5⟩ : ∃ x, x4 + 1 = x := ⟨_, rfl⟩
  rw [hx4] at hy4 hy5
  rw [hx5] at hy5
  obtain ⟨p, hp⟩ : ∃ p, W3.heap.size = p := ⟨_, rfl⟩
  rw [hp] at hrd0 hy2 hy4 hy5
  have HX := Lib.hid (And.intro hx2' (And.intro hx4 hx5))
  have HTOK := Lib.hid (DecIs.tok (d := d) ⟨g, F, rfl, hd, ht, hF⟩ : TOk T)
  have HRD := Lib.hid hrd0
  have HBY := Lib.hid (And.intro hy2 (And.intro hy4 hy5))
  have HW3 := Lib.hid hW3
  have HW4 := Lib.hid hW4
  have HX2 := Lib.hid hx2
  have HX4 := Lib.hid hx4
  have HX5 := Lib.hid hx5
  have HP := Lib.hid hp
  have HG := Lib.hid hG
  have HLN := Lib.hid hln
  clear hd k3 e2 e4 e5 hW3 b3 hx2 hW4 b4 b34 hr4 hrd0 hby hy2 hy4 hy5 hx4 hx5 hp hlw s3 ht hF hr hA hx2' hG hln
  go_enter_defers Try.func21, Try.ntmps21
  go_upto_region 1 with fail
  rw [HW3.out, HX2.out]
  rw [HX4.out]
  rw [HX5.out]
  go_wp2_with fail
  rw [HW4.out, HP.out]
  go_loopg [27] n (fun k _ wr => HDRel w p d g N n F mo li x2 x4 x5 ⟨T, l, [], 0, 0⟩ k wr)
  case atStart => 
    refine ⟨_, N, F, A, cap, _, HLN.out.symm, HRD.out, ?_, ?_, ?_, HBY.out⟩
    · rw [← HLN.out]; exact HOk.start HTOK.out l
    · rw [← HLN.out]
    · rw [HLN.out]; exact Nat.le_refl _
  case round =>
    obtain ⟨S, N', F', AL, cl, fv, hk, hrd, hok, hdec, hNN, hy2, hy4, hy5⟩ := hrel
    obtain ⟨Af, cf, rfl, -⟩ := own_slice hrd.fld
    obtain ⟨-, r1, r2, r3, -⟩ := hrd.cells
    have hne : x5 ≠ x4 := by have := HX.out.2.2; omega
    have hne2 : x4 ≠ x5 := fun e => hne e.symm
    obtain ⟨-, d1, -, -⟩ := hrd.dcells
    have z2 : wr.cell? ⟨x2, 0, none⟩ = some (.pointer (some ⟨d, 0, none⟩)) := by unfold World.cell?; rw [hy2.at_]; rfl
    have z4 : wr.cell? ⟨x4, 0, none⟩ = some (.slice none 0 0) := by unfold World.cell?; rw [hy4.at_]; rfl
    have z5 : wr.cell? ⟨x5, 0, none⟩ = some (.int .i64 0) := by unfold World.cell?; rw [hy5.at_]; rfl
    have fz4 : wr.frozen? ⟨x4, 0, none⟩ = false := by unfold World.frozen?; rw [hy4.at_]; simp
    have fz5 : wr.frozen? ⟨x5, 0, none⟩ = false := by unfold World.frozen?; rw [hy5.at_]; simp
    rw [← HLN.out] at hdec
    have HRW := Lib.hid hrd
    have HOKW := Lib.hid hok
    have HDEC := Lib.hid hdec
    have HY := Lib.hid (And.intro hy2 (And.intro hy4 hy5))
    have hlen := hok.len
    obtain ⟨ln, hlnn⟩ : ∃ ln, S.left.length = ln := ⟨_, rfl⟩
    have HLL := Lib.hid hlnn
    rw [hlnn] at hk r1 hNN hlen
    have HK := Lib.hid hk
    by_cases h0 : 0 < ln
    · have HPA := Lib.hid (part_any hrd hok hn hmo (by rw [hlnn]; exact h0) (by omega))
      have n0 : (0 : Int) < ln := by omega
      cases hpp : partP mo S with
      | error z =>
        have HE := Lib.hid (outD_err (li := li) (HDEC.out.trans (decP_fail (by rw [hlnn]; exact h0) hpp)))
        rw [hpp] at HPA
        clear hrd hok hdec hy2 hy4 hy5 hpp hlnn hk z4 z5 fz4 fz5
        go_wp2_with fail
        refine HPA.out.mono ?_
        rintro e w5 ⟨rfl, S1, F1, AL1, cl1, fv1, h1, hm1⟩
        have H1 := Lib.hid h1
        have HY2 := Lib.hid (HY.out.1.mv hm1)
        have HY4 := Lib.hid (HY.out.2.1.mv hm1)
        have HY5 := Lib.hid (HY.out.2.2.mv hm1)
        clear h1 hm1
        unfold errP
        go_wp2
        refine leaves_cons (f := 38) (args := #[.pointer (some ⟨x2, 0, none⟩), .pointer (some ⟨x4, 0, none⟩), .pointer (some ⟨x5, 0, none⟩)]) (by simp) (by simp [go_sem]) ?_
        have hd4 : d ≠ x4 := by have := HX.out; omega
        have hd5 : d ≠ x5 := by have := HX.out; omega
        refine (catch_panicking x2 x4 x5 d mo li g z (.slice none 0 0) 0 [] w5 HY2.out.at_ HY4.out.at_ HY5.out.at_ H1.out.dec hd4 hd5 hne2).mono ?_
        rintro e u' w6 ⟨rfl, rfl, hcat⟩
        have t4 : w6.cell? ⟨x4, 0, none⟩ = some (.slice none 0 0) := by unfold World.cell?; rw [hcat.r4]; rfl
        have t5 : w6.cell? ⟨x5, 0, none⟩ = some (.int .i64 (z : Int)) := by unfold World.cell?; rw [hcat.r5]; rfl
        refine (show Leaves _ _ _ _ [] .returning w6 from ⟨_, (by simp [results, Try.results21, go_sem, t4, t5]; rfl), ?_⟩)
        rw [HE.out]
        have hH := H1.out
        refine ⟨none, 0, rfl, World.ownsRow_nil _ _ _ _, fun k => k = d ∨ F1 k, S1.T, ⟨g, F1, rfl, hcat.dec, (hH.tab.keep fun k hk => hcat.kept.block k (hH.tab.lt k hk) (fun e => ?_)).more (by omega) hN, hH.dF⟩, (fun T1 h => by cases h), (fun a ha => by cases ha), ?_, ?_⟩
        · rcases e with e | e | e
          · exact hH.dF (e ▸ hk)
          · exact HY4.out.nF (e ▸ hk)
          · exact HY5.out.nF (e ▸ hk)
        · rw [HG.out]
          exact hH.kept.but hcat.kept (by have := HX.out; omega) (by have := HX.out; omega)
        · rw [HG.out]
          exact fun k hk => hk.elim (fun e => .inl (.inl e)) (fun hf => (hH.grew k hf).imp .inr id)
      | ok S' =>
        have hnext := HOKW.out.part hmo hpp
        have HST := Lib.hid (decP_step hmo HOKW.out (by rw [hlnn]; exact h0) hpp)
        have HNX := Lib.hid hnext
        have hln2 := hnext.2
        rw [hlnn] at hln2
        rw [hpp] at HPA
        clear hrd hok hdec hy2 hy4 hy5 hpp hlnn hk z4 z5 fz4 fz5 hnext
        go_wp2_with fail
        refine HPA.out.mono ?_
        rintro e w5 ⟨rfl, F1, AL1, cl1, fv1, h1, hm1⟩
        have H1 := Lib.hid h1
        have HY2 := Lib.hid (HY.out.1.mv hm1)
        have HY4 := Lib.hid (HY.out.2.1.mv hm1)
        have HY5 := Lib.hid (HY.out.2.2.mv hm1)
        clear h1 hm1
        go_wp2_with fail
        go_roundg S'.left.length
        case measure => rw [HK.out]; exact hln2
        case rel => exact ⟨S', N' + 1, F1, AL1, cl1, fv1, rfl, H1.out, HNX.out.1, by rw [← HLN.out]; exact HDEC.out.trans HST.out, by omega, HY2.out, HY4.out, HY5.out⟩
    · have hz : ln = 0 := by omega
      subst hz
      have hdn := HDEC.out.trans (decP_done HLL.out)
      have HDN := Lib.hid hdn
      clear hrd hok hdec hy2 hy4 hy5 hlnn hk hdn
      by_cases hc : li < (S.cost : Int)
      · have HO := Lib.hid (outD_list HDN.out hc)
        go_wp2
        go_quiet (fail)
        go_wp2
        refine leaves_cons (f := 38) (args := #[.pointer (some ⟨x2, 0, none⟩), .pointer (some ⟨x4, 0, none⟩), .pointer (some ⟨x5, 0, none⟩)]) (by simp) (by simp [go_sem]) ?_
        refine (catch_idle x2 x4 x5 _).mono ?_
        rintro e u' w6 ⟨rfl, rfl, rfl⟩
        refine (show Leaves _ _ _ _ [] .returning _ from ⟨_, (by simp [results, Try.results21, go_sem, z4, z5]; rfl), ?_⟩)
        obtain ⟨w6, hw6⟩ : ∃ w6, ((wr.drewN nq).setCell ⟨x4, 0, none⟩ (.slice none 0 0)).setCell ⟨x5, 0, none⟩ (.int .i64 51) = w6 := ⟨_, rfl⟩
        have hk6 : Kept (fun k => k = d ∨ k = x4 ∨ k = x5) wr w6 := by rw [← hw6]; exact (((Kept.refl (fun k => k = d ∨ k = x4 ∨ k = x5) wr).drewN nq).setCell (.inr (.inl rfl)) _ _).setCell (.inr (.inr rfl)) _ _
        have hd6 : w6.heap[d]? = wr.heap[d]? := by rw [← hw6]; exact (Below.heap_setCell _ _ _ _ (by show d ≠ x5; have := HX.out; omega)).trans (Below.heap_setCell _ _ _ _ (by show d ≠ x4; have := HX.out; omega))
        rw [hw6, HO.out]
        clear hw6
        have hH := HRW.out
        refine ⟨none, 0, rfl, World.ownsRow_nil _ _ _ _, fun k => k = d ∨ F' k, S.T, ⟨g, F', rfl, hd6.trans hH.dec, (hH.tab.keep fun k hk => hk6.block k (hH.tab.lt k hk) (fun e => ?_)).more (by omega) hN, hH.dF⟩, (fun T1 h => by injection h), (fun a ha => by cases ha), ?_, ?_⟩
        · rcases e with e | e | e
          · exact hH.dF (e ▸ hk)
          · exact HY.out.2.1.nF (e ▸ hk)
          · exact HY.out.2.2.nF (e ▸ hk)
        · rw [HG.out]
          exact hH.kept.but hk6 (by have := HX.out; omega) (by have := HX.out; omega)
        · rw [HG.out]
          exact fun k hk => hk.elim (fun e => .inl (.inl e)) (fun hf => (hH.grew k hf).imp .inr id)
      · have HO := Lib.hid (outD_ok HDN.out hc)
        go_wp2
        go_quiet (fail)
        go_wp2
        refine leaves_cons (f := 38) (args := #[.pointer (some ⟨x2, 0, none⟩), .pointer (some ⟨x4, 0, none⟩), .pointer (some ⟨x5, 0, none⟩)]) (by simp) (by simp [go_sem]) ?_
        refine (catch_idle x2 x4 x5 _).mono ?_
        rintro e u' w6 ⟨rfl, rfl, rfl⟩
        refine (show Leaves _ _ _ _ [] .returning _ from ⟨_, (by simp [results, Try.results21, go_sem, z4, z5]; rfl), ?_⟩)
        obtain ⟨w6, hw6⟩ : ∃ w6, ((wr.drewN nq).setCell ⟨x4, 0, none⟩ (.slice Af S.fields.length cf)).setCell ⟨x5, 0, none⟩ (.int .i64 0) = w6 := ⟨_, rfl⟩
        have hk6 : Kept (fun k => k = d ∨ k = x4 ∨ k = x5) wr w6 := by rw [← hw6]; exact (((Kept.refl (fun k => k = d ∨ k = x4 ∨ k = x5) wr).drewN nq).setCell (.inr (.inl rfl)) _ _).setCell (.inr (.inr rfl)) _ _
        have hd6 : w6.heap[d]? = wr.heap[d]? := by rw [← hw6]; exact (Below.heap_setCell _ _ _ _ (by show d ≠ x5; have := HX.out; omega)).trans (Below.heap_setCell _ _ _ _ (by show d ≠ x4; have := HX.out; omega))
        rw [hw6, HO.out]
        clear hw6
        have hH := HRW.out
        have hfv : ∀ a, Af = some a → ¬ (a.block = x4 ∨ a.block = x5) ∧ ¬ F' a.block ∧ w.heap.size ≤ a.block := fun a ha => by
          have h1 : (Value.slice Af S.fields.length cf).ownBlock = some a.block := by rw [ha]; rfl
          refine ⟨fun e => ?_, (hH.fF _ h1).1, (hH.fld.lt _ h1).1⟩
          rcases e with e | e
          · exact HY.out.2.1.nv (by rw [h1, e])
          · exact HY.out.2.2.nv (by rw [h1, e])
        refine ⟨Af, cf, rfl, own_kept4 hH.fld hk6 (fun q hq e => ?_), fun k => k = d ∨ F' k, S.T, ⟨g, F', rfl, hd6.trans hH.dec, (hH.tab.keep fun k hk => hk6.block k (hH.tab.lt k hk) (fun e => ?_)).more (by omega) hN, hH.dF⟩, (fun T1 h => by injection h), (fun a ha e => ?_), ?_, ?_⟩
        · have hq1 := (hH.fld.lt q hq).1
          rcases e with e | e | e
          · omega
          · exact HY.out.2.1.nv (by rw [hq, e])
          · exact HY.out.2.2.nv (by rw [hq, e])
        · rcases e with e | e | e
          · exact hH.dF (e ▸ hk)
          · exact HY.out.2.1.nF (e ▸ hk)
          · exact HY.out.2.2.nF (e ▸ hk)
        · have h1 := hfv a ha
          rcases e with e | e
          · omega
          · exact h1.2.1 e
        · rw [HG.out]
          exact hH.kept.but hk6 (by have := HX.out; omega) (by have := HX.out; omega)
        · rw [HG.out]
          exact fun k hk => hk.elim (fun e => .inl (.inl e)) (fun hf => (hH.grew k hf).imp .inr id)
end Go.Proofs.Ytfpcamkimjecdaa

/- The walk of drawbridgeref04.At. -/
namespace Go.Proofs.Ytfpcamkimjecdaa
open Go.RowKit

theorem fstatV_get {i : Nat} {r : Rw} (h : statF[i]? = some r) : fstatV.toArray[i * 3]? = some (.string r.1) ∧ fstatV.toArray[i * 3 + 1]? = some (.string r.2) ∧ fstatV.toArray[i * 3 + 2]? = some (.bool false) := by
  have := fcs_get h
  simpa [fstatV] using this

end Go.Proofs.Ytfpcamkimjecdaa

/- Out of XRTab1: the document's table inside its decoder (printed by gen_htab.py). -/
namespace Go.Proofs.Ytfpcamkimjecdaa
open Go.RowKit

variable {X : Value × Value × Value}
section
variable {w w' : World} {g c : Nat} {A : Option Addr} {most : Int} {rows : List Rw} {F : Nat → Prop}
end
end Go.Proofs.Ytfpcamkimjecdaa

/- Out of XRTab2: the document's table inside its decoder (printed by gen_htab.py). -/
namespace Go.Proofs.Ytfpcamkimjecdaa
open Go.RowKit

variable {X : Value × Value × Value}
section
variable {P : Program} {w : World}
end
end Go.Proofs.Ytfpcamkimjecdaa

/- Out of XRTab3: the document's table inside its decoder (printed by gen_htab.py). -/
namespace Go.Proofs.Ytfpcamkimjecdaa
open Go.RowKit

variable {X : Value × Value × Value}
end Go.Proofs.Ytfpcamkimjecdaa

/- Out of XRTab4: the document's table inside its decoder (printed by gen_htab.py). -/
namespace Go.Proofs.Ytfpcamkimjecdaa
open Go.RowKit

variable {X : Value × Value × Value}
end Go.Proofs.Ytfpcamkimjecdaa

/- The walks of hpack.NewDecoder, rowsOf, Rows; of the document's NewDecoder, bitsOf, Fields. -/
namespace Go.Proofs.Ytfpcamkimjecdaa
open Go.RowKit

def NewDecPost (mo li : Int) (w : World) (e : Ending) (w' : World) : Prop := ∃ d G, e = .returned (.tuple #[.pointer (some ⟨d, 0, none⟩), .int .i64 0]) ∧ DecIs w' d G 0 mo li ⟨min mo 4096, 0, []⟩ false ∧ (∀ k, G k → w.heap.size ≤ k) ∧ Below w.heap.size w w'
set_option maxHeartbeats 1000000 in
theorem newdec_any (mo li : Int) (w : World) (h0 : 0 ≤ mo) (h1 : mo ≤ 65536) (h2 : 0 ≤ li) :
    Calls Try.prog 8 #[.int .i64 mo, .int .i64 li] w (NewDecPost mo li w) := by
  have HT := Lib.hid (tnew_any (min mo 4096) w (by omega) (by omega))
  go_enter Try.func8, Try.ntmps8
  go_wp2_with fail
  refine HT.out.mono ?_
  rintro e w1 ⟨g, F, rfl, ht, hF, hb⟩
  have H1 := Lib.hid (And.intro ht (And.intro hF hb))
  clear ht hF hb
  go_wp2
  go_ret2
  obtain ⟨ht, hF, hb⟩ := H1.out
  refine ⟨w1.heap.size, fun k => k = w1.heap.size ∨ F k, rfl, ⟨g, F, rfl, heapNew _ _, ht.keep (fun k hk => Below.heap_alloc _ _ _ (ht.lt k hk)), fun hf => Nat.lt_irrefl _ (ht.lt _ hf)⟩, ?_, hb.alloc hb.size _⟩
  rintro k (rfl | hk)
  · exact hb.size
  · exact hF k hk
theorem newdec_bad (mo li : Int) (w : World) (h : mo < 0 ∨ 65536 < mo ∨ li < 0) :
    Calls Try.prog 8 #[.int .i64 mo, .int .i64 li] w fun e w' => e = .returned (.tuple #[.pointer none, .int .i64 1]) ∧ w = w' := by
  have hcase : mo < 0 ∨ (¬ mo < 0 ∧ 65536 < mo) ∨ (¬ mo < 0 ∧ ¬ 65536 < mo ∧ li < 0) := by omega
  clear h
  rcases hcase with h1 | ⟨h1, h2⟩ | ⟨h1, h2, h3⟩
  all_goals
    go_enter Try.func8, Try.ntmps8
    go_wp2
    go_ret2
    exact ⟨rfl, rfl⟩
def bitsN (c : Nat) : Nat := if 128 ≤ c then 7 else if 64 ≤ c then 6 else if 32 ≤ c then 5 else 4
end Go.Proofs.Ytfpcamkimjecdaa

/- The walks of hpack.rowsOf, Decoder.Rows; of the document's Fields. -/
namespace Go.Proofs.Ytfpcamkimjecdaa
open Go.RowKit

theorem atRows_k (rows : List Rw) {k : Nat} {r : Rw} (h : rows.reverse[k]? = some r) : atRows rows (62 + k : Int) = some r := by
  have hk : k < rows.length := by have := (List.getElem?_eq_some_iff.1 h).1; simpa using this
  obtain ⟨r', hr', ha⟩ := atRows_came rows (i := rows.length - 1 - k) (by omega)
  rw [List.getElem?_reverse hk] at h
  rw [h] at hr'
  injection hr' with hr'
  rw [hr', ← ha]
  congr 1
  omega
theorem fcs_take {L : List Rw} {k : Nat} {r : Rw} (h : L[k]? = some r) : fcs (L.take (k + 1)) = fcs (L.take k) ++ [.string r.1, .string r.2, .bool false] := by
  rw [List.take_add_one, h, Option.toList_some, fcs_app]; rfl
def RowsPost (W : World) (T : Tb) (e : Ending) (w' : World) : Prop := ∃ A c, e = .returned (.slice A T.rows.length c) ∧ w'.ownsRow W.heap.size 43 3 (.slice A T.rows.length c) T.rows.length (fcs T.rows.reverse) ∧ Below W.heap.size W w'
def RowsRel (W : World) (T : Tb) (ov iv : Value) (wr : World) : Prop := ∃ k : Nat, iv = .int .i64 k ∧ k ≤ T.rows.length ∧ wr.ownsRow W.heap.size 43 3 ov k (fcs (T.rows.reverse.take k)) ∧ Below W.heap.size W wr
set_option maxRecDepth 100000 in
set_option maxHeartbeats 2000000 in
theorem rowsOf_any {g N : Nat} {F : Nat → Prop} {T : Tb} (w : World) (h : TabIs w g F N T) :
    Calls Try.prog 23 #[.pointer (some ⟨g, 0, none⟩)] w (RowsPost w T) := by
  have H := Lib.hid h
  have hsm := h.small.len
  clear h
  obtain ⟨n, hn⟩ : ∃ n, T.rows.length = n := ⟨_, rfl⟩
  have HN := Lib.hid hn
  rw [hn] at hsm
  go_enter Try.func23, Try.ntmps23
  go_wp2_with fail
  refine (len_any w H.out).mono ?_
  rintro e w1 ⟨rfl, rfl⟩
  rw [HN.out]
  clear hn
  go_wp2_with fail
  go_loopw [3, 9] (fun ov iv wr => RowsRel w T ov iv wr) (fun _ iv _ => n - (intOf iv).toNat)
  case atStart => exact ⟨0, rfl, Nat.zero_le _, World.ownsRow_nil _ _ _ _, Below.refl _ _⟩
  case round =>
    obtain ⟨k, rfl, hk, hown, hb⟩ := hrel
    rw [HN.out] at hk
    obtain ⟨A3, c3, rfl, -⟩ := own_slice hown
    have HO := Lib.hid hown
    have HB := Lib.hid hb
    have hsz := hb.size
    by_cases hlt : k < n
    · obtain ⟨r, hr⟩ : ∃ r, T.rows.reverse[k]? = some r := ⟨_, List.getElem?_eq_getElem (by rw [List.length_reverse, HN.out]; exact hlt)⟩
      have HR := Lib.hid hr
      have n1 : (k : Int) < n := by omega
      have hat := at_any (62 + (k : Int)) wr (H.out.keep (w' := wr) (fun j hj => hb.block j (H.out.lt j hj))) (by omega)
      rw [atRows_k _ hr] at hat
      have HAT := Lib.hid hat
      clear hown hb hr hat
      go_wp2_with fail
      refine HAT.out.mono ?_
      rintro e w2 ⟨rfl, hb2⟩
      have HO2 := Lib.hid (own_kept4 HO.out (Kept.of_below (F := fun _ => False) hb2) (fun _ _ h => h))
      have HB2 := Lib.hid (HB.out.trans (hb2.mono hsz))
      have hsz2 := HB2.out.size
      clear hb2
      obtain ⟨W5, hW5⟩ : ∃ W5, w2.alloc (.cells #[.string r.1, .string r.2, .bool false] 43) = W5 := ⟨_, rfl⟩
      obtain ⟨x, hx⟩ : ∃ x, w2.heap.size = x := ⟨_, rfl⟩
      have k5 : W5.heap[x]? = some (.cells #[.string r.1, .string r.2, .bool false] 43 (0, 0)) := by rw [← hW5, ← hx]; exact heapNew _ _
      have x0 : W5.cell? ⟨x, 0, none⟩ = some (.string r.1) := by unfold World.cell?; rw [k5]; rfl
      have x1 : W5.cell? ⟨x, 1, none⟩ = some (.string r.2) := by unfold World.cell?; rw [k5]; rfl
      have x2 : W5.cell? ⟨x, 2, none⟩ = some (.bool false) := by unfold World.cell?; rw [k5]; rfl
      have HO5 : Hid (W5.ownsRow w.heap.size 43 3 (.slice A3 k c3) k (fcs (T.rows.reverse.take k))) := Lib.hid (by rw [← hW5]; exact HO2.out.alloc _)
      have HB5 : Hid (Below w.heap.size w W5) := Lib.hid (by rw [← hW5]; exact HB2.out.alloc hsz2 _)
      have hsz5 := HB5.out.size
      have HW5 := Lib.hid hW5
      have HX := Lib.hid hx
      clear hW5 hx k5
      simp only [atV, fieldV]
      go_upto_region 6 with fail
      rw [HW5.out, HX.out]
      go_wp2_with (at_builtin; refine wpList_app (.tmp 19) (.tmp 21) tFields rfl rfl (HO5.out.alloc _) rfl (Rd.one3 _ _ _ _ _) rfl (fds_one [(r, false)]) (le_maxLen (by omega)) (by omega) (by simp; omega) ?_; intro v4 w4 hown4 hg4 hv4)
      go_roundw
      case rel =>
        refine ⟨k + 1, by go_num, by rw [HN.out]; omega, ?_, Below.app (HB5.out.alloc hsz5 _) (HO5.out.alloc _) hg4 (Nat.le_refl _) (by simp; omega)⟩
        rw [fcs_take HR.out]
        exact hown4
      case measure => simp [intOf]; omega
    · obtain rfl : k = n := by omega
      clear hown hb
      go_wp2
      go_ret
      refine ⟨A3, c3, by rw [HN.out]; rfl, ?_, HB.out⟩
      have := HO.out
      rw [List.take_of_length_le (by rw [List.length_reverse, HN.out]; exact Nat.le_refl _)] at this
      rw [HN.out]
      exact this
set_option maxRecDepth 100000 in
theorem drows_any {d N : Nat} {G : Nat → Prop} {mo li : Int} {T : Tb} {br : Bool} (w : World) (h : DecIs w d G N mo li T br) :
    Calls Try.prog 13 #[.pointer (some ⟨d, 0, none⟩)] w (RowsPost w T) := by
  obtain ⟨g, F, -, hd, ht, -⟩ := h
  have c2 : w.cell? ⟨d, 2, none⟩ = some (.pointer (some ⟨g, 0, none⟩)) := by unfold World.cell?; rw [hd]; rfl
  have H := Lib.hid (rowsOf_any w ht)
  clear hd ht
  go_enter Try.func13, Try.ntmps13
  go_wp2_with fail
  refine H.out.mono ?_
  rintro e w1 ⟨A, c, rfl, ho, hb⟩
  have H1 := Lib.hid (And.intro ho hb)
  clear ho hb
  go_wp2
  go_ret
  exact ⟨A, c, rfl, H1.out⟩
theorem drows_nil (w : World) : Calls Try.prog 13 #[.pointer none] w fun e w' => e = .returned (.slice none 0 0) ∧ w = w' := by
  go_enter Try.func13, Try.ntmps13
  go_wp2; go_ret; exact ⟨rfl, rfl⟩
def FRel (w : World) (n : Nat) (jv : Value) (wr : World) : Prop := ∃ k d : Nat, jv = .int .i64 k ∧ k ≤ n ∧ wr = w.drewN d
theorem fd_at {w : World} {B n : Nat} {A : Option Addr} {l : List Fd} (h : Rd w B 3 A n (fds l)) (hn : 0 < n) : l.length = n ∧ ∃ b o, A = some ⟨b, o, none⟩ ∧ b < B ∧ ∀ j f, l[j]? = some f → w.cell? ⟨b, o + j * 3, none⟩ = some (.string f.1.1) ∧ w.cell? ⟨b, o + j * 3 + 1, none⟩ = some (.string f.1.2) ∧ w.cell? ⟨b, o + j * 3 + 2, none⟩ = some (.bool f.2) := by
  obtain ⟨b, o, hA, hb, hc⟩ := h.2 (by omega)
  have hl := h.1
  rw [fds_length] at hl
  refine ⟨by omega, b, o, hA, hb, fun j f hj => ?_⟩
  have hjl := (List.getElem?_eq_some_iff.1 hj).1
  have e := fds_get hj
  exact ⟨(hc _ (by omega)).trans e.1, (hc (j * 3 + 1) (by omega)).trans e.2.1, (hc (j * 3 + 2) (by omega)).trans e.2.2⟩
set_option maxHeartbeats 2000000 in
theorem fields_same {A A' : Option Addr} {B B' n c c' : Nat} {l : List Fd} (w : World) (hr : Rd w B 3 A n (fds l)) (hr' : Rd w B' 3 A' n (fds l)) (hn : n ≤ 1099511627776) :
    Calls Try.prog 12 #[.slice A n c, .slice A' n c'] w fun e w' => e = .returned (.bool true) ∧ ∃ d, w' = w.drewN d := by
  have H1 := Lib.hid hr
  have H2 := Lib.hid hr'
  clear hr hr'
  go_enter Try.func12, Try.ntmps12
  go_wp2
  go_loopw [5] (fun jv wr => FRel w n jv wr) (fun jv _ => n - (intOf jv).toNat)
  case atStart => exact ⟨0, 0, rfl, Nat.zero_le _, rfl⟩
  case round =>
    obtain ⟨k, d, rfl, hk, rfl⟩ := hrel
    by_cases hlt : k < n
    · obtain ⟨hl, b, o, rfl, hb, hc⟩ := fd_at H1.out (by omega)
      obtain ⟨hl', b', o', rfl, hb', hc'⟩ := fd_at H2.out (by omega)
      obtain ⟨f, hf⟩ : ∃ f, l[k]? = some f := ⟨_, List.getElem?_eq_getElem (by omega)⟩
      obtain ⟨q0, q1, q2⟩ := hc k f hf
      obtain ⟨p0, p1, p2⟩ := hc' k f hf
      have z0 : ∀ d, (w.drewN d).cell? ⟨b, o + k * 3, none⟩ = some (.string f.1.1) := fun _ => q0
      have z1 : ∀ d, (w.drewN d).cell? ⟨b, o + k * 3 + 1, none⟩ = some (.string f.1.2) := fun _ => q1
      have z2 : ∀ d, (w.drewN d).cell? ⟨b, o + k * 3 + 2, none⟩ = some (.bool f.2) := fun _ => q2
      have y0 : ∀ d, (w.drewN d).cell? ⟨b', o' + k * 3, none⟩ = some (.string f.1.1) := fun _ => p0
      have y1 : ∀ d, (w.drewN d).cell? ⟨b', o' + k * 3 + 1, none⟩ = some (.string f.1.2) := fun _ => p1
      have y2 : ∀ d, (w.drewN d).cell? ⟨b', o' + k * 3 + 2, none⟩ = some (.bool f.2) := fun _ => p2
      have n1 : (k : Int) < n := by omega
      have n0 : (0 : Int) ≤ k := by omega
      clear hc hc' hf
      go_wp2
      go_quiet (fail)
      go_wp2
      go_roundw
      case rel => exact ⟨k + 1, _, by go_num, by omega, rfl⟩
      case measure => simp [intOf]; omega
    · obtain rfl : k = n := by omega
      go_wp2
      go_ret
      exact ⟨rfl, _, rfl⟩
end Go.Proofs.Ytfpcamkimjecdaa

/- What is found: the least number of a row like it, or of its name; and what stands there. No program in sight. -/
namespace Go.Proofs.Ytfpcamkimjecdaa
open Go.RowKit

theorem pos_rev {α : Type} [DecidableEq α] (l : List α) (g : Int) (r : α) : pos l.reverse g r = (l.findIdx? (fun a => a = r)).map (fun i : Nat => g + l.length - i) := by
  induction l with
  | nil => rfl
  | cons a l ih =>
    rw [List.reverse_cons, pos_snoc, ih, List.findIdx?_cons, List.length_reverse]
    by_cases h : r = a
    · rw [if_pos h, h]
      simp
      omega
    · rw [if_neg h, show (decide (a = r)) = false by simpa using fun e => h e.symm]
      simp only [Bool.false_eq_true, if_false, Option.map_map]
      congr 1
      funext i
      simp
      omega
theorem pos_rev' {α : Type} [DecidableEq α] (l : List α) (g : Int) (r : α) : pos l g r = (l.reverse.findIdx? (fun a => a = r)).map (fun i : Nat => g + l.length - i) := by
  have := pos_rev l.reverse g r
  rwa [List.reverse_reverse, List.length_reverse] at this
/-- Where the first is whose name it is, from 1 on; 0: none. -/
def nearA (l : List Rw) (nm : ByteArray) : Nat := match l.findIdx? (fun r => r.1 = nm) with
  | some i => i + 1
  | none => 0
def findA (l : List Rw) (f : Rw) : Int × Bool := match l.findIdx? (fun r => r = f) with
  | some i => (i + 1, true)
  | none => (((nearA l f.1 : Nat) : Int), false)
theorem nearK_all (nm : ByteArray) : nearK nm 61 = nearA statF nm := by
  unfold nearK nearA
  rw [List.take_of_length_le (by rw [statF_length]; exact Nat.le_refl _)]
  cases statF.findIdx? (fun r => r.1 = nm) <;> rfl
theorem findIdx_map (l : List Rw) (nm : ByteArray) : (l.map (·.1)).findIdx? (fun a => a = nm) = l.findIdx? (fun r => r.1 = nm) := by
  rw [List.findIdx?_map]; rfl
theorem findT_all (rows : List Rw) (gone : Int) (f : Rw) : findT rows gone f = findA (statF ++ rows.reverse) f := by
  unfold findT findA
  rw [List.findIdx?_append, nearK_all, statF_length]
  cases h1 : statF.findIdx? (fun r => r = f) with
  | some i => rfl
  | none =>
    simp only [Option.none_or]
    rw [pos_rev']
    cases h2 : rows.reverse.findIdx? (fun r => r = f) with
    | some i => simp; omega
    | none =>
      simp only [Option.map_none]
      unfold nearA
      rw [List.findIdx?_append, statF_length]
      cases h3 : statF.findIdx? (fun r => r.1 = f.1) with
      | some i => simp
      | none =>
        rw [pos_rev', ← List.map_reverse, findIdx_map]
        cases h4 : rows.reverse.findIdx? (fun r => r.1 = f.1) with
        | some i => simp; omega
        | none => simp
theorem findIdx_at {l : List Rw} {p : Rw → Bool} {i : Nat} (h : l.findIdx? p = some i) : ∃ r, l[i]? = some r ∧ p r = true := by
  obtain ⟨hl, hp, -⟩ := List.findIdx?_eq_some_iff_getElem.1 h
  exact ⟨_, List.getElem?_eq_getElem hl, hp⟩
theorem atRows_all (rows : List Rw) (i : Nat) {r : Rw} (h : (statF ++ rows.reverse)[i]? = some r) : atRows rows (i + 1 : Int) = some r := by
  rw [List.getElem?_append] at h
  by_cases hi : i < 61
  · rw [if_pos (by rw [statF_length]; exact hi)] at h
    obtain ⟨r', h1, h2⟩ := atRows_stat rows hi
    rw [h] at h1; injection h1 with h1
    rw [h2, h1]
  · rw [if_neg (by rw [statF_length]; exact hi), statF_length] at h
    have hl : i - 61 < rows.length := by have := (List.getElem?_eq_some_iff.1 h).1; simpa using this
    rw [List.getElem?_reverse hl] at h
    obtain ⟨r', h1, h2⟩ := atRows_came rows (i := rows.length - 1 - (i - 61)) (by omega)
    rw [h] at h1; injection h1 with h1
    rw [show ((i : Int) + 1) = 61 + rows.length - ((rows.length - 1 - (i - 61) : Nat) : Int) by omega, h2, h1]
/-- What is found stands there. -/
theorem findA_at (rows : List Rw) (f : Rw) : ((findA (statF ++ rows.reverse) f).1 = 0 ∧ (findA (statF ++ rows.reverse) f).2 = false) ∨
    ∃ g : Rw, 1 ≤ (findA (statF ++ rows.reverse) f).1 ∧ atRows rows (findA (statF ++ rows.reverse) f).1 = some g ∧ g.1 = f.1 ∧ decide (g.2 = f.2) = (findA (statF ++ rows.reverse) f).2 := by
  unfold findA
  cases h1 : (statF ++ rows.reverse).findIdx? (fun r => r = f) with
  | some i =>
    obtain ⟨r, hr, hp⟩ := findIdx_at h1
    have hp' : r = f := by simpa using hp
    refine .inr ⟨r, by simp only; omega, atRows_all rows i hr, by rw [hp'], by rw [hp']; simp⟩
  | none =>
    simp only
    unfold nearA
    cases h2 : (statF ++ rows.reverse).findIdx? (fun r => r.1 = f.1) with
    | none => exact .inl (by simp)
    | some i =>
      obtain ⟨r, hr, hp⟩ := findIdx_at h2
      have hp' : r.1 = f.1 := by simpa using hp
      refine .inr ⟨r, by simp only; omega, ?_, hp', ?_⟩
      · simp only; rw [← atRows_all rows i hr]; congr 1
      · have := (List.findIdx?_eq_none_iff.1 h1) r (List.mem_of_getElem? hr)
        have hne : r ≠ f := by simpa using this
        simp only [decide_eq_false_iff_not]
        exact fun e => hne (by obtain ⟨a, b⟩ := r; obtain ⟨c, d⟩ := f; simp at hp' e; rw [hp', e])
end Go.Proofs.Ytfpcamkimjecdaa

/- The walk of drawbridgeref04.Find. -/
namespace Go.Proofs.Ytfpcamkimjecdaa
open Go.RowKit

theorem nearA_succ {L : List Rw} {nm : ByteArray} {k : Nat} {r : Rw} (hr : L[k]? = some r) : nearA (L.take (k + 1)) nm = if nearA (L.take k) nm = 0 then (if r.1 = nm then k + 1 else 0) else nearA (L.take k) nm := by
  have hk : k < L.length := (List.getElem?_eq_some_iff.1 hr).1
  unfold nearA
  rw [List.take_add_one, hr]
  simp only [Option.toList_some, List.findIdx?_append]
  cases hf : (L.take k).findIdx? (fun r => r.1 = nm) with
  | some i => simp
  | none =>
    simp only [Option.none_or]
    by_cases h : r.1 = nm
    · simp [h, List.length_take]; omega
    · simp [h]
theorem nearA_le (L : List Rw) (nm : ByteArray) : nearA L nm ≤ L.length := by
  unfold nearA
  cases hf : L.findIdx? (fun r => r.1 = nm) with
  | some i => have := (List.findIdx?_eq_some_iff_getElem.1 hf).1; simp only; omega
  | none => simp
theorem findA_stat {L : List Rw} {f : Rw} {k : Nat} (hk : L[k]? = some f) (hall : ∀ j r, j < k → L[j]? = some r → r ≠ f) : findA L f = ((k : Int) + 1, true) := by
  have hl : k < L.length := (List.getElem?_eq_some_iff.1 hk).1
  have e : L.findIdx? (fun r => r = f) = some k := by
    rw [List.findIdx?_eq_some_iff_getElem]
    refine ⟨hl, by have := (List.getElem?_eq_some_iff.1 hk).2; simp [this], fun j hj => ?_⟩
    have := hall j (L[j]'(by omega)) hj (List.getElem?_eq_getElem (by omega))
    simpa using this
  unfold findA
  rw [e]
theorem findA_none {L : List Rw} {f : Rw} (hall : ∀ j r, j < L.length → L[j]? = some r → r ≠ f) : findA L f = (((nearA L f.1 : Nat) : Int), false) := by
  have e : L.findIdx? (fun r => r = f) = none := by
    rw [List.findIdx?_eq_none_iff]
    intro r hr
    obtain ⟨j, hj, hq⟩ := List.getElem_of_mem hr
    simpa using hall j r hj (by rw [List.getElem?_eq_getElem hj, hq])
  unfold findA
  rw [e]
theorem own_stat (w : World) : (w.alloc (.cells fstatV.toArray 43)).ownsRow w.heap.size 43 3 (.slice (some ⟨w.heap.size, 0, none⟩) 61 61) 61 (fcs statF) :=
  ⟨by rw [fcs_length, statF_length], .inr ⟨_, 61, fstatV.toArray, rfl, Nat.le_refl _, heapNew _ _, Nat.le_refl _, le_maxLen (by omega), by decide +kernel, by rw [show fstatV = fcs statF from rfl]; exact List.take_of_length_le (by rw [fcs_length, statF_length]; exact Nat.le_refl _)⟩⟩
def FndMid (W : World) (L : List Rw) (v : Value) (wx : World) : Prop := ∃ A c, v = .slice A L.length c ∧ Rd wx wx.heap.size 3 A L.length (fcs L) ∧ Below W.heap.size W wx
def RFndRel (W : World) (L : List Rw) (f : Rw) (nv iv : Value) (wr : World) : Prop :=
  ∃ k : Nat, iv = .int .i64 k ∧ nv = .int .i64 (nearA (L.take k) f.1 : Nat) ∧ k ≤ L.length ∧ (∀ j r, j < k → L[j]? = some r → r ≠ f) ∧ Below W.heap.size W wr
end Go.Proofs.Ytfpcamkimjecdaa

/- What an encoder writes, plain; the walks of hpack.number, named, never, aside. -/
namespace Go.Proofs.Ytfpcamkimjecdaa
open Go.RowKit

def authB : ByteArray := ⟨#[97, 117, 116, 104, 111, 114, 105, 122, 97, 116, 105, 111, 110]⟩
def cookB : ByteArray := ⟨#[115, 101, 116, 45, 99, 111, 111, 107, 105, 101]⟩
/-- An encoder. -/
structure Enc where
  own : Int
  told : Int
  least : Int
  T : Tb
def neverF (f : Fd) : Bool := f.2 || decide (f.1.1 = authB) || decide (f.1.1 = cookB)
def fnd (T : Tb) (f : Rw) : Int × Bool := findA (statF ++ T.rows.reverse) f
def numT (T : Tb) (f : Rw) : Nat := (fnd T f).1.toNat
def namedB (fl F : Nat) (T : Tb) (f : Rw) : List UInt8 := putB fl F (numT T f) ++ (if numT T f = 0 then textB f.1.data.toList else []) ++ textB f.2.data.toList
/-- One field. -/
def encOne (T : Tb) (f : Fd) : List UInt8 × Tb :=
  if neverF f then (namedB 16 15 T f.1, T)
  else if (fnd T f.1).2 then (putB 128 127 (numT T f.1), T)
  else if T.most < (cost f.1 : Int) then (namedB 0 15 T f.1, T)
  else (namedB 64 63 T f.1, T.add f.1)
def encL : Tb → List Fd → List UInt8 × Tb
  | T, [] => ([], T)
  | T, f :: l => ((encOne T f).1 ++ (encL (encOne T f).2 l).1, (encL (encOne T f).2 l).2)
/-- What must be told of the table's most. -/
def encSz (E : Enc) : List UInt8 :=
  if E.least < E.told ∧ E.least < E.T.most then putB 32 31 E.least.toNat ++ putB 32 31 E.T.most.toNat
  else if E.T.most ≠ E.told then putB 32 31 E.T.most.toNat else []
def Enc.run (E : Enc) (l : List Fd) : List UInt8 × Enc := (encSz E ++ (encL E.T l).1, ⟨E.own, E.T.most, E.T.most, (encL E.T l).2⟩)
def enB (E : Enc) (g : Nat) : Obj := .cells #[.int .i64 E.own, .int .i64 E.told, .int .i64 E.least, .pointer (some ⟨g, 0, none⟩)] 62 (0, 0)
def EncIs (w : World) (e : Nat) (G : Nat → Prop) (N : Nat) (E : Enc) : Prop := ∃ g F, G = (fun k => k = e ∨ F k) ∧ w.heap[e]? = some (enB E g) ∧ TabIs w g F N E.T ∧ ¬ F e
theorem own_base5 {w : World} {v : Value} {base B n : Nat} {e : TypeId} {size : Nat} {xs : List Value} (h : w.ownsRow base e size v n xs) (hB : B ≤ base) : w.ownsRow B e size v n xs := by
  rcases h with ⟨hl, ⟨rfl, h0⟩ | ⟨g, cap, cur, hv, hg, hb, h3⟩⟩
  · exact ⟨hl, .inl ⟨rfl, h0⟩⟩
  · exact ⟨hl, .inr ⟨g, cap, cur, hv, Nat.le_trans hB hg, hb, h3⟩⟩
theorem OwnB.below {w w' : World} {B : Nat} {v : Value} {l : List UInt8} (h : OwnB w B v l) (hb : Below w.heap.size w w') : OwnB w' B v l := own_kept4 h (Kept.of_below (F := fun _ => False) hb) (fun _ _ h => h)
theorem OwnB.base {w : World} {B B' : Nat} {v : Value} {l : List UInt8} (h : OwnB w B v l) (hB : B' ≤ B) : OwnB w B' v l := own_base5 h hB
theorem OwnB.rd {w : World} {B : Nat} {v : Value} {l : List UInt8} (h : OwnB w B v l) : ∃ A c, v = .slice A l.length c ∧ Rd w w.heap.size 1 A l.length (bvs l) := by
  obtain ⟨A, c, hv, -, -, hr, -⟩ := own_slice h
  exact ⟨A, c, hv, hr⟩
theorem fnd_bd (T : Tb) (f : Rw) : 0 ≤ (fnd T f).1 ∧ (fnd T f).1 ≤ 61 + T.rows.length := by
  have hL : (statF ++ T.rows.reverse).length = 61 + T.rows.length := by simp [statF_length]
  unfold fnd findA
  cases h : (statF ++ T.rows.reverse).findIdx? (fun r => r = f) with
  | some i =>
    have := (List.findIdx?_eq_some_iff_getElem.1 h).1
    simp only; omega
  | none =>
    have := nearA_le (statF ++ T.rows.reverse) f.1
    simp only; omega
theorem rows_few {T : Tb} (hT : TOk T) : T.rows.length ≤ 2048 := by
  have h3 := hT.fits
  have h4 := hT.most1
  have : (T.rows.length : Int) * 32 ≤ sumc T.rows := by
    have : ∀ l : List Rw, (l.length : Int) * 32 ≤ sumc l := by
      intro l
      induction l with
      | nil => exact Int.le_refl _
      | cons r l ih => rw [sumc_cons]; simp only [List.length_cons]; unfold cost; omega
    exact this T.rows
  omega
theorem numT_bd {T : Tb} (hT : TOk T) (f : Rw) : numT T f ≤ 4096 ∧ (fnd T f).1 = (numT T f : Int) := by
  have h1 := fnd_bd T f
  have h2 := rows_few hT
  unfold numT
  omega
set_option maxHeartbeats 1000000 in
theorem num_enc (f bits n F : Nat) (w : World) (hF : Full bits F) (hf : f < 256) (hfl : f % (F + 1) = 0) (hn32 : n ≤ 65536) :
    Calls Try.prog 32 #[.int .u8 f, .int .i64 bits, .int .i64 n] w (RetB w (putB f F n)) := by
  have HP := Lib.hid (put_ok f bits n F w hF hf hfl (by omega))
  clear hfl hF
  go_enter Try.func32, Try.ntmps32
  go_wp2_with fail
  refine HP.out.mono ?_
  rintro e w1 ⟨v, rfl, ho, hb⟩
  have H1 := Lib.hid (And.intro ho hb)
  clear ho hb
  go_wp2
  go_ret
  exact ⟨v, rfl, H1.out⟩
/-- Find, in the words of the plain encoder. -/
theorem find_enc {g N : Nat} {F : Nat → Prop} {T : Tb} (f : Rw) (nv : Bool) (w : World) (h : TabIs w g F N T) (hf1 : f.1.size ≤ 1048576) (hf2 : f.2.size ≤ 1048576) :
    Calls Try.prog 34 #[.pointer (some ⟨g, 0, none⟩), .agg #[.string f.1, .string f.2, .bool nv]] w fun e w' => e = .returned (.tuple #[.int .i64 (numT T f : Int), .bool (fnd T f).2]) ∧ Below w.heap.size w w' := by
  refine (find_any f nv w h (by omega) (by omega)).mono ?_
  rw [findT_all]
  rintro e w' ⟨rfl, hb⟩
  have := (numT_bd h.tok f).2
  exact ⟨by rw [← this]; rfl, hb⟩
theorem textB_le {s : ByteArray} (h : s.size ≤ 1048576) : (textB s.data.toList).length ≤ 1048576 + 7 := by
  have hs := str_len s
  by_cases hb : nbytes s.data.toList < s.data.toList.length
  · rw [textB_bits hb, List.length_append]
    have h1 := (putB_length 128 127 (nbytes s.data.toList)).1
    have h2 := encB_length s.data.toList
    omega
  · rw [textB_raw (by omega), List.length_append]
    have h1 := (putB_length 0 127 s.data.toList.length).1
    omega
set_option maxRecDepth 100000 in
set_option maxHeartbeats 4000000 in
theorem named_any {e g N bits Fm fl : Nat} {F : Nat → Prop} {E : Enc} (f : Rw) (nv : Bool) (w : World) (hd : w.heap[e]? = some (enB E g)) (ht : TabIs w g F N E.T) (hF : Full bits Fm) (hfl : fl < 256) (hflm : fl % (Fm + 1) = 0) (hf1 : f.1.size ≤ 1048576) (hf2 : f.2.size ≤ 1048576) :
    Calls Try.prog 49 #[.pointer (some ⟨e, 0, none⟩), .int .u8 fl, .int .i64 bits, .agg #[.string f.1, .string f.2, .bool nv]] w (RetB w (namedB fl Fm E.T f)) := by
  obtain ⟨W0, hW0⟩ : ∃ W0, w.alloc (.cells #[.string f.1, .string f.2, .bool nv] 43) = W0 := ⟨_, rfl⟩
  obtain ⟨x, hx⟩ : ∃ x, w.heap.size = x := ⟨_, rfl⟩
  have b0 : Below w.heap.size w W0 := by rw [← hW0]; exact (Below.refl _ _).alloc (Nat.le_refl _) _
  have kx : W0.heap[x]? = some (.cells #[.string f.1, .string f.2, .bool nv] 43 (0, 0)) := by rw [← hW0, ← hx]; exact heapNew _ _
  have hel := (Array.getElem?_eq_some_iff.1 hd).1
  have k0 : W0.heap[e]? = some (enB E g) := (b0.block e hel).trans hd
  have c3 : W0.cell? ⟨e, 3, none⟩ = some (.pointer (some ⟨g, 0, none⟩)) := by unfold World.cell?; rw [k0]; rfl
  have x0 : W0.cell? ⟨x, 0, none⟩ = some (.string f.1) := by unfold World.cell?; rw [kx]; rfl
  have x1 : W0.cell? ⟨x, 1, none⟩ = some (.string f.2) := by unfold World.cell?; rw [kx]; rfl
  have x2 : W0.cell? ⟨x, 2, none⟩ = some (.bool nv) := by unfold World.cell?; rw [kx]; rfl
  have hxl : x < W0.heap.size := (Array.getElem?_eq_some_iff.1 kx).1
  have hel0 : e < W0.heap.size := (Array.getElem?_eq_some_iff.1 k0).1
  have HFI : Hid (∀ w', w'.heap = W0.heap → Calls Try.prog 34 #[.pointer (some ⟨g, 0, none⟩), .agg #[.string f.1, .string f.2, .bool nv]] w' fun e w2 => e = .returned (.tuple #[.int .i64 (numT E.T f : Int), .bool (fnd E.T f).2]) ∧ Below w'.heap.size w' w2) := Lib.hid fun w' hw => find_enc f nv w' (ht.keep fun k hk => by rw [hw]; exact b0.block k (ht.lt k hk)) hf1 hf2
  have hnb := (numT_bd ht.tok f).1
  obtain ⟨n, hn⟩ : ∃ n, numT E.T f = n := ⟨_, rfl⟩
  obtain ⟨wh, hwh⟩ : ∃ wh, (fnd E.T f).2 = wh := ⟨_, rfl⟩
  rw [hn, hwh] at HFI
  rw [hn] at hnb
  have HNM : Hid (namedB fl Fm E.T f = putB fl Fm n ++ (if n = 0 then textB f.1.data.toList else []) ++ textB f.2.data.toList) := Lib.hid (by unfold namedB; rw [hn])
  obtain ⟨R, hR⟩ : ∃ R, namedB fl Fm E.T f = R := ⟨_, rfl⟩
  rw [hR] at HNM ⊢
  have HNU := Lib.hid (fun w' => num_enc fl bits n Fm w' hF hfl hflm (by omega))
  have HB0 := Lib.hid b0
  have HKX := Lib.hid kx
  have HW0 := Lib.hid hW0
  have HX := Lib.hid hx
  clear hW0 hx b0 kx k0 hd ht hn hwh hR hflm hF
  go_enter Try.func49, Try.ntmps49
  go_upto_region 1 with fail
  rw [HW0.out, HX.out]
  go_region_held3 (fun w' => w'.cell? ⟨e, 3, none⟩ = some (.pointer (some ⟨g, 0, none⟩)) ∧ w'.cell? ⟨x, 0, none⟩ = some (.string f.1) ∧ w'.cell? ⟨x, 1, none⟩ = some (.string f.2) ∧ w'.cell? ⟨x, 2, none⟩ = some (.bool nv))
    (first | go_keep | exact ⟨k0, k1, k2, k3⟩)
    (first
      | (go_at_call 34; refine (HFI.out _ (by rfl)).mono ?_; rintro e1 w1 ⟨rfl, hb1⟩; have k0 := (hb1.cell (p := ⟨e, 3, none⟩) hel0).trans c3; have k1 := (hb1.cell (p := ⟨x, 0, none⟩) hxl).trans x0; have k2 := (hb1.cell (p := ⟨x, 1, none⟩) hxl).trans x1; have k3 := (hb1.cell (p := ⟨x, 2, none⟩) hxl).trans x2; have hb1' : Below W0.heap.size W0 w1 := ⟨hb1.os, hb1.tape, hb1.output, hb1.size, hb1.block⟩; have HB1 : Hid (Below W0.heap.size W0 w1) := Lib.hid hb1'; clear hb1 hb1'))
  have HBW : Hid (Below w.heap.size w w1) := Lib.hid (HB0.out.trans (HB1.out.mono HB0.out.size))
  have HKX1 : Hid (w1.heap[x]? = some (.cells #[.string f.1, .string f.2, .bool nv] 43 (0, 0))) := Lib.hid ((HB1.out.block x hxl).trans HKX.out)
  have hs1 := HBW.out.size
  clear k0 k1 k2 k3 c3 x0 x1 x2
  go_wp2_with fail
  refine (HNU.out w1).mono ?_
  rintro e2 w2 ⟨v2, rfl, ho2, hb2⟩
  have hs12 := hb2.size
  have HB2 := Lib.hid (HBW.out.trans (hb2.mono HBW.out.size))
  have HO2 := Lib.hid ho2
  have kx2 := (hb2.block x (Array.getElem?_eq_some_iff.1 HKX1.out).1).trans HKX1.out
  have HKX2 := Lib.hid kx2
  have x0 : w2.cell? ⟨x, 0, none⟩ = some (.string f.1) := by unfold World.cell?; rw [kx2]; rfl
  have x1 : w2.cell? ⟨x, 1, none⟩ = some (.string f.2) := by unfold World.cell?; rw [kx2]; rfl
  have hx2 : x < w2.heap.size := (Array.getElem?_eq_some_iff.1 kx2).1
  have hpl := (putB_length fl Fm n).1
  clear ho2 hb2 kx2
  have hl1 : (textB f.1.data.toList).length ≤ 1048576 + 7 := textB_le hf1
  have hl2 : (textB f.2.data.toList).length ≤ 1048576 + 7 := textB_le hf2
  by_cases hn0 : n = 0
  · have HP1 := Lib.hid (putText_any f.1 w2 hf1)
    have HNM2 : Hid (R = putB fl Fm n ++ textB f.1.data.toList ++ textB f.2.data.toList) := Lib.hid (by rw [HNM.out, if_pos hn0])
    subst hn0
    go_wp2_with fail
    refine HP1.out.mono ?_
    rintro e3 w3 ⟨v3, rfl, ho3, hb3⟩
    have HB3 := Lib.hid (HB2.out.trans (hb3.mono HB2.out.size))
    have HO23 := Lib.hid (HO2.out.below hb3)
    obtain ⟨A3, c3, rfl, hr3⟩ := ho3.rd
    have HR3 := Lib.hid hr3
    have kx3 := (hb3.block x hx2).trans HKX2.out
    have HKX3 := Lib.hid kx3
    have hs3 := hb3.size
    clear ho3 hb3 hr3 kx3 x0 x1
    have hx1 : x < w1.heap.size := (Array.getElem?_eq_some_iff.1 HKX1.out).1
    go_wp2_with (at_builtin; refine wpList_app (.tmp 27) (.tmp 30) tBytes rfl rfl HO23.out rfl HR3.out rfl (bvs_one _) (le_maxLen (by omega)) (by omega) (by omega) ?_; intro v4 w4 hown4 hg4 _; have kx4 : w4.heap[x]? = some (.cells #[.string f.1, .string f.2, .bool nv] 43 (0, 0)) := ((hg4.block x (by omega) (fun e => by have := (HO23.out.lt x e.symm).1; omega)).trans HKX3.out); have y1 : w4.cell? ⟨x, 1, none⟩ = some (.string f.2) := (by unfold World.cell?; rw [kx4]; rfl); have HBQ : Hid (Below w.heap.size w w4) := Lib.hid (Below.app HB3.out HO23.out hg4 hs1 (by have := HB3.out.size; omega)); have HOQ : Hid (OwnB w4 w1.heap.size v4 (putB fl Fm 0 ++ textB f.1.data.toList)) := Lib.hid (own_app hown4 (Nat.le_refl _)); have hs4 := hg4.size; clear hown4 hg4 kx4)
    have HP2 := Lib.hid (putText_any f.2 w4 hf2)
    have hlq : (putB fl Fm 0 ++ textB f.1.data.toList).length ≤ 2097200 := by rw [List.length_append]; omega
    obtain ⟨lq, hlqq⟩ : ∃ lq, putB fl Fm 0 ++ textB f.1.data.toList = lq := ⟨_, rfl⟩
    rw [hlqq] at HOQ hlq HNM2
    clear hlqq
    refine HP2.out.mono ?_
    rintro e5 w5 ⟨v5, rfl, ho5, hb5⟩
    have HB5 := Lib.hid (HBQ.out.trans (hb5.mono HBQ.out.size))
    have HOQ5 := Lib.hid (HOQ.out.below hb5)
    obtain ⟨A5, c5, rfl, hr5⟩ := ho5.rd
    have HR5 := Lib.hid hr5
    have hs5 := hb5.size
    clear ho5 hb5 hr5
    go_wp2_with (at_builtin; refine wpList_app (.tmp 32) (.tmp 35) tBytes rfl rfl HOQ5.out rfl HR5.out rfl (bvs_one _) (le_maxLen (by omega)) (by omega) (by omega) ?_; intro v6 w6 hown6 hg6 _)
    go_ret
    refine ⟨v6, rfl, ?_, Below.app HB5.out HOQ5.out hg6 (by omega) (by have := HB5.out.size; omega)⟩
    rw [HNM2.out]
    exact own_app hown6 (by omega)
  · have HNM2 : Hid (R = putB fl Fm n ++ textB f.2.data.toList) := Lib.hid (by rw [HNM.out, if_neg hn0, List.append_nil])
    have hnz : ((n : Int) == 0) = false := by rw [beq_eq_false_iff_ne]; omega
    have HP2 := Lib.hid (putText_any f.2 w2 hf2)
    have HBQ := Lib.hid HB2.out
    have HOQ := Lib.hid HO2.out
    have hlq : (putB fl Fm n).length ≤ 7 := hpl
    go_wp2_with fail
    refine HP2.out.mono ?_
    rintro e5 w5 ⟨v5, rfl, ho5, hb5⟩
    have HB5 := Lib.hid (HBQ.out.trans (hb5.mono HBQ.out.size))
    have HOQ5 := Lib.hid (HOQ.out.below hb5)
    obtain ⟨A5, c5, rfl, hr5⟩ := ho5.rd
    have HR5 := Lib.hid hr5
    have hs5 := hb5.size
    clear ho5 hb5 hr5
    go_wp2_with (at_builtin; refine wpList_app (.tmp 32) (.tmp 35) tBytes rfl rfl HOQ5.out rfl HR5.out rfl (bvs_one _) (le_maxLen (by omega)) (by omega) (by omega) ?_; intro v6 w6 hown6 hg6 _)
    go_ret
    refine ⟨v6, rfl, ?_, Below.app HB5.out HOQ5.out hg6 (by omega) (by have := HB5.out.size; omega)⟩
    rw [HNM2.out]
    exact own_app hown6 (by omega)
end Go.Proofs.Ytfpcamkimjecdaa

/- The walks of hpack.Encoder's never, aside, found, kept. -/
namespace Go.Proofs.Ytfpcamkimjecdaa
open Go.RowKit

/-- What writing hands back. -/
def EPost (W : World) (e : Nat) (G : Nat → Prop) (N : Nat) (E' : Enc) (l : List UInt8) (ev : Ending) (w' : World) : Prop :=
  ∃ v, ev = .returned v ∧ OwnB w' W.heap.size v l ∧ ∃ G', EncIs w' e G' N E' ∧ Kept G W w' ∧ Grew W G G' ∧ ∀ k, v.ownBlock = some k → ¬ G' k
section
variable {w w' : World} {e N N' : Nat} {G : Nat → Prop} {E : Enc} {l : List UInt8} {ev : Ending}
theorem EncIs.lt (h : EncIs w e G N E) : ∀ k, G k → k < w.heap.size := by
  obtain ⟨g, F, rfl, hd, ht, hF⟩ := h
  rintro k (rfl | hk)
  · exact (Array.getElem?_eq_some_iff.1 hd).1
  · exact ht.lt k hk
theorem EncIs.keep (h : EncIs w e G N E) (hk : ∀ k, G k → w'.heap[k]? = w.heap[k]?) : EncIs w' e G N E := by
  obtain ⟨g, F, rfl, hd, ht, hF⟩ := h
  exact ⟨g, F, rfl, (hk e (.inl rfl)).trans hd, ht.keep fun k hf => hk k (.inr hf), hF⟩
theorem EncIs.below (h : EncIs w e G N E) (hb : Below w.heap.size w w') : EncIs w' e G N E := h.keep fun k hk => hb.block k (h.lt k hk)
theorem EncIs.more (h : EncIs w e G N E) (hn : N ≤ N') (hN : N' ≤ 1099511627776) : EncIs w e G N' E := by
  obtain ⟨g, F, hG, hd, ht, hF⟩ := h
  exact ⟨g, F, hG, hd, ht.more hn hN, hF⟩
theorem EncIs.tok (h : EncIs w e G N E) : TOk E.T := by
  obtain ⟨g, F, hG, hd, ht, hF⟩ := h
  exact ht.tok
theorem EncIs.ret (h : EncIs w e G N E) (hr : RetB w l ev w') : EPost w e G N E l ev w' := by
  obtain ⟨v, he, ho, hb⟩ := hr
  exact ⟨v, he, ho, G, h.below hb, Kept.of_below hb, Grew.refl _ _, fun k hk hg => by have := (World.ownsRow.lt ho k hk).1; have := h.lt k hg; omega⟩
end
set_option maxRecDepth 100000 in
set_option maxHeartbeats 1000000 in
theorem never_any {e N : Nat} {G : Nat → Prop} {E : Enc} (f : Rw) (nv : Bool) (w : World) (h : EncIs w e G N E) (hf1 : f.1.size ≤ 1048576) (hf2 : f.2.size ≤ 1048576) :
    Calls Try.prog 33 #[.pointer (some ⟨e, 0, none⟩), .agg #[.string f.1, .string f.2, .bool nv]] w (EPost w e G N E (namedB 16 15 E.T f)) := by
  obtain ⟨W0, hW0⟩ : ∃ W0, w.alloc (.cells #[.string f.1, .string f.2, .bool nv] 43) = W0 := ⟨_, rfl⟩
  obtain ⟨x, hx⟩ : ∃ x, w.heap.size = x := ⟨_, rfl⟩
  have b0 : Below w.heap.size w W0 := by rw [← hW0]; exact (Below.refl _ _).alloc (Nat.le_refl _) _
  have kx : W0.heap[x]? = some (.cells #[.string f.1, .string f.2, .bool nv] 43 (0, 0)) := by rw [← hW0, ← hx]; exact heapNew _ _
  have x0 : W0.cell? ⟨x, 0, none⟩ = some (.string f.1) := by unfold World.cell?; rw [kx]; rfl
  have x1 : W0.cell? ⟨x, 1, none⟩ = some (.string f.2) := by unfold World.cell?; rw [kx]; rfl
  have x2 : W0.cell? ⟨x, 2, none⟩ = some (.bool nv) := by unfold World.cell?; rw [kx]; rfl
  have hr : Calls Try.prog 49 #[.pointer (some ⟨e, 0, none⟩), .int .u8 (16 : Nat), .int .i64 (4 : Nat), .agg #[.string f.1, .string f.2, .bool nv]] W0 (RetB W0 (namedB 16 15 E.T f)) := by
    obtain ⟨g, F, -, hd, ht, -⟩ := h.below b0
    exact named_any f nv W0 hd ht full4 (by omega) rfl hf1 hf2
  have HR := Lib.hid hr
  have HH := Lib.hid h
  have HB := Lib.hid b0
  have HW0 := Lib.hid hW0
  have HX := Lib.hid hx
  clear hW0 hx b0 kx hr h
  go_enter Try.func33, Try.ntmps33
  go_upto_region 1 with fail
  rw [HW0.out, HX.out]
  go_wp2_with fail
  refine HR.out.mono ?_
  rintro e1 w1 ⟨v, rfl, ho, hb⟩
  have H1 := Lib.hid (And.intro ho hb)
  clear ho hb
  go_wp2
  go_ret
  exact HH.out.ret ⟨v, rfl, H1.out.1.base HB.out.size, HB.out.trans (H1.out.2.mono HB.out.size)⟩
set_option maxRecDepth 100000 in
set_option maxHeartbeats 1000000 in
theorem aside_any {e N : Nat} {G : Nat → Prop} {E : Enc} (f : Rw) (nv : Bool) (w : World) (h : EncIs w e G N E) (hf1 : f.1.size ≤ 1048576) (hf2 : f.2.size ≤ 1048576) :
    Calls Try.prog 36 #[.pointer (some ⟨e, 0, none⟩), .agg #[.string f.1, .string f.2, .bool nv]] w (EPost w e G N E (namedB 0 15 E.T f)) := by
  obtain ⟨W0, hW0⟩ : ∃ W0, w.alloc (.cells #[.string f.1, .string f.2, .bool nv] 43) = W0 := ⟨_, rfl⟩
  obtain ⟨x, hx⟩ : ∃ x, w.heap.size = x := ⟨_, rfl⟩
  have b0 : Below w.heap.size w W0 := by rw [← hW0]; exact (Below.refl _ _).alloc (Nat.le_refl _) _
  have kx : W0.heap[x]? = some (.cells #[.string f.1, .string f.2, .bool nv] 43 (0, 0)) := by rw [← hW0, ← hx]; exact heapNew _ _
  have x0 : W0.cell? ⟨x, 0, none⟩ = some (.string f.1) := by unfold World.cell?; rw [kx]; rfl
  have x1 : W0.cell? ⟨x, 1, none⟩ = some (.string f.2) := by unfold World.cell?; rw [kx]; rfl
  have x2 : W0.cell? ⟨x, 2, none⟩ = some (.bool nv) := by unfold World.cell?; rw [kx]; rfl
  have hr : Calls Try.prog 49 #[.pointer (some ⟨e, 0, none⟩), .int .u8 (0 : Nat), .int .i64 (4 : Nat), .agg #[.string f.1, .string f.2, .bool nv]] W0 (RetB W0 (namedB 0 15 E.T f)) := by
    obtain ⟨g, F, -, hd, ht, -⟩ := h.below b0
    exact named_any f nv W0 hd ht full4 (by omega) rfl hf1 hf2
  have HR := Lib.hid hr
  have HH := Lib.hid h
  have HB := Lib.hid b0
  have HW0 := Lib.hid hW0
  have HX := Lib.hid hx
  clear hW0 hx b0 kx hr h
  go_enter Try.func36, Try.ntmps36
  go_upto_region 1 with fail
  rw [HW0.out, HX.out]
  go_wp2_with fail
  refine HR.out.mono ?_
  rintro e1 w1 ⟨v, rfl, ho, hb⟩
  have H1 := Lib.hid (And.intro ho hb)
  clear ho hb
  go_wp2
  go_ret
  exact HH.out.ret ⟨v, rfl, H1.out.1.base HB.out.size, HB.out.trans (H1.out.2.mono HB.out.size)⟩
set_option maxRecDepth 100000 in
set_option maxHeartbeats 2000000 in
theorem found_any {e N : Nat} {G : Nat → Prop} {E : Enc} (f : Rw) (nv : Bool) (w : World) (h : EncIs w e G N E) (hf1 : f.1.size ≤ 1048576) (hf2 : f.2.size ≤ 1048576) :
    Calls Try.prog 35 #[.pointer (some ⟨e, 0, none⟩), .agg #[.string f.1, .string f.2, .bool nv]] w (EPost w e G N E (putB 128 127 (numT E.T f))) := by
  obtain ⟨W0, hW0⟩ : ∃ W0, w.alloc (.cells #[.string f.1, .string f.2, .bool nv] 43) = W0 := ⟨_, rfl⟩
  obtain ⟨x, hx⟩ : ∃ x, w.heap.size = x := ⟨_, rfl⟩
  have b0 : Below w.heap.size w W0 := by rw [← hW0]; exact (Below.refl _ _).alloc (Nat.le_refl _) _
  have kx : W0.heap[x]? = some (.cells #[.string f.1, .string f.2, .bool nv] 43 (0, 0)) := by rw [← hW0, ← hx]; exact heapNew _ _
  have x0 : W0.cell? ⟨x, 0, none⟩ = some (.string f.1) := by unfold World.cell?; rw [kx]; rfl
  have x1 : W0.cell? ⟨x, 1, none⟩ = some (.string f.2) := by unfold World.cell?; rw [kx]; rfl
  have x2 : W0.cell? ⟨x, 2, none⟩ = some (.bool nv) := by unfold World.cell?; rw [kx]; rfl
  have hxl : x < W0.heap.size := (Array.getElem?_eq_some_iff.1 kx).1
  obtain ⟨g, F, -, hd, ht, -⟩ := h.below b0
  have c3 : W0.cell? ⟨e, 3, none⟩ = some (.pointer (some ⟨g, 0, none⟩)) := by unfold World.cell?; rw [hd]; rfl
  have hel0 : e < W0.heap.size := (Array.getElem?_eq_some_iff.1 hd).1
  have HFI : Hid (∀ w', w'.heap = W0.heap → Calls Try.prog 34 #[.pointer (some ⟨g, 0, none⟩), .agg #[.string f.1, .string f.2, .bool nv]] w' fun e w2 => e = .returned (.tuple #[.int .i64 (numT E.T f : Int), .bool (fnd E.T f).2]) ∧ Below w'.heap.size w' w2) := Lib.hid fun w' hw => find_enc f nv w' (ht.keep fun k hk => by rw [hw]) hf1 hf2
  have hnb := (numT_bd ht.tok f).1
  obtain ⟨n, hn⟩ : ∃ n, numT E.T f = n := ⟨_, rfl⟩
  rw [hn] at hnb HFI ⊢
  have HNU := Lib.hid (fun w' => num_enc 128 7 n 127 w' full7 (by omega) rfl (by omega))
  have HH := Lib.hid h
  have HB := Lib.hid b0
  have HW0 := Lib.hid hW0
  have HX := Lib.hid hx
  clear hW0 hx b0 kx h hd ht hn
  go_enter Try.func35, Try.ntmps35
  go_upto_region 1 with fail
  rw [HW0.out, HX.out]
  go_region_held3 (fun w' => w'.cell? ⟨e, 3, none⟩ = some (.pointer (some ⟨g, 0, none⟩)) ∧ w'.cell? ⟨x, 0, none⟩ = some (.string f.1) ∧ w'.cell? ⟨x, 1, none⟩ = some (.string f.2) ∧ w'.cell? ⟨x, 2, none⟩ = some (.bool nv))
    (first | go_keep | exact ⟨k0, k1, k2, k3⟩)
    (first
      | (go_at_call 34; refine (HFI.out _ (by rfl)).mono ?_; rintro e1 w1 ⟨rfl, hb1⟩; have k0 := (hb1.cell (p := ⟨e, 3, none⟩) hel0).trans c3; have k1 := (hb1.cell (p := ⟨x, 0, none⟩) hxl).trans x0; have k2 := (hb1.cell (p := ⟨x, 1, none⟩) hxl).trans x1; have k3 := (hb1.cell (p := ⟨x, 2, none⟩) hxl).trans x2; have hb1' : Below W0.heap.size W0 w1 := ⟨hb1.os, hb1.tape, hb1.output, hb1.size, hb1.block⟩; have HB1 : Hid (Below W0.heap.size W0 w1) := Lib.hid hb1'; clear hb1 hb1'))
  have HB1' := Lib.hid (HB.out.trans (HB1.out.mono HB.out.size))
  clear k0 k1 k2 k3 c3 x0 x1 x2
  go_wp2_with fail
  refine (HNU.out w1).mono ?_
  rintro e1 w2 ⟨v, rfl, ho, hb⟩
  have H1 := Lib.hid (And.intro ho hb)
  clear ho hb
  go_wp2
  go_ret
  exact HH.out.ret ⟨v, rfl, H1.out.1.base HB1'.out.size, HB1'.out.trans (H1.out.2.mono HB1'.out.size)⟩
end Go.Proofs.Ytfpcamkimjecdaa
