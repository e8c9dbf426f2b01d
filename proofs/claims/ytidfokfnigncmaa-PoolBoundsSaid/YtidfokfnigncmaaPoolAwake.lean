/- The walks of drawbridgelaw16.awake, PoolNone. -/
import Derived.Test.YtidfokfnigncmaaPool13
import Derived.Test.YtidfokfnigncmaaPool14
namespace Go.Proofs.Ytidfokfnigncmaa
open Go.RowKit

/-- The footprint is new. -/
def New (W : World) (F : Nat → Prop) : Prop := ∀ k, F k → W.heap.size ≤ k
theorem New.grew {W w : World} {F F' : Nat → Prop} (h : New W F) (hg : Grew w F F') (hs : W.heap.size ≤ w.heap.size) : New W F' := fun k hk => (hg k hk).elim (h k) (fun h2 => by omega)
theorem New.below {W w w' : World} {F : Nat → Prop} (h : New W F) (hb : Below W.heap.size W w) (hk : Kept F w w') : Below W.heap.size W w' := hb.trans (hk.below h hb.size)
/-- A pool that the call has made. -/
def OwnP (W w : World) (g N : Nat) (P : Pl) : Prop := ∃ F, PoolIs w g F N P ∧ New W F ∧ Below W.heap.size W w
def OwnPost (W : World) (g N : Nat) (P : Pl) (v : Value) (e : Ending) (w' : World) : Prop := e = .returned v ∧ OwnP W w' g N P
theorem OwnP.step {W w : World} {g N N' : Nat} {P P' : Pl} {fn : FuncId} {args : Array Value} {v : Value} (h : OwnP W w g N P) (hc : ∀ F, PoolIs w g F N P → Calls Try.prog fn args w (PStep w g F N' P' v)) : Calls Try.prog fn args w (OwnPost W g N' P' v) := by
  obtain ⟨F, hp, hn, hb⟩ := h
  refine (hc F hp).mono ?_
  rintro e w' ⟨he, F', hp', hk, hg⟩
  exact ⟨he, F', hp', hn.grew hg hb.size, hn.below hb hk⟩
theorem OwnP.bel {W w : World} {g N : Nat} {P : Pl} (h : OwnP W w g N P) : Below W.heap.size W w := by
  obtain ⟨F, hp, hn, hb⟩ := h
  exact hb
theorem OwnP.ok {W w : World} {g N : Nat} {P : Pl} (h : OwnP W w g N P) : PlOk N P := by
  obtain ⟨F, hp, hn, hb⟩ := h
  exact hp.ok
theorem OwnP.more {W w : World} {g N N' : Nat} {P : Pl} (h : OwnP W w g N P) (hn : N ≤ N') (hf : N' ≤ 1099511627776) : OwnP W w g N' P := by
  obtain ⟨F, hp, hnn, hb⟩ := h
  exact ⟨F, hp.more hn hf, hnn, hb⟩
theorem OwnP.below {W w w' : World} {g N : Nat} {P : Pl} (h : OwnP W w g N P) (hb : Below w.heap.size w w') : OwnP W w' g N P := by
  obtain ⟨F, hp, hnn, hb0⟩ := h
  exact ⟨F, hp.keep (fun k hk => hb.block k (hp.lt k hk)), hnn, hb0.trans (hb.mono hb0.size)⟩
theorem own_pnew (mo idl : Int) {W w : World} (hb : Below W.heap.size W w) (h0 : 1 ≤ mo) (h1 : mo ≤ 4) (h2 : 1 ≤ idl) (h3 : idl ≤ 1099511627776) :
    Calls Try.prog 9 #[.int .i64 mo, .int .i64 idl] w fun e w' => ∃ g, e = .returned (.tuple #[.pointer (some ⟨g, 0, none⟩), .int .i64 0]) ∧ OwnP W w' g 0 ⟨mo, idl, 0, []⟩ ∧ w.heap.size ≤ w'.heap.size ∧ Below w.heap.size w w' := by
  refine (pnew_any mo idl w h0 h1 h2 h3).mono ?_
  rintro e w' ⟨g, F, he, hp, hF, hb2⟩
  exact ⟨g, he, ⟨F, hp, fun k hk => Nat.le_trans hb.size (hF k hk), hb.trans (hb2.mono hb.size)⟩, hb2.size, hb2⟩
theorem aw_1 : (⟨2, 10, 0, []⟩ : Pl).get 0 5 = ((1, true, 0), ⟨2, 10, 1, [⟨1, 0, -1⟩]⟩) := by kernel_rfl
theorem aw_2 : (⟨2, 10, 1, [⟨1, 0, -1⟩]⟩ : Pl).put 1 6 = (0, ⟨2, 10, 1, [⟨1, 0, 6⟩]⟩) := by kernel_rfl
theorem aw_3 : (⟨2, 10, 1, [⟨1, 0, 6⟩]⟩ : Pl).get 0 8 = ((1, false, 0), ⟨2, 10, 1, [⟨1, 0, -1⟩]⟩) := by kernel_rfl
set_option maxRecDepth 100000 in
set_option maxHeartbeats 2000000 in
theorem awake16_any (w : World) : Calls Try.prog 8 #[] w (RetT w) := by
  go_enter Try.func8, Try.ntmps8
  go_wp2_with fail
  refine (own_pnew 2 10 (Below.refl _ w) (by decide) (by decide) (by decide) (by decide)).mono ?_
  rintro e w1 ⟨g, rfl, ho, -, -⟩
  have H1 := Lib.hid ho
  clear ho
  go_wp2_with fail
  refine (H1.out.step (N' := 1) (P' := ⟨2, 10, 1, [⟨1, 0, -1⟩]⟩) (v := .tuple #[.int .i64 1, .bool true, .int .i64 0]) (fun F h => by have := pget_ok (o := 0) 5 w1 h (by decide) (by decide) (by decide) (by decide); rw [show (((0 : Nat) : Int)) = 0 from rfl, aw_1] at this; exact this)).mono ?_
  rintro e w2 ⟨rfl, ho⟩
  have H2 := Lib.hid ho
  clear ho
  go_wp2_with fail
  refine (H2.out.step (N' := 1) (P' := ⟨2, 10, 1, [⟨1, 0, 6⟩]⟩) (v := .int .i64 0) (fun F h => by have := pput_any 1 6 w2 h (by decide) (by decide) (by decide); rw [aw_2] at this; exact this)).mono ?_
  rintro e w3 ⟨rfl, ho⟩
  have H3 := Lib.hid ho
  clear ho
  go_wp2_with fail
  refine (H3.out.step (N' := 2) (P' := ⟨2, 10, 1, [⟨1, 0, -1⟩]⟩) (v := .tuple #[.int .i64 1, .bool false, .int .i64 0]) (fun F h => by have := pget_ok (o := 0) 8 w3 h (by decide) (by decide) (by decide) (by decide); rw [show (((0 : Nat) : Int)) = 0 from rfl, aw_3] at this; exact this)).mono ?_
  rintro e w4 ⟨rfl, ho⟩
  have H4 := Lib.hid ho
  clear ho
  go_wp2_with fail
  go_ret
  exact ⟨rfl, H4.out.bel⟩
set_option maxRecDepth 100000 in
set_option maxHeartbeats 2000000 in
theorem pnone_any (n now : Int) (w : World) : Calls Try.prog 7 #[.int .i64 n, .int .i64 now] w (RetT w) := by
  go_enter Try.func7, Try.ntmps7
  go_wp2_with fail
  refine (awake16_any w).mono ?_
  rintro e w1 ⟨rfl, hb⟩
  have HB := Lib.hid hb
  clear hb
  go_wp2_with fail
  refine (pget_nil n now w1).mono ?_
  rintro e w2 ⟨rfl, rfl⟩
  go_wp2_with fail
  refine (porigin_nil n w1).mono ?_
  rintro e w2 ⟨rfl, rfl⟩
  go_wp2_with fail
  refine (pcount_bad none n w1 (.inl rfl)).mono ?_
  rintro e w2 ⟨rfl, rfl⟩
  go_wp2_with fail
  refine (pput_nil n now w1).mono ?_
  rintro e w2 ⟨rfl, rfl⟩
  go_wp2_with fail
  refine (pdrop_nil n w1).mono ?_
  rintro e w2 ⟨rfl, rfl⟩
  go_wp2_with fail
  refine (pexpire_nil now w1).mono ?_
  rintro e w2 ⟨rfl, nd, rfl⟩
  go_wp2_with fail
  refine (plen_nil _).mono ?_
  rintro e w2 ⟨rfl, rfl⟩
  go_wp2_with fail
  go_ret
  exact ⟨rfl, below_dN HB.out _⟩
end Go.Proofs.Ytidfokfnigncmaa
