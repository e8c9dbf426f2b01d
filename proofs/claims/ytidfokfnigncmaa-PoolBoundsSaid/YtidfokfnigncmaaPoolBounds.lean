/- The walk of drawbridgelaw16.PoolBounds. -/
import Derived.Test.YtidfokfnigncmaaPoolBoth
import Derived.Test.YtidfokfnigncmaaBoundsPlain
import Derived.Test.YtidfokfnigncmaaLiftDo
import Derived.Outline
import Derived.OwnWalk
namespace Go.Proofs.Ytidfokfnigncmaa
open Go.RowKit

/-- A pool, the busy ones' row, and a block beside them. -/
structure Bd (W w : World) (g x N : Nat) (P : Pl) (b : Option Obj) (bv : Value) (busy : List Int) (F : Nat → Prop) : Prop where
  a : PoolIs w g F N P
  na : New W F
  bel : Below W.heap.size W w
  row : w.ownsRow W.heap.size 3 1 bv busy.length (iv busy)
  rF : ∀ k, bv.ownBlock = some k → ¬ F k
  xF : ¬ F x
  xl : x < w.heap.size
  xb : w.heap[x]? = b
  xr : ∀ k, bv.ownBlock = some k → k ≠ x
def BP (W w : World) (g x N : Nat) (P : Pl) (b : Option Obj) (bv : Value) (busy : List Int) : Prop := ∃ F, Bd W w g x N P b bv busy F
def BP0 (W w : World) (g N : Nat) (P : Pl) (bv : Value) (busy : List Int) : Prop := ∃ F, PoolIs w g F N P ∧ New W F ∧ Below W.heap.size W w ∧ w.ownsRow W.heap.size 3 1 bv busy.length (iv busy) ∧ ∀ k, bv.ownBlock = some k → ¬ F k
theorem own_kept3 {w w' : World} {v : Value} {base n : Nat} {e : TypeId} {size : Nat} {xs : List Value} {F : Nat → Prop} (h : w.ownsRow base e size v n xs) (hk : Kept F w w') (hF : ∀ q, v.ownBlock = some q → ¬ F q) : w'.ownsRow base e size v n xs := by
  rcases h with ⟨hl, ⟨rfl, h0⟩ | ⟨g, cap, cur, hv, hg, hb, h3⟩⟩
  · exact ⟨hl, .inl ⟨rfl, h0⟩⟩
  · exact ⟨hl, .inr ⟨g, cap, cur, hv, hg, (hk.block g (Array.getElem?_eq_some_iff.1 hb).1 (hF g (by rw [hv]; rfl))).trans hb, h3⟩⟩
theorem own_base {w : World} {v : Value} {base B n : Nat} {e : TypeId} {size : Nat} {xs : List Value} (h : w.ownsRow base e size v n xs) (hB : B ≤ base) : w.ownsRow B e size v n xs := by
  rcases h with ⟨hl, ⟨rfl, h0⟩ | ⟨g, cap, cur, hv, hg, hb, h3⟩⟩
  · exact ⟨hl, .inl ⟨rfl, h0⟩⟩
  · exact ⟨hl, .inr ⟨g, cap, cur, hv, Nat.le_trans hB hg, hb, h3⟩⟩
section
variable {W w w' : World} {g x N N' : Nat} {P P' : Pl} {b : Option Obj} {bv : Value} {busy : List Int} {F F' : Nat → Prop} {fn : FuncId} {args : Array Value} {v : Value}
theorem Bd.go (h : Bd W w g x N P b bv busy F) (hp : PoolIs w' g F' N' P') (hk : Kept F w w') (hg : Grew w F F') : Bd W w' g x N' P' b bv busy F' :=
  ⟨hp, h.na.grew hg h.bel.size, h.na.below h.bel hk, own_kept3 h.row hk h.rF, fun q hq h1 => (hg q h1).elim (h.rF q hq) (fun h2 => by have := (h.row.lt q hq).2; omega), fun hf => (hg x hf).elim h.xF (fun h2 => by have := h.xl; omega), Nat.lt_of_lt_of_le h.xl hk.size, (hk.block x h.xl h.xF).trans h.xb, h.xr⟩
theorem BP.step (h : BP W w g x N P b bv busy) (hc : ∀ F, PoolIs w g F N P → Calls Try.prog fn args w (PStep w g F N' P' v)) : Calls Try.prog fn args w fun e w' => e = .returned v ∧ BP W w' g x N' P' b bv busy := by
  obtain ⟨F, h⟩ := h
  refine (hc F h.a).mono ?_
  rintro e w' ⟨he, F', hp', hk, hg⟩
  exact ⟨he, F', h.go hp' hk hg⟩
theorem BP.exp (h : BP W w g x N P b bv busy) (now : Int) (h0 : -9223372036854775808 ≤ now) (h1 : now ≤ 9223372036854775807) (hN : N ≤ 549755813888) {xs : List Int} {P1 : Pl} (hx : P.expire now = (xs, P1)) :
    Calls Try.prog 13 #[.pointer (some ⟨g, 0, none⟩), .int .i64 now] w fun e w' => ∃ A c, e = .returned (.slice A xs.length c) ∧ BP W w' g x N P1 b bv busy ∧ Rd w' w'.heap.size 1 A xs.length (iv xs) := by
  obtain ⟨F, h⟩ := h
  refine (pexpire_any now w h.a h0 h1 hN).mono ?_
  unfold PExp
  rw [hx]
  rintro e w' ⟨ov, F', rfl, hov, hp', hsub, hk⟩
  obtain ⟨A, c, rfl, -, -, hrd, -⟩ := own_slice hov
  exact ⟨A, c, rfl, ⟨F', h.go hp' hk fun k hk => .inl (hsub k hk)⟩, hrd⟩
theorem BP.cells (h : BP W w g x N P b bv busy) {kd a t : Int} (hb : b = some (.cells #[.int .i64 kd, .int .i64 a, .int .i64 t] 44 (0, 0))) :
    w.cell? ⟨x, 0, none⟩ = some (.int .i64 kd) ∧ w.cell? ⟨x, 1, none⟩ = some (.int .i64 a) ∧ w.cell? ⟨x, 2, none⟩ = some (.int .i64 t) := by
  obtain ⟨F, h⟩ := h
  have h1 := h.xb
  rw [hb] at h1
  refine ⟨?_, ?_, ?_⟩ <;> (unfold World.cell?; rw [h1]; rfl)
theorem BP.bel (h : BP W w g x N P b bv busy) : Below W.heap.size W w := by
  obtain ⟨F, h⟩ := h
  exact h.bel
theorem BP.ok (h : BP W w g x N P b bv busy) : PlOk N P := by
  obtain ⟨F, h⟩ := h
  exact h.a.ok
theorem BP.row (h : BP W w g x N P b bv busy) : w.ownsRow W.heap.size 3 1 bv busy.length (iv busy) := by
  obtain ⟨F, h⟩ := h
  exact h.row
theorem BP.pool (h : BP W w g x N P b bv busy) : ∃ F, PoolIs w g F N P := by
  obtain ⟨F, h⟩ := h
  exact ⟨F, h.a⟩
theorem BP.more (h : BP W w g x N P b bv busy) (hn : N ≤ N') (hf : N' ≤ 1099511627776) : BP W w g x N' P b bv busy := by
  obtain ⟨F, h⟩ := h
  exact ⟨F, h.a.more hn hf, h.na, h.bel, h.row, h.rF, h.xF, h.xl, h.xb, h.xr⟩
theorem BP.below (h : BP W w g x N P b bv busy) (hb : Below w.heap.size w w') : BP W w' g x N P b bv busy := by
  obtain ⟨F, h⟩ := h
  exact ⟨F, h.go (h.a.keep fun k hk => hb.block k (h.a.lt k hk)) (Kept.of_below hb) (Grew.refl _ _)⟩
theorem BP.out (h : BP W w g x N P b bv busy) : BP0 W w g N P bv busy := by
  obtain ⟨F, h⟩ := h
  exact ⟨F, h.a, h.na, h.bel, h.row, h.rF⟩
/-- Another row in the place of the busy ones'. -/
theorem BP.fresh (h : BP W w g x N P b bv busy) (hb : Below w.heap.size w w') {rv : Value} {rest : List Int} (hr : w'.ownsRow w.heap.size 3 1 rv rest.length (iv rest)) : BP W w' g x N P b rv rest := by
  obtain ⟨F, h⟩ := h
  have h2 := h.go (h.a.keep fun k hk => hb.block k (h.a.lt k hk)) (Kept.of_below hb) (Grew.refl _ _)
  exact ⟨F, h2.a, h2.na, h2.bel, own_base hr h.bel.size, fun k hk hf => by have := (hr.lt k hk).1; have := h.a.lt k hf; omega, h2.xF, h2.xl, h2.xb, fun k hk => by have := (hr.lt k hk).1; have := h.xl; omega⟩
/-- One number more. -/
theorem BP.app (h : BP W w g x N P b bv busy) {o : Obj} {v4 : Value} {w4 : World} {t : Int} (hown : w4.ownsRow W.heap.size 3 1 v4 (busy.length + 1) (iv busy ++ [.int .i64 t])) (hg : (w.alloc o).grownBy w4 bv.ownBlock) (hv : v4.ownBlock = bv.ownBlock ∨ v4.ownBlock = some (w.alloc o).heap.size) :
    BP W w4 g x N P b v4 (busy ++ [t]) := by
  obtain ⟨F, h⟩ := h
  have hr : ∀ q, v4.ownBlock = some q → ¬ F q ∧ q ≠ x := fun q hq => by
    rcases hv with h2 | h2
    · exact ⟨h.rF q (h2 ▸ hq), h.xr q (h2 ▸ hq)⟩
    · rw [h2] at hq
      injection hq with hq
      simp at hq
      exact ⟨fun hf => by have := h.a.lt q hf; omega, by have := h.xl; omega⟩
  refine ⟨F, h.a.keep (fun k hk => (hg.block k (by have := h.a.lt k hk; simp; omega) (fun e => h.rF k e.symm hk)).trans (Below.heap_alloc _ _ _ (h.a.lt k hk))), h.na, Below.app (h.bel.alloc h.bel.size _) (h.row.alloc _) hg (Nat.le_refl _) (by have := h.bel.size; simp; omega), ?_, fun q hq => (hr q hq).1, h.xF, ?_, ?_, fun q hq => (hr q hq).2⟩
  · rw [List.length_append, show iv (busy ++ [t]) = iv busy ++ [.int .i64 t] by simp [iv]]; exact hown
  · have := hg.size; have := h.xl; simp at *; omega
  · exact ((hg.block x (by have := h.xl; simp; omega) (fun e => h.xr x e.symm rfl)).trans (Below.heap_alloc _ _ _ h.xl)).trans h.xb
theorem BP0.alloc (h : BP0 W w g N P bv busy) (o : Obj) : BP W (w.alloc o) g w.heap.size N P (some o) bv busy := by
  obtain ⟨F, ha, hn, hb, hr, hF⟩ := h
  exact ⟨F, ha.keep (fun k hk => Below.heap_alloc _ _ _ (ha.lt k hk)), hn, hb.alloc hb.size o, hr.alloc o, hF, fun hf => Nat.lt_irrefl _ (ha.lt _ hf), by simp, heapNew _ _, fun k hk => by have := (hr.lt k hk).2; omega⟩
theorem BP0.ok (h : BP0 W w g N P bv busy) : PlOk N P := by
  obtain ⟨F, ha, _⟩ := h
  exact ha.ok
theorem BP0.bel (h : BP0 W w g N P bv busy) : Below W.heap.size W w := by
  obtain ⟨F, _, _, hb, _⟩ := h
  exact hb
theorem BP0.row (h : BP0 W w g N P bv busy) : w.ownsRow W.heap.size 3 1 bv busy.length (iv busy) := by
  obtain ⟨F, _, _, _, hr, _⟩ := h
  exact hr
end
def BRel (W : World) (g n : Nat) (nn : Int) (bv lv kv : Value) (wr : World) : Prop := ∃ (k : Nat) (last : Int) (busy : List Int) (P : Pl), kv = .int .i64 k ∧ lv = .int .i64 last ∧ k ≤ n ∧ k ≤ 150 ∧ BInv nn last busy P ∧ busy.length ≤ k ∧ BP0 W wr g k P bv busy
def JRel (m : Nat) (jv : Value) : Prop := ∃ j : Nat, jv = .int .i64 j ∧ j ≤ m
def ARel (L : List Ln) (av jv : Value) : Prop := ∃ j : Nat, jv = .int .i64 j ∧ j ≤ 4 ∧ av = .int .i64 (busyN L j : Nat)
def keepB (a : Int) (ok : Bool) (k : Int) : Bool := decide (k ≠ a) || !ok
def RRel (w5 : World) (busy : List Int) (a : Int) (ok : Bool) (rv jv : Value) (wr : World) : Prop := ∃ j : Nat, jv = .int .i64 j ∧ j ≤ busy.length ∧ Below w5.heap.size w5 wr ∧ wr.ownsRow w5.heap.size 3 1 rv ((busy.take j).filter (keepB a ok)).length (iv ((busy.take j).filter (keepB a ok)))
theorem keep_succ {busy : List Int} {j : Nat} (hj : j < busy.length) (p : Int → Bool) : (busy.take (j + 1)).filter p = (busy.take j).filter p ++ if p (busy.getD j 0) then [busy.getD j 0] else [] := by
  rw [List.take_add_one, List.getElem?_eq_getElem hj, Option.toList_some, List.filter_append, List.getD_eq_getElem?_getD, List.getElem?_eq_getElem hj]
  simp [List.filter_cons]
theorem keep_all (busy : List Int) (a : Int) : busy.filter (keepB a false) = busy := List.filter_eq_self.2 fun k _ => by simp [keepB]
theorem keep_ne (busy : List Int) (a : Int) : busy.filter (keepB a true) = busy.filter (fun k => decide (k ≠ a)) := List.filter_congr fun k _ => by simp [keepB]
theorem busyN_le (L : List Ln) (o : Nat) : busyN L o ≤ L.length := List.countP_le_length
def doB (kd a t : Int) : Option Obj := some (.cells #[.int .i64 kd, .int .i64 a, .int .i64 t] 44 (0, 0))
set_option maxRecDepth 100000 in
set_option maxHeartbeats 8000000 in
theorem pbounds_any {A0 : Option Addr} {n c0 : Nat} {D : Nat → Int × Int × Int} (ms : Int) (W : World) (hd : Dos W A0 n D) (hn : n ≤ 140737488351232) (hm0 : 0 ≤ ms) (hm1 : ms < 256) :
    Calls Try.prog 6 #[.int .u8 ms, .slice A0 n c0] W (RetT W) := by
  have HD := Lib.hid hd
  obtain ⟨nn, hnn⟩ : ∃ nn : Int, 1 + ms % 4 = nn := ⟨_, rfl⟩
  have hn0 : 1 ≤ nn := by omega
  have hn1 : nn ≤ 4 := by omega
  have HNN := Lib.hid hnn
  clear hd hnn
  go_enter Try.func6, Try.ntmps6
  go_wp2_with fail
  refine (awake16_any W).mono ?_
  rintro e w0 ⟨rfl, hb0⟩
  have HB0 := Lib.hid hb0
  clear hb0
  go_wp2_with fail
  rw [HNN.out]
  refine (own_pnew nn 5 HB0.out hn0 hn1 (by decide) (by decide)).mono ?_
  rintro e w1 ⟨g, rfl, ho, -, -⟩
  have hbp : BP0 W w1 g 0 ⟨nn, 5, 0, []⟩ (.slice none 0 0) [] := by
    obtain ⟨F, hp, hn, hb⟩ := ho
    exact ⟨F, hp, hn, hb, World.ownsRow_nil _ _ _ _, fun k hk => by cases hk⟩
  have HP := Lib.hid hbp
  clear ho hbp
  go_wp2_with fail
  go_loopw [8, 9, 10] (fun bv lv kv wr => BRel W g n nn bv lv kv wr) (fun _ _ kv _ => n - (intOf kv).toNat)
  case atStart => exact ⟨0, 0, [], _, rfl, rfl, by omega, by omega, ⟨List.Perm.refl _, rfl, rfl⟩, Nat.le_refl _, HP.out⟩
  case round =>
    obtain ⟨k, last, busy, P, rfl, rfl, hkn, hk150, hinv, hbl, hP⟩ := hrel
    clear HP HB0
    have HPP := Lib.hid hP
    have HI := Lib.hid hinv
    obtain ⟨A8, c8, rfl, -⟩ := own_slice hP.row
    by_cases hin : k < n ∧ k < 150
    · obtain ⟨hlt, hl2⟩ := hin
      obtain ⟨b, of, rfl, hbb, hcs⟩ := HD.out (by omega)
      obtain ⟨⟨h0, h1, h2⟩, hwf⟩ := hcs k hlt
      obtain ⟨⟨kd, a, t⟩, hDk⟩ : ∃ d, D k = d := ⟨_, rfl⟩
      rw [hDk] at h0 h1 h2 hwf
      have hbel := hP.bel
      have c0 : wr.cell? ⟨b, of + k * 3, none⟩ = some (.int .i64 kd) := (hbel.cell (p := ⟨b, _, none⟩) hbb).trans h0
      have c1 : wr.cell? ⟨b, of + k * 3 + 1, none⟩ = some (.int .i64 a) := (hbel.cell (p := ⟨b, _, none⟩) hbb).trans h1
      have c2 : wr.cell? ⟨b, of + k * 3 + 2, none⟩ = some (.int .i64 t) := (hbel.cell (p := ⟨b, _, none⟩) hbb).trans h2
      have hwa := wf_i64 hwf.2.1
      have hwt := wf_i64 hwf.2.2
      have HWI := Lib.hid (And.intro hwa hwt)
      obtain ⟨m, hm⟩ : ∃ m, busy.length = m := ⟨_, rfl⟩
      have HM := Lib.hid hm
      rw [hm] at hbl ⊢
      have HPA : Hid (BP W (wr.alloc (.cells #[.int .i64 kd, .int .i64 a, .int .i64 t] 44)) g wr.heap.size k P (doB kd a t) (.slice A8 m c8) busy) := Lib.hid (by rw [← hm]; exact hP.alloc _)
      have HOK := Lib.hid hP.ok
      have hla : -9223372036854775808 ≤ last ∧ last ≤ 1000 := by have h1 := hP.ok.la0; have h2 := hP.ok.la1; have h3 := hinv.last; omega
      obtain ⟨x, hx⟩ : ∃ x, wr.heap.size = x := ⟨_, rfl⟩
      obtain ⟨wa, hwa⟩ : ∃ wa, wr.alloc (.cells #[.int .i64 kd, .int .i64 a, .int .i64 t] 44) = wa := ⟨_, rfl⟩
      rw [hwa, hx] at HPA
      obtain ⟨z0, z1, z2⟩ := HPA.out.cells rfl
      have HX := Lib.hid hx
      have HWA := Lib.hid hwa
      have hkd : kd = 0 ∨ kd = 1 ∨ kd = 2 ∨ (kd ≠ 0 ∧ kd ≠ 1 ∧ kd ≠ 2) := by omega
      clear h0 h1 h2 hDk hwf hbel hx hcs hP hwa hwt HPP hm hinv
      rcases hkd with rfl | rfl | rfl | ⟨hk0, hk1, hk2⟩
      · as_aux_lemma =>
          rcases HI.out.get HOK.out a t with ⟨er, her, hget⟩ | ⟨id, P1, hget, hni, hid, hinv1⟩ | ⟨P1, hget, hni, hinv1⟩
          · have HG := Lib.hid hget
            have her0 : (er == 0) = false := by rw [beq_eq_false_iff_ne]; omega
            have her1 : (er != 0) = true := by simpa using (show ¬ er = 0 by omega)
            clear hget
            go_wp2_with fail
            rw [HWA.out, HX.out]
            refine (HPA.out.step (N' := k + 1) (P' := P) (v := .tuple #[.int .i64 0, .bool false, .int .i64 er]) (fun F h => by have := pget_all a t wa h (by omega); rw [HG.out] at this; exact this)).mono ?_
            rintro e w3 ⟨rfl, hpb⟩
            have H3 := Lib.hid hpb
            clear hpb
            go_wp2_with fail
            go_roundw
            case rel => exact ⟨k + 1, last, busy, P, by go_num, rfl, by omega, by omega, HI.out, by rw [HM.out]; omega, H3.out.out⟩
            case measure => simp [intOf]; omega
          · have HG := Lib.hid hget
            have HI1 := Lib.hid hinv1
            have HNI := Lib.hid hni
            have hgt : ¬ last < id := by omega
            obtain ⟨busy1, hbu⟩ : ∃ l, busy ++ [id] = l := ⟨_, rfl⟩
            have HBU := Lib.hid hbu
            clear hget hinv1 hni hbu
            go_wp2_with fail
            rw [HWA.out, HX.out]
            refine (HPA.out.step (N' := k + 1) (P' := P1) (v := .tuple #[.int .i64 id, .bool false, .int .i64 0]) (fun F h => by have := pget_all a t wa h (by omega); rw [HG.out] at this; exact this)).mono ?_
            rintro e w3 ⟨rfl, hpb⟩
            have H3 := Lib.hid hpb
            have hrow := hpb.row
            obtain ⟨A9, c9, hv9, -, -, hrd, -⟩ := own_slice hrow
            injection hv9 with e1 e2 e3
            subst e1
            rw [HM.out] at hrd
            have HRD := Lib.hid hrd
            have hsz3 := hpb.bel.size
            rw [HM.out] at hrow
            have HROW := Lib.hid hrow
            clear hpb hrow hrd e2 e3
            go_wp2_with fail
            go_loop [15] (fun jv => JRel m jv) (fun jv => m - (intOf jv).toNat)
            case atStart => exact ⟨0, rfl, by omega⟩
            case round =>
              obtain ⟨j, rfl, hj⟩ := hrel
              by_cases hjm : j < m
              · obtain ⟨b9, o9, rfl, hb9, hc9⟩ := iv_at HRD.out (by omega)
                have q0 := hc9 j hjm
                have hne : ¬ busy.getD j 0 = id := fun e => HNI.out (by
                  rw [← e, List.getD_eq_getElem?_getD, List.getElem?_eq_getElem (by rw [HM.out]; exact hjm)]
                  exact List.getElem_mem _)
                obtain ⟨y, hy⟩ : ∃ y, busy.getD j 0 = y := ⟨_, rfl⟩
                rw [hy] at q0 hne
                have hyb : (y == id) = false := by simpa using hne
                have n1 : (j : Int) < m := by omega
                have n0 : (0 : Int) ≤ j := by omega
                clear hc9 hy hne
                go_wp2_with fail
                go_round
                case rel => exact ⟨j + 1, by go_num, by omega⟩
                case measure => simp [intOf]; omega
              · obtain rfl : j = m := by omega
                have HJ : Hid (busy.length = j) := Lib.hid HM.out
                go_wp2_with (at_builtin; refine wpList_app (.tmp 123) (.tmp 125) tInts rfl rfl (World.ownsRow.alloc HROW.out _) rfl (Rd.one _ _ _) rfl (oneInt _ _) (le_maxLen (by omega)) (by omega) (by simp; omega) ?_; intro v4 w4 hown4 hg4 hv4; have H6 := Lib.hid (BP.app (t := id) H3.out (by rw [HJ.out]; exact hown4) hg4 hv4); clear hown4 hg4 hv4; obtain ⟨A10, c10, hv10, -⟩ := own_slice H6.out.row; rw [HBU.out] at H6 hv10; have hbl1 : busy1.length = j + 1 := (by rw [← HBU.out, List.length_append, HJ.out]; rfl); rw [hbl1] at hv10; subst hv10)
                obtain ⟨m1, hm1⟩ : ∃ m1, busy1.length = m1 := ⟨_, rfl⟩
                have hjm1 : j + 1 = m1 := by rw [← hbl1, hm1]
                rw [hjm1] at H6 ⊢
                have HM1 := Lib.hid hm1
                have hm1b : m1 ≤ k + 1 := by omega
                rw [HBU.out] at HI1
                clear hm1 hjm1 hbl1
                have HOK1 := Lib.hid H6.out.ok
                obtain ⟨F6, hp6⟩ := H6.out.pool
                have HPO := Lib.hid hp6
                have HCR : Hid (∀ o, (cnt P1.L o : Int) ≤ nn) := Lib.hid fun o => by rw [← HI1.out.mo]; exact HOK1.out.room o
                have HLL := Lib.hid (len_room HOK1.out)
                have HALL : Hid (busyN P1.L 4 = m1) := Lib.hid (by rw [busyN_all HOK1.out HI1.out, HM1.out])
                have HAZ := Lib.hid (busyN_zero HOK1.out)
                have hlen6 : (P1.L.length : Int) ≤ nn * 4 := by rw [← HI1.out.mo]; exact HLL.out
                obtain ⟨pl, hpl⟩ : ∃ pl, P1.L.length = pl := ⟨_, rfl⟩
                have HPLN := Lib.hid hpl
                rw [hpl] at hlen6
                clear hp6 hpl
                go_wp2_with fail
                go_loop [23, 24] (fun av jv => ARel P1.L av jv) (fun _ jv => 4 - (intOf jv).toNat)
                case atStart => exact ⟨0, rfl, by omega, by rw [HAZ.out]; rfl⟩
                case round =>
                  obtain ⟨j, rfl, hj, rfl⟩ := hrel
                  by_cases hj4 : j < 4
                  · have HS := Lib.hid (busyN_succ P1.L j)
                    obtain ⟨⟨ca, cb⟩, hab⟩ : ∃ r, P1.count (j : Int) = r := ⟨_, rfl⟩
                    have e1 : ca = (cnt P1.L j : Int) - idleN P1.L j := by have := congrArg Prod.fst hab; exact this.symm
                    have e2 : cb = (idleN P1.L j : Int) := by have := congrArg Prod.snd hab; exact this.symm
                    have hsum : ca + cb ≤ nn := by rw [e1, e2]; have := HCR.out j; omega
                    have hca0 : (busyN P1.L (j + 1) : Int) = busyN P1.L j + ca := by rw [HS.out, e1]
                    have hb1 := busyN_le P1.L j
                    have hb2 := busyN_le P1.L (j + 1)
                    rw [HPLN.out] at hb1 hb2
                    have hcb0 : 0 ≤ cb := by omega
                    have hca1 : 0 ≤ ca := by
                      have h3 : (0 : Int) ≤ (cnt P1.L j : Int) - idleN P1.L j := by rw [cnt_idle]; omega
                      omega
                    have HCC : Hid (∀ w', PoolIs w' g F6 (k + 1) P1 → Calls Try.prog 20 #[.pointer (some ⟨g, 0, none⟩), .int .i64 j] w' fun e w2 => e = .returned (.tuple #[.int .i64 ca, .int .i64 cb]) ∧ w' = w2) := Lib.hid fun w' hw => by
                      have := pcount_any (j : Int) w' hw (by omega) (by omega)
                      rw [hab] at this
                      exact this
                    have HCA := Lib.hid hca0
                    have j0 : (0 : Int) ≤ j := by omega
                    have j1 : (j : Int) < 4 := by omega
                    obtain ⟨s, hs⟩ : ∃ s, busyN P1.L j = s := ⟨_, rfl⟩
                    have hcs : (s : Int) + ca ≤ 1000 := by rw [← hs, ← hca0]; omega
                    have HSS := Lib.hid hs
                    rw [hs] at hb1
                    rw [hs]
                    clear hab e1 e2 hca0 hb2 hs
                    go_wp2_with fail
                    refine (HCC.out _ HPO.out).mono ?_
                    rintro e w9 ⟨rfl, rfl⟩
                    go_wp2_with fail
                    go_round
                    case rel => exact ⟨j + 1, by go_num, by omega, by rw [HCA.out, HSS.out]⟩
                    case measure => simp [intOf]; omega
                  · obtain rfl : j = 4 := by omega
                    rw [HALL.out]
                    go_wp2_with fail
                    refine (plen_any _ HPO.out).mono ?_
                    rintro e w9 ⟨rfl, rfl⟩
                    rw [HPLN.out]
                    go_wp2_with fail
                    go_roundw
                    case rel => exact ⟨k + 1, _, busy1, P1, by go_num, rfl, by omega, by omega, HI1.out, by rw [HM1.out]; omega, H6.out.out⟩
                    case measure => simp [intOf]; omega
          · have HG := Lib.hid hget
            have HI1 := Lib.hid hinv1
            have HNI := Lib.hid hni
            have hgt : last < last + 1 := by omega
            obtain ⟨busy1, hbu⟩ : ∃ l, busy ++ [(last + 1)] = l := ⟨_, rfl⟩
            have HBU := Lib.hid hbu
            clear hget hinv1 hni hbu
            go_wp2_with fail
            rw [HWA.out, HX.out]
            refine (HPA.out.step (N' := k + 1) (P' := P1) (v := .tuple #[.int .i64 (last + 1), .bool true, .int .i64 0]) (fun F h => by have := pget_all a t wa h (by omega); rw [HG.out] at this; exact this)).mono ?_
            rintro e w3 ⟨rfl, hpb⟩
            have H3 := Lib.hid hpb
            have hrow := hpb.row
            obtain ⟨A9, c9, hv9, -, -, hrd, -⟩ := own_slice hrow
            injection hv9 with e1 e2 e3
            subst e1
            rw [HM.out] at hrd
            have HRD := Lib.hid hrd
            have hsz3 := hpb.bel.size
            rw [HM.out] at hrow
            have HROW := Lib.hid hrow
            clear hpb hrow hrd e2 e3
            go_wp2_with fail
            go_loop [15] (fun jv => JRel m jv) (fun jv => m - (intOf jv).toNat)
            case atStart => exact ⟨0, rfl, by omega⟩
            case round =>
              obtain ⟨j, rfl, hj⟩ := hrel
              by_cases hjm : j < m
              · obtain ⟨b9, o9, rfl, hb9, hc9⟩ := iv_at HRD.out (by omega)
                have q0 := hc9 j hjm
                have hne : ¬ busy.getD j 0 = (last + 1) := fun e => HNI.out (by
                  rw [← e, List.getD_eq_getElem?_getD, List.getElem?_eq_getElem (by rw [HM.out]; exact hjm)]
                  exact List.getElem_mem _)
                obtain ⟨y, hy⟩ : ∃ y, busy.getD j 0 = y := ⟨_, rfl⟩
                rw [hy] at q0 hne
                have hyb : (y == (last + 1)) = false := by simpa using hne
                have n1 : (j : Int) < m := by omega
                have n0 : (0 : Int) ≤ j := by omega
                clear hc9 hy hne
                go_wp2_with fail
                go_round
                case rel => exact ⟨j + 1, by go_num, by omega⟩
                case measure => simp [intOf]; omega
              · obtain rfl : j = m := by omega
                have HJ : Hid (busy.length = j) := Lib.hid HM.out
                go_wp2_with (at_builtin; refine wpList_app (.tmp 123) (.tmp 125) tInts rfl rfl (World.ownsRow.alloc HROW.out _) rfl (Rd.one _ _ _) rfl (oneInt _ _) (le_maxLen (by omega)) (by omega) (by simp; omega) ?_; intro v4 w4 hown4 hg4 hv4; have H6 := Lib.hid (BP.app (t := (last + 1)) H3.out (by rw [HJ.out]; exact hown4) hg4 hv4); clear hown4 hg4 hv4; obtain ⟨A10, c10, hv10, -⟩ := own_slice H6.out.row; rw [HBU.out] at H6 hv10; have hbl1 : busy1.length = j + 1 := (by rw [← HBU.out, List.length_append, HJ.out]; rfl); rw [hbl1] at hv10; subst hv10)
                obtain ⟨m1, hm1⟩ : ∃ m1, busy1.length = m1 := ⟨_, rfl⟩
                have hjm1 : j + 1 = m1 := by rw [← hbl1, hm1]
                rw [hjm1] at H6 ⊢
                have HM1 := Lib.hid hm1
                have hm1b : m1 ≤ k + 1 := by omega
                rw [HBU.out] at HI1
                clear hm1 hjm1 hbl1
                have HOK1 := Lib.hid H6.out.ok
                obtain ⟨F6, hp6⟩ := H6.out.pool
                have HPO := Lib.hid hp6
                have HCR : Hid (∀ o, (cnt P1.L o : Int) ≤ nn) := Lib.hid fun o => by rw [← HI1.out.mo]; exact HOK1.out.room o
                have HLL := Lib.hid (len_room HOK1.out)
                have HALL : Hid (busyN P1.L 4 = m1) := Lib.hid (by rw [busyN_all HOK1.out HI1.out, HM1.out])
                have HAZ := Lib.hid (busyN_zero HOK1.out)
                have hlen6 : (P1.L.length : Int) ≤ nn * 4 := by rw [← HI1.out.mo]; exact HLL.out
                obtain ⟨pl, hpl⟩ : ∃ pl, P1.L.length = pl := ⟨_, rfl⟩
                have HPLN := Lib.hid hpl
                rw [hpl] at hlen6
                clear hp6 hpl
                go_wp2_with fail
                go_loop [23, 24] (fun av jv => ARel P1.L av jv) (fun _ jv => 4 - (intOf jv).toNat)
                case atStart => exact ⟨0, rfl, by omega, by rw [HAZ.out]; rfl⟩
                case round =>
                  obtain ⟨j, rfl, hj, rfl⟩ := hrel
                  by_cases hj4 : j < 4
                  · have HS := Lib.hid (busyN_succ P1.L j)
                    obtain ⟨⟨ca, cb⟩, hab⟩ : ∃ r, P1.count (j : Int) = r := ⟨_, rfl⟩
                    have e1 : ca = (cnt P1.L j : Int) - idleN P1.L j := by have := congrArg Prod.fst hab; exact this.symm
                    have e2 : cb = (idleN P1.L j : Int) := by have := congrArg Prod.snd hab; exact this.symm
                    have hsum : ca + cb ≤ nn := by rw [e1, e2]; have := HCR.out j; omega
                    have hca0 : (busyN P1.L (j + 1) : Int) = busyN P1.L j + ca := by rw [HS.out, e1]
                    have hb1 := busyN_le P1.L j
                    have hb2 := busyN_le P1.L (j + 1)
                    rw [HPLN.out] at hb1 hb2
                    have hcb0 : 0 ≤ cb := by omega
                    have hca1 : 0 ≤ ca := by
                      have h3 : (0 : Int) ≤ (cnt P1.L j : Int) - idleN P1.L j := by rw [cnt_idle]; omega
                      omega
                    have HCC : Hid (∀ w', PoolIs w' g F6 (k + 1) P1 → Calls Try.prog 20 #[.pointer (some ⟨g, 0, none⟩), .int .i64 j] w' fun e w2 => e = .returned (.tuple #[.int .i64 ca, .int .i64 cb]) ∧ w' = w2) := Lib.hid fun w' hw => by
                      have := pcount_any (j : Int) w' hw (by omega) (by omega)
                      rw [hab] at this
                      exact this
                    have HCA := Lib.hid hca0
                    have j0 : (0 : Int) ≤ j := by omega
                    have j1 : (j : Int) < 4 := by omega
                    obtain ⟨s, hs⟩ : ∃ s, busyN P1.L j = s := ⟨_, rfl⟩
                    have hcs : (s : Int) + ca ≤ 1000 := by rw [← hs, ← hca0]; omega
                    have HSS := Lib.hid hs
                    rw [hs] at hb1
                    rw [hs]
                    clear hab e1 e2 hca0 hb2 hs
                    go_wp2_with fail
                    refine (HCC.out _ HPO.out).mono ?_
                    rintro e w9 ⟨rfl, rfl⟩
                    go_wp2_with fail
                    go_round
                    case rel => exact ⟨j + 1, by go_num, by omega, by rw [HCA.out, HSS.out]⟩
                    case measure => simp [intOf]; omega
                  · obtain rfl : j = 4 := by omega
                    rw [HALL.out]
                    go_wp2_with fail
                    refine (plen_any _ HPO.out).mono ?_
                    rintro e w9 ⟨rfl, rfl⟩
                    rw [HPLN.out]
                    go_wp2_with fail
                    go_roundw
                    case rel => exact ⟨k + 1, _, busy1, P1, by go_num, rfl, by omega, by omega, HI1.out, by rw [HM1.out]; omega, H6.out.out⟩
                    case measure => simp [intOf]; omega
      · as_aux_lemma =>
          obtain ⟨⟨pf, P1⟩, hput⟩ : ∃ r, P.put a t = r := ⟨_, rfl⟩
          have hib := HI.out.put a t
          rw [hput] at hib
          have HIB := Lib.hid hib
          have HG := Lib.hid hput
          have HL := Lib.hid ((HPA.out.more (N' := k + 1) (by omega) (by omega)).step (N' := k + 1) (P' := P1) (v := .int .i64 pf) (fun F h => by have := pput_any a t wa h HWI.out.1.1 HWI.out.1.2 (by omega); rw [HG.out] at this; exact this))
          clear hput hib
          obtain ⟨ok, hok⟩ : ∃ ok, (pf == 0) = ok := ⟨_, rfl⟩
          have HI1 : Hid (BInv nn last (busy.filter (keepB a ok)) P1) := Lib.hid (by
            cases ok with
            | true => rw [keep_ne]; exact HIB.out.1 (by simpa using hok)
            | false => rw [keep_all]; exact HIB.out.2 (by simpa using hok))
          obtain ⟨busy1, hbu⟩ : ∃ l, busy.filter (keepB a ok) = l := ⟨_, rfl⟩
          have HBU := Lib.hid hbu
          have HBF : Hid (busy.filter (keepB a ok) = busy1) := Lib.hid hbu
          rw [hbu] at HI1
          have HLE : Hid (busy1.length ≤ m) := Lib.hid (by rw [← hbu, ← HM.out]; exact List.length_filter_le _ _)
          clear hbu
          go_wp2_with fail
          rw [HWA.out, HX.out]
          refine HL.out.mono ?_
          rintro e w5 ⟨rfl, hpb⟩
          have H5 := Lib.hid hpb
          obtain ⟨u0, u1, u2⟩ := hpb.cells rfl
          have hrow := hpb.row
          obtain ⟨A9, c9, hv9, -, -, hrd, -⟩ := own_slice hrow
          injection hv9 with e1 e2 e3
          subst e1
          rw [HM.out] at hrd
          have HRD := Lib.hid hrd
          have HU := Lib.hid (And.intro u0 (And.intro u1 u2))
          have hx5 : x < w5.heap.size := by obtain ⟨F, h⟩ := hpb; exact h.xl
          clear hpb hrow hrd e2 e3
          go_wp2_with fail
          clear hok u0 u1 u2 z0 z1 z2
          go_loopw [17, 18] (fun rv jv wr => RRel w5 busy a ok rv jv wr) (fun _ jv _ => m - (intOf jv).toNat)
          case atStart => exact ⟨0, rfl, by omega, Below.refl _ _, World.ownsRow_nil _ _ _ _⟩
          case round =>
            obtain ⟨j, rfl, hj, hbq, hrq⟩ := hrel
            rw [HM.out] at hj
            have HBQ := Lib.hid hbq
            have HRQ := Lib.hid hrq
            have v1 := (hbq.cell (p := ⟨x, 1, none⟩) hx5).trans HU.out.2.1
            have hszq := hbq.size
            clear hbq hrq
            by_cases hjm : j < m
            · obtain ⟨b9, o9, rfl, hb9, hc9⟩ := iv_at (HRD.out.below (B0 := w5.heap.size) HBQ.out (Nat.le_refl _)) (by omega)
              have q0 := hc9 j hjm
              have HKS := Lib.hid (keep_succ (busy := busy) (j := j) (by rw [HM.out]; exact hjm) (keepB a ok))
              obtain ⟨y, hy⟩ : ∃ y, busy.getD j 0 = y := ⟨_, rfl⟩
              have HY := Lib.hid hy
              rw [hy] at q0
              have n1 : (j : Int) < m := by omega
              have n0 : (0 : Int) ≤ j := by omega
              obtain ⟨L9, hL9⟩ : ∃ l, (busy.take j).filter (keepB a ok) = l := ⟨_, rfl⟩
              have HL9 := Lib.hid hL9
              have hl9 : L9.length ≤ j := by rw [← hL9]; exact Nat.le_trans (List.length_filter_le _ _) (List.length_take_le _ _)
              obtain ⟨lr, hlr⟩ : ∃ lr, L9.length = lr := ⟨_, rfl⟩
              have HLR := Lib.hid hlr
              rw [hL9, hlr] at HRQ
              rw [hlr] at hl9
              obtain ⟨Ar, cr, rfl, -⟩ := own_slice HRQ.out
              have z1 : ∀ d, (wr.drewN d).cell? ⟨b9, o9 + j, none⟩ = some (.int .i64 y) := fun _ => q0
              have z2 : ∀ d, (wr.drewN d).cell? ⟨x, 1, none⟩ = some (.int .i64 a) := fun _ => v1
              clear hc9 hy hL9 hlr
              by_cases hkp : y = a ∧ ok = true
              · obtain ⟨hya, hoka⟩ := hkp
                subst hya hoka
                have HKK : Hid (keepB y true y = false) := Lib.hid (by simp [keepB])
                go_wp2
                go_quiet (fail)
                go_wp2
                go_roundw
                case rel => exact ⟨j + 1, by go_num, by rw [HM.out]; omega, below_dN HBQ.out _, by rw [HKS.out, HY.out, HKK.out, HL9.out]; simp only [Bool.false_eq_true, if_false, List.append_nil]; rw [HLR.out]; exact HRQ.out⟩
                case measure => simp [intOf]; omega
              · have HKK : Hid (keepB a ok y = true) := Lib.hid (by
                  unfold keepB
                  by_cases e : y = a
                  · have : ok = false := by cases ok <;> simp_all
                    simp [this]
                  · simp [e])
                have hcase : (y != a) = true ∨ ((y != a) = false ∧ ok = false) := by
                  by_cases e : y = a
                  · right; exact ⟨by simp [e], by cases ok <;> simp_all⟩
                  · left; simpa using e
                clear hkp
                rcases hcase with hne | ⟨hne, rfl⟩
                all_goals
                  go_wp2
                  go_quiet (fail)
                  go_wp2_with (at_builtin; refine wpList_app (.tmp 162) (.tmp 167) tInts rfl rfl (World.ownsRow.alloc (w := wr.drewN _) HRQ.out _) rfl (Rd.one _ _ _) rfl (oneInt _ _) (le_maxLen (by omega)) (by omega) (by simp; omega) ?_; intro v4 w4 hown4 hg4 hv4)
                  go_roundw
                  case rel => exact ⟨j + 1, by go_num, by rw [HM.out]; omega, Below.app ((below_dN HBQ.out _).alloc hszq _) (World.ownsRow.alloc (w := wr.drewN _) HRQ.out _) hg4 (Nat.le_refl _) (by simp; omega), by rw [HKS.out, HY.out, HKK.out, HL9.out, if_pos rfl, List.length_append, HLR.out, show iv (L9 ++ [y]) = iv L9 ++ [.int .i64 y] by simp [iv]]; exact hown4⟩
                  case measure => simp [intOf]; omega
            · obtain rfl : j = m := by omega
              have hrq := HRQ.out
              rw [List.take_of_length_le (by rw [HM.out]; exact Nat.le_refl _), HBF.out] at hrq
              have H6 := Lib.hid (H5.out.fresh HBQ.out hrq)
              obtain ⟨A10, c10, rfl, -⟩ := own_slice hrq
              obtain ⟨m1, hm1⟩ : ∃ m1, busy1.length = m1 := ⟨_, rfl⟩
              have HM1 := Lib.hid hm1
              have hm1b : m1 ≤ k + 1 := by rw [← hm1]; have := HLE.out; omega
              rw [hm1] at H6 ⊢
              clear hrq hm1
              have HOK1 := Lib.hid H6.out.ok
              obtain ⟨F6, hp6⟩ := H6.out.pool
              have HPO := Lib.hid hp6
              have HCR : Hid (∀ o, (cnt P1.L o : Int) ≤ nn) := Lib.hid fun o => by rw [← HI1.out.mo]; exact HOK1.out.room o
              have HLL := Lib.hid (len_room HOK1.out)
              have HALL : Hid (busyN P1.L 4 = m1) := Lib.hid (by rw [busyN_all HOK1.out HI1.out, HM1.out])
              have HAZ := Lib.hid (busyN_zero HOK1.out)
              have hlen6 : (P1.L.length : Int) ≤ nn * 4 := by rw [← HI1.out.mo]; exact HLL.out
              obtain ⟨pl, hpl⟩ : ∃ pl, P1.L.length = pl := ⟨_, rfl⟩
              have HPLN := Lib.hid hpl
              rw [hpl] at hlen6
              clear hp6 hpl
              go_wp2_with fail
              go_loop [23, 24] (fun av jv => ARel P1.L av jv) (fun _ jv => 4 - (intOf jv).toNat)
              case atStart => exact ⟨0, rfl, by omega, by rw [HAZ.out]; rfl⟩
              case round =>
                obtain ⟨j, rfl, hj, rfl⟩ := hrel
                by_cases hj4 : j < 4
                · have HS := Lib.hid (busyN_succ P1.L j)
                  obtain ⟨⟨ca, cb⟩, hab⟩ : ∃ r, P1.count (j : Int) = r := ⟨_, rfl⟩
                  have e1 : ca = (cnt P1.L j : Int) - idleN P1.L j := by have := congrArg Prod.fst hab; exact this.symm
                  have e2 : cb = (idleN P1.L j : Int) := by have := congrArg Prod.snd hab; exact this.symm
                  have hsum : ca + cb ≤ nn := by rw [e1, e2]; have := HCR.out j; omega
                  have hca0 : (busyN P1.L (j + 1) : Int) = busyN P1.L j + ca := by rw [HS.out, e1]
                  have hb1 := busyN_le P1.L j
                  have hb2 := busyN_le P1.L (j + 1)
                  rw [HPLN.out] at hb1 hb2
                  have hcb0 : 0 ≤ cb := by omega
                  have hca1 : 0 ≤ ca := by
                    have h3 : (0 : Int) ≤ (cnt P1.L j : Int) - idleN P1.L j := by rw [cnt_idle]; omega
                    omega
                  have HCC : Hid (∀ w', PoolIs w' g F6 (k + 1) P1 → Calls Try.prog 20 #[.pointer (some ⟨g, 0, none⟩), .int .i64 j] w' fun e w2 => e = .returned (.tuple #[.int .i64 ca, .int .i64 cb]) ∧ w' = w2) := Lib.hid fun w' hw => by
                    have := pcount_any (j : Int) w' hw (by omega) (by omega)
                    rw [hab] at this
                    exact this
                  have HCA := Lib.hid hca0
                  have j0 : (0 : Int) ≤ j := by omega
                  have j1 : (j : Int) < 4 := by omega
                  obtain ⟨s, hs⟩ : ∃ s, busyN P1.L j = s := ⟨_, rfl⟩
                  have hcs : (s : Int) + ca ≤ 1000 := by rw [← hs, ← hca0]; omega
                  have HSS := Lib.hid hs
                  rw [hs] at hb1
                  rw [hs]
                  clear hab e1 e2 hca0 hb2 hs
                  go_wp2_with fail
                  refine (HCC.out _ HPO.out).mono ?_
                  rintro e w9 ⟨rfl, rfl⟩
                  go_wp2_with fail
                  go_round
                  case rel => exact ⟨j + 1, by go_num, by omega, by rw [HCA.out, HSS.out]⟩
                  case measure => simp [intOf]; omega
                · obtain rfl : j = 4 := by omega
                  rw [HALL.out]
                  go_wp2_with fail
                  refine (plen_any _ HPO.out).mono ?_
                  rintro e w9 ⟨rfl, rfl⟩
                  rw [HPLN.out]
                  go_wp2_with fail
                  go_roundw
                  case rel => exact ⟨k + 1, _, busy1, P1, by go_num, rfl, by omega, by omega, HI1.out, by rw [HM1.out]; omega, H6.out.out⟩
                  case measure => simp [intOf]; omega
      · as_aux_lemma =>
          obtain ⟨⟨pf, P1⟩, hput⟩ : ∃ r, P.drop a = r := ⟨_, rfl⟩
          have hib := HI.out.drop a
          rw [hput] at hib
          have HIB := Lib.hid hib
          have HG := Lib.hid hput
          have HL := Lib.hid ((HPA.out.more (N' := k + 1) (by omega) (by omega)).step (N' := k + 1) (P' := P1) (v := .int .i64 pf) (fun F h => by have := pdrop_any a wa h HWI.out.1.1 HWI.out.1.2 (by omega); rw [HG.out] at this; exact this))
          clear hput hib
          obtain ⟨ok, hok⟩ : ∃ ok, (pf == 0) = ok := ⟨_, rfl⟩
          have HI1 : Hid (BInv nn last (busy.filter (keepB a ok)) P1) := Lib.hid (by
            cases ok with
            | true => rw [keep_ne]; exact HIB.out.1 (by simpa using hok)
            | false => rw [keep_all]; exact HIB.out.2 (by simpa using hok))
          obtain ⟨busy1, hbu⟩ : ∃ l, busy.filter (keepB a ok) = l := ⟨_, rfl⟩
          have HBU := Lib.hid hbu
          have HBF : Hid (busy.filter (keepB a ok) = busy1) := Lib.hid hbu
          rw [hbu] at HI1
          have HLE : Hid (busy1.length ≤ m) := Lib.hid (by rw [← hbu, ← HM.out]; exact List.length_filter_le _ _)
          clear hbu
          go_wp2_with fail
          rw [HWA.out, HX.out]
          refine HL.out.mono ?_
          rintro e w5 ⟨rfl, hpb⟩
          have H5 := Lib.hid hpb
          obtain ⟨u0, u1, u2⟩ := hpb.cells rfl
          have hrow := hpb.row
          obtain ⟨A9, c9, hv9, -, -, hrd, -⟩ := own_slice hrow
          injection hv9 with e1 e2 e3
          subst e1
          rw [HM.out] at hrd
          have HRD := Lib.hid hrd
          have HU := Lib.hid (And.intro u0 (And.intro u1 u2))
          have hx5 : x < w5.heap.size := by obtain ⟨F, h⟩ := hpb; exact h.xl
          clear hpb hrow hrd e2 e3
          go_wp2_with fail
          clear hok u0 u1 u2 z0 z1 z2
          go_loopw [17, 18] (fun rv jv wr => RRel w5 busy a ok rv jv wr) (fun _ jv _ => m - (intOf jv).toNat)
          case atStart => exact ⟨0, rfl, by omega, Below.refl _ _, World.ownsRow_nil _ _ _ _⟩
          case round =>
            obtain ⟨j, rfl, hj, hbq, hrq⟩ := hrel
            rw [HM.out] at hj
            have HBQ := Lib.hid hbq
            have HRQ := Lib.hid hrq
            have v1 := (hbq.cell (p := ⟨x, 1, none⟩) hx5).trans HU.out.2.1
            have hszq := hbq.size
            clear hbq hrq
            by_cases hjm : j < m
            · obtain ⟨b9, o9, rfl, hb9, hc9⟩ := iv_at (HRD.out.below (B0 := w5.heap.size) HBQ.out (Nat.le_refl _)) (by omega)
              have q0 := hc9 j hjm
              have HKS := Lib.hid (keep_succ (busy := busy) (j := j) (by rw [HM.out]; exact hjm) (keepB a ok))
              obtain ⟨y, hy⟩ : ∃ y, busy.getD j 0 = y := ⟨_, rfl⟩
              have HY := Lib.hid hy
              rw [hy] at q0
              have n1 : (j : Int) < m := by omega
              have n0 : (0 : Int) ≤ j := by omega
              obtain ⟨L9, hL9⟩ : ∃ l, (busy.take j).filter (keepB a ok) = l := ⟨_, rfl⟩
              have HL9 := Lib.hid hL9
              have hl9 : L9.length ≤ j := by rw [← hL9]; exact Nat.le_trans (List.length_filter_le _ _) (List.length_take_le _ _)
              obtain ⟨lr, hlr⟩ : ∃ lr, L9.length = lr := ⟨_, rfl⟩
              have HLR := Lib.hid hlr
              rw [hL9, hlr] at HRQ
              rw [hlr] at hl9
              obtain ⟨Ar, cr, rfl, -⟩ := own_slice HRQ.out
              have z1 : ∀ d, (wr.drewN d).cell? ⟨b9, o9 + j, none⟩ = some (.int .i64 y) := fun _ => q0
              have z2 : ∀ d, (wr.drewN d).cell? ⟨x, 1, none⟩ = some (.int .i64 a) := fun _ => v1
              clear hc9 hy hL9 hlr
              by_cases hkp : y = a ∧ ok = true
              · obtain ⟨hya, hoka⟩ := hkp
                subst hya hoka
                have HKK : Hid (keepB y true y = false) := Lib.hid (by simp [keepB])
                go_wp2
                go_quiet (fail)
                go_wp2
                go_roundw
                case rel => exact ⟨j + 1, by go_num, by rw [HM.out]; omega, below_dN HBQ.out _, by rw [HKS.out, HY.out, HKK.out, HL9.out]; simp only [Bool.false_eq_true, if_false, List.append_nil]; rw [HLR.out]; exact HRQ.out⟩
                case measure => simp [intOf]; omega
              · have HKK : Hid (keepB a ok y = true) := Lib.hid (by
                  unfold keepB
                  by_cases e : y = a
                  · have : ok = false := by cases ok <;> simp_all
                    simp [this]
                  · simp [e])
                have hcase : (y != a) = true ∨ ((y != a) = false ∧ ok = false) := by
                  by_cases e : y = a
                  · right; exact ⟨by simp [e], by cases ok <;> simp_all⟩
                  · left; simpa using e
                clear hkp
                rcases hcase with hne | ⟨hne, rfl⟩
                all_goals
                  go_wp2
                  go_quiet (fail)
                  go_wp2_with (at_builtin; refine wpList_app (.tmp 162) (.tmp 167) tInts rfl rfl (World.ownsRow.alloc (w := wr.drewN _) HRQ.out _) rfl (Rd.one _ _ _) rfl (oneInt _ _) (le_maxLen (by omega)) (by omega) (by simp; omega) ?_; intro v4 w4 hown4 hg4 hv4)
                  go_roundw
                  case rel => exact ⟨j + 1, by go_num, by rw [HM.out]; omega, Below.app ((below_dN HBQ.out _).alloc hszq _) (World.ownsRow.alloc (w := wr.drewN _) HRQ.out _) hg4 (Nat.le_refl _) (by simp; omega), by rw [HKS.out, HY.out, HKK.out, HL9.out, if_pos rfl, List.length_append, HLR.out, show iv (L9 ++ [y]) = iv L9 ++ [.int .i64 y] by simp [iv]]; exact hown4⟩
                  case measure => simp [intOf]; omega
            · obtain rfl : j = m := by omega
              have hrq := HRQ.out
              rw [List.take_of_length_le (by rw [HM.out]; exact Nat.le_refl _), HBF.out] at hrq
              have H6 := Lib.hid (H5.out.fresh HBQ.out hrq)
              obtain ⟨A10, c10, rfl, -⟩ := own_slice hrq
              obtain ⟨m1, hm1⟩ : ∃ m1, busy1.length = m1 := ⟨_, rfl⟩
              have HM1 := Lib.hid hm1
              have hm1b : m1 ≤ k + 1 := by rw [← hm1]; have := HLE.out; omega
              rw [hm1] at H6 ⊢
              clear hrq hm1
              have HOK1 := Lib.hid H6.out.ok
              obtain ⟨F6, hp6⟩ := H6.out.pool
              have HPO := Lib.hid hp6
              have HCR : Hid (∀ o, (cnt P1.L o : Int) ≤ nn) := Lib.hid fun o => by rw [← HI1.out.mo]; exact HOK1.out.room o
              have HLL := Lib.hid (len_room HOK1.out)
              have HALL : Hid (busyN P1.L 4 = m1) := Lib.hid (by rw [busyN_all HOK1.out HI1.out, HM1.out])
              have HAZ := Lib.hid (busyN_zero HOK1.out)
              have hlen6 : (P1.L.length : Int) ≤ nn * 4 := by rw [← HI1.out.mo]; exact HLL.out
              obtain ⟨pl, hpl⟩ : ∃ pl, P1.L.length = pl := ⟨_, rfl⟩
              have HPLN := Lib.hid hpl
              rw [hpl] at hlen6
              clear hp6 hpl
              go_wp2_with fail
              go_loop [23, 24] (fun av jv => ARel P1.L av jv) (fun _ jv => 4 - (intOf jv).toNat)
              case atStart => exact ⟨0, rfl, by omega, by rw [HAZ.out]; rfl⟩
              case round =>
                obtain ⟨j, rfl, hj, rfl⟩ := hrel
                by_cases hj4 : j < 4
                · have HS := Lib.hid (busyN_succ P1.L j)
                  obtain ⟨⟨ca, cb⟩, hab⟩ : ∃ r, P1.count (j : Int) = r := ⟨_, rfl⟩
                  have e1 : ca = (cnt P1.L j : Int) - idleN P1.L j := by have := congrArg Prod.fst hab; exact this.symm
                  have e2 : cb = (idleN P1.L j : Int) := by have := congrArg Prod.snd hab; exact this.symm
                  have hsum : ca + cb ≤ nn := by rw [e1, e2]; have := HCR.out j; omega
                  have hca0 : (busyN P1.L (j + 1) : Int) = busyN P1.L j + ca := by rw [HS.out, e1]
                  have hb1 := busyN_le P1.L j
                  have hb2 := busyN_le P1.L (j + 1)
                  rw [HPLN.out] at hb1 hb2
                  have hcb0 : 0 ≤ cb := by omega
                  have hca1 : 0 ≤ ca := by
                    have h3 : (0 : Int) ≤ (cnt P1.L j : Int) - idleN P1.L j := by rw [cnt_idle]; omega
                    omega
                  have HCC : Hid (∀ w', PoolIs w' g F6 (k + 1) P1 → Calls Try.prog 20 #[.pointer (some ⟨g, 0, none⟩), .int .i64 j] w' fun e w2 => e = .returned (.tuple #[.int .i64 ca, .int .i64 cb]) ∧ w' = w2) := Lib.hid fun w' hw => by
                    have := pcount_any (j : Int) w' hw (by omega) (by omega)
                    rw [hab] at this
                    exact this
                  have HCA := Lib.hid hca0
                  have j0 : (0 : Int) ≤ j := by omega
                  have j1 : (j : Int) < 4 := by omega
                  obtain ⟨s, hs⟩ : ∃ s, busyN P1.L j = s := ⟨_, rfl⟩
                  have hcs : (s : Int) + ca ≤ 1000 := by rw [← hs, ← hca0]; omega
                  have HSS := Lib.hid hs
                  rw [hs] at hb1
                  rw [hs]
                  clear hab e1 e2 hca0 hb2 hs
                  go_wp2_with fail
                  refine (HCC.out _ HPO.out).mono ?_
                  rintro e w9 ⟨rfl, rfl⟩
                  go_wp2_with fail
                  go_round
                  case rel => exact ⟨j + 1, by go_num, by omega, by rw [HCA.out, HSS.out]⟩
                  case measure => simp [intOf]; omega
                · obtain rfl : j = 4 := by omega
                  rw [HALL.out]
                  go_wp2_with fail
                  refine (plen_any _ HPO.out).mono ?_
                  rintro e w9 ⟨rfl, rfl⟩
                  rw [HPLN.out]
                  go_wp2_with fail
                  go_roundw
                  case rel => exact ⟨k + 1, _, busy1, P1, by go_num, rfl, by omega, by omega, HI1.out, by rw [HM1.out]; omega, H6.out.out⟩
                  case measure => simp [intOf]; omega
      · as_aux_lemma =>
          obtain ⟨⟨xs, P1⟩, hexp⟩ : ∃ r, P.expire t = r := ⟨_, rfl⟩
          have hk0b : (kd == 0) = false := by simpa using hk0
          have hk1b : (kd == 1) = false := by simpa using hk1
          have hk2b : (kd == 2) = false := by simpa using hk2
          have hie := HI.out.expire HOK.out t
          have hmem := expire_mem HOK.out t
          rw [hexp] at hie hmem
          have HMEM := Lib.hid hmem
          clear hmem
          have HI1 := Lib.hid hie.1
          have HGO := Lib.hid hie.2
          have HL := Lib.hid ((HPA.out.more (N' := k + 1) (by omega) (by omega)).exp t HWI.out.2.1 HWI.out.2.2 (by omega) hexp)
          have hxl : xs.length ≤ 1099511627776 := by
            have h1 : xs = (P.expire t).1 := by rw [hexp]
            have h2 := HOK.out.len
            rw [h1]
            have := expire_len P t
            omega
          obtain ⟨xn, hxn⟩ : ∃ xn, xs.length = xn := ⟨_, rfl⟩
          have HXN := Lib.hid hxn
          rw [hxn] at HL hxl
          clear hexp hk0 hk1 hk2 hxn hie
          go_wp2_with fail
          rw [HWA.out, HX.out]
          refine HL.out.mono ?_
          rintro e w6 ⟨A9, c9, rfl, hpb, hrd⟩
          have H6 := Lib.hid hpb
          have HRD := Lib.hid hrd
          obtain ⟨F5, hp5⟩ := hpb.pool
          have HP5 := Lib.hid hp5
          clear hpb hrd hp5 z0 z1 z2
          go_wp2_with fail
          go_loop [20] (fun jv => JRel xn jv) (fun jv => xn - (intOf jv).toNat)
          case atStart => exact ⟨0, rfl, by omega⟩
          case round =>
            obtain ⟨j, rfl, hj⟩ := hrel
            by_cases hjm : j < xn
            · obtain ⟨b9, o9, rfl, hb9, hc9⟩ := iv_at HRD.out (by omega)
              have q0 := hc9 j hjm
              have hor : P1.origin (xs.getD j 0) = (0, false) := HGO.out _ (by
                rw [List.getD_eq_getElem?_getD, List.getElem?_eq_getElem (by rw [HXN.out]; exact hjm)]
                exact List.getElem_mem _)
              obtain ⟨y, hy⟩ : ∃ y, xs.getD j 0 = y := ⟨_, rfl⟩
              rw [hy] at q0 hor
              have HYB : Hid (-9223372036854775808 ≤ y ∧ y ≤ 9223372036854775807) := Lib.hid (by
                have h1 := HMEM.out _ (show xs.getD j 0 ∈ xs by
                  rw [List.getD_eq_getElem?_getD, List.getElem?_eq_getElem (by rw [HXN.out]; exact hjm)]
                  exact List.getElem_mem _)
                rw [hy] at h1
                have := HOK.out.la1
                omega)
              have HOR := Lib.hid hor
              have n1 : (j : Int) < xn := by omega
              have n0 : (0 : Int) ≤ j := by omega
              clear hc9 hor hy
              go_wp2_with fail
              refine (porigin_any y _ HP5.out HYB.out.1 HYB.out.2).mono ?_
              rw [HOR.out]
              rintro e w9 ⟨rfl, rfl⟩
              go_wp2_with fail
              go_round
              case rel => exact ⟨j + 1, by go_num, by omega⟩
              case measure => simp [intOf]; omega
            · obtain rfl : j = xn := by omega
              obtain ⟨busy1, hbu⟩ : ∃ l, busy = l := ⟨_, rfl⟩
              obtain ⟨m1, hm1⟩ : ∃ m1, m = m1 := ⟨_, rfl⟩
              subst hbu hm1
              have HM1 := Lib.hid HM.out
              have hm1b : m ≤ k + 1 := by omega
              have HOK1 := Lib.hid H6.out.ok
              obtain ⟨F6, hp6⟩ := H6.out.pool
              have HPO := Lib.hid hp6
              have HCR : Hid (∀ o, (cnt P1.L o : Int) ≤ nn) := Lib.hid fun o => by rw [← HI1.out.mo]; exact HOK1.out.room o
              have HLL := Lib.hid (len_room HOK1.out)
              have HALL : Hid (busyN P1.L 4 = m) := Lib.hid (by rw [busyN_all HOK1.out HI1.out, HM1.out])
              have HAZ := Lib.hid (busyN_zero HOK1.out)
              have hlen6 : (P1.L.length : Int) ≤ nn * 4 := by rw [← HI1.out.mo]; exact HLL.out
              obtain ⟨pl, hpl⟩ : ∃ pl, P1.L.length = pl := ⟨_, rfl⟩
              have HPLN := Lib.hid hpl
              rw [hpl] at hlen6
              clear hp6 hpl
              go_wp2_with fail
              go_loop [23, 24] (fun av jv => ARel P1.L av jv) (fun _ jv => 4 - (intOf jv).toNat)
              case atStart => exact ⟨0, rfl, by omega, by rw [HAZ.out]; rfl⟩
              case round =>
                obtain ⟨j, rfl, hj, rfl⟩ := hrel
                by_cases hj4 : j < 4
                · have HS := Lib.hid (busyN_succ P1.L j)
                  obtain ⟨⟨ca, cb⟩, hab⟩ : ∃ r, P1.count (j : Int) = r := ⟨_, rfl⟩
                  have e1 : ca = (cnt P1.L j : Int) - idleN P1.L j := by have := congrArg Prod.fst hab; exact this.symm
                  have e2 : cb = (idleN P1.L j : Int) := by have := congrArg Prod.snd hab; exact this.symm
                  have hsum : ca + cb ≤ nn := by rw [e1, e2]; have := HCR.out j; omega
                  have hca0 : (busyN P1.L (j + 1) : Int) = busyN P1.L j + ca := by rw [HS.out, e1]
                  have hb1 := busyN_le P1.L j
                  have hb2 := busyN_le P1.L (j + 1)
                  rw [HPLN.out] at hb1 hb2
                  have hcb0 : 0 ≤ cb := by omega
                  have hca1 : 0 ≤ ca := by
                    have h3 : (0 : Int) ≤ (cnt P1.L j : Int) - idleN P1.L j := by rw [cnt_idle]; omega
                    omega
                  have HCC : Hid (∀ w', PoolIs w' g F6 (k + 1) P1 → Calls Try.prog 20 #[.pointer (some ⟨g, 0, none⟩), .int .i64 j] w' fun e w2 => e = .returned (.tuple #[.int .i64 ca, .int .i64 cb]) ∧ w' = w2) := Lib.hid fun w' hw => by
                    have := pcount_any (j : Int) w' hw (by omega) (by omega)
                    rw [hab] at this
                    exact this
                  have HCA := Lib.hid hca0
                  have j0 : (0 : Int) ≤ j := by omega
                  have j1 : (j : Int) < 4 := by omega
                  obtain ⟨s, hs⟩ : ∃ s, busyN P1.L j = s := ⟨_, rfl⟩
                  have hcs : (s : Int) + ca ≤ 1000 := by rw [← hs, ← hca0]; omega
                  have HSS := Lib.hid hs
                  rw [hs] at hb1
                  rw [hs]
                  clear hab e1 e2 hca0 hb2 hs
                  go_wp2_with fail
                  refine (HCC.out _ HPO.out).mono ?_
                  rintro e w9 ⟨rfl, rfl⟩
                  go_wp2_with fail
                  go_round
                  case rel => exact ⟨j + 1, by go_num, by omega, by rw [HCA.out, HSS.out]⟩
                  case measure => simp [intOf]; omega
                · obtain rfl : j = 4 := by omega
                  rw [HALL.out]
                  go_wp2_with fail
                  refine (plen_any _ HPO.out).mono ?_
                  rintro e w9 ⟨rfl, rfl⟩
                  rw [HPLN.out]
                  go_wp2_with fail
                  go_roundw
                  case rel => exact ⟨k + 1, _, busy, P1, by go_num, rfl, by omega, by omega, HI1.out, by rw [HM1.out]; omega, H6.out.out⟩
                  case measure => simp [intOf]; omega
    · have hex : (n : Int) ≤ k ∨ ((k : Int) < n ∧ (150 : Int) ≤ k) := by omega
      rcases hex with n1 | ⟨n1, n2⟩
      all_goals
        go_wp2
        go_ret
        exact ⟨rfl, HPP.out.bel⟩
end Go.Proofs.Ytidfokfnigncmaa
