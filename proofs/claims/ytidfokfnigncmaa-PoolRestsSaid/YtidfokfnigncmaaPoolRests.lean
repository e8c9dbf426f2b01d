/- The walk of drawbridgelaw16.PoolRests. -/
import Derived.Test.YtidfokfnigncmaaPoolAwake
import Derived.Test.YtidfokfnigncmaaRestPlain
namespace Go.Proofs.Ytidfokfnigncmaa
open Go.RowKit

theorem tI64 : SlT Try.prog 35 2 (.int .i64 0) 1 8 := ⟨Try.underlying35, by kernel_rfl, rfl, by decide⟩
/-- The pool, and the times beside it. -/
def RestIs (W w : World) (g N : Nat) (P : Pl) (tv : Value) (ts : List Int) : Prop :=
  ∃ F, PoolIs w g F N P ∧ New W F ∧ w.ownsRow W.heap.size 2 1 tv ts.length (iv ts) ∧ (∀ q, tv.ownBlock = some q → ¬ F q) ∧ Below W.heap.size W w
section
variable {W w w' : World} {g N N' : Nat} {P P' : Pl} {tv : Value} {ts : List Int} {fn : FuncId} {args : Array Value} {v : Value}
theorem own_kept {base n : Nat} {e : TypeId} {size : Nat} {xs : List Value} {F : Nat → Prop} (h : w.ownsRow base e size v n xs) (hk : Kept F w w') (hF : ∀ q, v.ownBlock = some q → ¬ F q) : w'.ownsRow base e size v n xs := by
  rcases h with ⟨hl, ⟨rfl, h0⟩ | ⟨g, cap, cur, hv, hg, hb, h3⟩⟩
  · exact ⟨hl, .inl ⟨rfl, h0⟩⟩
  · exact ⟨hl, .inr ⟨g, cap, cur, hv, hg, (hk.block g (Array.getElem?_eq_some_iff.1 hb).1 (hF g (by rw [hv]; rfl))).trans hb, h3⟩⟩
theorem RestIs.step (h : RestIs W w g N P tv ts) (hc : ∀ F, PoolIs w g F N P → Calls Try.prog fn args w (PStep w g F N' P' v)) : Calls Try.prog fn args w fun e w' => e = .returned v ∧ RestIs W w' g N' P' tv ts := by
  obtain ⟨F, hp, hn, ho, hF, hb⟩ := h
  refine (hc F hp).mono ?_
  rintro e w' ⟨he, F', hp', hk, hg⟩
  exact ⟨he, F', hp', hn.grew hg hb.size, own_kept ho hk hF, fun q hq h1 => (hg q h1).elim (hF q hq) (fun h2 => by have := (ho.lt q hq).2; omega), hn.below hb hk⟩
theorem RestIs.expire (h : RestIs W w g N P tv ts) (now : Int) (h0 : -9223372036854775808 ≤ now) (h1 : now ≤ 9223372036854775807) (hN : N ≤ 549755813888) :
    Calls Try.prog 13 #[.pointer (some ⟨g, 0, none⟩), .int .i64 now] w fun e w' => ∃ A c, e = .returned (.slice A (P.expire now).1.length c) ∧ RestIs W w' g N (P.expire now).2 tv ts := by
  obtain ⟨F, hp, hn, ho, hF, hb⟩ := h
  refine (pexpire_any now w hp h0 h1 hN).mono ?_
  rintro e w' ⟨ov, F', rfl, hov, hp', hsub, hk⟩
  obtain ⟨A, c, rfl, -⟩ := own_slice hov
  exact ⟨A, c, rfl, F', hp', fun k hk' => hn k (hsub k hk'), own_kept ho hk hF, fun q hq h1 => hF q hq (hsub q h1), hn.below hb hk⟩
theorem RestIs.ok (h : RestIs W w g N P tv ts) : PlOk N P := by
  obtain ⟨F, hp, _⟩ := h
  exact hp.ok
theorem RestIs.bel (h : RestIs W w g N P tv ts) : Below W.heap.size W w := by
  obtain ⟨F, hp, hn, ho, hF, hb⟩ := h
  exact hb
theorem RestIs.row (h : RestIs W w g N P tv ts) : w.ownsRow W.heap.size 2 1 tv ts.length (iv ts) := by
  obtain ⟨F, hp, hn, ho, hF, hb⟩ := h
  exact ho
theorem RestIs.more (h : RestIs W w g N P tv ts) (hn : N ≤ N') (hf : N' ≤ 1099511627776) : RestIs W w g N' P tv ts := by
  obtain ⟨F, hp, hnn, h2⟩ := h
  exact ⟨F, hp.more hn hf, hnn, h2⟩
/-- One time more. -/
theorem RestIs.app (h : RestIs W w g N P tv ts) {o : Obj} {v4 : Value} {w4 : World} {t : Int} (hown : w4.ownsRow W.heap.size 2 1 v4 (ts.length + 1) (iv ts ++ [.int .i64 t])) (hg : (w.alloc o).grownBy w4 tv.ownBlock) (hv : v4.ownBlock = tv.ownBlock ∨ v4.ownBlock = some (w.alloc o).heap.size) :
    RestIs W w4 g N P v4 (ts ++ [t]) := by
  obtain ⟨F, hp, hn, ho, hF, hb⟩ := h
  refine ⟨F, hp.keep (fun k hk => (hg.block k (by have := hp.lt k hk; simp; omega) (fun e => hF k e.symm hk)).trans (Below.heap_alloc _ _ _ (hp.lt k hk))), hn, ?_, fun q hq h1 => ?_, Below.app (hb.alloc hb.size _) (ho.alloc _) hg (Nat.le_refl _) (by have := hb.size; simp; omega)⟩
  · rw [List.length_append, show iv (ts ++ [t]) = iv ts ++ [.int .i64 t] by simp [iv]]; exact hown
  · rcases hv with h2 | h2
    · exact hF q (h2 ▸ hq) h1
    · rw [h2] at hq
      injection hq with hq
      have := hp.lt q h1
      simp at hq
      omega
end
def R1 (W : World) (g o n : Nat) (wait : Int) (tv kv : Value) (wr : World) : Prop :=
  ∃ k : Nat, kv = .int .i64 k ∧ k ≤ n ∧ k ≤ 4 ∧ ∃ ts : List Int, ts.length = k ∧ (∀ t ∈ ts, 0 ≤ t ∧ t ≤ 255) ∧ RestIs W wr g k ⟨4, wait, k, LQ o [] k 0⟩ tv ts
def R2 (W : World) (g o : Nat) (wait : Int) (tv : Value) (ts : List Int) (jv : Value) (wr : World) : Prop :=
  ∃ j : Nat, jv = .int .i64 j ∧ j ≤ ts.length ∧ RestIs W wr g 4 ⟨4, wait, ts.length, LQ o ts ts.length j⟩ tv ts
def R3 (ts : List Int) (lim : Int) (nv jv : Value) : Prop := ∃ j : Nat, jv = .int .i64 j ∧ j ≤ ts.length ∧ nv = .int .i64 ((ts.take j).countP (fun t => decide (lim < t)) : Nat)
def R4 (W : World) (g o left : Nat) (lim : Int) (tv : Value) (ts : List Int) (bv iv : Value) (wr : World) : Prop :=
  ∃ (i : Nat) (b : Int) (P : Pl), iv = .int .i64 i ∧ bv = .int .i64 b ∧ i ≤ left ∧ RestInv o ts lim b left i P ∧ RestIs W wr g (4 + i) P tv ts
theorem times_at {w : World} {base : Nat} {A : Option Addr} {c : Nat} {ts : List Int} (h : w.ownsRow base 2 1 (.slice A ts.length c) ts.length (iv ts)) {j : Nat} (hj : j < ts.length) :
    ∃ q, A = some ⟨q, 0, none⟩ ∧ q < w.heap.size ∧ w.cell? ⟨q, j, none⟩ = some (.int .i64 (ts.getD j 0)) := by
  obtain ⟨b, o, hA, hb, hc⟩ := (Rd.of_own h).2 (by omega)
  obtain ⟨g, cap, hv, _⟩ := h.form (by omega)
  injection hv with e1
  rw [hA] at e1
  injection e1 with e1
  injection e1 with e1 e2
  subst e1 e2
  refine ⟨b, hA, hb, ?_⟩
  have := hc j (by omega)
  rw [Nat.zero_add] at this
  rw [this, List.getD_eq_getElem?_getD]
  unfold iv
  rw [List.getElem?_map, List.getElem?_eq_getElem hj]; rfl
theorem getD_bd {ts : List Int} (h : ∀ t ∈ ts, 0 ≤ t ∧ t ≤ 255) (j : Nat) : 0 ≤ ts.getD j 0 ∧ ts.getD j 0 ≤ 255 := by
  rw [List.getD_eq_getElem?_getD]
  cases hj : ts[j]? with
  | none => simp
  | some t => exact h t (List.mem_of_getElem? hj)
theorem take_countI {H : List Int} {p : Int → Bool} {k : Nat} (hk : k < H.length) : (H.take (k + 1)).countP p = (H.take k).countP p + if p (H.getD k 0) then 1 else 0 := by
  rw [List.take_add_one, List.getElem?_eq_getElem hk, Option.toList_some, List.countP_append, List.getD_eq_getElem?_getD, List.getElem?_eq_getElem hk]
  simp [List.countP_cons]
set_option maxRecDepth 100000 in
set_option maxHeartbeats 4000000 in
theorem prests_any {n c : Nat} {A : Option Addr} {l : List UInt8} (a x y : Int) (w : World) (hr : Rd w w.heap.size 1 A n (bvs l)) (ha0 : 0 ≤ a) (ha1 : a < 256) (hx0 : 0 ≤ x) (hx1 : x < 256) (hy0 : 0 ≤ y) (hy1 : y < 256) (hn : n ≤ 140737488351232) :
    Calls Try.prog 4 #[.int .u8 a, .slice A n c, .agg #[.int .u8 x, .int .u8 y]] w (RetT w) := by
  obtain ⟨W0, hW0⟩ : ∃ W0, w.alloc (.cells #[.int .u8 x, .int .u8 y] 34) = W0 := ⟨_, rfl⟩
  obtain ⟨p, hp⟩ : ∃ p, w.heap.size = p := ⟨_, rfl⟩
  have f0 : W0.cell? ⟨p, 0, none⟩ = some (.int .u8 x) := by rw [← hW0, ← hp]; exact World.cell?_alloc_at _ _ _ _ rfl
  have f1 : W0.cell? ⟨p, 1, none⟩ = some (.int .u8 y) := by rw [← hW0, ← hp]; exact World.cell?_alloc_at _ _ _ _ rfl
  have b0 : Below w.heap.size w W0 := by rw [← hW0]; exact (Below.refl _ _).alloc (Nat.le_refl _) _
  have hpl : p < W0.heap.size := by rw [← hW0, ← hp]; simp
  have HW := Lib.hid hW0
  have HP := Lib.hid hp
  have HB0 := Lib.hid b0
  have HR := Lib.hid hr
  obtain ⟨o, ho⟩ : ∃ o : Nat, a % 4 = o := ⟨(a % 4).toNat, by omega⟩
  have ho4 : o < 4 := by omega
  have HOO := Lib.hid ho
  obtain ⟨wait, hwt⟩ : ∃ wait : Int, x % 50 + 1 = wait := ⟨_, rfl⟩
  have hw0 : 1 ≤ wait := by omega
  have hw1 : wait ≤ 50 := by omega
  have HWT := Lib.hid hwt
  clear hr ho hwt hW0 hp b0
  go_enter Try.func4, Try.ntmps4
  go_wp2_with fail
  rw [HW.out, HP.out]
  refine (awake16_any W0).mono ?_
  rintro e w1 ⟨rfl, hb⟩
  have g0 := (hb.cell (p := ⟨p, 0, none⟩) hpl).trans f0
  have g1 := (hb.cell (p := ⟨p, 1, none⟩) hpl).trans f1
  have HB1 := Lib.hid (HB0.out.trans (hb.mono HB0.out.size))
  clear hb f0 f1
  go_wp2_with fail
  rw [HOO.out, HWT.out]
  refine (own_pnew 4 wait HB1.out (by decide) (by decide) hw0 (by omega)).mono ?_
  rintro e w2 ⟨g, rfl, ho, -, -⟩
  have hre : RestIs w w2 g 0 ⟨4, wait, ((0 : Nat) : Int), LQ o [] 0 0⟩ (.slice none 0 0) [] := by
    obtain ⟨F, hp, hn, hb⟩ := ho
    exact ⟨F, hp, hn, World.ownsRow_nil _ _ _ _, (fun q hq => by cases hq), hb⟩
  have HRE := Lib.hid hre
  clear ho hre g0 g1
  go_wp2_with fail
  go_loopw [13, 14] (fun tv kv wr => R1 w g o n wait tv kv wr) (fun _ kv _ => n - (intOf kv).toNat)
  case atStart => exact ⟨0, rfl, by omega, by omega, [], rfl, (fun t ht => by cases ht), HRE.out⟩
  case round =>
    obtain ⟨k, rfl, hk, hk4, ts, hts, hbd, hre0⟩ := hrel
    have HRE := Lib.hid hre0
    have HBD := Lib.hid hbd
    have HTS := Lib.hid hts
    have hrow := hre0.row
    obtain ⟨A5, c5, rfl, -⟩ := own_slice hrow
    have hrr := HR.out.below hre0.bel (Nat.le_refl _)
    have HRR := Lib.hid hrr
    clear hre0 hbd hrow hrr
    rw [hts]
    clear hts
    by_cases hlt : k < n ∧ k < 4
    · obtain ⟨hlt, hlt2⟩ := hlt
      obtain ⟨-, b, oo, rfl, hbl, hc⟩ := HRR.out.bas (by omega)
      have q0 := hc k hlt
      have hba := ba_lt l k
      obtain ⟨x', hx'⟩ : ∃ x', ba l k = x' := ⟨_, rfl⟩
      have HXX := Lib.hid hx'
      rw [hx'] at q0 hba
      have n1 : (k : Int) < n := by omega
      have n2 : (k : Int) < 4 := by omega
      have n0 : (0 : Int) ≤ k := by omega
      have hget := Lib.hid (rest_get (now := 0) HRE.out.ok hlt2 ho4 (by decide) (by decide))
      clear hc hx'
      go_wp2_with fail
      refine (HRE.out.step (N' := k + 1) (P' := ⟨4, wait, (k : Int) + 1, LQ o [] (k + 1) 0⟩) (v := .tuple #[.int .i64 ((k : Int) + 1), .bool true, .int .i64 0]) (fun F h => by have := pget_ok (o := o) 0 wr h ho4 (by decide) (by decide) (by omega); rw [hget.out] at this; exact this)).mono ?_
      rintro e w3 ⟨rfl, hre3⟩
      have H3 := Lib.hid hre3
      have hsz3 := hre3.bel.size
      have hrow3 := hre3.row
      rw [HTS.out] at hrow3
      have HROW := Lib.hid hrow3
      have q0' : w3.cell? ⟨b, oo + k, none⟩ = some (.int .u8 (x' : Int)) := by
        obtain ⟨-, b2, oo2, hA2, -, hc2⟩ := (HR.out.below hre3.bel (Nat.le_refl _)).bas (by omega)
        cases hA2
        have := hc2 k hlt
        rwa [HXX.out] at this
      clear hre3 hrow3
      go_wp2_with (at_builtin; refine wpList_app (.tmp 77) (.tmp 83) tI64 rfl rfl (World.ownsRow.alloc HROW.out _) rfl (Rd.one _ _ _) rfl (oneInt _ _) (le_maxLen (by omega)) (by omega) (by simp; omega) ?_; intro v4 w4 hown4 hg4 hv4)
      go_roundw
      case rel =>
        refine ⟨k + 1, by go_num, by omega, by omega, ts ++ [(x' : Int)], by rw [List.length_append, HTS.out]; rfl, fun t ht => ?_, ?_⟩
        · rcases List.mem_append.1 ht with h1 | h1
          · exact HBD.out t h1
          · have : t = (x' : Int) := by simpa using h1
            omega
        · have h3 := H3.out
          rw [HTS.out] at h3
          exact h3.app (t := (x' : Int)) (by rw [HTS.out]; exact hown4) hg4 hv4
      case measure => simp [intOf]; omega
    · have hex : (n : Int) ≤ k ∨ ((k : Int) < n ∧ (4 : Int) ≤ k) := by omega
      have hre1 := HRE.out.more (N' := 4) hk4 (by decide)
      rw [LQ_zero (o : Int) [] ts k, HTS.out] at hre1
      have hre2 : RestIs w wr g 4 ⟨4, wait, (ts.length : Int), LQ o ts ts.length 0⟩ (.slice A5 k c5) ts := by rw [HTS.out]; exact hre1
      have HRE2 := Lib.hid hre2
      obtain ⟨lim, hlim⟩ : ∃ lim : Int, y - wait = lim := ⟨_, rfl⟩
      have HLIM := Lib.hid hlim
      have hlb : -50 ≤ lim ∧ lim ≤ 255 := by omega
      clear hre1 hre2 hlim
      rcases hex with n1 | ⟨n1, n2⟩
      all_goals
        go_wp2_with fail
        go_loopw [18] (fun jv wr => R2 w g o wait (.slice A5 k c5) ts jv wr) (fun jv _ => k - (intOf jv).toNat)
        case atStart => exact ⟨0, rfl, by omega, HRE2.out⟩
        case round =>
          obtain ⟨j, rfl, hj, hre0⟩ := hrel
          have HR0 := Lib.hid hre0
          rw [HTS.out] at hj
          by_cases hjk : j < k
          · have hrow := hre0.row
            rw [← HTS.out] at hrow
            obtain ⟨q, hAq, hq, q0⟩ := times_at hrow (by rw [HTS.out]; exact hjk)
            have htb := getD_bd HBD.out j
            have hp0 := rest_put HR0.out.ok (by rw [HTS.out]; exact hjk) htb.1 (by omega)
            obtain ⟨t, ht⟩ : ∃ t, ts.getD j 0 = t := ⟨_, rfl⟩
            have HT := Lib.hid ht
            rw [ht] at q0 htb hp0
            have hp1 := Lib.hid hp0
            have m1 : (j : Int) < k := by omega
            have m0 : (0 : Int) ≤ j := by omega
            subst hAq
            clear hrow ht hre0 hp0
            go_wp2_with fail
            refine (HR0.out.step (N' := 4) (P' := ⟨4, wait, (ts.length : Int), LQ o ts ts.length (j + 1)⟩) (v := .int .i64 0) (fun F h => by have := pput_any ((j : Int) + 1) t wr h (by omega) (by omega) (by decide); rw [hp1.out] at this; exact this)).mono ?_
            rintro e w3 ⟨rfl, hre3⟩
            have hrow3 := hre3.row
            rw [← HTS.out] at hrow3
            obtain ⟨q', hA', -, q1⟩ := times_at hrow3 (by rw [HTS.out]; exact hjk)
            cases hA'
            rw [HT.out] at q1
            have hp3 := rest_again hre3.ok (by rw [HTS.out]; exact hjk) (by rw [HT.out]; exact htb.1) (by rw [HT.out]; omega)
            rw [HT.out] at hp3
            have hp2 := Lib.hid hp3
            clear hp3
            have H3 := Lib.hid hre3
            clear hre3 hrow3
            go_wp2_with fail
            refine (H3.out.step (N' := 4) (P' := ⟨4, wait, (ts.length : Int), LQ o ts ts.length (j + 1)⟩) (v := .int .i64 5) (fun F h => by have := pput_any ((j : Int) + 1) t w3 h (by omega) (by omega) (by decide); rw [hp2.out] at this; exact this)).mono ?_
            rintro e w4 ⟨rfl, hre4⟩
            have H4 := Lib.hid hre4
            clear hre4
            go_wp2_with fail
            go_roundw
            case rel => exact ⟨j + 1, by go_num, by rw [HTS.out]; omega, H4.out⟩
            case measure => simp [intOf]; omega
          · have hjj : j = ts.length := by rw [HTS.out]; omega
            have hjk2 : j = k := by omega
            rw [hjj] at hre0
            obtain ⟨e1, e2⟩ := rest_expire (now := y) hre0.ok HBD.out
            have HR1 := Lib.hid hre0
            rw [HLIM.out] at e1 e2
            obtain ⟨left, hleft⟩ : ∃ left, ts.countP (fun t => decide (lim < t)) = left := ⟨_, rfl⟩
            have HLEFT := Lib.hid hleft
            rw [hleft] at e1 e2
            have HE2 := Lib.hid e2
            have HEXP := Lib.hid (hre0.expire y (by omega) (by omega) (by decide))
            obtain ⟨gl, hgl⟩ : ∃ gl, ((⟨4, wait, (ts.length : Int), LQ o ts ts.length ts.length⟩ : Pl).expire y).1.length = gl := ⟨_, rfl⟩
            rw [hgl] at e1 HEXP
            rw [HTS.out] at e1
            obtain ⟨PE, hPE⟩ : ∃ PE, ((⟨4, wait, (ts.length : Int), LQ o ts ts.length ts.length⟩ : Pl).expire y).2 = PE := ⟨_, rfl⟩
            rw [hPE] at HE2 HEXP
            subst hjk2
            clear e2 hre0 hjj hleft hgl hPE
            go_wp2_with fail
            refine HEXP.out.mono ?_
            rintro e w5 ⟨A6, c6, rfl, hre5⟩
            have H5 := Lib.hid hre5
            have hrow5 := hre5.row
            rw [← HTS.out] at hrow5
            have HROW5 := Lib.hid hrow5
            clear hre5 hrow5
            go_wp2_with fail
            go_loop [20, 21] (fun nv jv => R3 ts lim nv jv) (fun _ jv => j - (intOf jv).toNat)
            case atStart => exact ⟨0, rfl, by omega, rfl⟩
            case round =>
              obtain ⟨i, rfl, hi, rfl⟩ := hrel
              rw [HTS.out] at hi
              by_cases hij : i < j
              · obtain ⟨q, hAq, hq, q0⟩ := times_at HROW5.out (j := i) (by rw [HTS.out]; exact hij)
                have htb := getD_bd HBD.out i
                have HTK := Lib.hid (take_countI (p := fun t => decide (lim < t)) (H := ts) (k := i) (by rw [HTS.out]; exact hij))
                obtain ⟨t, ht⟩ : ∃ t, ts.getD i 0 = t := ⟨_, rfl⟩
                have HT := Lib.hid ht
                rw [ht] at q0 htb
                have hcl : (ts.take i).countP (fun t => decide (lim < t)) ≤ i := Nat.le_trans List.countP_le_length (List.length_take_le _ _)
                obtain ⟨cc, hcc⟩ : ∃ cc, (ts.take i).countP (fun t => decide (lim < t)) = cc := ⟨_, rfl⟩
                have HCC := Lib.hid hcc
                rw [hcc] at hcl ⊢
                have m1 : (i : Int) < j := by omega
                have m0 : (0 : Int) ≤ i := by omega
                subst hAq
                clear ht hcc
                by_cases hlt3 : lim < t
                · have hy : y - wait < t := by rw [HLIM.out]; exact hlt3
                  have HD : Hid (decide (lim < t) = true) := Lib.hid (by simpa using hlt3)
                  go_wp2_with fail
                  go_round
                  case rel => exact ⟨i + 1, by go_num, by rw [HTS.out]; omega, by rw [HTK.out, HCC.out, HT.out, HD.out, if_pos rfl]; go_num⟩
                  case measure => simp [intOf]; omega
                · have hy : ¬ y - wait < t := by rw [HLIM.out]; exact hlt3
                  have HD : Hid (decide (lim < t) = false) := Lib.hid (by simpa using hlt3)
                  go_wp2_with fail
                  go_round
                  case rel => exact ⟨i + 1, by go_num, by rw [HTS.out]; omega, by rw [HTK.out, HCC.out, HT.out, HD.out]; simp⟩
                  case measure => simp [intOf]; omega
              · obtain rfl : i = j := by omega
                have htk : (ts.take i).countP (fun t => decide (lim < t)) = left := by rw [List.take_of_length_le (by rw [HTS.out]; exact Nat.le_refl _)]; exact HLEFT.out
                rw [htk]
                have hgb : ((gl : Int) != (i : Int) - (left : Int)) = false := by
                  have : (gl : Int) = (i : Int) - (left : Int) := by omega
                  simp [this]
                clear htk
                go_wp2_with fail
                go_loopw [22, 23] (fun bv iv' wr => R4 w g o left lim (.slice A5 i c5) ts bv iv' wr) (fun _ iv' _ => left - (intOf iv').toNat)
                case atStart => exact ⟨0, 1099511627776, PE, rfl, rfl, by omega, HE2.out, H5.out⟩
                case round =>
                  obtain ⟨z, bb, P, rfl, rfl, hz, hinv, hre6⟩ := hrel
                  have HINV := Lib.hid hinv
                  have H6 := Lib.hid hre6
                  clear hinv hre6
                  by_cases hzl : z < left
                  · obtain ⟨jj, P', hget, hj1, hj2, hj3, hinv'⟩ := rest_best (now := 300) H6.out.ok HINV.out hzl ho4 (by decide) (by decide)
                    rw [HTS.out] at hj1
                    have htb := getD_bd HBD.out jj
                    obtain ⟨t, ht⟩ : ∃ t, ts.getD jj 0 = t := ⟨_, rfl⟩
                    have HT := Lib.hid ht
                    rw [ht] at hj2 hj3 htb hinv'
                    have HG := Lib.hid hget
                    have HIN := Lib.hid hinv'
                    have m1 : (z : Int) < left := by omega
                    have m0 : (0 : Int) ≤ jj := by omega
                    have m2 : (jj : Int) < i := by omega
                    have hy : y - wait < t := by rw [HLIM.out]; exact hj2
                    clear hget hinv' ht
                    go_wp2_with fail
                    refine (H6.out.step (N' := 4 + z + 1) (P' := P') (v := .tuple #[.int .i64 ((jj : Int) + 1), .bool false, .int .i64 0]) (fun F h => by have := pget_ok (o := o) 300 wr h ho4 (by decide) (by decide) (by omega); rw [HG.out] at this; exact this)).mono ?_
                    rintro e w7 ⟨rfl, hre7⟩
                    have hrow7 := hre7.row
                    rw [← HTS.out] at hrow7
                    obtain ⟨q, hAq, -, q0⟩ := times_at hrow7 (j := jj) (by rw [HTS.out]; exact hj1)
                    rw [HT.out] at q0
                    have H7 := Lib.hid hre7
                    subst hAq
                    clear hre7 hrow7
                    go_wp2_with fail
                    go_roundw
                    case rel => exact ⟨z + 1, t, P', by go_num, rfl, by omega, HIN.out, H7.out⟩
                    case measure => simp [intOf]; omega
                  · obtain rfl : z = left := by omega
                    obtain ⟨a', P', ⟨h4, hget⟩ | ⟨h4, hget⟩⟩ := rest_last (now := 300) H6.out.ok HINV.out ho4 (by decide) (by decide)
                    · have HG := Lib.hid hget
                      have h4b : (z : Int) = 4 := by omega
                      clear hget
                      go_wp2_with fail
                      refine (H6.out.step (N' := 4 + z + 1) (P' := P') (v := .tuple #[.int .i64 0, .bool false, .int .i64 3]) (fun F h => by have := pget_ok (o := o) 300 wr h ho4 (by decide) (by decide) (by omega); rw [HG.out] at this; exact this)).mono ?_
                      rintro e w7 ⟨rfl, hre7⟩
                      have H7 := Lib.hid hre7
                      clear hre7
                      subst h4
                      go_wp2_with fail
                      go_ret
                      exact ⟨rfl, H7.out.bel⟩
                    · have HG := Lib.hid hget
                      have h4b : (z : Int) < 4 := by omega
                      have h4n : ((z : Int) == 4) = false := by rw [beq_eq_false_iff_ne]; omega
                      clear hget
                      go_wp2_with fail
                      refine (H6.out.step (N' := 4 + z + 1) (P' := P') (v := .tuple #[.int .i64 a', .bool true, .int .i64 0]) (fun F h => by have := pget_ok (o := o) 300 wr h ho4 (by decide) (by decide) (by omega); rw [HG.out] at this; exact this)).mono ?_
                      rintro e w7 ⟨rfl, hre7⟩
                      have H7 := Lib.hid hre7
                      clear hre7
                      go_wp2_with fail
                      go_ret
                      exact ⟨rfl, H7.out.bel⟩
end Go.Proofs.Ytidfokfnigncmaa
