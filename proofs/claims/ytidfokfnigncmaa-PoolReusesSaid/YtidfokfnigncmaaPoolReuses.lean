/- The walk of drawbridgelaw16.PoolReuses. -/
import Derived.Test.YtidfokfnigncmaaPoolAwake
import Derived.Test.YtidfokfnigncmaaReusePlain
namespace Go.Proofs.Ytidfokfnigncmaa
open Go.RowKit

def idsCells (ids : Nat → Int) : Array Value := #[.int .i64 (ids 0), .int .i64 (ids 1), .int .i64 (ids 2), .int .i64 (ids 3)]
theorem ids_cell {w : World} {t : Nat} {ids : Nat → Int} (h : w.heap[t]? = some (.cells (idsCells ids) 3 (0, 0))) {o : Nat} (ho : o < 4) : w.cell? ⟨t, o, none⟩ = some (.int .i64 (ids o)) := by
  unfold World.cell?; rw [h]
  match o, ho with
  | 0, _ => rfl
  | 1, _ => rfl
  | 2, _ => rfl
  | 3, _ => rfl
theorem ids_set {w : World} {t : Nat} {ids : Nat → Int} (h : w.heap[t]? = some (.cells (idsCells ids) 3 (0, 0))) {o : Nat} (ho : o < 4) (v : Int) : (w.setCell ⟨t, o, none⟩ (.int .i64 v)).heap[t]? = some (.cells (idsCells (updI ids o v)) 3 (0, 0)) := by
  rw [set_block h]
  match o, ho with
  | 0, _ => rfl
  | 1, _ => rfl
  | 2, _ => rfl
  | 3, _ => rfl
/-- The pool and the numbers, apart. -/
def ReuseIs (W w : World) (g t N : Nat) (ids : Nat → Int) (P : Pl) : Prop :=
  ∃ F, PoolIs w g F N P ∧ New W F ∧ ¬ F t ∧ W.heap.size ≤ t ∧ w.heap[t]? = some (.cells (idsCells ids) 3 (0, 0)) ∧ Below W.heap.size W w
theorem ReuseIs.step {W w : World} {g t N N' : Nat} {ids : Nat → Int} {P P' : Pl} {fn : FuncId} {args : Array Value} {v : Value} (h : ReuseIs W w g t N ids P) (hc : ∀ F, PoolIs w g F N P → Calls Try.prog fn args w (PStep w g F N' P' v)) :
    Calls Try.prog fn args w fun e w' => e = .returned v ∧ ReuseIs W w' g t N' ids P' := by
  obtain ⟨F, hp, hn, hF, hW, ht, hb⟩ := h
  refine (hc F hp).mono ?_
  rintro e w' ⟨he, F', hp', hk, hg⟩
  have htl := (Array.getElem?_eq_some_iff.1 ht).1
  exact ⟨he, F', hp', hn.grew hg hb.size, fun h => (hg t h).elim hF (fun h2 => by omega), hW, (hk.block t htl hF).trans ht, hn.below hb hk⟩
theorem ReuseIs.set {W w : World} {g t N : Nat} {ids : Nat → Int} {P : Pl} (h : ReuseIs W w g t N ids P) {o : Nat} (ho : o < 4) (v : Int) : ReuseIs W (w.setCell ⟨t, o, none⟩ (.int .i64 v)) g t N (updI ids o v) P := by
  obtain ⟨F, hp, hn, hF, hW, ht, hb⟩ := h
  exact ⟨F, hp.keep (fun k hk => set_other _ (fun e => hF (e ▸ hk))), hn, hF, hW, ids_set ht ho v, hb.setCell hW _⟩
theorem ReuseIs.at_ {W w : World} {g t N : Nat} {ids : Nat → Int} {P : Pl} (h : ReuseIs W w g t N ids P) {o : Nat} (ho : o < 4) : w.cell? ⟨t, o, none⟩ = some (.int .i64 (ids o)) ∧ w.frozen? ⟨t, o, none⟩ = false := by
  obtain ⟨F, hp, hn, hF, hW, ht, hb⟩ := h
  exact ⟨ids_cell ht ho, by unfold World.frozen?; rw [ht]; simp⟩
theorem ReuseIs.ok {W w : World} {g t N : Nat} {ids : Nat → Int} {P : Pl} (h : ReuseIs W w g t N ids P) : PlOk N P := by
  obtain ⟨F, hp, _⟩ := h
  exact hp.ok
theorem ReuseIs.bel {W w : World} {g t N : Nat} {ids : Nat → Int} {P : Pl} (h : ReuseIs W w g t N ids P) : Below W.heap.size W w := by
  obtain ⟨F, hp, hn, hF, hW, ht, hb⟩ := h
  exact hb
theorem ReuseIs.pool {W w : World} {g t N : Nat} {ids : Nat → Int} {P : Pl} (h : ReuseIs W w g t N ids P) : ∃ F, PoolIs w g F N P := by
  obtain ⟨F, hp, _⟩ := h
  exact ⟨F, hp⟩
theorem updI_self (ids : Nat → Int) (o : Nat) : updI ids o (ids o) = ids := by
  funext k; unfold updI; split
  · rename_i h; rw [h]
  · rfl
theorem one_le (x : Int) : one x ≤ 1 := by unfold one; split <;> omega
def ReuRel (W : World) (g t n : Nat) (kv : Value) (wr : World) : Prop := ∃ (k : Nat) (ids : Nat → Int) (P : Pl), kv = .int .i64 k ∧ k ≤ n ∧ k ≤ 200 ∧ RInv ids P ∧ ReuseIs W wr g t k ids P
def ReuRel2 (ids : Nat → Int) (nv kv : Value) : Prop := ∃ k : Nat, kv = .int .i64 k ∧ k ≤ 4 ∧ nv = .int .i64 ((if 0 < k then one (ids 0) else 0) + (if 1 < k then one (ids 1) else 0) + (if 2 < k then one (ids 2) else 0) + (if 3 < k then one (ids 3) else 0) : Nat)
set_option maxRecDepth 100000 in
set_option maxHeartbeats 4000000 in
theorem preuses_any {n c : Nat} {A : Option Addr} {l : List UInt8} (a : Int) (w : World) (hr : Rd w w.heap.size 1 A n (bvs l)) (ha0 : 0 ≤ a) (ha1 : a < 256) (hn : n ≤ 140737488351232) :
    Calls Try.prog 3 #[.slice A n c, .int .u8 a] w (RetT w) := by
  have HR := Lib.hid hr
  clear hr
  go_enter Try.func3, Try.ntmps3
  go_wp2_with fail
  refine (awake16_any w).mono ?_
  rintro e w1 ⟨rfl, hb⟩
  have HB := Lib.hid hb
  clear hb
  go_wp2_with fail
  refine (own_pnew (1 + a % 4) 1048576 HB.out (by omega) (by omega) (by decide) (by decide)).mono ?_
  rintro e w2 ⟨g, rfl, ho, hsz, -⟩
  have HO := Lib.hid ho
  have hw2 := ho.bel.size
  clear ho
  go_wp2_with fail
  obtain ⟨t, ht⟩ : ∃ t, w2.heap.size = t := ⟨_, rfl⟩
  have hre : ReuseIs w (w2.alloc (.cells #[.int .i64 0, .int .i64 0, .int .i64 0, .int .i64 0] 3)) g t 0 (fun _ => 0) ⟨1 + a % 4, 1048576, 0, []⟩ := by
    subst ht
    obtain ⟨F, hp, hn, hb⟩ := HO.out
    exact ⟨F, hp.keep (fun k hk => Below.heap_alloc _ _ _ (hp.lt k hk)), hn, fun h => Nat.lt_irrefl _ (hp.lt _ h), hb.size, heapNew _ _, hb.alloc hb.size _⟩
  have HRE := Lib.hid hre
  rw [ht]
  clear ht hre
  go_loopw [8] (fun kv wr => ReuRel w g t n kv wr) (fun kv _ => n - (intOf kv).toNat)
  case atStart => exact ⟨0, _, _, rfl, by omega, by omega, ⟨(fun x hx => by cases hx), (fun o _ h => absurd rfl h), rfl⟩, HRE.out⟩
  case round =>
    obtain ⟨k, ids, P, rfl, hk, hk2, hinv0, hre0⟩ := hrel
    have HRE := Lib.hid hre0
    have HI := Lib.hid hinv0
    have hrr := HR.out.below hre0.bel (Nat.le_refl _)
    have HRR := Lib.hid hrr
    clear hre0 hinv0 hrr
    by_cases hlt : k < n ∧ k < 200
    · obtain ⟨hlt, hlt2⟩ := hlt
      obtain ⟨-, b, oo, rfl, hbl, hc⟩ := HRR.out.bas (by omega)
      have q0 := hc k hlt
      have hba := ba_lt l k
      obtain ⟨x, hx⟩ : ∃ x, ba l k = x := ⟨_, rfl⟩
      rw [hx] at q0 hba
      obtain ⟨o, ho⟩ : ∃ o, x % 4 = o := ⟨_, rfl⟩
      have ho4 : o < 4 := by omega
      have hoo : (x : Int) % 4 = (o : Int) := by omega
      have HOO := Lib.hid hoo
      have n1 : (k : Int) < n := by omega
      have n2 : (k : Int) < 200 := by omega
      have n0 : (0 : Int) ≤ k := by omega
      have o0 : (0 : Int) ≤ o := by omega
      have o1 : (o : Int) < 4 := by omega
      clear hc hx ho hoo
      by_cases hid : ids o = 0
      · obtain ⟨P1, P2, hget, hput, hinv⟩ := reuse_new (now := (k : Int)) HRE.out.ok HI.out ho4 hid (by omega) (by omega)
        have hla := HRE.out.ok.la0
        have hla1 := HRE.out.ok.la1
        have HID := Lib.hid hid
        clear hid
        have HG := Lib.hid hget
        have HPU := Lib.hid hput
        have HIN := Lib.hid hinv
        clear hget hput hinv
        go_wp2_with fail
        rw [HOO.out]
        refine (HRE.out.step (N' := k + 1) (P' := P1) (v := .tuple #[.int .i64 (P.la + 1), .bool true, .int .i64 0]) (fun F h => by have := pget_ok (o := o) (k : Int) wr h ho4 (by omega) (by omega) (by omega); rw [HG.out] at this; exact this)).mono ?_
        rintro e w3 ⟨rfl, hre3⟩
        obtain ⟨y0, y1⟩ := hre3.at_ ho4
        have hla3 := hre3.ok.la1
        have H3 := Lib.hid hre3
        clear hre3

        rw [HID.out] at y0
        go_wp2_with fail
        have hs4 := H3.out.set ho4 (P.la + 1)
        have H4 := Lib.hid hs4
        clear hs4
        refine (H4.out.step (N' := k + 1) (P' := P2) (v := .int .i64 0) (fun F h => by have := pput_any (P.la + 1) (k : Int) _ h (by omega) (by omega) (by omega); rw [HPU.out] at this; exact this)).mono ?_
        rintro e w5 ⟨rfl, hre5⟩
        have H5 := Lib.hid hre5
        clear hre5 y0 y1
        go_wp2_with fail
        go_roundw
        case rel => exact ⟨k + 1, _, P2, by go_num, by omega, by omega, HIN.out, H5.out⟩
        case measure => simp [intOf]; omega
      · obtain ⟨P1, P2, hget, hput, hinv⟩ := reuse_old (now := (k : Int)) HRE.out.ok HI.out ho4 hid (by omega) (by omega)
        obtain ⟨v, hv⟩ : ∃ v, ids o = v := ⟨_, rfl⟩
        have hvb : 0 ≤ v ∧ v ≤ 1000 := by
          obtain ⟨x', hx', hxo⟩ := HI.out.has o ho4 hid
          have h1 := (HI.out.own x' hx').2
          rw [hxo, Int.toNat_natCast, hv] at h1
          have h2 := HRE.out.ok.each x' hx'
          have h3 := HRE.out.ok.la1
          omega
        rw [hv] at hget hput hid
        have HV := Lib.hid hv
        have hvz : (v == 0) = false := by simpa using hid
        have hvn : (v != 0) = true := by simpa using hid
        have hvd : ¬ v = 0 := hid
        clear hv hid
        have HG := Lib.hid hget
        have HPU := Lib.hid hput
        have HIN := Lib.hid hinv
        clear hget hput hinv
        go_wp2_with fail
        rw [HOO.out]
        refine (HRE.out.step (N' := k + 1) (P' := P1) (v := .tuple #[.int .i64 (v), .bool false, .int .i64 0]) (fun F h => by have := pget_ok (o := o) (k : Int) wr h ho4 (by omega) (by omega) (by omega); rw [HG.out] at this; exact this)).mono ?_
        rintro e w3 ⟨rfl, hre3⟩
        obtain ⟨y0, y1⟩ := hre3.at_ ho4
        have hla3 := hre3.ok.la1
        have H3 := Lib.hid hre3
        clear hre3

        rw [HV.out] at y0
        go_wp2_with fail
        have hs4 := H3.out.set ho4 v
        have hup : updI ids o v = ids := by rw [← HV.out]; exact updI_self ids o
        rw [hup] at hs4
        have H4 := Lib.hid hs4
        clear hs4 hup
        refine (H4.out.step (N' := k + 1) (P' := P2) (v := .int .i64 0) (fun F h => by have := pput_any v (k : Int) _ h (by omega) (by omega) (by omega); rw [HPU.out] at this; exact this)).mono ?_
        rintro e w5 ⟨rfl, hre5⟩
        have H5 := Lib.hid hre5
        clear hre5 y0 y1
        go_wp2_with fail
        go_roundw
        case rel => exact ⟨k + 1, _, P2, by go_num, by omega, by omega, HIN.out, H5.out⟩
        case measure => simp [intOf]; omega
    · have hex : (n : Int) ≤ k ∨ ((k : Int) < n ∧ (200 : Int) ≤ k) := by omega
      obtain ⟨F, hpF⟩ := HRE.out.pool
      have HPF := Lib.hid hpF
      have HLN := Lib.hid HI.out.len
      have t0 := (HRE.out.at_ (o := 0) (by decide)).1
      have t1 := (HRE.out.at_ (o := 1) (by decide)).1
      have t2 := (HRE.out.at_ (o := 2) (by decide)).1
      have t3 := (HRE.out.at_ (o := 3) (by decide)).1
      have HAT : Hid (∀ o, o < 4 → wr.cell? ⟨t, o, none⟩ = some (.int .i64 (ids o))) := Lib.hid fun o ho => (HRE.out.at_ ho).1
      have u0 := one_le (ids 0)
      have u1 := one_le (ids 1)
      have u2 := one_le (ids 2)
      have u3 := one_le (ids 3)
      clear hpF t0 t1 t2 t3
      rcases hex with n1 | ⟨n1, n2⟩
      all_goals
        go_wp2_with fail
        go_loop [13, 14] (fun nv kv => ReuRel2 ids nv kv) (fun _ kv => 4 - (intOf kv).toNat)
        case atStart => exact ⟨0, rfl, by omega, rfl⟩
        case round =>
          obtain ⟨j, rfl, hj, rfl⟩ := hrel
          by_cases hj4 : j < 4
          · have hat := HAT.out j hj4
            have j0 : (0 : Int) ≤ j := by omega
            have j1 : (j : Int) < 4 := by omega
            obtain ⟨s, hs⟩ : ∃ s : Nat, ((if 0 < j then one (ids 0) else 0) + (if 1 < j then one (ids 1) else 0) + (if 2 < j then one (ids 2) else 0) + (if 3 < j then one (ids 3) else 0) : Nat) = s := ⟨_, rfl⟩
            have hnext : ((if 0 < j + 1 then one (ids 0) else 0) + (if 1 < j + 1 then one (ids 1) else 0) + (if 2 < j + 1 then one (ids 2) else 0) + (if 3 < j + 1 then one (ids 3) else 0) : Nat) = s + one (ids j) := by
              rw [← hs]
              match j, hj4 with
              | 0, _ => simp
              | 1, _ => simp
              | 2, _ => simp
              | 3, _ => simp
            have hsb : s ≤ 4 := by
              rw [← hs]
              repeat' split
              all_goals omega
            have HNX := Lib.hid hnext
            rw [hs]
            clear hnext hs
            by_cases hz : ids j = 0
            · rw [hz] at hat
              have HO1 : Hid (one (ids j) = 0) := Lib.hid (by unfold one; rw [if_pos hz])
              clear hz
              go_wp2_with fail
              go_round
              case rel => exact ⟨j + 1, by go_num, by omega, by rw [HNX.out, HO1.out]; rfl⟩
              case measure => simp [intOf]; omega
            · have hzb : (ids j == 0) = false := by simpa using hz
              have HO1 : Hid (one (ids j) = 1) := Lib.hid (by unfold one; rw [if_neg hz])
              clear hz
              go_wp2_with fail
              go_round
              case rel => exact ⟨j + 1, by go_num, by omega, by rw [HNX.out, HO1.out]; go_num⟩
              case measure => simp [intOf]; omega
          · obtain rfl : j = 4 := by omega
            have hnum : ((if 0 < 4 then one (ids 0) else 0) + (if 1 < 4 then one (ids 1) else 0) + (if 2 < 4 then one (ids 2) else 0) + (if 3 < 4 then one (ids 3) else 0) : Nat) = numI ids := by simp [numI]
            rw [hnum]
            obtain ⟨nn, hnn⟩ : ∃ nn, numI ids = nn := ⟨_, rfl⟩
            have HNN := Lib.hid hnn
            rw [hnn]
            clear hnum hnn
            go_wp2_with fail
            refine (plen_any wr HPF.out).mono ?_
            rintro e w9 ⟨rfl, rfl⟩
            rw [HLN.out, HNN.out]
            go_wp2_with fail
            go_ret
            exact ⟨rfl, HRE.out.bel⟩
end Go.Proofs.Ytidfokfnigncmaa
