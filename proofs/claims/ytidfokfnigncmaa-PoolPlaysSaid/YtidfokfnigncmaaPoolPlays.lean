/- The walk of drawbridgelaw16.PoolPlays. -/
import Derived.Test.YtidfokfnigncmaaPoolBoth
import Derived.Test.YtidfokfnigncmaaLiftDo
import Derived.Deep.RegionHeld3
import Derived.Deep.DeepCutAuto
import Derived.Deep.QuietTactic
import Derived.BigQuiet
import Derived.Outline
import Derived.OwnWalk
namespace Go.Proofs.Ytidfokfnigncmaa
open Go.RowKit

def BoolIs (v : Value) (d : Bool) : Prop := ∃ b, v = .bool b ∧ b = d
def PlRel (W : World) (g q n : Nat) (kv : Value) (wr : World) : Prop := ∃ (k : Nat) (P : Pl), kv = .int .i64 k ∧ k ≤ n ∧ k ≤ 150 ∧ PB0 W wr g q k P
def CRel (jv : Value) : Prop := ∃ j : Int, jv = .int .i64 j ∧ -1 ≤ j ∧ j ≤ 5
def doB (kd a t : Int) : Option Obj := some (.cells #[.int .i64 kd, .int .i64 a, .int .i64 t] 44 (0, 0))
section
variable {W w : World} {g q x N : Nat} {P Q : Pl} {b : Option Obj}
theorem PBX.cells {ov : Value} {l : List Int} (h : PBX W w g q x N P Q b ov l) {kd a t : Int} (hb : b = some (.cells #[.int .i64 kd, .int .i64 a, .int .i64 t] 44 (0, 0))) :
    w.cell? ⟨x, 0, none⟩ = some (.int .i64 kd) ∧ w.cell? ⟨x, 1, none⟩ = some (.int .i64 a) ∧ w.cell? ⟨x, 2, none⟩ = some (.int .i64 t) := by
  obtain ⟨F, G, h, _⟩ := h
  exact h.cells hb
theorem PB.countL2 (h : PB W w g q x N P Q b) {j ca cb : Int} (hab : P.count j = (ca, cb)) : ∀ w', SameW w w' → Calls Try.prog 20 #[.pointer (some ⟨g, 0, none⟩), .int .i64 j] w' fun e w2 => e = .returned (.tuple #[.int .i64 ca, .int .i64 cb]) ∧ w' = w2 := by
  have := h.countL j
  rw [hab] at this
  exact this
theorem PB.countR2 (h : PB W w g q x N P Q b) (hl : Q.L.length ≤ 1099511627776) {j ca cb : Int} (hab : Q.count j = (ca, cb)) : ∀ w', SameW w w' → Calls Try.prog 21 #[.pointer (some ⟨q, 0, none⟩), .int .i64 j] w' fun e w2 => e = .returned (.tuple #[.int .i64 ca, .int .i64 cb]) ∧ w' = w2 := by
  have := h.countR hl j
  rw [hab] at this
  exact this
theorem PB.originL2 (h : PB W w g q x N P Q b) {a oa : Int} {ob : Bool} (h0 : -9223372036854775808 ≤ a) (h1 : a ≤ 9223372036854775807) (hab : P.origin a = (oa, ob)) : ∀ w', SameW w w' → Calls Try.prog 22 #[.pointer (some ⟨g, 0, none⟩), .int .i64 a] w' fun e w2 => e = .returned (.tuple #[.int .i64 oa, .bool ob]) ∧ w' = w2 := by
  have := h.originL a h0 h1
  rw [hab] at this
  exact this
theorem PB.originR2 (h : PB W w g q x N P Q b) (hl : Q.L.length ≤ 1099511627776) {a oa : Int} {ob : Bool} (hab : Q.origin a = (oa, ob)) : ∀ w', SameW w w' → Calls Try.prog 23 #[.pointer (some ⟨q, 0, none⟩), .int .i64 a] w' fun e w2 => e = .returned (.tuple #[.int .i64 oa, .bool ob]) ∧ w' = w2 := by
  have := h.originR hl a
  rw [hab] at this
  exact this
theorem PB.lenL2 (h : PB W w g q x N P Q b) {m : Nat} (hm : P.L.length = m) : ∀ w', SameW w w' → Calls Try.prog 12 #[.pointer (some ⟨g, 0, none⟩)] w' fun e w2 => e = .returned (.int .i64 (m : Int)) ∧ w2 = w' := by
  have := h.lenL
  rw [hm] at this
  exact this
end
theorem expL_len (n : Nat) : ∀ (L : List Ln) (lim : Int), (expL n L lim).1.length ≤ n := by
  induction n with
  | zero => intro L lim; exact Nat.le_refl _
  | succ n ih =>
    intro L lim
    unfold expL
    split
    · exact Nat.zero_le _
    · simp only [List.length_cons]
      have := ih (dropId L (by assumption : Ln).id) lim
      omega
theorem expire_len (P : Pl) (t : Int) : (P.expire t).1.length ≤ P.L.length := by
  unfold Pl.expire
  split
  · exact Nat.zero_le _
  · exact expL_len _ _ _
theorem ints_same {w w' : World} {A A' : Option Addr} {n c c' : Nat} {l : List Int} (h1 : Lies w 3 1 (.slice A n c) n (iv l)) (h2 : Lies w 3 1 (.slice A' n c') n (iv l)) (hn : n ≤ 1099511627776) (hh : w'.heap = w.heap) :
    Calls Try.prog 18 #[.slice A n c, .slice A' n c'] w' fun e w2 => e = .returned (.bool true) ∧ ∃ d, w2 = w'.drewN d :=
  ints_any w' ((h1.keep (w' := w') (fun _ _ => by rw [hh])).rd rfl) ((h2.keep (w' := w') (fun _ _ => by rw [hh])).rd rfl) hn
set_option maxRecDepth 100000 in
set_option maxHeartbeats 8000000 in
theorem pplays_any {A0 : Option Addr} {n c0 : Nat} {D : Nat → Int × Int × Int} (mo idl : Int) (W : World) (hd : Dos W A0 n D) (hn : n ≤ 140737488351232) :
    Calls Try.prog 5 #[.int .i64 mo, .int .i64 idl, .slice A0 n c0] W (RetT W) := by
  have HD := Lib.hid hd
  clear hd
  by_cases hbad : mo < 1 ∨ 4 < mo ∨ idl < 1 ∨ 1099511627776 < idl
  · have HBAD := Lib.hid hbad
    have hcs : (mo < 1) ∨ (1 ≤ mo ∧ 4 < mo) ∨ (1 ≤ mo ∧ mo ≤ 4 ∧ idl < 1) ∨ (1 ≤ mo ∧ mo ≤ 4 ∧ 1 ≤ idl ∧ 1099511627776 < idl) := by omega
    clear hbad
    rcases hcs with h1 | ⟨h1, h2⟩ | ⟨h1, h2, h3⟩ | ⟨h1, h2, h3, h4⟩
    all_goals
      go_enter Try.func5, Try.ntmps5
      go_wp2_with fail
      refine (awake16_any W).mono ?_
      rintro e w0 ⟨rfl, hb0⟩
      have HB0 := Lib.hid hb0
      clear hb0
      go_wp2_with fail
      refine (pnew_bad mo idl w0 HBAD.out).mono ?_
      rintro e w1 ⟨rfl, rfl⟩
      go_wp2
      go_ret
      exact ⟨rfl, HB0.out⟩
  have h0 : 1 ≤ mo := by omega
  have h1 : mo ≤ 4 := by omega
  have h2 : 1 ≤ idl := by omega
  have h3 : idl ≤ 1099511627776 := by omega
  clear hbad
  go_enter Try.func5, Try.ntmps5
  go_wp2_with fail
  refine (awake16_any W).mono ?_
  rintro e w0 ⟨rfl, hb0⟩
  have HB0 := Lib.hid hb0
  clear hb0
  go_wp2_with fail
  refine (own_pnew mo idl HB0.out h0 h1 h2 h3).mono ?_
  rintro e w1 ⟨g, rfl, ho, -, -⟩
  have HO := Lib.hid ho
  clear ho
  go_wp2_with fail
  obtain ⟨q, hq⟩ : ∃ q, w1.heap.size = q := ⟨_, rfl⟩
  obtain ⟨W2, hW2⟩ : ∃ W2, w1.alloc (.cells #[.int .i64 mo, .int .i64 idl, .int .i64 0, .slice none 0 0] 42) = W2 := ⟨_, rfl⟩
  have hpb : PB0 W W2 g q 0 ⟨mo, idl, 0, []⟩ := by
    subst hW2 hq
    obtain ⟨F, hp, hn, hb⟩ := HO.out
    refine ⟨F, qfoot w1.heap.size none, hp.keep (fun k hk => Below.heap_alloc _ _ _ (hp.lt k hk)), ⟨none, 0, rfl, heapNew _ _, Lies.nil _ _ _, fun a h => by cases h⟩, fun k h1 h2 => ?_, hn, fun k h => ?_, hb.alloc hb.size _⟩
    · rcases h2 with rfl | ⟨a, ha, _⟩
      · exact Nat.lt_irrefl _ (hp.lt _ h1)
      · cases ha
    · rcases h with rfl | ⟨a, ha, _⟩
      · exact hb.size
      · cases ha
  have HP := Lib.hid hpb
  rw [hW2, hq]
  clear hpb hW2 hq
  go_loopw [10] (fun kv wr => PlRel W g q n kv wr) (fun kv _ => n - (intOf kv).toNat)
  case atStart => exact ⟨0, _, rfl, by omega, by omega, HP.out⟩
  case round =>
    obtain ⟨k, P, rfl, hkn, hk150, hP⟩ := hrel
    clear HP
    have HPP := Lib.hid hP
    by_cases hin : k < n ∧ k < 150
    · obtain ⟨hlt, hl2⟩ := hin
      obtain ⟨b, of, rfl, hbl, hcs⟩ := HD.out (by omega)
      obtain ⟨⟨h0, h1, h2⟩, hwf⟩ := hcs k hlt
      obtain ⟨⟨kd, a, t⟩, hDk⟩ : ∃ d, D k = d := ⟨_, rfl⟩
      rw [hDk] at h0 h1 h2 hwf
      have hbel := hP.bel
      have c0 : wr.cell? ⟨b, of + k * 3, none⟩ = some (.int .i64 kd) := (hbel.cell (p := ⟨b, _, none⟩) hbl).trans h0
      have c1 : wr.cell? ⟨b, of + k * 3 + 1, none⟩ = some (.int .i64 a) := (hbel.cell (p := ⟨b, _, none⟩) hbl).trans h1
      have c2 : wr.cell? ⟨b, of + k * 3 + 2, none⟩ = some (.int .i64 t) := (hbel.cell (p := ⟨b, _, none⟩) hbl).trans h2
      have hwa := wf_i64 hwf.2.1
      have hwt := wf_i64 hwf.2.2
      have HWI := Lib.hid (And.intro hwa hwt)
      have HPA : Hid (PB W (wr.alloc (.cells #[.int .i64 kd, .int .i64 a, .int .i64 t] 44)) g q wr.heap.size k P P (doB kd a t)) := Lib.hid (hP.alloc _)
      have HOK := Lib.hid hP.ok
      have HPL : Hid (P.L.length ≤ 1099511627776) := Lib.hid (by have := hP.ok.len; omega)
      obtain ⟨x, hx⟩ : ∃ x, wr.heap.size = x := ⟨_, rfl⟩
      obtain ⟨wa, hwa⟩ : ∃ wa, wr.alloc (.cells #[.int .i64 kd, .int .i64 a, .int .i64 t] 44) = wa := ⟨_, rfl⟩
      rw [hwa, hx] at HPA
      obtain ⟨z0, z1, z2⟩ := HPA.out.cells rfl
      have HX := Lib.hid hx
      have HWA := Lib.hid hwa
      have hkd : kd = 0 ∨ kd = 1 ∨ kd = 2 ∨ (kd ≠ 0 ∧ kd ≠ 1 ∧ kd ≠ 2) := by omega
      clear h0 h1 h2 hDk hwf hbel hx hcs hP hwa hwt HPP
      rcases hkd with rfl | rfl | rfl | ⟨hk0, hk1, hk2⟩
      · as_aux_lemma =>
          obtain ⟨⟨⟨ga, gx, gf⟩, P1⟩, hget⟩ : ∃ r, P.get a t = r := ⟨_, rfl⟩
          have HG := Lib.hid hget
          have HL := Lib.hid (HPA.out.left (N' := k + 1) (P' := P1) (v := .tuple #[.int .i64 ga, .bool gx, .int .i64 gf]) (fun F w' h => by have := pget_all a t w' h (by omega); rw [HG.out] at this; exact this))
          clear hget
          go_wp2_with fail
          rw [HWA.out, HX.out]
          refine (HL.out _ (by exact ⟨rfl, rfl, rfl, rfl⟩)).mono ?_
          rintro e w3 ⟨rfl, hpb⟩
          obtain ⟨u0, u1, u2⟩ := hpb.cells rfl
          have HR := Lib.hid (hpb.right (Q' := P1) (v := .tuple #[.int .i64 ga, .bool gx, .int .i64 gf]) (fun G w' h => by have := rget_all a t w' h ⟨_, HOK.out⟩ HPL.out; rw [HG.out] at this; exact this))
          clear hpb
          go_wp2_with fail
          refine (HR.out _ (by exact ⟨rfl, rfl, rfl, rfl⟩)).mono ?_
          rintro e w4 ⟨rfl, hpb⟩
          have H4 := Lib.hid hpb
          clear hpb u0 u1 u2

          have HOK1 := Lib.hid H4.out.okL
          have HL1 : Hid (P1.L.length ≤ 1099511627776) := Lib.hid (by have := HOK1.out.len; omega)
          obtain ⟨y0, y1, y2⟩ := H4.out.cells rfl
          obtain ⟨Ac, cc, l3, -⟩ := H4.out.linkR
          obtain ⟨m, hm⟩ : ∃ m, P1.L.length = m := ⟨_, rfl⟩
          have HM := Lib.hid hm
          rw [hm] at l3
          have hmb : m ≤ 1099511627776 := by rw [← hm]; exact HL1.out
          clear hm
          go_wp2_with fail
          go_loop [18] (fun jv => CRel jv) (fun jv => (5 - intOf jv).toNat)
          case atStart => exact ⟨-1, rfl, by omega, by omega⟩
          case round =>
            obtain ⟨j, rfl, hj0, hj1⟩ := hrel
            by_cases hj : j ≤ 4
            · obtain ⟨⟨ca, cb⟩, hab⟩ : ∃ r, P1.count j = r := ⟨_, rfl⟩
              have HCL := Lib.hid (H4.out.countL2 hab)
              have HCR := Lib.hid (H4.out.countR2 HL1.out hab)
              clear hab
              go_wp2_with fail
              refine (HCL.out _ (by exact ⟨rfl, rfl, rfl, rfl⟩)).mono ?_
              rintro e w9 ⟨rfl, rfl⟩
              go_wp2_with fail
              refine (HCR.out _ (by exact ⟨rfl, rfl, rfl, rfl⟩)).mono ?_
              rintro e w9 ⟨rfl, rfl⟩
              go_wp2_with fail
              go_round
              case rel => exact ⟨j + 1, by go_num, by omega, by omega⟩
              case measure => simp [intOf]; omega
            · obtain rfl : j = 5 := by omega
              obtain ⟨⟨oa, ob⟩, hab⟩ : ∃ r, P1.origin a = r := ⟨_, rfl⟩
              have HOL := Lib.hid (H4.out.originL2 HWI.out.1.1 HWI.out.1.2 hab)
              have HOR := Lib.hid (H4.out.originR2 HL1.out hab)
              have HLN := Lib.hid (H4.out.lenL2 HM.out)
              clear hab
              go_wp2_with fail
              refine (HOL.out _ (by exact ⟨rfl, rfl, rfl, rfl⟩)).mono ?_
              rintro e w9 ⟨rfl, rfl⟩
              go_wp2_with fail
              refine (HOR.out _ (by exact ⟨rfl, rfl, rfl, rfl⟩)).mono ?_
              rintro e w9 ⟨rfl, rfl⟩
              go_wp2
              go_quiet ((go_at_call 12; exact Calls.quiet_of_same (HLN.out _ (by exact ⟨rfl, rfl, rfl, rfl⟩))))
              go_wp2
              go_roundw
              case rel => exact ⟨k + 1, P1, by go_num, by omega, by omega, (H4.out.same (by exact ⟨rfl, rfl, rfl, rfl⟩)).out⟩
              case measure => simp [intOf]; omega
      · as_aux_lemma =>
          obtain ⟨⟨pf, P1⟩, hput⟩ : ∃ r, P.put a t = r := ⟨_, rfl⟩
          have HG := Lib.hid hput
          have HL := Lib.hid ((HPA.out.more (N' := k + 1) (by omega) (by omega)).left (N' := k + 1) (P' := P1) (v := .int .i64 pf) (fun F w' h => by have := pput_any a t w' h HWI.out.1.1 HWI.out.1.2 (by omega); rw [HG.out] at this; exact this))
          have HR : Hid (∀ w3, PB W w3 g q x (k + 1) P1 P (doB 1 a t) → ∀ w', SameW w3 w' → Calls Try.prog 15 #[.pointer (some ⟨q, 0, none⟩), .int .i64 a, .int .i64 t] w' fun e w2 => e = .returned (.int .i64 pf) ∧ PB W w2 g q x (k + 1) P1 P1 (doB 1 a t)) := Lib.hid fun w3 h3 => h3.right (fun G w' h => by have := rput_any a t w' h HPL.out HOK.out.sorted; rw [HG.out] at this; exact this)
          clear hput
          go_upto_region 22 with fail
          rw [HWA.out, HX.out]
          go_cut [140] (fun v wx => BoolIs v false ∧ PB W wx g q x (k + 1) P1 P1 (doB 1 a t))
          case first =>
            go_region_held3 (fun w' => w'.cell? ⟨x, 0, none⟩ = some (.int .i64 1) ∧ w'.cell? ⟨x, 1, none⟩ = some (.int .i64 a) ∧ w'.cell? ⟨x, 2, none⟩ = some (.int .i64 t))
              (first | go_keep | exact ⟨k0, k1, k2⟩ | exact ⟨j0, j1, j2⟩)
              (first
                | (go_at_call 11; refine (HL.out _ (by exact ⟨rfl, rfl, rfl, rfl⟩)).mono ?_; rintro e w3 ⟨rfl, hpb⟩; obtain ⟨k0, k1, k2⟩ := hpb.cells rfl; have HR3 := Lib.hid (HR.out w3 hpb); clear hpb)
                | (go_at_call 15; refine (HR3.out _ (by exact ⟨rfl, rfl, rfl, rfl⟩)).mono ?_; rintro e w4 ⟨rfl, hpb⟩; obtain ⟨j0, j1, j2⟩ := hpb.cells rfl; have H4 := Lib.hid hpb; clear hpb))
            all_goals
              go_wp2_with fail
              go_meet
              exact ⟨⟨_, rfl, by simp⟩, H4.out.same (by exact ⟨rfl, rfl, rfl, rfl⟩)⟩
          case rest =>
            obtain ⟨⟨bb, rfl, rfl⟩, hpb⟩ := hcut
            have H4 := Lib.hid hpb
            clear hpb z0 z1 z2
            have HOK1 := Lib.hid H4.out.okL
            have HL1 : Hid (P1.L.length ≤ 1099511627776) := Lib.hid (by have := HOK1.out.len; omega)
            obtain ⟨y0, y1, y2⟩ := H4.out.cells rfl
            obtain ⟨Ac, cc, l3, -⟩ := H4.out.linkR
            obtain ⟨m, hm⟩ : ∃ m, P1.L.length = m := ⟨_, rfl⟩
            have HM := Lib.hid hm
            rw [hm] at l3
            have hmb : m ≤ 1099511627776 := by rw [← hm]; exact HL1.out
            clear hm
            go_wp2_with fail
            go_loop [18] (fun jv => CRel jv) (fun jv => (5 - intOf jv).toNat)
            case atStart => exact ⟨-1, rfl, by omega, by omega⟩
            case round =>
              obtain ⟨j, rfl, hj0, hj1⟩ := hrel
              by_cases hj : j ≤ 4
              · obtain ⟨⟨ca, cb⟩, hab⟩ : ∃ r, P1.count j = r := ⟨_, rfl⟩
                have HCL := Lib.hid (H4.out.countL2 hab)
                have HCR := Lib.hid (H4.out.countR2 HL1.out hab)
                clear hab
                go_wp2_with fail
                refine (HCL.out _ (by exact ⟨rfl, rfl, rfl, rfl⟩)).mono ?_
                rintro e w9 ⟨rfl, rfl⟩
                go_wp2_with fail
                refine (HCR.out _ (by exact ⟨rfl, rfl, rfl, rfl⟩)).mono ?_
                rintro e w9 ⟨rfl, rfl⟩
                go_wp2_with fail
                go_round
                case rel => exact ⟨j + 1, by go_num, by omega, by omega⟩
                case measure => simp [intOf]; omega
              · obtain rfl : j = 5 := by omega
                obtain ⟨⟨oa, ob⟩, hab⟩ : ∃ r, P1.origin a = r := ⟨_, rfl⟩
                have HOL := Lib.hid (H4.out.originL2 HWI.out.1.1 HWI.out.1.2 hab)
                have HOR := Lib.hid (H4.out.originR2 HL1.out hab)
                have HLN := Lib.hid (H4.out.lenL2 HM.out)
                clear hab
                go_wp2_with fail
                refine (HOL.out _ (by exact ⟨rfl, rfl, rfl, rfl⟩)).mono ?_
                rintro e w9 ⟨rfl, rfl⟩
                go_wp2_with fail
                refine (HOR.out _ (by exact ⟨rfl, rfl, rfl, rfl⟩)).mono ?_
                rintro e w9 ⟨rfl, rfl⟩
                go_wp2
                go_quiet ((go_at_call 12; exact Calls.quiet_of_same (HLN.out _ (by exact ⟨rfl, rfl, rfl, rfl⟩))))
                go_wp2
                go_roundw
                case rel => exact ⟨k + 1, P1, by go_num, by omega, by omega, (H4.out.same (by exact ⟨rfl, rfl, rfl, rfl⟩)).out⟩
                case measure => simp [intOf]; omega
      · as_aux_lemma =>
          obtain ⟨⟨pf, P1⟩, hdrop⟩ : ∃ r, P.drop a = r := ⟨_, rfl⟩
          have HG := Lib.hid hdrop
          have HL := Lib.hid ((HPA.out.more (N' := k + 1) (by omega) (by omega)).left (N' := k + 1) (P' := P1) (v := .int .i64 pf) (fun F w' h => by have := pdrop_any a w' h HWI.out.1.1 HWI.out.1.2 (by omega); rw [HG.out] at this; exact this))
          have HR : Hid (∀ w3, PB W w3 g q x (k + 1) P1 P (doB 2 a t) → ∀ w', SameW w3 w' → Calls Try.prog 17 #[.pointer (some ⟨q, 0, none⟩), .int .i64 a] w' fun e w2 => e = .returned (.int .i64 pf) ∧ PB W w2 g q x (k + 1) P1 P1 (doB 2 a t)) := Lib.hid fun w3 h3 => h3.right (fun G w' h => by have := rdrop_any a w' h HPL.out HOK.out.sorted; rw [HG.out] at this; exact this)
          clear hdrop
          go_upto_region 25 with fail
          rw [HWA.out, HX.out]
          go_cut [151] (fun v wx => BoolIs v false ∧ PB W wx g q x (k + 1) P1 P1 (doB 2 a t))
          case first =>
            go_region_held3 (fun w' => w'.cell? ⟨x, 0, none⟩ = some (.int .i64 2) ∧ w'.cell? ⟨x, 1, none⟩ = some (.int .i64 a) ∧ w'.cell? ⟨x, 2, none⟩ = some (.int .i64 t))
              (first | go_keep | exact ⟨k0, k1, k2⟩ | exact ⟨j0, j1, j2⟩)
              (first
                | (go_at_call 16; refine (HL.out _ (by exact ⟨rfl, rfl, rfl, rfl⟩)).mono ?_; rintro e w3 ⟨rfl, hpb⟩; obtain ⟨k0, k1, k2⟩ := hpb.cells rfl; have HR3 := Lib.hid (HR.out w3 hpb); clear hpb)
                | (go_at_call 17; refine (HR3.out _ (by exact ⟨rfl, rfl, rfl, rfl⟩)).mono ?_; rintro e w4 ⟨rfl, hpb⟩; obtain ⟨j0, j1, j2⟩ := hpb.cells rfl; have H4 := Lib.hid hpb; clear hpb))
            all_goals
              go_wp2_with fail
              go_meet
              exact ⟨⟨_, rfl, by simp⟩, H4.out.same (by exact ⟨rfl, rfl, rfl, rfl⟩)⟩
          case rest =>
            obtain ⟨⟨bb, rfl, rfl⟩, hpb⟩ := hcut
            have H4 := Lib.hid hpb
            clear hpb z0 z1 z2
            have HOK1 := Lib.hid H4.out.okL
            have HL1 : Hid (P1.L.length ≤ 1099511627776) := Lib.hid (by have := HOK1.out.len; omega)
            obtain ⟨y0, y1, y2⟩ := H4.out.cells rfl
            obtain ⟨Ac, cc, l3, -⟩ := H4.out.linkR
            obtain ⟨m, hm⟩ : ∃ m, P1.L.length = m := ⟨_, rfl⟩
            have HM := Lib.hid hm
            rw [hm] at l3
            have hmb : m ≤ 1099511627776 := by rw [← hm]; exact HL1.out
            clear hm
            go_wp2_with fail
            go_loop [18] (fun jv => CRel jv) (fun jv => (5 - intOf jv).toNat)
            case atStart => exact ⟨-1, rfl, by omega, by omega⟩
            case round =>
              obtain ⟨j, rfl, hj0, hj1⟩ := hrel
              by_cases hj : j ≤ 4
              · obtain ⟨⟨ca, cb⟩, hab⟩ : ∃ r, P1.count j = r := ⟨_, rfl⟩
                have HCL := Lib.hid (H4.out.countL2 hab)
                have HCR := Lib.hid (H4.out.countR2 HL1.out hab)
                clear hab
                go_wp2_with fail
                refine (HCL.out _ (by exact ⟨rfl, rfl, rfl, rfl⟩)).mono ?_
                rintro e w9 ⟨rfl, rfl⟩
                go_wp2_with fail
                refine (HCR.out _ (by exact ⟨rfl, rfl, rfl, rfl⟩)).mono ?_
                rintro e w9 ⟨rfl, rfl⟩
                go_wp2_with fail
                go_round
                case rel => exact ⟨j + 1, by go_num, by omega, by omega⟩
                case measure => simp [intOf]; omega
              · obtain rfl : j = 5 := by omega
                obtain ⟨⟨oa, ob⟩, hab⟩ : ∃ r, P1.origin a = r := ⟨_, rfl⟩
                have HOL := Lib.hid (H4.out.originL2 HWI.out.1.1 HWI.out.1.2 hab)
                have HOR := Lib.hid (H4.out.originR2 HL1.out hab)
                have HLN := Lib.hid (H4.out.lenL2 HM.out)
                clear hab
                go_wp2_with fail
                refine (HOL.out _ (by exact ⟨rfl, rfl, rfl, rfl⟩)).mono ?_
                rintro e w9 ⟨rfl, rfl⟩
                go_wp2_with fail
                refine (HOR.out _ (by exact ⟨rfl, rfl, rfl, rfl⟩)).mono ?_
                rintro e w9 ⟨rfl, rfl⟩
                go_wp2
                go_quiet ((go_at_call 12; exact Calls.quiet_of_same (HLN.out _ (by exact ⟨rfl, rfl, rfl, rfl⟩))))
                go_wp2
                go_roundw
                case rel => exact ⟨k + 1, P1, by go_num, by omega, by omega, (H4.out.same (by exact ⟨rfl, rfl, rfl, rfl⟩)).out⟩
                case measure => simp [intOf]; omega
      · as_aux_lemma =>
          obtain ⟨⟨xs, P1⟩, hexp⟩ : ∃ r, P.expire t = r := ⟨_, rfl⟩
          have hk0b : (kd == 0) = false := by simpa using hk0
          have hk1b : (kd == 1) = false := by simpa using hk1
          have hk2b : (kd == 2) = false := by simpa using hk2
          have HL : Hid (∀ w', SameW wa w' → Calls Try.prog 13 #[.pointer (some ⟨g, 0, none⟩), .int .i64 t] w' fun e w2 => ∃ A c, e = .returned (.slice A xs.length c) ∧ PBX W w2 g q x (k + 1) P1 P (doB kd a t) (.slice A xs.length c) xs) := Lib.hid (by have := (HPA.out.more (N' := k + 1) (by omega) (by omega)).expL t HWI.out.2.1 HWI.out.2.2 (by omega); rw [hexp] at this; exact this)
          have HR : Hid (∀ w3 ov, PBX W w3 g q x (k + 1) P1 P (doB kd a t) ov xs → ∀ w', SameW w3 w' → Calls Try.prog 19 #[.pointer (some ⟨q, 0, none⟩), .int .i64 t] w' fun e w2 => ∃ A c, e = .returned (.slice A xs.length c) ∧ PB W w2 g q x (k + 1) P1 P1 (doB kd a t) ∧ Lies w2 3 1 ov xs.length (iv xs) ∧ Lies w2 3 1 (.slice A xs.length c) xs.length (iv xs)) := Lib.hid fun w3 ov h3 => by
            have := h3.expR t HOK.out.sorted HPL.out HOK.out.idl0 HOK.out.idl1 HWI.out.2.2
            rw [hexp] at this
            exact this
          have hxl : xs.length ≤ 1099511627776 := by
            have h1 : xs = (P.expire t).1 := by rw [hexp]
            have h2 := HPL.out
            rw [h1]
            have := expire_len P t
            omega
          obtain ⟨xn, hxn⟩ : ∃ xn, xs.length = xn := ⟨_, rfl⟩
          rw [hxn] at HL HR hxl
          have HXL := Lib.hid hxl
          clear hexp hk0 hk1 hk2 hxl hxn
          go_upto_region 14 with fail
          rw [HWA.out, HX.out]
          go_cut [90] (fun v wx => BoolIs v false ∧ PB W wx g q x (k + 1) P1 P1 (doB kd a t))
          case first =>
            go_region_held3 (fun w' => w'.cell? ⟨x, 0, none⟩ = some (.int .i64 kd) ∧ w'.cell? ⟨x, 1, none⟩ = some (.int .i64 a) ∧ w'.cell? ⟨x, 2, none⟩ = some (.int .i64 t))
              (first | go_keep | exact ⟨k0, k1, k2⟩ | exact ⟨j0, j1, j2⟩)
              (first
                | (go_at_call 13; refine (HL.out _ (by exact ⟨rfl, rfl, rfl, rfl⟩)).mono ?_; rintro e w3 ⟨A1, c1, rfl, hpb⟩; obtain ⟨k0, k1, k2⟩ := hpb.cells rfl; have HR3 := Lib.hid (HR.out w3 _ hpb); clear hpb)
                | (go_at_call 19; refine (HR3.out _ (by exact ⟨rfl, rfl, rfl, rfl⟩)).mono ?_; rintro e w4 ⟨A2, c2, rfl, hpb, hl1, hl2⟩; obtain ⟨j0, j1, j2⟩ := hpb.cells rfl; have H4 := Lib.hid hpb; have HIN := Lib.hid (fun w' hh => ints_same (w' := w') hl1 hl2 HXL.out hh); clear hpb hl1 hl2)
                | (go_at_call 18; refine (HIN.out _ (by rfl)).mono ?_; rintro e w5 ⟨rfl, d5, rfl⟩))
            all_goals
              go_wp2_with fail
              go_meet
              exact ⟨⟨_, rfl, by simp⟩, H4.out.same (by exact ⟨rfl, rfl, rfl, rfl⟩)⟩
          case rest =>
            obtain ⟨⟨bb, rfl, rfl⟩, hpb⟩ := hcut
            have H4 := Lib.hid hpb
            clear hpb z0 z1 z2
            have HOK1 := Lib.hid H4.out.okL
            have HL1 : Hid (P1.L.length ≤ 1099511627776) := Lib.hid (by have := HOK1.out.len; omega)
            obtain ⟨y0, y1, y2⟩ := H4.out.cells rfl
            obtain ⟨Ac, cc, l3, -⟩ := H4.out.linkR
            obtain ⟨m, hm⟩ : ∃ m, P1.L.length = m := ⟨_, rfl⟩
            have HM := Lib.hid hm
            rw [hm] at l3
            have hmb : m ≤ 1099511627776 := by rw [← hm]; exact HL1.out
            clear hm
            go_wp2_with fail
            go_loop [18] (fun jv => CRel jv) (fun jv => (5 - intOf jv).toNat)
            case atStart => exact ⟨-1, rfl, by omega, by omega⟩
            case round =>
              obtain ⟨j, rfl, hj0, hj1⟩ := hrel
              by_cases hj : j ≤ 4
              · obtain ⟨⟨ca, cb⟩, hab⟩ : ∃ r, P1.count j = r := ⟨_, rfl⟩
                have HCL := Lib.hid (H4.out.countL2 hab)
                have HCR := Lib.hid (H4.out.countR2 HL1.out hab)
                clear hab
                go_wp2_with fail
                refine (HCL.out _ (by exact ⟨rfl, rfl, rfl, rfl⟩)).mono ?_
                rintro e w9 ⟨rfl, rfl⟩
                go_wp2_with fail
                refine (HCR.out _ (by exact ⟨rfl, rfl, rfl, rfl⟩)).mono ?_
                rintro e w9 ⟨rfl, rfl⟩
                go_wp2_with fail
                go_round
                case rel => exact ⟨j + 1, by go_num, by omega, by omega⟩
                case measure => simp [intOf]; omega
              · obtain rfl : j = 5 := by omega
                obtain ⟨⟨oa, ob⟩, hab⟩ : ∃ r, P1.origin a = r := ⟨_, rfl⟩
                have HOL := Lib.hid (H4.out.originL2 HWI.out.1.1 HWI.out.1.2 hab)
                have HOR := Lib.hid (H4.out.originR2 HL1.out hab)
                have HLN := Lib.hid (H4.out.lenL2 HM.out)
                clear hab
                go_wp2_with fail
                refine (HOL.out _ (by exact ⟨rfl, rfl, rfl, rfl⟩)).mono ?_
                rintro e w9 ⟨rfl, rfl⟩
                go_wp2_with fail
                refine (HOR.out _ (by exact ⟨rfl, rfl, rfl, rfl⟩)).mono ?_
                rintro e w9 ⟨rfl, rfl⟩
                go_wp2
                go_quiet ((go_at_call 12; exact Calls.quiet_of_same (HLN.out _ (by exact ⟨rfl, rfl, rfl, rfl⟩))))
                go_wp2
                go_roundw
                case rel => exact ⟨k + 1, P1, by go_num, by omega, by omega, (H4.out.same (by exact ⟨rfl, rfl, rfl, rfl⟩)).out⟩
                case measure => simp [intOf]; omega
    · have hex : (n : Int) ≤ k ∨ ((k : Int) < n ∧ (150 : Int) ≤ k) := by omega
      rcases hex with n1 | ⟨n1, n2⟩
      all_goals
        go_wp2
        go_ret
        exact ⟨rfl, HPP.out.bel⟩
end Go.Proofs.Ytidfokfnigncmaa
