/- The walk of drawbridgelaw08.WindowSums. -/
import Derived.Test.YtoicclgcbemffaaWinTurns
import Derived.Test.YtoicclgcbemffaaWinSumsPlain
namespace Go.Proofs.Ytoicclgcbemffaa
open Go.RowKit Go.Maps

def SuRel (W : World) (n g m : Nat) (fv av ov tv iv : Value) (wr : World) : Prop :=
  ∃ k : Nat, ∃ fi al own : Int, ∃ L, ∃ there, iv = .int .i64 k ∧ fv = .int .i64 fi ∧ av = .int .i64 al ∧ ov = .int .i64 own ∧ tv = .bool there ∧ k ≤ n ∧ k ≤ 200 ∧ WB wr g m al fi L ∧ BkOk ⟨al, fi, L⟩ ∧ Below W.heap.size W wr ∧ L.length ≤ k ∧ Sm L own there

set_option maxRecDepth 100000 in
set_option maxHeartbeats 16000000 in
theorem sums_any {A : Option Addr} {n c : Nat} {D : Nat → Int × Int × Int} (fi0 : Int) (W : World) (hd : Dos W A n D) (hm : n ≤ 140737488351232) :
    Calls Try.prog 3 #[.int .i64 fi0, .slice A n c] W (RetT W) := by
  have HD := Lib.hid hd
  clear hd
  by_cases hbad : fi0 < 0 ∨ 2147483647 < fi0
  · go_enter Try.func3, Try.ntmps3
    go_wp2_with fail
    refine (awake8_any W).mono ?_
    rintro e w0 ⟨rfl, hb0⟩
    have HB0 := Lib.hid hb0
    clear hb0
    go_wp2_with fail
    refine (wnew_bad fi0 w0 hbad).mono ?_
    rintro e w1 ⟨rfl, rfl⟩
    go_wp2
    go_ret
    exact ⟨rfl, HB0.out⟩
  have hf0 : 0 ≤ fi0 := by omega
  have hf1 : fi0 ≤ 2147483647 := by omega
  clear hbad
  go_enter Try.func3, Try.ntmps3
  go_wp2_with fail
  refine (awake8_any W).mono ?_
  rintro e w0 ⟨rfl, hb0⟩
  have HB0 := Lib.hid hb0
  have hs0 := hb0.size
  clear hb0
  go_wp2_with fail
  refine (wnew_any fi0 w0 hf0 hf1).mono ?_
  rintro e w1 ⟨g, m, rfl, hwb, hg, hmm, hb1⟩
  have H1 := Lib.hid (And.intro hwb (HB0.out.trans (hb1.mono hs0)))
  have hgW : W.heap.size ≤ g ∧ W.heap.size ≤ m := by omega
  clear hwb hb1 HB0
  go_wp2
  go_loopw [0, 7, 8, 9, 10] (fun f a o t i wr => SuRel W n g m f a o t i wr) (fun _ _ _ _ i _ => n - (intOf i).toNat)
  case atStart => exact ⟨0, fi0, 65535, 0, [], false, rfl, rfl, rfl, rfl, rfl, by omega, by omega, H1.out.1, bk0 fi0 hf0 hf1, H1.out.2, Nat.le_refl _, sm_0⟩
  case round =>
    obtain ⟨k, fi, al, own, L, there, rfl, rfl, rfl, rfl, rfl, hkn, hk200, hwb, hok, hbel, hlL, hsm⟩ := hrel
    clear H1
    by_cases hlt : k < n
    case neg =>
      go_wp2
      go_ret
      exact ⟨rfl, hbel⟩
    by_cases hl2 : k < 200
    case neg =>
      go_wp2
      go_ret
      exact ⟨rfl, hbel⟩
    obtain ⟨b, of, rfl, hbl, hcs⟩ := HD.out (by omega)
    obtain ⟨⟨h0, h1, h2⟩, hwf⟩ := hcs k hlt
    clear hcs
    obtain ⟨⟨kd, s, x⟩, hDk⟩ : ∃ d, D k = d := ⟨_, rfl⟩
    rw [hDk] at h0 h1 h2 hwf
    have c0 : wr.cell? ⟨b, of + k * 3, none⟩ = some (.int .i64 kd) := (hbel.cell (p := ⟨b, _, none⟩) hbl).trans h0
    have c1 : wr.cell? ⟨b, of + k * 3 + 1, none⟩ = some (.int .i64 s) := (hbel.cell (p := ⟨b, _, none⟩) hbl).trans h1
    have c2 : wr.cell? ⟨b, of + k * 3 + 2, none⟩ = some (.int .i64 x) := (hbel.cell (p := ⟨b, _, none⟩) hbl).trans h2
    obtain ⟨q, hq⟩ : ∃ q, bits .and .i64 s 3 = q := ⟨_, rfl⟩
    have hq0 : 0 ≤ q ∧ q ≤ 3 := hq ▸ and3 s
    obtain ⟨q0, q3⟩ := hq0
    obtain ⟨t, ht⟩ : ∃ t, q % 3 = t := ⟨_, rfl⟩
    have t0 : 0 ≤ t := by omega
    have t2 : t ≤ 2 := by omega
    obtain ⟨⟨e1, al1, fi1, L1⟩, hr⟩ : ∃ r, doB ⟨al, fi, L⟩ kd t x = r := ⟨_, rfl⟩
    have hok1 : BkOk ⟨al1, fi1, L1⟩ := by have := doB_ok hok kd t x; rw [hr] at this; exact this
    have hlen1 : L1.length ≤ k + 1 := by have := doB_len ⟨al, fi, L⟩ kd t x; rw [hr] at this; simp only at this; omega
    have hno : e1 ≠ 0 → (⟨al1, fi1, L1⟩ : Bk) = ⟨al, fi, L⟩ := fun h => by have := doB_no (S := ⟨al, fi, L⟩) (k := kd) (s := t) (n := x); rw [hr] at this; exact this h
    have hways : e1 = 0 → SmWays kd t x al fi al1 fi1 own there L1 := fun h => sm_cases hsm hok t0 t2 (h ▸ hr)
    have HWA := Lib.hid (hwb.alloc (.cells #[.int .i64 kd, .int .i64 t, .int .i64 x] 29))
    have HBA := Lib.hid (hbel.alloc hbel.size (.cells #[.int .i64 kd, .int .i64 t, .int .i64 x] 29))
    have hgl := hwb.lt
    have HR := Lib.hid hr
    have HOK := Lib.hid hok
    have HOK1 := Lib.hid hok1
    have HSM := Lib.hid hsm
    have HSZ := Lib.hid hbel.size
    have hA0 : 0 ≤ al := hok.all0
    have hA1 : al ≤ 2147483647 := hok.all1
    have hB0 : 0 ≤ al1 := hok1.all0
    have hB1 : al1 ≤ 2147483647 := hok1.all1
    have hF0 : 0 ≤ fi1 := hok1.first0
    have hF1 : fi1 ≤ 2147483647 := hok1.first1
    have ho0 := hsm.lo
    have ho1 := hsm.hi
    clear h0 h1 h2 hDk hwf hr hwb hok hbel hsm hok1
    have hgne : wr.heap.size ≠ g ∧ wr.heap.size ≠ m := ⟨by omega, by omega⟩
    go_wp2_with fail
    refine (does_any (S := ⟨al, fi, L⟩) kd t x _ HWA.out HOK.out (by show L.length < 100000; omega) (WalkArith.wf_i64 (by omega))).mono ?_
    rw [HR.out]
    rintro e w3 ⟨rfl, hwb, hbut⟩
    simp only at hwb ⊢
    have d0 : w3.cell? ⟨wr.heap.size, 0, none⟩ = some (.int .i64 kd) := (hbut.cell (by simp) hgne.1 hgne.2 0).trans (World.cell?_alloc_at _ _ _ _ rfl)
    have d1 : w3.cell? ⟨wr.heap.size, 1, none⟩ = some (.int .i64 t) := (hbut.cell (by simp) hgne.1 hgne.2 1).trans (World.cell?_alloc_at _ _ _ _ rfl)
    have d2 : w3.cell? ⟨wr.heap.size, 2, none⟩ = some (.int .i64 x) := (hbut.cell (by simp) hgne.1 hgne.2 2).trans (World.cell?_alloc_at _ _ _ _ rfl)
    have HW3 := Lib.hid (And.intro hwb (hbut.up HBA.out hgW.1 hgW.2 (Nat.le_refl _)))
    clear hwb hbut HWA HBA HR HOK c0 c1 c2 hq ht q0 q3 hgl HSZ
    by_cases he : e1 = 0
    case neg =>
      have e0 : (e1 == 0) = false := by simpa using he
      have e00 : (e1 != 0) = true := by simpa using he
      have hno' := hno he
      simp only [Bk.mk.injEq] at hno'
      obtain ⟨rfl, rfl, rfl⟩ := hno'
      clear hno he hways
      go_wp2
      go_roundw
      case rel => exact ⟨k + 1, fi1, al1, own, L1, there, by go_num, rfl, rfl, rfl, rfl, by omega, by omega, HW3.out.1, HOK1.out, HW3.out.2, hlen1, HSM.out⟩
      case measure => simp [intOf]; omega
    have hw := hways he
    subst he
    clear hno hways
    unfold SmWays at hw
    rcases hw with ⟨rfl, rfl, rfl, rfl, hs1⟩ | ⟨rfl, ht1, rfl, rfl, hs1⟩ | ⟨rfl, rfl, rfl, rfl, hs1⟩ | ⟨rfl, ht1, rfl, rfl, hs1⟩ | ⟨rfl, rfl, rfl, rfl, hx0, hx1, hs1⟩ | ⟨rfl, ht1, rfl, rfl, hx0, hx1, hs1⟩ | ⟨rfl, rfl, rfl, rfl, hx0, hx1, hs1⟩ | ⟨rfl, rfl, rfl, rfl, hx0, hx1, hs1⟩ | ⟨rfl, rfl, rfl, rfl, hs1⟩ | ⟨rfl, rfl, rfl, hs1⟩ | ⟨k0, k1, k2, k3, k4, rfl, rfl, hs1⟩
    · have HS1 := Lib.hid hs1
      have hlo1 := hs1.lo
      have hhi1 := hs1.hi
      rcases sm_at hs1 HOK1.out with ⟨hth, hat, hn1, hn2, hr1, hr2⟩ | ⟨hth, hat, hr0⟩
      · have HAT := Lib.hid hat
        generalize hro : roomB _ 1 = ro at hr1 hr2
        have HRO := Lib.hid (show roomF _ _ _ 1 = _ from hro)
        clear hat hs1 hro
        clear hth
        as_aux_lemma =>
          go_wp2_with fail
          refine (wat_any 1 w3 HW3.out.1 HOK1.out.inv (by decide)).mono ?_
          rintro e w9 ⟨rfl, rfl⟩
          rw [show atF _ _ _ 1 = _ from HAT.out]
          simp only [pairV]
          go_wp2_with fail
          refine (wat_any 0 w3 HW3.out.1 HOK1.out.inv (by decide)).mono ?_
          rintro e w9 ⟨rfl, rfl⟩
          rw [show ∀ a b c, pairV (atF a b c 0) = .tuple #[.int .i64 a, .bool true] from fun _ _ _ => rfl]
          go_wp2_with (go_at_call 15; refine (wroom_any 1 w3 HW3.out.1 HOK1.out.inv (by decide)).mono ?_; rintro e w9 ⟨rfl, rfl⟩; rw [HRO.out])
          all_goals
            go_roundw
            case rel => exact ⟨k + 1, _, _, _, L1, _, by go_num, rfl, rfl, rfl, rfl, by omega, by omega, HW3.out.1, HOK1.out, HW3.out.2, hlen1, HS1.out⟩
            case measure => simp [intOf]; omega
      · cases hth
    · have HS1 := Lib.hid hs1
      have hlo1 := hs1.lo
      have hhi1 := hs1.hi
      have et1 : (t == 1) = false := by simpa using ht1
      clear ht1
      rcases sm_at hs1 HOK1.out with ⟨hth, hat, hn1, hn2, hr1, hr2⟩ | ⟨hth, hat, hr0⟩
      · have HAT := Lib.hid hat
        generalize hro : roomB _ 1 = ro at hr1 hr2
        have HRO := Lib.hid (show roomF _ _ _ 1 = _ from hro)
        clear hat hs1 hro
        subst hth
        as_aux_lemma =>
          go_wp2_with fail
          refine (wat_any 1 w3 HW3.out.1 HOK1.out.inv (by decide)).mono ?_
          rintro e w9 ⟨rfl, rfl⟩
          rw [show atF _ _ _ 1 = _ from HAT.out]
          simp only [pairV]
          go_wp2_with fail
          refine (wat_any 0 w3 HW3.out.1 HOK1.out.inv (by decide)).mono ?_
          rintro e w9 ⟨rfl, rfl⟩
          rw [show ∀ a b c, pairV (atF a b c 0) = .tuple #[.int .i64 a, .bool true] from fun _ _ _ => rfl]
          go_wp2_with (go_at_call 15; refine (wroom_any 1 w3 HW3.out.1 HOK1.out.inv (by decide)).mono ?_; rintro e w9 ⟨rfl, rfl⟩; rw [HRO.out])
          all_goals
            go_roundw
            case rel => exact ⟨k + 1, _, _, _, L1, _, by go_num, rfl, rfl, rfl, rfl, by omega, by omega, HW3.out.1, HOK1.out, HW3.out.2, hlen1, HS1.out⟩
            case measure => simp [intOf]; omega
      · have HAT := Lib.hid hat
        have HRO := Lib.hid (show roomF _ _ _ 1 = _ from hr0)
        clear hat hs1 hr0
        subst hth
        as_aux_lemma =>
          go_wp2_with fail
          refine (wat_any 1 w3 HW3.out.1 HOK1.out.inv (by decide)).mono ?_
          rintro e w9 ⟨rfl, rfl⟩
          rw [show atF _ _ _ 1 = _ from HAT.out]
          simp only [pairV]
          go_wp2_with fail
          refine (wat_any 0 w3 HW3.out.1 HOK1.out.inv (by decide)).mono ?_
          rintro e w9 ⟨rfl, rfl⟩
          rw [show ∀ a b c, pairV (atF a b c 0) = .tuple #[.int .i64 a, .bool true] from fun _ _ _ => rfl]
          go_wp2_with (go_at_call 15; refine (wroom_any 1 w3 HW3.out.1 HOK1.out.inv (by decide)).mono ?_; rintro e w9 ⟨rfl, rfl⟩; rw [HRO.out])
          all_goals
            go_roundw
            case rel => exact ⟨k + 1, _, _, _, L1, _, by go_num, rfl, rfl, rfl, rfl, by omega, by omega, HW3.out.1, HOK1.out, HW3.out.2, hlen1, HS1.out⟩
            case measure => simp [intOf]; omega
    · have HS1 := Lib.hid hs1
      have hlo1 := hs1.lo
      have hhi1 := hs1.hi
      rcases sm_at hs1 HOK1.out with ⟨hth, hat, hn1, hn2, hr1, hr2⟩ | ⟨hth, hat, hr0⟩
      · cases hth
      · have HAT := Lib.hid hat
        have HRO := Lib.hid (show roomF _ _ _ 1 = _ from hr0)
        clear hat hs1 hr0
        clear hth
        as_aux_lemma =>
          go_wp2_with fail
          refine (wat_any 1 w3 HW3.out.1 HOK1.out.inv (by decide)).mono ?_
          rintro e w9 ⟨rfl, rfl⟩
          rw [show atF _ _ _ 1 = _ from HAT.out]
          simp only [pairV]
          go_wp2_with fail
          refine (wat_any 0 w3 HW3.out.1 HOK1.out.inv (by decide)).mono ?_
          rintro e w9 ⟨rfl, rfl⟩
          rw [show ∀ a b c, pairV (atF a b c 0) = .tuple #[.int .i64 a, .bool true] from fun _ _ _ => rfl]
          go_wp2_with (go_at_call 15; refine (wroom_any 1 w3 HW3.out.1 HOK1.out.inv (by decide)).mono ?_; rintro e w9 ⟨rfl, rfl⟩; rw [HRO.out])
          all_goals
            go_roundw
            case rel => exact ⟨k + 1, _, _, _, L1, _, by go_num, rfl, rfl, rfl, rfl, by omega, by omega, HW3.out.1, HOK1.out, HW3.out.2, hlen1, HS1.out⟩
            case measure => simp [intOf]; omega
    · have HS1 := Lib.hid hs1
      have hlo1 := hs1.lo
      have hhi1 := hs1.hi
      have et1 : (t == 1) = false := by simpa using ht1
      clear ht1
      rcases sm_at hs1 HOK1.out with ⟨hth, hat, hn1, hn2, hr1, hr2⟩ | ⟨hth, hat, hr0⟩
      · have HAT := Lib.hid hat
        generalize hro : roomB _ 1 = ro at hr1 hr2
        have HRO := Lib.hid (show roomF _ _ _ 1 = _ from hro)
        clear hat hs1 hro
        subst hth
        as_aux_lemma =>
          go_wp2_with fail
          refine (wat_any 1 w3 HW3.out.1 HOK1.out.inv (by decide)).mono ?_
          rintro e w9 ⟨rfl, rfl⟩
          rw [show atF _ _ _ 1 = _ from HAT.out]
          simp only [pairV]
          go_wp2_with fail
          refine (wat_any 0 w3 HW3.out.1 HOK1.out.inv (by decide)).mono ?_
          rintro e w9 ⟨rfl, rfl⟩
          rw [show ∀ a b c, pairV (atF a b c 0) = .tuple #[.int .i64 a, .bool true] from fun _ _ _ => rfl]
          go_wp2_with (go_at_call 15; refine (wroom_any 1 w3 HW3.out.1 HOK1.out.inv (by decide)).mono ?_; rintro e w9 ⟨rfl, rfl⟩; rw [HRO.out])
          all_goals
            go_roundw
            case rel => exact ⟨k + 1, _, _, _, L1, _, by go_num, rfl, rfl, rfl, rfl, by omega, by omega, HW3.out.1, HOK1.out, HW3.out.2, hlen1, HS1.out⟩
            case measure => simp [intOf]; omega
      · have HAT := Lib.hid hat
        have HRO := Lib.hid (show roomF _ _ _ 1 = _ from hr0)
        clear hat hs1 hr0
        subst hth
        as_aux_lemma =>
          go_wp2_with fail
          refine (wat_any 1 w3 HW3.out.1 HOK1.out.inv (by decide)).mono ?_
          rintro e w9 ⟨rfl, rfl⟩
          rw [show atF _ _ _ 1 = _ from HAT.out]
          simp only [pairV]
          go_wp2_with fail
          refine (wat_any 0 w3 HW3.out.1 HOK1.out.inv (by decide)).mono ?_
          rintro e w9 ⟨rfl, rfl⟩
          rw [show ∀ a b c, pairV (atF a b c 0) = .tuple #[.int .i64 a, .bool true] from fun _ _ _ => rfl]
          go_wp2_with (go_at_call 15; refine (wroom_any 1 w3 HW3.out.1 HOK1.out.inv (by decide)).mono ?_; rintro e w9 ⟨rfl, rfl⟩; rw [HRO.out])
          all_goals
            go_roundw
            case rel => exact ⟨k + 1, _, _, _, L1, _, by go_num, rfl, rfl, rfl, rfl, by omega, by omega, HW3.out.1, HOK1.out, HW3.out.2, hlen1, HS1.out⟩
            case measure => simp [intOf]; omega
    · have HS1 := Lib.hid hs1
      have hlo1 := hs1.lo
      have hhi1 := hs1.hi
      rcases sm_at hs1 HOK1.out with ⟨hth, hat, hn1, hn2, hr1, hr2⟩ | ⟨hth, hat, hr0⟩
      · have HAT := Lib.hid hat
        generalize hro : roomB _ 1 = ro at hr1 hr2
        have HRO := Lib.hid (show roomF _ _ _ 1 = _ from hro)
        clear hat hs1 hro
        subst hth
        as_aux_lemma =>
          go_wp2_with fail
          refine (wat_any 1 w3 HW3.out.1 HOK1.out.inv (by decide)).mono ?_
          rintro e w9 ⟨rfl, rfl⟩
          rw [show atF _ _ _ 1 = _ from HAT.out]
          simp only [pairV]
          go_wp2_with fail
          refine (wat_any 0 w3 HW3.out.1 HOK1.out.inv (by decide)).mono ?_
          rintro e w9 ⟨rfl, rfl⟩
          rw [show ∀ a b c, pairV (atF a b c 0) = .tuple #[.int .i64 a, .bool true] from fun _ _ _ => rfl]
          go_wp2_with (go_at_call 15; refine (wroom_any 1 w3 HW3.out.1 HOK1.out.inv (by decide)).mono ?_; rintro e w9 ⟨rfl, rfl⟩; rw [HRO.out])
          all_goals
            go_roundw
            case rel => exact ⟨k + 1, _, _, _, L1, _, by go_num, rfl, rfl, rfl, rfl, by omega, by omega, HW3.out.1, HOK1.out, HW3.out.2, hlen1, HS1.out⟩
            case measure => simp [intOf]; omega
      · have HAT := Lib.hid hat
        have HRO := Lib.hid (show roomF _ _ _ 1 = _ from hr0)
        clear hat hs1 hr0
        subst hth
        as_aux_lemma =>
          go_wp2_with fail
          refine (wat_any 1 w3 HW3.out.1 HOK1.out.inv (by decide)).mono ?_
          rintro e w9 ⟨rfl, rfl⟩
          rw [show atF _ _ _ 1 = _ from HAT.out]
          simp only [pairV]
          go_wp2_with fail
          refine (wat_any 0 w3 HW3.out.1 HOK1.out.inv (by decide)).mono ?_
          rintro e w9 ⟨rfl, rfl⟩
          rw [show ∀ a b c, pairV (atF a b c 0) = .tuple #[.int .i64 a, .bool true] from fun _ _ _ => rfl]
          go_wp2_with (go_at_call 15; refine (wroom_any 1 w3 HW3.out.1 HOK1.out.inv (by decide)).mono ?_; rintro e w9 ⟨rfl, rfl⟩; rw [HRO.out])
          all_goals
            go_roundw
            case rel => exact ⟨k + 1, _, _, _, L1, _, by go_num, rfl, rfl, rfl, rfl, by omega, by omega, HW3.out.1, HOK1.out, HW3.out.2, hlen1, HS1.out⟩
            case measure => simp [intOf]; omega
    · have HS1 := Lib.hid hs1
      have hlo1 := hs1.lo
      have hhi1 := hs1.hi
      have et1 : (t == 1) = false := by simpa using ht1
      clear ht1
      rcases sm_at hs1 HOK1.out with ⟨hth, hat, hn1, hn2, hr1, hr2⟩ | ⟨hth, hat, hr0⟩
      · have HAT := Lib.hid hat
        generalize hro : roomB _ 1 = ro at hr1 hr2
        have HRO := Lib.hid (show roomF _ _ _ 1 = _ from hro)
        clear hat hs1 hro
        subst hth
        as_aux_lemma =>
          go_wp2_with fail
          refine (wat_any 1 w3 HW3.out.1 HOK1.out.inv (by decide)).mono ?_
          rintro e w9 ⟨rfl, rfl⟩
          rw [show atF _ _ _ 1 = _ from HAT.out]
          simp only [pairV]
          go_wp2_with fail
          refine (wat_any 0 w3 HW3.out.1 HOK1.out.inv (by decide)).mono ?_
          rintro e w9 ⟨rfl, rfl⟩
          rw [show ∀ a b c, pairV (atF a b c 0) = .tuple #[.int .i64 a, .bool true] from fun _ _ _ => rfl]
          go_wp2_with (go_at_call 15; refine (wroom_any 1 w3 HW3.out.1 HOK1.out.inv (by decide)).mono ?_; rintro e w9 ⟨rfl, rfl⟩; rw [HRO.out])
          all_goals
            go_roundw
            case rel => exact ⟨k + 1, _, _, _, L1, _, by go_num, rfl, rfl, rfl, rfl, by omega, by omega, HW3.out.1, HOK1.out, HW3.out.2, hlen1, HS1.out⟩
            case measure => simp [intOf]; omega
      · have HAT := Lib.hid hat
        have HRO := Lib.hid (show roomF _ _ _ 1 = _ from hr0)
        clear hat hs1 hr0
        subst hth
        as_aux_lemma =>
          go_wp2_with fail
          refine (wat_any 1 w3 HW3.out.1 HOK1.out.inv (by decide)).mono ?_
          rintro e w9 ⟨rfl, rfl⟩
          rw [show atF _ _ _ 1 = _ from HAT.out]
          simp only [pairV]
          go_wp2_with fail
          refine (wat_any 0 w3 HW3.out.1 HOK1.out.inv (by decide)).mono ?_
          rintro e w9 ⟨rfl, rfl⟩
          rw [show ∀ a b c, pairV (atF a b c 0) = .tuple #[.int .i64 a, .bool true] from fun _ _ _ => rfl]
          go_wp2_with (go_at_call 15; refine (wroom_any 1 w3 HW3.out.1 HOK1.out.inv (by decide)).mono ?_; rintro e w9 ⟨rfl, rfl⟩; rw [HRO.out])
          all_goals
            go_roundw
            case rel => exact ⟨k + 1, _, _, _, L1, _, by go_num, rfl, rfl, rfl, rfl, by omega, by omega, HW3.out.1, HOK1.out, HW3.out.2, hlen1, HS1.out⟩
            case measure => simp [intOf]; omega
    · have HS1 := Lib.hid hs1
      have hlo1 := hs1.lo
      have hhi1 := hs1.hi
      rcases sm_at hs1 HOK1.out with ⟨hth, hat, hn1, hn2, hr1, hr2⟩ | ⟨hth, hat, hr0⟩
      · have HAT := Lib.hid hat
        generalize hro : roomB _ 1 = ro at hr1 hr2
        have HRO := Lib.hid (show roomF _ _ _ 1 = _ from hro)
        clear hat hs1 hro
        subst hth
        as_aux_lemma =>
          go_wp2_with fail
          refine (wat_any 1 w3 HW3.out.1 HOK1.out.inv (by decide)).mono ?_
          rintro e w9 ⟨rfl, rfl⟩
          rw [show atF _ _ _ 1 = _ from HAT.out]
          simp only [pairV]
          go_wp2_with fail
          refine (wat_any 0 w3 HW3.out.1 HOK1.out.inv (by decide)).mono ?_
          rintro e w9 ⟨rfl, rfl⟩
          rw [show ∀ a b c, pairV (atF a b c 0) = .tuple #[.int .i64 a, .bool true] from fun _ _ _ => rfl]
          go_wp2_with (go_at_call 15; refine (wroom_any 1 w3 HW3.out.1 HOK1.out.inv (by decide)).mono ?_; rintro e w9 ⟨rfl, rfl⟩; rw [HRO.out])
          all_goals
            go_roundw
            case rel => exact ⟨k + 1, _, _, _, L1, _, by go_num, rfl, rfl, rfl, rfl, by omega, by omega, HW3.out.1, HOK1.out, HW3.out.2, hlen1, HS1.out⟩
            case measure => simp [intOf]; omega
      · have HAT := Lib.hid hat
        have HRO := Lib.hid (show roomF _ _ _ 1 = _ from hr0)
        clear hat hs1 hr0
        subst hth
        as_aux_lemma =>
          go_wp2_with fail
          refine (wat_any 1 w3 HW3.out.1 HOK1.out.inv (by decide)).mono ?_
          rintro e w9 ⟨rfl, rfl⟩
          rw [show atF _ _ _ 1 = _ from HAT.out]
          simp only [pairV]
          go_wp2_with fail
          refine (wat_any 0 w3 HW3.out.1 HOK1.out.inv (by decide)).mono ?_
          rintro e w9 ⟨rfl, rfl⟩
          rw [show ∀ a b c, pairV (atF a b c 0) = .tuple #[.int .i64 a, .bool true] from fun _ _ _ => rfl]
          go_wp2_with (go_at_call 15; refine (wroom_any 1 w3 HW3.out.1 HOK1.out.inv (by decide)).mono ?_; rintro e w9 ⟨rfl, rfl⟩; rw [HRO.out])
          all_goals
            go_roundw
            case rel => exact ⟨k + 1, _, _, _, L1, _, by go_num, rfl, rfl, rfl, rfl, by omega, by omega, HW3.out.1, HOK1.out, HW3.out.2, hlen1, HS1.out⟩
            case measure => simp [intOf]; omega
    · have HS1 := Lib.hid hs1
      have hlo1 := hs1.lo
      have hhi1 := hs1.hi
      rcases sm_at hs1 HOK1.out with ⟨hth, hat, hn1, hn2, hr1, hr2⟩ | ⟨hth, hat, hr0⟩
      · have HAT := Lib.hid hat
        generalize hro : roomB _ 1 = ro at hr1 hr2
        have HRO := Lib.hid (show roomF _ _ _ 1 = _ from hro)
        clear hat hs1 hro
        subst hth
        as_aux_lemma =>
          go_wp2_with fail
          refine (wat_any 1 w3 HW3.out.1 HOK1.out.inv (by decide)).mono ?_
          rintro e w9 ⟨rfl, rfl⟩
          rw [show atF _ _ _ 1 = _ from HAT.out]
          simp only [pairV]
          go_wp2_with fail
          refine (wat_any 0 w3 HW3.out.1 HOK1.out.inv (by decide)).mono ?_
          rintro e w9 ⟨rfl, rfl⟩
          rw [show ∀ a b c, pairV (atF a b c 0) = .tuple #[.int .i64 a, .bool true] from fun _ _ _ => rfl]
          go_wp2_with (go_at_call 15; refine (wroom_any 1 w3 HW3.out.1 HOK1.out.inv (by decide)).mono ?_; rintro e w9 ⟨rfl, rfl⟩; rw [HRO.out])
          all_goals
            go_roundw
            case rel => exact ⟨k + 1, _, _, _, L1, _, by go_num, rfl, rfl, rfl, rfl, by omega, by omega, HW3.out.1, HOK1.out, HW3.out.2, hlen1, HS1.out⟩
            case measure => simp [intOf]; omega
      · have HAT := Lib.hid hat
        have HRO := Lib.hid (show roomF _ _ _ 1 = _ from hr0)
        clear hat hs1 hr0
        subst hth
        as_aux_lemma =>
          go_wp2_with fail
          refine (wat_any 1 w3 HW3.out.1 HOK1.out.inv (by decide)).mono ?_
          rintro e w9 ⟨rfl, rfl⟩
          rw [show atF _ _ _ 1 = _ from HAT.out]
          simp only [pairV]
          go_wp2_with fail
          refine (wat_any 0 w3 HW3.out.1 HOK1.out.inv (by decide)).mono ?_
          rintro e w9 ⟨rfl, rfl⟩
          rw [show ∀ a b c, pairV (atF a b c 0) = .tuple #[.int .i64 a, .bool true] from fun _ _ _ => rfl]
          go_wp2_with (go_at_call 15; refine (wroom_any 1 w3 HW3.out.1 HOK1.out.inv (by decide)).mono ?_; rintro e w9 ⟨rfl, rfl⟩; rw [HRO.out])
          all_goals
            go_roundw
            case rel => exact ⟨k + 1, _, _, _, L1, _, by go_num, rfl, rfl, rfl, rfl, by omega, by omega, HW3.out.1, HOK1.out, HW3.out.2, hlen1, HS1.out⟩
            case measure => simp [intOf]; omega
    · have HS1 := Lib.hid hs1
      have hlo1 := hs1.lo
      have hhi1 := hs1.hi
      rcases sm_at hs1 HOK1.out with ⟨hth, hat, hn1, hn2, hr1, hr2⟩ | ⟨hth, hat, hr0⟩
      · have HAT := Lib.hid hat
        generalize hro : roomB _ 1 = ro at hr1 hr2
        have HRO := Lib.hid (show roomF _ _ _ 1 = _ from hro)
        clear hat hs1 hro
        subst hth
        as_aux_lemma =>
          go_wp2_with fail
          refine (wat_any 1 w3 HW3.out.1 HOK1.out.inv (by decide)).mono ?_
          rintro e w9 ⟨rfl, rfl⟩
          rw [show atF _ _ _ 1 = _ from HAT.out]
          simp only [pairV]
          go_wp2_with fail
          refine (wat_any 0 w3 HW3.out.1 HOK1.out.inv (by decide)).mono ?_
          rintro e w9 ⟨rfl, rfl⟩
          rw [show ∀ a b c, pairV (atF a b c 0) = .tuple #[.int .i64 a, .bool true] from fun _ _ _ => rfl]
          go_wp2_with (go_at_call 15; refine (wroom_any 1 w3 HW3.out.1 HOK1.out.inv (by decide)).mono ?_; rintro e w9 ⟨rfl, rfl⟩; rw [HRO.out])
          all_goals
            go_roundw
            case rel => exact ⟨k + 1, _, _, _, L1, _, by go_num, rfl, rfl, rfl, rfl, by omega, by omega, HW3.out.1, HOK1.out, HW3.out.2, hlen1, HS1.out⟩
            case measure => simp [intOf]; omega
      · have HAT := Lib.hid hat
        have HRO := Lib.hid (show roomF _ _ _ 1 = _ from hr0)
        clear hat hs1 hr0
        subst hth
        as_aux_lemma =>
          go_wp2_with fail
          refine (wat_any 1 w3 HW3.out.1 HOK1.out.inv (by decide)).mono ?_
          rintro e w9 ⟨rfl, rfl⟩
          rw [show atF _ _ _ 1 = _ from HAT.out]
          simp only [pairV]
          go_wp2_with fail
          refine (wat_any 0 w3 HW3.out.1 HOK1.out.inv (by decide)).mono ?_
          rintro e w9 ⟨rfl, rfl⟩
          rw [show ∀ a b c, pairV (atF a b c 0) = .tuple #[.int .i64 a, .bool true] from fun _ _ _ => rfl]
          go_wp2_with (go_at_call 15; refine (wroom_any 1 w3 HW3.out.1 HOK1.out.inv (by decide)).mono ?_; rintro e w9 ⟨rfl, rfl⟩; rw [HRO.out])
          all_goals
            go_roundw
            case rel => exact ⟨k + 1, _, _, _, L1, _, by go_num, rfl, rfl, rfl, rfl, by omega, by omega, HW3.out.1, HOK1.out, HW3.out.2, hlen1, HS1.out⟩
            case measure => simp [intOf]; omega
    · have HS1 := Lib.hid hs1
      have hlo1 := hs1.lo
      have hhi1 := hs1.hi
      rcases sm_at hs1 HOK1.out with ⟨hth, hat, hn1, hn2, hr1, hr2⟩ | ⟨hth, hat, hr0⟩
      · have HAT := Lib.hid hat
        generalize hro : roomB _ 1 = ro at hr1 hr2
        have HRO := Lib.hid (show roomF _ _ _ 1 = _ from hro)
        clear hat hs1 hro
        subst hth
        as_aux_lemma =>
          go_wp2_with fail
          refine (wat_any 1 w3 HW3.out.1 HOK1.out.inv (by decide)).mono ?_
          rintro e w9 ⟨rfl, rfl⟩
          rw [show atF _ _ _ 1 = _ from HAT.out]
          simp only [pairV]
          go_wp2_with fail
          refine (wat_any 0 w3 HW3.out.1 HOK1.out.inv (by decide)).mono ?_
          rintro e w9 ⟨rfl, rfl⟩
          rw [show ∀ a b c, pairV (atF a b c 0) = .tuple #[.int .i64 a, .bool true] from fun _ _ _ => rfl]
          go_wp2_with (go_at_call 15; refine (wroom_any 1 w3 HW3.out.1 HOK1.out.inv (by decide)).mono ?_; rintro e w9 ⟨rfl, rfl⟩; rw [HRO.out])
          all_goals
            go_roundw
            case rel => exact ⟨k + 1, _, _, _, L1, _, by go_num, rfl, rfl, rfl, rfl, by omega, by omega, HW3.out.1, HOK1.out, HW3.out.2, hlen1, HS1.out⟩
            case measure => simp [intOf]; omega
      · have HAT := Lib.hid hat
        have HRO := Lib.hid (show roomF _ _ _ 1 = _ from hr0)
        clear hat hs1 hr0
        subst hth
        as_aux_lemma =>
          go_wp2_with fail
          refine (wat_any 1 w3 HW3.out.1 HOK1.out.inv (by decide)).mono ?_
          rintro e w9 ⟨rfl, rfl⟩
          rw [show atF _ _ _ 1 = _ from HAT.out]
          simp only [pairV]
          go_wp2_with fail
          refine (wat_any 0 w3 HW3.out.1 HOK1.out.inv (by decide)).mono ?_
          rintro e w9 ⟨rfl, rfl⟩
          rw [show ∀ a b c, pairV (atF a b c 0) = .tuple #[.int .i64 a, .bool true] from fun _ _ _ => rfl]
          go_wp2_with (go_at_call 15; refine (wroom_any 1 w3 HW3.out.1 HOK1.out.inv (by decide)).mono ?_; rintro e w9 ⟨rfl, rfl⟩; rw [HRO.out])
          all_goals
            go_roundw
            case rel => exact ⟨k + 1, _, _, _, L1, _, by go_num, rfl, rfl, rfl, rfl, by omega, by omega, HW3.out.1, HOK1.out, HW3.out.2, hlen1, HS1.out⟩
            case measure => simp [intOf]; omega
    · have HS1 := Lib.hid hs1
      have hlo1 := hs1.lo
      have hhi1 := hs1.hi
      have ek0 : (kd == 0) = false := by simpa using k0
      have ek1 : (kd == 1) = false := by simpa using k1
      have ek2 : (kd == 2) = false := by simpa using k2
      have ek3 : (kd == 3) = false := by simpa using k3
      have ek4 : (kd == 4) = false := by simpa using k4
      clear k0 k1 k2 k3 k4
      rcases sm_at hs1 HOK1.out with ⟨hth, hat, hn1, hn2, hr1, hr2⟩ | ⟨hth, hat, hr0⟩
      · have HAT := Lib.hid hat
        generalize hro : roomB _ 1 = ro at hr1 hr2
        have HRO := Lib.hid (show roomF _ _ _ 1 = _ from hro)
        clear hat hs1 hro
        subst hth
        as_aux_lemma =>
          go_wp2_with fail
          refine (wat_any 1 w3 HW3.out.1 HOK1.out.inv (by decide)).mono ?_
          rintro e w9 ⟨rfl, rfl⟩
          rw [show atF _ _ _ 1 = _ from HAT.out]
          simp only [pairV]
          go_wp2_with fail
          refine (wat_any 0 w3 HW3.out.1 HOK1.out.inv (by decide)).mono ?_
          rintro e w9 ⟨rfl, rfl⟩
          rw [show ∀ a b c, pairV (atF a b c 0) = .tuple #[.int .i64 a, .bool true] from fun _ _ _ => rfl]
          go_wp2_with (go_at_call 15; refine (wroom_any 1 w3 HW3.out.1 HOK1.out.inv (by decide)).mono ?_; rintro e w9 ⟨rfl, rfl⟩; rw [HRO.out])
          all_goals
            go_roundw
            case rel => exact ⟨k + 1, _, _, _, L1, _, by go_num, rfl, rfl, rfl, rfl, by omega, by omega, HW3.out.1, HOK1.out, HW3.out.2, hlen1, HS1.out⟩
            case measure => simp [intOf]; omega
      · have HAT := Lib.hid hat
        have HRO := Lib.hid (show roomF _ _ _ 1 = _ from hr0)
        clear hat hs1 hr0
        subst hth
        as_aux_lemma =>
          go_wp2_with fail
          refine (wat_any 1 w3 HW3.out.1 HOK1.out.inv (by decide)).mono ?_
          rintro e w9 ⟨rfl, rfl⟩
          rw [show atF _ _ _ 1 = _ from HAT.out]
          simp only [pairV]
          go_wp2_with fail
          refine (wat_any 0 w3 HW3.out.1 HOK1.out.inv (by decide)).mono ?_
          rintro e w9 ⟨rfl, rfl⟩
          rw [show ∀ a b c, pairV (atF a b c 0) = .tuple #[.int .i64 a, .bool true] from fun _ _ _ => rfl]
          go_wp2_with (go_at_call 15; refine (wroom_any 1 w3 HW3.out.1 HOK1.out.inv (by decide)).mono ?_; rintro e w9 ⟨rfl, rfl⟩; rw [HRO.out])
          all_goals
            go_roundw
            case rel => exact ⟨k + 1, _, _, _, L1, _, by go_num, rfl, rfl, rfl, rfl, by omega, by omega, HW3.out.1, HOK1.out, HW3.out.2, hlen1, HS1.out⟩
            case measure => simp [intOf]; omega
end Go.Proofs.Ytoicclgcbemffaa
