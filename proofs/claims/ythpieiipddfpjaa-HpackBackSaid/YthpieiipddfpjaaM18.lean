/- 2 texts in one: HBack, ClaimHpackBack. -/
import Derived.Test.YthpieiipddfpjaaM13
import Derived.Test.YthpieiipddfpjaaM12
import Derived.Test.YthpieiipddfpjaaM7
/- The walks of drawbridgelaw05.few, HpackBack. -/
namespace Go.Proofs.Ythpieiipddfpjaa
open Go.RowKit

def FwRel (D : Nat → Do5) (n : Nat) (w : World) (tv iv : Value) (wr : World) : Prop := ∃ k t d : Nat, iv = .int .i64 k ∧ tv = .int .i64 t ∧ t ≤ 1048576 ∧ k ≤ n ∧ k ≤ 30 ∧ wr = w.drewN d ∧ ∀ i, i < k → bytesV (D i).l ≤ 1048576
set_option maxRecDepth 100000 in
set_option maxHeartbeats 4000000 in
theorem hfew_any {A : Option Addr} {B n c : Nat} {D : Nat → Do5} (w : World) (h : Dos5 w B A n D) (hn : n ≤ 140737488351232) :
    Calls Try.prog 41 #[.slice A n c] w fun e w' => ∃ b, e = .returned (.bool b) ∧ (∃ d, w' = w.drewN d) ∧ (b = true → ∀ i, i < n → i < 30 → bytesV (D i).l ≤ 1048576) := by
  have H1 := Lib.hid h
  clear h
  go_enter Try.func41, Try.ntmps41
  go_wp2_with fail
  go_loopw [3, 4] (fun tv iv wr => FwRel D n w tv iv wr) (fun _ iv _ => n - (intOf iv).toNat)
  case atStart => exact ⟨0, 0, 0, rfl, rfl, by omega, by omega, by omega, rfl, fun i hi => by omega⟩
  case round =>
    obtain ⟨k, t, d, rfl, rfl, ht, hk, hk30, rfl, hall⟩ := hrel
    have HALL := Lib.hid hall
    clear hall
    go_upto_region 3 with fail
    go_cut [12] (fun y wx => y = .bool (decide (k < n ∧ k < 30)) ∧ wx = w.drewN d)
    case first =>
      by_cases h1 : (k : Int) < n
      · by_cases h2 : (k : Int) < 30
        · go_wp2
          go_meet
          exact ⟨by congr 1; exact (decide_eq_true (by omega)).symm, rfl⟩
        · go_wp2
          go_meet
          exact ⟨by congr 1; exact (decide_eq_false (by omega)).symm, rfl⟩
      · go_wp2
        go_meet
        exact ⟨by congr 1; exact (decide_eq_false (by omega)).symm, rfl⟩
    case rest =>
    obtain ⟨rfl, hwc⟩ := hcut
    subst hwc
    by_cases hlt : k < n ∧ k < 30
    · rw [decide_eq_true hlt]
      obtain ⟨hlt, hlt2⟩ := hlt
      obtain ⟨b, o, rfl, hb, hc⟩ := H1.out (by omega)
      obtain ⟨⟨c0, c1, c2⟩, ok⟩ := hc k hlt
      have z2 : (w.drewN d).cell? ⟨b, o + k * 3 + 2, none⟩ = some (.slice (D k).A (D k).n (D k).c) := c2
      have n1 : (k : Int) < n := by omega
      have n2 : (k : Int) < 30 := by omega
      have HBY := Lib.hid (bytes_any (c := (D k).c) (w.drewN d) (ok.rd.drewN d) ok.nr ok.sz)
      have hbl := bytesV_le ok.sz
      obtain ⟨v, hv⟩ : ∃ v, bytesV (D k).l = v := ⟨_, rfl⟩
      rw [hv] at HBY hbl
      have HV := Lib.hid hv
      clear hc hv ok c0 c1 c2
      have hbl2 : (v : Int) ≤ 281476050452000 := by omega
      clear hbl
      go_wp2_with fail
      refine HBY.out.mono ?_
      rintro e2 w2 ⟨rfl, d2, rfl⟩
      by_cases hbig : (1048576 : Int) < t + v
      · go_wp2
        go_ret
        exact ⟨false, rfl, ⟨_, rfl⟩, fun h => by cases h⟩
      · go_wp2
        go_roundw
        case rel => exact ⟨k + 1, t + v, _, by go_num, by go_num, by omega, by omega, by omega, rfl, fun i hi => by
          rcases Nat.lt_succ_iff_lt_or_eq.1 hi with h | rfl
          · exact HALL.out i h
          · rw [HV.out]; omega⟩
        case measure => simp [intOf]; omega
    · have hQ : ∀ i, i < n → i < 30 → bytesV (D i).l ≤ 1048576 := fun i hi h30 => HALL.out i (by omega)
      rw [decide_eq_false hlt]
      have HQ := Lib.hid hQ
      clear hlt hQ
      go_wp2
      go_ret
      exact ⟨true, rfl, ⟨_, rfl⟩, fun _ => HQ.out⟩
theorem Duo.limit {W w : World} {e d : Nat} {G H X : Nat → Prop} {N M : Nat} {mo li : Int} {E : Enc} {T : Tb} (h : Duo W w e d G H X N M mo li E T) (n : Int) (ho0 : 0 ≤ E.own) (ho1 : E.own ≤ 65536) (hp : Pair E T) :
    Calls Try.prog 42 #[.pointer (some ⟨e, 0, none⟩), .int .i64 n] w fun ev w' => ∃ (r : Int) (G' : Nat → Prop) (E' : Enc), ev = .returned (.int .i64 r) ∧ Duo W w' e d G' H X N M mo li E' T ∧ Kept G w w' ∧ E'.own = E.own ∧ Pair E' T := by
  by_cases hn : n < 0
  · refine (limit_bad n w hn).mono ?_
    rintro ev w' ⟨rfl, rfl⟩
    exact ⟨1, G, E, rfl, h, Kept.refl _ _, rfl, hp⟩
  · refine (limit_any n w h.enc (by omega) ho0 ho1).mono ?_
    rintro ev w' ⟨rfl, G', he, hk, hg⟩
    have hs := hk.size
    exact ⟨0, G', E.limit n, rfl, ⟨he, h.dec.keep fun k hk' => hk.block k (h.dec.lt k hk') (fun hG => h.aGH k hG hk'), fun k hk' => (hg k hk').elim (h.nG k) (fun h2 => Nat.le_trans h.bel.size h2), h.nH, fun k hk' => ⟨(h.nX k hk').1, Nat.lt_of_lt_of_le (h.nX k hk').2 hs⟩,
      fun k hk' hH => (hg k hk').elim (fun hG => h.aGH k hG hH) (fun h2 => by have := h.dec.lt k hH; omega), fun k hk' hX => (hg k hk').elim (fun hG => h.aGX k hG hX) (fun h2 => by have := (h.nX k hX).2; omega), h.aHX, h.bel.trans (hk.below h.nG h.bel.size)⟩, hk, rfl, hp.limit (by omega) ho0 ho1⟩
def BackRel (W : World) (n e d : Nat) (own : Int) (iv : Value) (wr : World) : Prop := ∃ (k : Nat) (G H : Nat → Prop) (E : Enc) (T : Tb), iv = .int .i64 k ∧ k ≤ n ∧ k ≤ 30 ∧ Duo W wr e d G H (fun _ => False) (k * 1048576) (k * 1048576) 65536 1099511627776 E T ∧ Pair E T ∧ E.own = own
def InRel (W : World) (m : Nat) (iv : Value) (wr : World) : Prop := ∃ k : Nat, iv = .int .i64 k ∧ k ≤ m ∧ Below W.heap.size W wr
set_option maxRecDepth 100000 in
set_option maxHeartbeats 8000000 in
theorem hback_any {n c : Nat} {A : Option Addr} {D : Nat → Do5} (own : Int) (w : World) (h : Dos5 w w.heap.size A n D) (hn : n ≤ 140737488351232) :
    Calls Try.prog 11 #[.int .i64 own, .slice A n c] w (RetT w) := by
  have H1 := Lib.hid h
  have HAW := Lib.hid (awake_any w)
  clear h
  go_enter Try.func11, Try.ntmps11
  go_wp2_with fail
  refine HAW.out.mono ?_
  rintro e1 w1 ⟨rfl, hb1⟩
  have HFW := Lib.hid (hfew_any (c := c) w1 (H1.out.below hb1) hn)
  have HB1 := Lib.hid hb1
  clear hb1 HAW
  go_wp2_with fail
  refine HFW.out.mono ?_
  rintro e2 w2 ⟨bb, rfl, ⟨d2, rfl⟩, hbb⟩
  obtain rfl | rfl : bb = false ∨ bb = true := by cases bb <;> simp
  · go_wp2
    go_ret
    exact ⟨rfl, below_dN HB1.out _⟩
  have HSM := Lib.hid (hbb rfl)
  have HB2 : Hid (Below w.heap.size w (w1.drewN d2)) := Lib.hid (below_dN HB1.out _)
  obtain ⟨W2, hW2⟩ : ∃ W2, w1.drewN d2 = W2 := ⟨_, rfl⟩
  rw [hW2] at HB2 ⊢
  have hs2 := HB2.out.size
  clear hbb hW2 HFW
  by_cases h0 : own < 0
  · go_wp2
    go_ret
    exact ⟨rfl, HB2.out⟩
  by_cases h1 : 65536 < own
  · go_wp2
    go_ret
    exact ⟨rfl, HB2.out⟩
  have HNE := Lib.hid (newenc_any own W2 (by omega) (by omega))
  go_wp2_with fail
  refine HNE.out.mono ?_
  rintro e4 w4 ⟨e, G0, rfl, he, hG, hb4⟩
  have HE := Lib.hid (And.intro he (And.intro hG hb4))
  have HND := Lib.hid (newdec_any 65536 1099511627776 w4 (by omega) (by omega) (by omega))
  clear he hG hb4 HNE
  go_wp2_with fail
  refine HND.out.mono ?_
  rintro e5 w5 ⟨d, H0, rfl, hd, hH, hb5⟩
  have hs4 := HE.out.2.2.size
  have hpair : Pair (encNew own) ⟨min 65536 4096, 0, []⟩ := Pair.new (own := own) (mo := 65536) (by omega) (by omega) (by omega)
  have hduo : Duo w w5 e d G0 H0 (fun _ => False) 0 0 65536 1099511627776 (encNew own) ⟨min 65536 4096, 0, []⟩ := by
    have hel := EncIs.lt HE.out.1
    exact ⟨EncIs.below HE.out.1 hb5, hd, fun j hj => by have := HE.out.2.1 j hj; omega, fun j hj => by have := hH j hj; omega, fun j hj => hj.elim, fun j hj hj2 => by have := hel j hj; have := hH j hj2; omega, fun _ _ h => h, fun _ _ h => h, (HB2.out.trans (HE.out.2.2.mono hs2)).trans (hb5.mono (by omega))⟩
  have HDU := Lib.hid (And.intro hduo hpair)
  clear hd hH hb5 hduo hpair HND HE hs4 hs2
  go_wp2_with fail
  go_loopw [9] (fun iv wr => BackRel w n e d own iv wr) (fun iv _ => n - (intOf iv).toNat)
  case atStart => exact ⟨0, G0, H0, _, _, rfl, by omega, by omega, HDU.out.1, HDU.out.2, rfl⟩
  case round =>
    obtain ⟨k, G, H, E, T, rfl, hk, hk30, hduo, hpair, hown⟩ := hrel
    have HD := Lib.hid (And.intro hduo (And.intro hpair hown))
    have hsr := hduo.bel.size
    clear hduo hpair hown HDU
    go_upto_region 10 with fail
    go_cut [58] (fun y wx => y = .bool (decide (k < n ∧ k < 30)) ∧ wx = wr)
    case first =>
      by_cases h1 : (k : Int) < n
      · by_cases h2 : (k : Int) < 30
        · go_wp2
          go_meet
          exact ⟨by congr 1; exact (decide_eq_true (by omega)).symm, rfl⟩
        · go_wp2
          go_meet
          exact ⟨by congr 1; exact (decide_eq_false (by omega)).symm, rfl⟩
      · go_wp2
        go_meet
        exact ⟨by congr 1; exact (decide_eq_false (by omega)).symm, rfl⟩
    case rest =>
    obtain ⟨rfl, hwc⟩ := hcut
    subst hwc
    by_cases hlt : k < n ∧ k < 30
    · rw [decide_eq_true hlt]
      obtain ⟨hlt, hlt2⟩ := hlt
      have hdo := H1.out.below HD.out.1.bel
      obtain ⟨b, o, rfl, hb, hc⟩ := hdo (by omega)
      obtain ⟨⟨c0, c1, c2⟩, ok⟩ := hc k hlt
      have hsm := HSM.out k hlt hlt2
      obtain ⟨x, hx⟩ : ∃ x, D k = x := ⟨_, rfl⟩
      rw [hx] at c0 c1 c2 ok hsm
      obtain ⟨st, lim, xA, xn, xc, xl⟩ := x
      simp only at c0 c1 c2 hsm
      have hr0 : Rd w w.heap.size 3 (D k).A (D k).n (fds (D k).l) := by
        obtain ⟨b', o', -, -, hc'⟩ := H1.out (by omega)
        exact (hc' k hlt).2.rd
      rw [hx] at hr0
      have HR0 : Hid (Rd w w.heap.size 3 xA xn (fds xl)) := Lib.hid hr0
      have HOK := Lib.hid (And.intro ok hsm)
      clear hr0
      have n1 : (k : Int) < n := by omega
      clear hdo hc hx ok hsm
      go_upto_region 13 with fail
      obtain ⟨Wz, hWz⟩ : ∃ Wz, wc.alloc (.cells #[.bool st, .int .i64 lim, .slice xA xn xc] 76) = Wz := ⟨_, rfl⟩
      obtain ⟨x, hx⟩ : ∃ x, wc.heap.size = x := ⟨_, rfl⟩
      rw [hWz, hx]
      have bz : Below wc.heap.size wc Wz := by rw [← hWz]; exact (Below.refl _ _).alloc (Nat.le_refl _) _
      have kx : Wz.heap[x]? = some (.cells #[.bool st, .int .i64 lim, .slice xA xn xc] 76 (0, 0)) := by rw [← hWz, ← hx]; exact heapNew _ _
      have hxl : x < Wz.heap.size := (Array.getElem?_eq_some_iff.1 kx).1
      have hdz : Duo w Wz e d G H (fun k => k = x) (k * 1048576) (k * 1048576) 65536 1099511627776 E T := by
        have h1 := (HD.out.1.still bz).also (Y := fun k => k = x) (fun j hj => by subst hj; omega) (fun j hj hg => by subst hj; have := HD.out.1.enc.lt _ hg; omega) (fun j hj hg => by subst hj; have := HD.out.1.dec.lt _ hg; omega)
        exact h1.less (fun _ h => .inr h)
      have hrz : Rd Wz w.heap.size 3 xA xn (fds xl) := HOK.out.1.rd.below (bz.mono hsr) (Nat.le_refl _)
      have y2 : Wz.cell? ⟨x, 2, none⟩ = some (.slice xA xn xc) := by unfold World.cell?; rw [kx]; rfl
      have HSH := Lib.hid (short_any (c := xc) Wz hrz HOK.out.1.nr HOK.out.1.sz)
      have HDZ := Lib.hid hdz
      have HKX := Lib.hid kx
      have HRZ := Lib.hid hrz
      obtain ⟨sb, hsb⟩ : ∃ sb, shortB xl = sb := ⟨_, rfl⟩
      rw [hsb] at HSH
      have HSB := Lib.hid hsb
      clear hWz hx bz kx hdz hrz c0 c1 c2 hsb
      go_wp2_with fail
      refine HSH.out.mono ?_
      rintro e6 w6 ⟨rfl, d6, rfl⟩
      obtain rfl | rfl : sb = false ∨ sb = true := by cases sb <;> simp
      · have HFB := Lib.hid (below_dN HDZ.out.bel d6)
        go_wp2
        go_ret
        exact ⟨rfl, HFB.out⟩
      have hd6 := HDZ.out.drewN d6
      have hx6 : (Wz.drewN d6).heap[x]? = some (.cells #[.bool st, .int .i64 lim, .slice xA xn xc] 76 (0, 0)) := HKX.out
      obtain ⟨W6, hW6⟩ : ∃ W6, Wz.drewN d6 = W6 := ⟨_, rfl⟩
      rw [hW6] at hd6 hx6 ⊢
      have HD6 := Lib.hid hd6
      have HX6 := Lib.hid hx6
      have y0 : W6.cell? ⟨x, 0, none⟩ = some (.bool st) := by unfold World.cell?; rw [hx6]; rfl
      have y1 : W6.cell? ⟨x, 1, none⟩ = some (.int .i64 lim) := by unfold World.cell?; rw [hx6]; rfl
      have HLI := Lib.hid (hd6.limit lim (by have := HD.out.2.2; omega) (by have := HD.out.2.2; omega) HD.out.2.1)
      clear hd6 hx6 hW6 HSH y2 HDZ HKX
      go_upto_if 70 with fail
      go_cut [72] (fun _ wx => ∃ (G' : Nat → Prop) (E' : Enc), Duo w wx e d G' H (fun k => k = x) (k * 1048576) (k * 1048576) 65536 1099511627776 E' T ∧ E'.own = own ∧ Pair E' T ∧ wx.heap[x]? = some (.cells #[.bool st, .int .i64 lim, .slice xA xn xc] 76 (0, 0)))
      case first =>
        cases st with
        | false =>
          go_wp2
          go_meet
          exact ⟨G, E, HD6.out, HD.out.2.2, HD.out.2.1, HX6.out⟩
        | true =>
          go_wp2_with fail
          refine HLI.out.mono ?_
          rintro e7 w7 ⟨r, G7, E7, rfl, hd7, hk7, ho7, hp7⟩
          have hx7 := (hk7.block x (Array.getElem?_eq_some_iff.1 HX6.out).1 (fun hg => HD6.out.aGX _ hg rfl)).trans HX6.out
          have H7 := Lib.hid (And.intro hd7 (And.intro ho7 (And.intro hp7 hx7)))
          clear hd7 hk7 ho7 hp7 hx7
          go_wp2
          go_meet
          exact ⟨G7, E7, H7.out.1, H7.out.2.1.trans HD.out.2.2, H7.out.2.2.1, H7.out.2.2.2⟩
      case rest =>
      obtain ⟨G7, E7, hd7, ho7, hp7, hx7⟩ := hcut
      have hf : ∀ f ∈ xl, f.1.1.size ≤ 4096 ∧ f.1.2.size ≤ 4096 := shortB_iff HSB.out
      have hsum : sumF xl ≤ 1048576 := by have h1 : bytesV xl = sumF xl := bytesV_sum (by have := HOK.out.2; omega)
                                          rw [← h1]; exact HOK.out.2
      have hxn : xn ≤ 32768 := by
        have h1 : ∀ l : List Fd, 32 * l.length ≤ sumF l := by
          intro l
          induction l with
          | nil => exact Nat.zero_le _
          | cons f l ih => unfold sumF at ih ⊢; simp only [List.length_cons, List.map_cons, List.sum_cons]; unfold cost at ih ⊢; omega
        have h2 := h1 xl
        have h3 : xl.length = xn := HOK.out.1.len
        omega
      have hm7 : E7.T.most ≤ 65536 := hp7.etok.most1
      have hl7 := hp7.l1
      have hlen := run_short hp7.etok (by omega) hf
      have hbb := block_back (mo := 65536) (li := 1099511627776) hp7 hm7 (by omega) hf
      rw [if_neg (by omega)] at hbb
      obtain ⟨E8, hE8⟩ : ∃ E8, (E7.run xl).2 = E8 := ⟨_, rfl⟩
      obtain ⟨bt, hbt⟩ : ∃ bt, (E7.run xl).1 = bt := ⟨_, rfl⟩
      have ho8 : E8.own = own := by rw [← hE8]; exact ho7
      have hrw : Rd wc wc.heap.size 3 xA xn (fds xl) := (HR0.out.below hd7.bel (Nat.le_refl _)).more hd7.bel.size
      have hnG := hd7.nG
      have hm9 : k * 1048576 + 1048576 ≤ 1099511627776 := by omega
      have HEN := Lib.hid (hd7.encode (c := xc) xl hrw (fun h0 a ha hg => by have h1 := hnG _ hg; obtain ⟨bb, oo, hA, hlt, -⟩ := HR0.out.2 h0; rw [hA] at ha; injection ha with ha; subst ha; simp only at h1; omega) hp7.l0 (by omega) (by omega) (by omega) (fun f hf' => by have := hf f hf'; omega))
      rw [hE8, hbt] at HEN hbb
      rw [hbt] at hlen
      have HBB := Lib.hid (And.intro hbb (And.intro ho8 (And.intro hf (hlen.2 hsum))))
      have y2 : wc.cell? ⟨x, 2, none⟩ = some (.slice xA xn xc) := by unfold World.cell?; rw [hx7]; rfl
      have HD7 := Lib.hid hd7
      have HX7 := Lib.hid hx7
      clear hf hsum hm7 hl7 hlen hbb hE8 hbt ho8 hrw hnG hd7 hx7 ho7 hp7 HLI HD6 HX6 y0 y1 HD HRZ
      go_wp2_with fail
      refine HEN.out.mono ?_
      rintro e8 w8 ⟨A4, c4, G8, rfl, hc4, hm4, hr4, hd8, hk8, -⟩
      have hx8 := (hk8.block x (Array.getElem?_eq_some_iff.1 HX7.out).1 (fun hg => HD7.out.aGX _ hg rfl)).trans HX7.out
      have HD8 := Lib.hid hd8
      have HX8 := Lib.hid hx8
      have hbl := HBB.out.2.2.2
      have HDE := Lib.hid (hd8.decode hr4 hc4 hm4 (by omega) (hd8.notH (fun _ h => .inr h)) (by omega) (by omega) HBB.out.1.1)
      clear hd8 hx8 hr4 hk8 HEN HD7 HX7 y2 hbl
      go_wp2_with fail
      refine HDE.out.mono ?_
      rintro e9 w9 ⟨A5, c5, H9, rfl, hr9, hd9, hk9, -⟩
      have hx9 := (hk9.block x (Array.getElem?_eq_some_iff.1 HX8.out).1 (fun hg => HD8.out.aHX _ hg (.inl rfl))).trans HX8.out
      have y2 : w9.cell? ⟨x, 2, none⟩ = some (.slice xA xn xc) := by unfold World.cell?; rw [hx9]; rfl
      have hll : (xl.map told).length = xn := by rw [List.length_map]; exact HOK.out.1.len
      rw [hll] at hr9 ⊢
      have HD9 := Lib.hid hd9
      have HX9 := Lib.hid hx9
      have HR9 := Lib.hid hr9
      have HDR := Lib.hid (drows_any w9 hd9.dec)
      clear hd9 hx9 hr9 hk9 HDE HD8 HX8 hll
      go_wp2_with fail
      refine HDR.out.mono ?_
      rintro e10 w10 ⟨A10, c10, rfl, ho10, hb10⟩
      have hd10 := HD9.out.still hb10
      have hr10 := (HR9.out.below hb10 (Nat.le_refl _)).more hb10.size
      have hx10 := (hb10.block x (Array.getElem?_eq_some_iff.1 HX9.out).1).trans HX9.out
      have hrr := Rd.of_own ho10
      have HER := Lib.hid (erows_any w10 hd10.enc)
      have HD10 := Lib.hid hd10
      have HR10 := Lib.hid (And.intro hr10 (And.intro hrr hx10))
      clear hb10 hd10 hr10 hx10 hrr ho10 HDR HD9 HX9 HR9 y2
      go_wp2_with fail
      refine HER.out.mono ?_
      rintro e11 w11 ⟨A11, c11, rfl, ho11, hb11⟩
      have hd11 := HD10.out.still hb11
      have hr11 := (HR10.out.1.below hb11 (Nat.le_refl _)).more hb11.size
      have hrr := (HR10.out.2.1.below hb11 (Nat.le_refl _)).more hb11.size
      have hrs := Rd.of_own ho11
      have hx11 := (hb11.block x (Array.getElem?_eq_some_iff.1 HR10.out.2.2).1).trans HR10.out.2.2
      have hrf := rows_few hd11.enc.tok
      rw [← fds_rows] at hrr hrs
      have HFS := Lib.hid (fields_same (c := c10) (c' := c11) w11 hrr hrs (by omega))
      have HD11 := Lib.hid hd11
      have HR11 := Lib.hid (And.intro hr11 hx11)
      clear hb11 hd11 hr11 hrr hrs hx11 hrf ho11 HER HD10 HR10
      go_wp2_with fail
      refine HFS.out.mono ?_
      rintro e12 w12 ⟨rfl, d12, rfl⟩
      have hd12 := HD11.out.drewN d12
      have hr12 := HR11.out.1.drewN d12
      have hx12 : (w11.drewN d12).heap[x]? = some (.cells #[.bool st, .int .i64 lim, .slice xA xn xc] 76 (0, 0)) := HR11.out.2
      obtain ⟨W, hW⟩ : ∃ W, w11.drewN d12 = W := ⟨_, rfl⟩
      rw [hW] at hd12 hx12 ⊢
      have hr12' : Rd W W.heap.size 3 A5 xn (fds (xl.map told)) := by rw [← hW]; exact hr12
      have HD12 := Lib.hid (hd12.more (N' := (k + 1) * 1048576) (M' := (k + 1) * 1048576) (by omega) (by have := HBB.out.2.2.2; omega) (by omega) (by omega))
      have HR12 := Lib.hid (And.intro hr12' hx12)
      have hxl12 := (Array.getElem?_eq_some_iff.1 hx12).1
      have hsW := hd12.bel.size
      clear hd12 hr12 hr12' hx12 hW HFS HD11 HR11
      go_wp2_with fail
      go_loopw [13] (fun jv wr => InRel W xn jv wr) (fun jv _ => xn - (intOf jv).toNat)
      case atStart => exact ⟨0, rfl, Nat.zero_le _, Below.refl _ _⟩
      case round =>
        obtain ⟨i, rfl, hi, hbi⟩ := hrel
        have HBI := Lib.hid hbi
        have hsi := hbi.size
        clear hbi
        by_cases hlt : i < xn
        · have hbw : Below w.heap.size w wr := HD12.out.bel.trans (HBI.out.mono hsW)
          have hA1 := HR0.out.below hbw (Nat.le_refl _)
          have hA2 := HR12.out.1.below HBI.out (Nat.le_refl _)
          obtain ⟨hl1, b1, o1, rfl, hb1, q⟩ := fd_at hA1 (by omega)
          obtain ⟨hl2, b2, o2, rfl, hb2, p⟩ := fd_at hA2 (by omega)
          obtain ⟨f, hf⟩ : ∃ f, xl[i]? = some f := ⟨_, List.getElem?_eq_getElem (by omega)⟩
          obtain ⟨q0, q1, q2⟩ := q i f hf
          obtain ⟨p0, p1, p2⟩ := p i (told f) (by rw [List.getElem?_map, hf]; rfl)
          have y2 : wr.cell? ⟨x, 2, none⟩ = some (.slice (some ⟨b1, o1, none⟩) xn xc) := by unfold World.cell?; rw [HBI.out.block x hxl12, HR12.out.2]; rfl
          have n1 : (i : Int) < xn := by omega
          obtain ⟨⟨nm, vl⟩, nv⟩ := f
          simp only [told] at q0 q1 q2 p0 p1 p2
          obtain ⟨nf, hnf⟩ : ∃ nf, neverF ((nm, vl), nv) = nf := ⟨_, rfl⟩
          rw [hnf] at p2
          have HNF := Lib.hid hnf
          have hb2r : b2 < wr.heap.size := by omega
          have HP := Lib.hid (And.intro p0 (And.intro p1 p2))
          clear hbw hA1 hA2 q p hf hl1 hl2 hnf p0 p1 p2
          go_upto_region 24 with fail
          obtain ⟨Wy, hWy⟩ : ∃ Wy, wr.alloc (.cells #[.string nm, .string vl, .bool nv] 24) = Wy := ⟨_, rfl⟩
          obtain ⟨y, hy⟩ : ∃ y, wr.heap.size = y := ⟨_, rfl⟩
          rw [hWy, hy]
          have by_ : Below wr.heap.size wr Wy := by rw [← hWy]; exact (Below.refl _ _).alloc (Nat.le_refl _) _
          have ky : Wy.heap[y]? = some (.cells #[.string nm, .string vl, .bool nv] 24 (0, 0)) := by rw [← hWy, ← hy]; exact heapNew _ _
          have x0 : Wy.cell? ⟨y, 0, none⟩ = some (.string nm) := by unfold World.cell?; rw [ky]; rfl
          have x1 : Wy.cell? ⟨y, 1, none⟩ = some (.string vl) := by unfold World.cell?; rw [ky]; rfl
          have x2 : Wy.cell? ⟨y, 2, none⟩ = some (.bool nv) := by unfold World.cell?; rw [ky]; rfl
          have fz : Wy.frozen? ⟨y, 2, none⟩ = false := by unfold World.frozen?; rw [ky]; rfl
          have HY := Lib.hid (And.intro by_ (And.intro ky hy))
          have HEND : Hid (∀ nb : Bool, nb = nf → (Wy.setCell ⟨y, 2, none⟩ (.bool nb)).heap[y]? = some (.cells #[.string nm, .string vl, .bool nf] 24 (0, 0)) ∧ Below wr.heap.size wr (Wy.setCell ⟨y, 2, none⟩ (.bool nb))) := Lib.hid fun nb hnb => by
            subst hnb
            exact ⟨by rw [set_b _ ky]; rfl, by_.setCell (by rw [hy]; exact Nat.le_refl _) _⟩
          have hne : ∀ a b : ByteArray, a ≠ b → (a.toList == b.toList) = false := fun a b => (Lib.bytes_beq_false_iff a b).2
          clear hWy hy by_ ky q0 q1 q2 y2
          go_cut [124] (fun _ wx => wx.heap[y]? = some (.cells #[.string nm, .string vl, .bool nf] 24 (0, 0)) ∧ Below wr.heap.size wr wx)
          case first =>
            by_cases hnv : nv = true
            · subst hnv
              have HNB : Hid (true = nf) := Lib.hid (by rw [← HNF.out]; rfl)
              clear hne
              go_wp2
              go_meet
              exact HEND.out _ HNB.out
            obtain rfl : nv = false := by simpa using hnv
            clear hnv
            by_cases ha : nm = authB
            · subst ha
              have HNB : Hid (true = nf) := Lib.hid (by rw [← HNF.out]; unfold neverF; simp)
              clear hne
              unfold authB at x0
              go_wp2
              go_meet
              exact HEND.out _ HNB.out
            have ha2 : (nm.toList == [97, 117, 116, 104, 111, 114, 105, 122, 97, 116, 105, 111, 110]) = false := by have h2 := hne nm ⟨#[97, 117, 116, 104, 111, 114, 105, 122, 97, 116, 105, 111, 110]⟩ ha; rw [show (⟨#[97, 117, 116, 104, 111, 114, 105, 122, 97, 116, 105, 111, 110]⟩ : ByteArray).toList = [97, 117, 116, 104, 111, 114, 105, 122, 97, 116, 105, 111, 110] from by decide +kernel] at h2; exact h2
            by_cases hc : nm = cookB
            · subst hc
              have HNB : Hid (true = nf) := Lib.hid (by rw [← HNF.out]; unfold neverF; simp)
              clear hne ha
              unfold cookB at x0
              go_wp2
              go_meet
              exact HEND.out _ HNB.out
            have hc2 : (nm.toList == [115, 101, 116, 45, 99, 111, 111, 107, 105, 101]) = false := by have h2 := hne nm ⟨#[115, 101, 116, 45, 99, 111, 111, 107, 105, 101]⟩ hc; rw [show (⟨#[115, 101, 116, 45, 99, 111, 111, 107, 105, 101]⟩ : ByteArray).toList = [115, 101, 116, 45, 99, 111, 111, 107, 105, 101] from by decide +kernel] at h2; exact h2
            have HNB : Hid (false = nf) := Lib.hid (by rw [← HNF.out]; unfold neverF; simp [ha, hc])
            clear hne ha hc
            go_wp2
            go_meet
            exact HEND.out _ HNB.out
          case rest =>
          obtain ⟨hky, hbc⟩ := hcut
          have z0 : ∀ d, (wc.drewN d).cell? ⟨y, 0, none⟩ = some (.string nm) := fun _ => by show wc.cell? _ = _; unfold World.cell?; rw [hky]; rfl
          have z1 : ∀ d, (wc.drewN d).cell? ⟨y, 1, none⟩ = some (.string vl) := fun _ => by show wc.cell? _ = _; unfold World.cell?; rw [hky]; rfl
          have z2 : ∀ d, (wc.drewN d).cell? ⟨y, 2, none⟩ = some (.bool nf) := fun _ => by show wc.cell? _ = _; unfold World.cell?; rw [hky]; rfl
          have r0 : ∀ d, (wc.drewN d).cell? ⟨b2, o2 + i * 3, none⟩ = some (.string nm) := fun _ => (hbc.cell (p := ⟨b2, o2 + i * 3, none⟩) hb2r).trans HP.out.1
          have r1 : ∀ d, (wc.drewN d).cell? ⟨b2, o2 + i * 3 + 1, none⟩ = some (.string vl) := fun _ => (hbc.cell (p := ⟨b2, o2 + i * 3 + 1, none⟩) hb2r).trans HP.out.2.1
          have r2 : ∀ d, (wc.drewN d).cell? ⟨b2, o2 + i * 3 + 2, none⟩ = some (.bool nf) := fun _ => (hbc.cell (p := ⟨b2, o2 + i * 3 + 2, none⟩) hb2r).trans HP.out.2.2
          have HBC := Lib.hid (HBI.out.trans (hbc.mono hsi))
          clear hky hbc HEND HY x0 x1 x2 fz hne
          go_wp2_with fail
          go_quiet (fail)
          go_wp2
          go_roundw
          case rel => exact ⟨i + 1, by go_num, by omega, below_dN HBC.out _⟩
          case measure => simp [intOf]; omega
        · obtain rfl : i = xn := by omega
          go_wp2
          go_roundw
          case rel => exact ⟨k + 1, G8, H9, E8, E8.T, by go_num, by omega, by omega, (HD12.out.still HBI.out).less (fun _ h => h.elim), HBB.out.1.2, HBB.out.2.1⟩
          case measure => simp [intOf]; omega
    · rw [decide_eq_false hlt]
      have HFB := Lib.hid HD.out.1.bel
      clear hlt
      go_wp2
      go_ret
      exact ⟨rfl, HFB.out⟩
end Go.Proofs.Ythpieiipddfpjaa

/- What an encoder writes, whatever the limits do, a decoder reads as it was, block by block, and both tables are alike. -/
namespace Go.Proofs.Ythpieiipddfpjaa
open Go.ChangeShapes Go.WideShapes Go.ChangeAt Go.RowKit

set_option maxRecDepth 100000 in
theorem hpackBack_lifted (os : Os) (started : os.Started) (H : Type) (enc : TypeId × Value → H) :
    ReturnsInHanded {} Try.checked os 11 .any (Rows.hpackBackSpec.pre6 enc Try.prog Try.f11 Rows.hpackBackRow.domain false) (Rows.hpackBackSpec.post enc Try.prog Try.f11 false true false false) := by
  refine law_lift started (by kernel_rfl) Try.func11 (by rw [Try.params11]; exact of_decide_eq_true (by kernel_rfl)) rfl Try.underlying4 rfl
    (ChangeSpec.witness6 (enc := enc) (C := Try.checked) false ⟨#[], #[.int .i64 0, .slice none 0 0], []⟩ 8 (by kernel_rfl) (by kernel_rfl) (by kernel_rfl) (by kernel_rfl)) ?_
  intro W base args ds p hval hA hlt hsz
  rw [Try.params11] at hA hval hsz
  obtain ⟨v0, vs0, d0, ds0, p0, q0, hargs, rfl, rfl, g0, r0⟩ := trodAll_cons hA
  obtain ⟨v1, vs1, d1, ds1, p1, q1, rfl, rfl, rfl, g1, r1⟩ := trodAll_cons r0
  obtain ⟨rfl, rfl, rfl⟩ := trodAll_nil r1
  obtain rfl : args = #[v0, v1] := by cases args; simp_all
  obtain ⟨a0, rfl, rfl, rfl, w0⟩ := open_int Try.underlying3 (hval 0 3 v0 rfl rfl) g0
  have h0 := wf_i64 w0
  obtain ⟨A1, n1, c1, D1, rfl, hc1, hm1, hz1, hr1⟩ := open_dos5 (hval 1 73 v1 rfl rfl) g1 (fun x hx => hlt x (by simp [hx])) hsz (j := 1) rfl rfl
  refine ⟨rfl, ?_⟩
  exact hback_any a0 W hr1 hz1

theorem hpackBack_holds : Rows.HpackBackSaid :=
  OpenClaim.holds_of_wide 11 Try.f11 rfl rfl rfl rfl rfl rfl rfl ⟨rfl, rfl, rfl, rfl, rfl⟩ rfl rfl rfl rfl rfl (by kernel_rfl) Try.func11 (by kernel_rfl)
    (of_decide_eq_true (by kernel_rfl)) (by unfold Func.isWrapper; first | (rw [if_pos (by decide +kernel)]; kernel_rfl) | (rw [if_neg (by decide +kernel)]; exact ⟨rfl, rfl⟩))
    (fun os started H enc _ => hpackBack_lifted os started H enc)
#print axioms hpackBack_holds
end Go.Proofs.Ythpieiipddfpjaa
