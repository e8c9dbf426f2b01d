/- 2 texts in one: HLists, ClaimHpackLists. -/
import Derived.Test.YthpieiipddfpjaaM13
import Derived.Test.YthpieiipddfpjaaM12
import Derived.Test.YthpieiipddfpjaaM7
/- The walk of drawbridgelaw05.HpackLists. -/
namespace Go.Proofs.Ythpieiipddfpjaa
open Go.RowKit

def LimIs (v : Nat) (x : Value) : Prop := ∃ li : Nat, x = .int .i64 li ∧ li ≤ v ∧ v ≤ li + 1
def CutIs (v : Nat) (y : Value) : Prop := ∃ bb : Bool, y = .bool bb ∧ (bb = true → 0 < v)
theorem few_of {l : List Fd} {k : Nat} (h : sumF l ≤ k) : 32 * l.length ≤ k := by
  have h1 : ∀ l : List Fd, 32 * l.length ≤ sumF l := by
    intro l
    induction l with
    | nil => exact Nat.zero_le _
    | cons f l ih => unfold sumF at ih ⊢; simp only [List.length_cons, List.map_cons, List.sum_cons]; unfold cost at ih ⊢; omega
  have := h1 l
  omega
set_option maxRecDepth 100000 in
set_option maxHeartbeats 8000000 in
theorem hlists_any {n c n' c' : Nat} {A A' : Option Addr} {l l' : List Fd} (more : Int) (w : World) (_hm0 : -9223372036854775808 ≤ more) (_hm1 : more ≤ 9223372036854775807) (hr : Rd w w.heap.size 3 A n (fds l)) (hr' : Rd w w.heap.size 3 A' n' (fds l')) (hn : n ≤ 140737488351232) (hn' : n' ≤ 140737488351232)
    (hz : ∀ f ∈ l, f.1.1.size ≤ 140737488351232 ∧ f.1.2.size ≤ 140737488351232) (hz' : ∀ f ∈ l', f.1.1.size ≤ 140737488351232 ∧ f.1.2.size ≤ 140737488351232) :
    Calls Try.prog 9 #[.slice A n c, .slice A' n' c', .int .i64 more] w (RetT w) := by
  have H1 := Lib.hid hr
  have H2 := Lib.hid hr'
  have HAW := Lib.hid (awake_any w)
  have hln : l.length = n := by have := hr.1; rw [fds_length] at this; omega
  have hln' : l'.length = n' := by have := hr'.1; rw [fds_length] at this; omega
  have HLN := Lib.hid (And.intro hln hln')
  have HZ := Lib.hid hz
  have HZ' := Lib.hid hz'
  clear hr hr' hln hln' hz hz'
  go_enter Try.func9, Try.ntmps9
  go_wp2_with fail
  refine HAW.out.mono ?_
  rintro e1 w1 ⟨rfl, hb1⟩
  have HB1 := Lib.hid hb1
  have HBY := Lib.hid (fun d => bytes_any (c := c) (w1.drewN d) ((H1.out.below hb1 (Nat.le_refl _)).drewN d) hn HZ.out)
  have HBY' := Lib.hid (fun d => bytes_any (c := c') (w1.drewN d) ((H2.out.below hb1 (Nat.le_refl _)).drewN d) hn' HZ'.out)
  have HSH := Lib.hid (fun d => short_any (c := c) (w1.drewN d) ((H1.out.below hb1 (Nat.le_refl _)).drewN d) hn HZ.out)
  have HSH' := Lib.hid (fun d => short_any (c := c') (w1.drewN d) ((H2.out.below hb1 (Nat.le_refl _)).drewN d) hn' HZ'.out)
  clear hb1 HAW
  obtain ⟨v, hv⟩ : ∃ v, bytesV l = v := ⟨_, rfl⟩
  obtain ⟨v', hv'⟩ : ∃ v', bytesV l' = v' := ⟨_, rfl⟩
  have HV := Lib.hid (And.intro hv hv')
  rw [hv] at HBY
  rw [hv'] at HBY'
  clear hv hv'
  obtain ⟨sb, hsb⟩ : ∃ sb, shortB l = sb := ⟨_, rfl⟩
  obtain ⟨sb', hsb'⟩ : ∃ sb, shortB l' = sb := ⟨_, rfl⟩
  have HSB := Lib.hid (And.intro hsb hsb')
  rw [hsb] at HSH
  rw [hsb'] at HSH'
  clear hsb hsb'
  go_wp2_with fail
  refine (HBY.out 0).mono ?_
  rintro e2 w2 ⟨rfl, d2, rfl⟩
  by_cases hbig : (262144 : Int) < v
  · go_wp2
    go_ret
    exact ⟨rfl, below_dN HB1.out _⟩
  have hle : (v : Int) ≤ 262144 := by omega
  clear hbig
  go_wp2_with fail
  refine (HBY'.out d2).mono ?_
  rintro e3 w3 ⟨rfl, d3, rfl⟩
  by_cases hbig : (262144 : Int) < v'
  · go_wp2
    go_ret
    exact ⟨rfl, below_dN HB1.out _⟩
  have hle' : (v' : Int) ≤ 262144 := by omega
  clear hbig
  go_wp2_with fail
  refine (HSH.out (d2 + d3)).mono ?_
  rintro e4 w4 ⟨rfl, d4, rfl⟩
  obtain rfl | rfl : sb = false ∨ sb = true := by cases sb <;> simp
  · go_wp2
    go_ret
    exact ⟨rfl, below_dN HB1.out _⟩
  go_wp2_with fail
  refine (HSH'.out (d2 + d3 + d4)).mono ?_
  rintro e5 w5 ⟨rfl, d5, rfl⟩
  obtain rfl | rfl : sb' = false ∨ sb' = true := by cases sb' <;> simp
  · go_wp2
    go_ret
    exact ⟨rfl, below_dN HB1.out _⟩
  have hsum : sumF l = v := by have h1 : bytesV l = sumF l := bytesV_sum (by rw [HV.out.1]; omega)
                               rw [← h1, HV.out.1]
  have hsum' : sumF l' = v' := by have h1 : bytesV l' = sumF l' := bytesV_sum (by rw [HV.out.2]; omega)
                                  rw [← h1, HV.out.2]
  have HSUM := Lib.hid (And.intro hsum hsum')
  have hn2 : n ≤ 8192 := by have := few_of (l := l) (k := 262144) (by omega); have := HLN.out.1; omega
  have hn2' : n' ≤ 8192 := by have := few_of (l := l') (k := 262144) (by omega); have := HLN.out.2; omega
  clear hsum hsum'
  go_wp2_with fail
  refine (HBY.out (d2 + d3 + d4 + d5)).mono ?_
  rintro e6 w6 ⟨rfl, d6, rfl⟩
  go_upto_region 7 with fail
  obtain ⟨dd, hdd⟩ : ∃ dd, d2 + d3 + d4 + d5 + d6 = dd := ⟨_, rfl⟩
  rw [hdd]
  have HB2 : Hid (Below w.heap.size w (w1.drewN dd)) := Lib.hid (below_dN HB1.out _)
  have HBYn : Hid (∀ wx, Below w.heap.size w wx → Calls Try.prog 36 #[.slice A' n' c'] wx fun e w' => e = .returned (.int .i64 (v' : Nat)) ∧ ∃ d, w' = wx.drewN d) := Lib.hid fun wx hb => by rw [← HV.out.2]; exact bytes_any wx (H2.out.below hb (Nat.le_refl _)) hn' HZ'.out
  obtain ⟨W0, hW0⟩ : ∃ W0, w1.drewN dd = W0 := ⟨_, rfl⟩
  rw [hW0] at HB2 ⊢
  clear hdd hW0 HBY HBY' HSH HSH'
  go_cut [52] (fun y wx => CutIs v y ∧ wx = W0)
  case first =>
    by_cases hodd : more.tmod 2 = 0
    · go_wp2
      go_meet
      exact ⟨⟨false, rfl, fun h => by cases h⟩, rfl⟩
    · go_wp2
      go_meet
      exact ⟨⟨decide ((0 : Int) < v), by simp [hodd], fun h => by have := of_decide_eq_true h; omega⟩, rfl⟩
  case rest =>
  obtain ⟨⟨bb, rfl, hbb⟩, rfl⟩ := hcut
  go_upto_if 52 with fail
  go_cut [8] (fun x wy => LimIs v x ∧ wy = wc)
  case first =>
    obtain rfl | rfl : bb = false ∨ bb = true := by cases bb <;> simp
    · go_wp2
      go_meet
      exact ⟨⟨v, rfl, by omega, by omega⟩, rfl⟩
    · have hv0 : (0 : Int) < v := by have := hbb rfl; omega
      go_wp2
      go_meet
      exact ⟨⟨v - 1, by congr 1; omega, by omega, by omega⟩, rfl⟩
  case rest =>
    obtain ⟨⟨li, rfl, hli, hli2⟩, rfl⟩ := hcut
    have HNE := Lib.hid (newenc_any 4096 wc (by omega) (by omega))
    go_wp2_with fail
    refine HNE.out.mono ?_
    rintro e4 w4 ⟨e, G, rfl, he, hG, hb4⟩
    have HE := Lib.hid (And.intro he (And.intro hG hb4))
    have HND := Lib.hid (newdec_any 4096 li w4 (by omega) (by omega) (by omega))
    clear he hG hb4 HNE
    go_wp2_with fail
    refine HND.out.mono ?_
    rintro e5 w5 ⟨d, H, rfl, hd, hH, hb5⟩
    have HD := Lib.hid (And.intro hd (And.intro hH hb5))
    have HNX := Lib.hid (newdec_any 4096 1099511627776 w5 (by omega) (by omega) (by omega))
    clear hd hH hb5 HND
    go_wp2_with fail
    refine HNX.out.mono ?_
    rintro e6 w6 ⟨x, K, rfl, hx, hK, hb6⟩
    have hs0 := HB2.out.size
    have hs4 := HE.out.2.2.size
    have hs5 := HD.out.2.2.size
    have hs6 := hb6.size
    have hel := EncIs.lt HE.out.1
    have hdl := DecIs.lt HD.out.1
    have hxl := DecIs.lt hx
    have hduo : Duo w w6 e d G H K 0 0 4096 li (encNew 4096) ⟨min 4096 4096, 0, []⟩ := by
      refine ⟨(EncIs.below HE.out.1 HD.out.2.2).below hb6, DecIs.keep HD.out.1 (fun k hk => hb6.block k (hdl k hk)), fun j hj => by have := HE.out.2.1 j hj; omega, fun j hj => by have := HD.out.2.1 j hj; omega, fun j hj => by have := hK j hj; have := hxl j hj; omega,
        fun j hj hj2 => by have := hel j hj; have := HD.out.2.1 j hj2; omega, fun j hj hj2 => by have := hel j hj; have := hK j hj2; omega, fun j hj hj2 => by have := hdl j hj; have := hK j hj2; omega, ((HB2.out.trans (HE.out.2.2.mono hs0)).trans (HD.out.2.2.mono (by omega))).trans (hb6.mono (by omega))⟩
    have hr6 : Rd w6 w6.heap.size 3 A n (fds l) := (H1.out.below hduo.bel (Nat.le_refl _)).more hduo.bel.size
    have HHX := Lib.hid hx
    have hf : ∀ f ∈ l, f.1.1.size ≤ 4096 ∧ f.1.2.size ≤ 4096 := shortB_iff HSB.out.1
    have hf' : ∀ f ∈ l', f.1.1.size ≤ 4096 ∧ f.1.2.size ≤ 4096 := shortB_iff HSB.out.2
    have hpair : Pair (encNew 4096) ⟨min 4096 4096, 0, []⟩ := Pair.new (own := 4096) (mo := 4096) (by omega) (by omega) (by omega)
    obtain ⟨E1, hE1⟩ : ∃ E1, ((encNew 4096).run l).2 = E1 := ⟨_, rfl⟩
    obtain ⟨b, hb⟩ : ∃ b, ((encNew 4096).run l).1 = b := ⟨_, rfl⟩
    obtain ⟨E2, hE2⟩ : ∃ E2, (E1.run l').2 = E2 := ⟨_, rfl⟩
    obtain ⟨b2, hb2⟩ : ∃ b2, (E1.run l').1 = b2 := ⟨_, rfl⟩
    have hm1 : E1.T.most = 4096 := by rw [← hE1]; exact encL_most _ _
    have hk1 := fun li => block_back (mo := 4096) (li := li) hpair (by decide) (by omega) hf
    rw [hE1, hb] at hk1
    have hk2 := fun li => block_back (mo := 4096) (li := li) (hk1 0).2 (by omega) (by omega) hf'
    rw [hE2, hb2] at hk2
    have hbl : b.length ≤ 300000 := by rw [← hb]; have := (run_short hpair.etok (by decide) hf).1; have := HSUM.out.1; omega
    have hbl2 : b2.length ≤ 300000 := by rw [← hb2]; have := (run_short (hk1 0).2.etok (by have := (hk1 0).2.l1; omega) hf').1; have := HSUM.out.2; omega
    obtain ⟨hsu, hsu'⟩ := HSUM.out
    rw [hsu] at hk1
    rw [hsu'] at hk2
    have HP := Lib.hid (And.intro hE1 (And.intro hb (And.intro hE2 (And.intro hb2 (And.intro hk1 (And.intro hk2 hm1))))))
    have HF := Lib.hid (And.intro hf hf')
    have hel2 := few_of (l := l) (k := v) (by omega)
    have HDU := Lib.hid hduo
    have HEN := Lib.hid (hduo.encode (c := c) l hr6 (fun _ a ha hg => by have h1 := HE.out.2.1 _ hg; obtain ⟨bb, oo, hA, hlt, -⟩ := H1.out.2 (by assumption); rw [hA] at ha; injection ha with ha; subst ha; simp only at h1; omega) (by decide) (by decide) (by omega) (by omega) (fun f hf' => by have := hf f hf'; omega))
    rw [hE1, hb] at HEN
    clear hduo hr6 hx hf hf' hpair hE1 hb hE2 hb2 hk1 hk2 hm1 hel hdl hxl HNX hK hb6 hsu hsu' hel2
    go_wp2_with fail
    refine HEN.out.mono ?_
    rintro e7 w7 ⟨A4, c4, G1, rfl, hc4, hm4, hr4, hduo, hk7, hn7⟩
    have hx := HDU.out.decG hk7 HHX.out (fun _ h => h)
    have hap := apart_at HHX.out hn7
    have HX7 := Lib.hid (And.intro hx hap)
    have HDU2 := Lib.hid hduo
    obtain ⟨T1, hT1⟩ : ∃ T1, E1.T = T1 := ⟨_, rfl⟩
    have hP5 := HP.out.2.2.2.2
    rw [hT1] at hP5
    have HT1 := Lib.hid hT1
    have HP5 := Lib.hid hP5
    have ho1 := (hP5.1 li).1
    have ho2 := (hP5.1 1099511627776).1
    rw [if_neg (by omega)] at ho2
    obtain ⟨fl, er, ho1', hfe⟩ : ∃ fl er, outD 4096 li ⟨min 4096 4096, 0, []⟩ b = (fl, er, some T1) ∧ ((li < v ∧ fl = [] ∧ er = 51) ∨ (¬ li < v ∧ fl = l.map told ∧ er = 0)) := by
      by_cases hc : li < v
      · rw [if_pos (by omega)] at ho1
        exact ⟨_, _, ho1, .inl ⟨hc, rfl, rfl⟩⟩
      · rw [if_neg (by omega)] at ho1
        exact ⟨_, _, ho1, .inr ⟨hc, rfl, rfl⟩⟩
    have HDE := Lib.hid (hduo.decode hr4 hc4 hm4 (by omega) (hduo.notH (fun _ h => .inr h)) (by omega) (by omega) ho1')
    have HR4 := Lib.hid hr4
    have HO2 := Lib.hid ho2
    have HFE := Lib.hid hfe
    clear hduo hr4 hk7 hn7 HEN HDU hx hap hT1 hP5 ho1 ho1' ho2 hfe
    go_wp2_with fail
    refine HDE.out.mono ?_
    rintro e8 w8 ⟨A6, c6, H8, rfl, hr8, hduo, hk8, hn8⟩
    have hx8 := HDU2.out.decH hk8 HX7.out.1 (fun _ h => .inl h)
    have hr4 := HDU2.out.rdH hk8 HR4.out (fun _ h => .inr h)
    have hsw := hduo.swap (Y := atB A4) hx8 (fun _ h => .inl (.inl h)) (fun _ h => .inl (.inr h)) HX7.out.2
    have HD8 := Lib.hid hduo.dec
    have HSW := Lib.hid hsw
    have HDE2 := Lib.hid (hsw.decode hr4 hc4 hm4 (by omega) (hsw.notH (fun _ h => .inr h)) (by omega) (by omega) HO2.out)
    clear hduo hr4 hk8 hn8 hx8 hsw hr8 HDE HDU2 HX7 HR4 HO2
    go_wp2_with fail
    refine HDE2.out.mono ?_
    rintro e9 w9 ⟨A7, c7, K9, rfl, -, hduo, hk9, -⟩
    have hd9 := HSW.out.decH hk9 HD8.out (fun _ h => .inl h)
    have hsw := hduo.swap (Y := fun _ => False) hd9 (fun _ h => .inl (.inl h)) (fun _ h => h.elim) (fun _ _ h => h)
    have HX9 := Lib.hid hduo.dec
    have hr9 : Rd w9 w9.heap.size 3 A' n' (fds l') := (H2.out.below hsw.bel (Nat.le_refl _)).more hsw.bel.size
    have HSW9 := Lib.hid hsw
    have hpr := (HP.out.2.2.2.2.1 0).2
    have hl1 := hpr.l1
    have hm1 := HP.out.2.2.2.2.2.2
    have hnG := hsw.nG
    have HEN := Lib.hid (hsw.encode (c := c') l' hr9 (fun _ a ha hg => by have h1 := hnG _ hg; obtain ⟨bb, oo, hA, hlt, -⟩ := H2.out.2 (by assumption); rw [hA] at ha; injection ha with ha; subst ha; simp only at h1; omega) hpr.l0 (by omega) (by omega) (by omega) (fun f hf' => by have := HF.out.2 f hf'; omega))
    rw [HP.out.2.2.1, HP.out.2.2.2.1] at HEN
    clear hduo hk9 hd9 hsw hr9 hpr hl1 hm1 hnG HDE2 HSW HD8
    obtain ⟨m, hm⟩ : ∃ m, fl.length = m := ⟨_, rfl⟩
    rw [hm]
    have hfe2 : ((er : Int) = 51 ∧ (m : Int) = 0 ∧ li < v) ∨ ((er : Int) = 0 ∧ ¬ li < v) := by
      rcases HFE.out with ⟨h1, h2, h3⟩ | ⟨h1, h2, h3⟩
      · exact .inl ⟨by omega, by rw [← hm, h2]; rfl, h1⟩
      · exact .inr ⟨by omega, h1⟩
    clear hm
    go_upto_region 17 with fail
    go_cut [124] (fun y wx => y = .bool false ∧ wx = w9)
    case first =>
      obtain ⟨he, hm0, hlt⟩ | ⟨he, hlt⟩ := hfe2
      · have hltI : (li : Int) < v := by omega
        have b1 : ((er : Int) == 51) = true := by rw [he]; rfl
        have b2 : ((er : Int) != 51) = false := by rw [he]; rfl
        have b3 : ((m : Int) != 0) = false := by rw [hm0]; rfl
        have b4 : ((m : Int) == 0) = true := by rw [hm0]; rfl
        clear he hm0 hlt HFE
        go_wp2
        go_meet
        exact ⟨by simp, rfl⟩
      · have hltI : ¬ (li : Int) < v := by omega
        have b1 : ((er : Int) == 51) = false := by rw [he]; rfl
        have b2 : ((er : Int) != 51) = true := by rw [he]; rfl
        have b3 : ((er : Int) != 0) = false := by rw [he]; rfl
        have b4 : ((er : Int) == 0) = true := by rw [he]; rfl
        clear he hlt HFE
        go_wp2
        go_meet
        exact ⟨by simp, rfl⟩
    case rest =>
    obtain ⟨rfl, hwc⟩ := hcut
    subst hwc
    go_wp2_with fail
    refine HEN.out.mono ?_
    rintro e10 w10 ⟨A5, c5, G2, rfl, hc5, hm5, hr5, hduo, hk10, hn10⟩
    have hx := HSW9.out.decG hk10 HX9.out (fun _ h => .inl h)
    have hap := apart_at HX9.out hn10
    have HX10 := Lib.hid (And.intro hx hap)
    have HDU2 := Lib.hid hduo
    obtain ⟨T2, hT2⟩ : ∃ T2, E2.T = T2 := ⟨_, rfl⟩
    have ho1 := (HP.out.2.2.2.2.2.1 li).1
    have ho2 := (HP.out.2.2.2.2.2.1 1099511627776).1
    rw [hT2, HT1.out] at ho1 ho2
    rw [if_neg (by omega)] at ho2
    obtain ⟨fl2, er2, ho1', hfe⟩ : ∃ fl er, outD 4096 li T1 b2 = (fl, er, some T2) ∧ ((li < v' ∧ fl = [] ∧ er = 51) ∨ (¬ li < v' ∧ fl = l'.map told ∧ er = 0)) := by
      by_cases hc : li < v'
      · rw [if_pos (by omega)] at ho1
        exact ⟨_, _, ho1, .inl ⟨hc, rfl, rfl⟩⟩
      · rw [if_neg (by omega)] at ho1
        exact ⟨_, _, ho1, .inr ⟨hc, rfl, rfl⟩⟩
    have HDE := Lib.hid (hduo.decode hr5 hc5 hm5 (by omega) (hduo.notH (fun _ h => .inr h)) (by omega) (by omega) ho1')
    have HR5 := Lib.hid hr5
    have HO2 := Lib.hid ho2
    have HFE2 := Lib.hid hfe
    clear hduo hr5 hk10 hn10 HEN hx hap hT2 ho1 ho1' ho2 hfe HSW9 HX9
    go_wp2_with fail
    refine HDE.out.mono ?_
    rintro e11 w11 ⟨A8, c8, H11, rfl, hr8, hduo, hk11, hn11⟩
    have hx11 := HDU2.out.decH hk11 HX10.out.1 (fun _ h => .inl (.inl h))
    have hr5 := HDU2.out.rdH hk11 HR5.out (fun _ h => .inr h)
    have hap := apart_at HX10.out.1 hn11
    have hsw := hduo.swap (Y := fun k => atB A5 k ∨ atB A8 k) hx11 (fun _ h => .inl (.inl (.inl h))) (fun _ h => h.elim (fun h => .inl (.inr h)) .inr) (fun k hk h => h.elim (HX10.out.2 k hk) (hap k hk))
    have HD11 := Lib.hid hduo.dec
    have HR8 := Lib.hid hr8
    have HSW := Lib.hid hsw
    have HDE2 := Lib.hid (hsw.decode hr5 hc5 hm5 (by omega) (hsw.notH (fun _ h => .inr (.inl h))) (by omega) (by omega) HO2.out)
    clear hduo hr5 hk11 hn11 hx11 hsw hr8 HDE HDU2 HX10 HR5 HO2 hap
    go_wp2_with fail
    refine HDE2.out.mono ?_
    rintro e12 w12 ⟨A9, c9, K12, rfl, hr9, hduo, hk12, -⟩
    have hd12 := HSW.out.decH hk12 HD11.out (fun _ h => .inl h)
    have hr8 := HSW.out.rdH hk12 HR8.out (fun _ h => .inr (.inr h))
    have HDU := Lib.hid hduo
    have HR12 := Lib.hid (And.intro hr8 hr9)
    have HDR := Lib.hid (drows_any w12 hd12)
    obtain ⟨m2, hm2⟩ : ∃ m, fl2.length = m := ⟨_, rfl⟩
    have hll : (l'.map told).length = n' := by rw [List.length_map]; exact HLN.out.2
    have hfe3 : ((er2 : Int) = 51 ∧ (m2 : Int) = 0 ∧ (li : Int) < v') ∨ ((er2 : Int) = 0 ∧ m2 = n' ∧ fl2 = l'.map told ∧ ¬ (li : Int) < v') := by
      rcases HFE2.out with ⟨h1, h2, h3⟩ | ⟨h1, h2, h3⟩
      · exact .inl ⟨by omega, by rw [← hm2, h2]; rfl, by omega⟩
      · exact .inr ⟨by omega, by rw [← hm2, h2]; exact hll, h2, by omega⟩
    have HFE3 := Lib.hid hfe3
    rw [hm2, hll] at HR12 ⊢
    clear hm2 hll hfe3 HFE2
    clear hduo hk12 hd12 hr8 hr9 HDE2 HSW HD11 HR8
    go_wp2_with fail
    refine HDR.out.mono ?_
    rintro e13 w13 ⟨A10, c10, rfl, ho10, hb13⟩
    have hdu := HDU.out.still hb13
    have hr13 := And.intro ((HR12.out.1.below hb13 (Nat.le_refl _)).more hb13.size) ((HR12.out.2.below hb13 (Nat.le_refl _)).more hb13.size)
    have hr10 := Rd.of_own ho10
    have HDU13 := Lib.hid hdu
    have HR13 := Lib.hid (And.intro hr13 hr10)
    have HDR := Lib.hid (drows_any w13 hdu.dec)
    clear hb13 hdu hr13 hr10 ho10 HR12
    go_wp2_with fail
    refine HDR.out.mono ?_
    rintro e14 w14 ⟨A11, c11, rfl, ho11, hb14⟩
    have hdu := HDU13.out.still hb14
    have hr14 := And.intro ((HR13.out.1.1.below hb14 (Nat.le_refl _)).more hb14.size) ((HR13.out.1.2.below hb14 (Nat.le_refl _)).more hb14.size)
    have hr10 := (HR13.out.2.below hb14 (Nat.le_refl _)).more hb14.size
    have hr11 := Rd.of_own ho11
    have htk := hdu.dec.tok
    have hrf := rows_few htk
    rw [← fds_rows] at hr10 hr11
    have HFS := Lib.hid (fields_same (c := c10) (c' := c11) w14 hr10 hr11 (by omega))
    have HBL := Lib.hid hdu.bel
    have HR14 := Lib.hid hr14
    clear hb14 hdu hr14 hr10 hr11 ho11 HR13 HDU13 htk hrf
    go_wp2_with fail
    refine HFS.out.mono ?_
    rintro e15 w15 ⟨rfl, d15, rfl⟩
    have hb15 : Below w.heap.size w (w14.drewN d15) := below_dN HBL.out _
    have HBB := Lib.hid (HBYn.out _ hb15)
    have HB15 := Lib.hid hb15
    clear hb15 HFS
    go_wp2_with fail
    refine HBB.out.mono ?_
    rintro e16 w16 ⟨rfl, d16, rfl⟩
    obtain ⟨he, hm2, hltI⟩ | ⟨he, hm2, hfl, hltI⟩ := HFE3.out
    · have b1 : ((er2 : Int) == 51) = true := by rw [he]; rfl
      have b2 : ((m2 : Int) == 0) = true := by rw [hm2]; rfl
      clear he hm2
      go_wp2
      go_ret
      exact ⟨rfl, below_dN HBL.out _⟩
    · have b1 : ((er2 : Int) == 0) = true := by rw [he]; rfl
      subst hm2
      rw [hfl] at HR14
      have HFS := Lib.hid (fields_same (c := c8) (c' := c9) (w14.drewN (d15 + d16)) (HR14.out.1.drewN _) (HR14.out.2.drewN _) (by omega))
      clear hfl he
      go_wp2_with fail
      refine HFS.out.mono ?_
      rintro e17 w17 ⟨rfl, d17, rfl⟩
      go_wp2
      go_ret
      exact ⟨rfl, below_dN HBL.out _⟩
end Go.Proofs.Ythpieiipddfpjaa

/- A list whose cost is above the limit is refused, and the table goes on as if it weren't; just at the limit it isn't. -/
namespace Go.Proofs.Ythpieiipddfpjaa
open Go.ChangeShapes Go.WideShapes Go.ChangeAt Go.RowKit

set_option maxRecDepth 100000 in
theorem hpackLists_lifted (os : Os) (started : os.Started) (H : Type) (enc : TypeId × Value → H) :
    ReturnsInHanded {} Try.checked os 9 .any (Rows.hpackListsSpec.pre6 enc Try.prog Try.f9 Rows.hpackListsRow.domain false) (Rows.hpackListsSpec.post enc Try.prog Try.f9 false true false false) := by
  refine law_lift started (by kernel_rfl) Try.func9 (by rw [Try.params9]; exact of_decide_eq_true (by kernel_rfl)) rfl Try.underlying4 rfl
    (ChangeSpec.witness6 (enc := enc) (C := Try.checked) false ⟨#[], #[.slice none 0 0, .slice none 0 0, .int .i64 0], []⟩ 8 (by kernel_rfl) (by kernel_rfl) (by kernel_rfl) (by kernel_rfl)) ?_
  intro W base args ds p hval hA hlt hsz
  rw [Try.params9] at hA hval hsz
  obtain ⟨v0, vs0, d0, ds0, p0, q0, hargs, rfl, rfl, g0, r0⟩ := trodAll_cons hA
  obtain ⟨v1, vs1, d1, ds1, p1, q1, rfl, rfl, rfl, g1, r1⟩ := trodAll_cons r0
  obtain ⟨v2, vs2, d2, ds2, p2, q2, rfl, rfl, rfl, g2, r2⟩ := trodAll_cons r1
  obtain ⟨rfl, rfl, rfl⟩ := trodAll_nil r2
  obtain rfl : args = #[v0, v1, v2] := by cases args; simp_all
  obtain ⟨A0, n0, c0, l0, rfl, hc0, hm0, hz0, hl0, hr0, hs0⟩ := open_fds (hval 0 32 v0 rfl rfl) g0 (fun x hx => hlt x (by simp [hx])) hsz (j := 0) rfl rfl
  obtain ⟨A1, n1, c1, l1, rfl, hc1, hm1, hz1, hl1, hr1, hs1⟩ := open_fds (hval 1 32 v1 rfl rfl) g1 (fun x hx => hlt x (by simp [hx])) hsz (j := 1) rfl rfl
  obtain ⟨a2, rfl, rfl, rfl, w2⟩ := open_int Try.underlying3 (hval 2 3 v2 rfl rfl) g2
  have h2 := wf_i64 w2
  refine ⟨rfl, ?_⟩
  exact hlists_any a2 W h2.1 h2.2 hr0 hr1 hz0 hz1 hs0 hs1

theorem hpackLists_holds : Rows.HpackListsSaid :=
  OpenClaim.holds_of_wide 9 Try.f9 rfl rfl rfl rfl rfl rfl rfl ⟨rfl, rfl, rfl, rfl, rfl⟩ rfl rfl rfl rfl rfl (by kernel_rfl) Try.func9 (by kernel_rfl)
    (of_decide_eq_true (by kernel_rfl)) (by unfold Func.isWrapper; first | (rw [if_pos (by decide +kernel)]; kernel_rfl) | (rw [if_neg (by decide +kernel)]; exact ⟨rfl, rfl⟩))
    (fun os started H enc _ => hpackLists_lifted os started H enc)
#print axioms hpackLists_holds
end Go.Proofs.Ythpieiipddfpjaa
