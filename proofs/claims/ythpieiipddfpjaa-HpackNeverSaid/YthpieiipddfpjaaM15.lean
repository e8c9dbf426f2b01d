/- 2 texts in one: HNever, ClaimHpackNever. -/
import Derived.Test.YthpieiipddfpjaaM13
import Derived.Test.YthpieiipddfpjaaM12
import Derived.Test.YthpieiipddfpjaaM7
/- The walk of drawbridgelaw05.HpackNever. -/
namespace Go.Proofs.Ythpieiipddfpjaa
open Go.RowKit

def nev (f : Fd) : Fd := (f.1, true)
theorem neverF_nev (f : Fd) : neverF (nev f) = true := by simp [neverF, nev]
theorem encL_nev (T : Tb) (l : List Fd) : (encL T (l.map nev)).2 = T := by
  induction l with
  | nil => rfl
  | cons f l ih =>
    have e : (encOne T (nev f)).2 = T := by unfold encOne; rw [if_pos (neverF_nev f)]
    show (encL (encOne T (nev f)).2 (l.map nev)).2 = T
    rw [e, ih]
theorem told_nev (l : List Fd) : (l.map nev).map told = l.map nev := by
  rw [List.map_map]
  refine List.map_congr_left fun f _ => ?_
  show ((nev f).1, neverF (nev f)) = nev f
  rw [neverF_nev]; rfl
theorem sumF_nev (l : List Fd) : sumF (l.map nev) = sumF l := by unfold sumF; rw [List.map_map]; rfl
theorem run_nev {E : Enc} (h1 : E.least = E.told) (h2 : E.T.most = E.told) (l : List Fd) : (E.run (l.map nev)).2 = E := by
  unfold Enc.run
  simp only [encL_nev]
  cases E
  simp only at h1 h2
  simp [h1, h2]
def NevRel (W : World) (n : Nat) (l : List Fd) (ov iv : Value) (wr : World) : Prop := ∃ k : Nat, iv = .int .i64 k ∧ k ≤ n ∧ wr.ownsRow W.heap.size 24 3 ov k (fds ((l.take k).map nev)) ∧ Below W.heap.size W wr
theorem nev_take {l : List Fd} {k : Nat} {f : Fd} (h : l[k]? = some f) : fds ((l.take (k + 1)).map nev) = fds ((l.take k).map nev) ++ [.string f.1.1, .string f.1.2, .bool true] := by
  rw [List.take_add_one, h, Option.toList_some, List.map_append, fds_app]; rfl
set_option maxRecDepth 100000 in
set_option maxHeartbeats 8000000 in
theorem hnever_any {n c : Nat} {A : Option Addr} {l : List Fd} (w : World) (hr : Rd w w.heap.size 3 A n (fds l)) (hn : n ≤ 140737488351232) (hz : ∀ f ∈ l, f.1.1.size ≤ 140737488351232 ∧ f.1.2.size ≤ 140737488351232) :
    Calls Try.prog 10 #[.slice A n c] w (RetT w) := by
  have H1 := Lib.hid hr
  have HAW := Lib.hid (awake_any w)
  have hln : l.length = n := by have := hr.1; rw [fds_length] at this; omega
  have HLN := Lib.hid hln
  have HZ := Lib.hid hz
  clear hr hln hz
  go_enter Try.func10, Try.ntmps10
  go_wp2_with fail
  refine HAW.out.mono ?_
  rintro e1 w1 ⟨rfl, hb1⟩
  have HB1 := Lib.hid hb1
  have HBY := Lib.hid (bytes_any (c := c) w1 (H1.out.below hb1 (Nat.le_refl _)) hn HZ.out)
  clear hb1 HAW
  obtain ⟨v, hv⟩ : ∃ v, bytesV l = v := ⟨_, rfl⟩
  have HV := Lib.hid hv
  rw [hv] at HBY
  clear hv
  go_wp2_with fail
  refine HBY.out.mono ?_
  rintro e2 w2 ⟨rfl, d2, rfl⟩
  by_cases hbig : (131072 : Int) < v
  · go_wp2
    go_ret
    exact ⟨rfl, below_dN HB1.out _⟩
  have HSH := Lib.hid (short_any (c := c) (w1.drewN d2) ((H1.out.below HB1.out (Nat.le_refl _)).drewN d2) hn HZ.out)
  go_wp2_with fail
  refine HSH.out.mono ?_
  rintro e3 w3 ⟨rfl, d3, rfl⟩
  obtain ⟨sb, hsb⟩ : ∃ sb, shortB l = sb := ⟨_, rfl⟩
  rw [hsb]
  have HSB := Lib.hid hsb
  have HB2 : Hid (Below w.heap.size w ((w1.drewN d2).drewN d3)) := Lib.hid (below_dN (below_dN HB1.out _) _)
  obtain ⟨W0, hW0⟩ : ∃ W0, (w1.drewN d2).drewN d3 = W0 := ⟨_, rfl⟩
  rw [hW0] at HB2 ⊢
  clear hsb hW0 HBY HSH
  obtain rfl | rfl : sb = false ∨ sb = true := by cases sb <;> simp
  · go_wp2
    go_ret
    exact ⟨rfl, HB2.out⟩
  have hsum : sumF l ≤ 131072 := by have h1 : bytesV l = sumF l := bytesV_sum (by rw [HV.out]; omega)
                                    rw [← h1, HV.out]; omega
  have hn2 : n ≤ 4096 := by
    have h1 : ∀ l : List Fd, 32 * l.length ≤ sumF l := by
      intro l
      induction l with
      | nil => exact Nat.zero_le _
      | cons f l ih => unfold sumF at ih ⊢; simp only [List.length_cons, List.map_cons, List.sum_cons]; unfold cost at ih ⊢; omega
    have := h1 l
    rw [HLN.out] at this
    omega
  have HSUM := Lib.hid hsum
  have hle : (v : Int) ≤ 131072 := by omega
  clear hbig hsum
  go_wp2
  go_loopw [3, 4] (fun ov iv wr => NevRel w n l ov iv wr) (fun _ iv _ => n - (intOf iv).toNat)
  case atStart => exact ⟨0, rfl, Nat.zero_le _, World.ownsRow_nil _ _ _ _, HB2.out⟩
  case round =>
    obtain ⟨k, rfl, hk, hown, hb⟩ := hrel
    obtain ⟨A3, c3, rfl, -⟩ := own_slice hown
    have HO := Lib.hid hown
    have HB := Lib.hid hb
    have hsz := hb.size
    by_cases hlt : k < n
    · have hrr := H1.out.below hb (Nat.le_refl _)
      obtain ⟨hl, b, o, rfl, hbb, hc⟩ := fd_at hrr (by omega)
      obtain ⟨f, hf⟩ : ∃ f, l[k]? = some f := ⟨_, List.getElem?_eq_getElem (by omega)⟩
      obtain ⟨q0, q1, q2⟩ := hc k f hf
      have HF := Lib.hid hf
      have n1 : (k : Int) < n := by omega
      have z0 : (wr.drew).cell? ⟨b, o + k * 3, none⟩ = some (.string f.1.1) := q0
      have z1 : (wr.drew).cell? ⟨b, o + k * 3 + 1, none⟩ = some (.string f.1.2) := q1
      clear hown hb hrr hc hf hl
      go_upto_region 9 with fail
      go_region_law (refine step_app (.tmp 31) (.tmp 43) tFields rfl rfl (HO.out.alloc _) rfl (Rd.one3 wr _ _ _ _) rfl (fds_one [nev f]) (le_maxLen (by omega)) (by omega) (by simp; omega) ?_; intro v4 w4 hown4 hg4 hv4)
      all_goals
        go_wp2_with fail
        go_roundw
        case rel =>
          refine ⟨k + 1, by go_num, by omega, ?_, ?_⟩
          · rw [nev_take HF.out]
            exact hown4
          · exact Below.app ((HB.out.alloc hsz _).drew) (HO.out.alloc _) hg4 (Nat.le_refl _) (by simp [World.drew]; omega)
        case measure => simp [intOf]; omega
    · obtain rfl : k = n := by omega
      have hlt' : l.take k = l := List.take_of_length_le (by rw [HLN.out]; exact Nat.le_refl _)
      rw [hlt'] at HO
      clear hown hb hlt'
      obtain ⟨L, hL⟩ : ∃ L, l.map nev = L := ⟨_, rfl⟩
      have hLt : L.map told = L := by rw [← hL]; exact told_nev l
      have hLs : sumF L ≤ 131072 := by rw [← hL, sumF_nev]; exact HSUM.out
      have hLf : ∀ f ∈ L, f.1.1.size ≤ 4096 ∧ f.1.2.size ≤ 4096 := by
        rw [← hL]
        intro f hf
        obtain ⟨g, hg, rfl⟩ := List.mem_map.1 hf
        exact shortB_iff HSB.out g hg
      have hLl : L.length = k := by rw [← hL, List.length_map]; exact HLN.out
      have hrn : ((encNew 4096).run L).2 = encNew 4096 := by rw [← hL]; exact run_nev rfl rfl l
      obtain ⟨b, hb⟩ : ∃ b, ((encNew 4096).run L).1 = b := ⟨_, rfl⟩
      have hpair : Pair (encNew 4096) ⟨min 4096 4096, 0, []⟩ := Pair.new (own := 4096) (mo := 4096) (by omega) (by omega) (by omega)
      have hbk : outD 4096 1073741824 ⟨min 4096 4096, 0, []⟩ b = (L, 0, some ⟨min 4096 4096, 0, []⟩) := by
        have h1 := (block_back (mo := 4096) (li := 1073741824) hpair (by decide) (by omega) hLf).1
        rw [hb, hLt, hrn, if_neg (by omega)] at h1
        exact h1
      have hbl : b.length ≤ 200000 := by rw [← hb]; have := (run_short hpair.etok (by decide) hLf).1; omega
      rw [hL] at HO
      have HP := Lib.hid (And.intro hbk (And.intro hb (And.intro hrn (And.intro hLf hLl))))
      clear hL hLt hLs hLf hLl hrn hb hpair hbk
      have HNE := Lib.hid (newenc_any 4096 wr (by omega) (by omega))
      go_wp2_with fail
      refine HNE.out.mono ?_
      rintro e4 w4 ⟨e, G, rfl, he, hG, hb4⟩
      have HE := Lib.hid (And.intro he (And.intro hG hb4))
      have HND := Lib.hid (newdec_any 4096 1073741824 w4 (by omega) (by omega) (by omega))
      clear he hG hb4 HNE
      go_wp2_with fail
      refine HND.out.mono ?_
      rintro e5 w5 ⟨d, H, rfl, hd, hH, hb5⟩
      have hs4 := HE.out.2.2.size
      have hduo : Duo w w5 e d G H (atB A3) 0 0 4096 1073741824 (encNew 4096) ⟨min 4096 4096, 0, []⟩ := by
        have hel := EncIs.lt HE.out.1
        have hdl := DecIs.lt hd
        have hoa := own_at HO.out
        refine ⟨EncIs.below HE.out.1 hb5, hd, fun j hj => by have := HE.out.2.1 j hj; omega, fun j hj => by have := hH j hj; omega, ?_, fun j hj hj2 => by have := hel j hj; have := hH j hj2; omega, ?_, ?_, (HB.out.trans (HE.out.2.2.mono hsz)).trans (hb5.mono (by omega))⟩
        · rintro j ⟨a, ha, rfl⟩
          have := hoa a ha
          have := hb5.size
          omega
        · rintro j hj ⟨a, ha, rfl⟩
          have := hoa a ha
          have := HE.out.2.1 _ hj
          omega
        · rintro j hj ⟨a, ha, rfl⟩
          have := hoa a ha
          have := hH _ hj
          omega
      have hro : Rd w5 w5.heap.size 3 A3 k (fds L) := (((Rd.of_own HO.out).below HE.out.2.2 (Nat.le_refl _)).below hb5 hs4).more (by have := hb5.size; omega)
      have HDU := Lib.hid hduo
      have HEN := Lib.hid (hduo.encode (c := c3) L hro (hduo.notG (fun _ h => h)) (by decide) (by decide) (by omega) (by omega) (fun f hf => by have := HP.out.2.2.2.1 f hf; omega))
      rw [HP.out.2.2.1, HP.out.2.1] at HEN
      have HRO := Lib.hid hro
      clear hduo hro hd hH hb5
      go_wp2_with fail
      refine HEN.out.mono ?_
      rintro e6 w6 ⟨A4, c4, G4, rfl, hc4, hm4, hr4, hduo, hk4, -⟩
      have hro := HDU.out.rdG hk4 HRO.out (fun _ h => h)
      have HDU2 := Lib.hid hduo
      have HEN2 := Lib.hid (hduo.encode (c := c3) L hro (hduo.notG (fun _ h => .inl h)) (by decide) (by decide) (by omega) (by omega) (fun f hf => by have := HP.out.2.2.2.1 f hf; omega))
      rw [HP.out.2.2.1, HP.out.2.1] at HEN2
      have HRO2 := Lib.hid (And.intro hro hr4)
      clear hduo hro hr4 hk4 HEN HDU HRO
      go_wp2_with fail
      refine HEN2.out.mono ?_
      rintro e7 w7 ⟨A5, c5, G5, rfl, hc5, hm5, hr5, hduo, hk5, -⟩
      have hro := HDU2.out.rdG hk5 HRO2.out.1 (fun _ h => .inl h)
      have hr4 := HDU2.out.rdG hk5 HRO2.out.2 (fun _ h => .inr h)
      have HDU3 := Lib.hid hduo
      have HDE := Lib.hid (hduo.decode hr4 hc4 hm4 (by omega) (hduo.notH (fun _ h => .inl (.inr h))) (by omega) (by omega) HP.out.1)
      have HRO3 := Lib.hid (And.intro hro (And.intro hr4 hr5))
      clear hduo hro hr4 hr5 hk5 HEN2 HDU2 HRO2
      go_wp2_with fail
      refine HDE.out.mono ?_
      rintro e8 w8 ⟨A6, c6, H6, rfl, hr6, hduo, hk6, -⟩
      have hro := HDU3.out.rdH hk6 HRO3.out.1 (fun _ h => .inl (.inl h))
      have hr4 := HDU3.out.rdH hk6 HRO3.out.2.1 (fun _ h => .inl (.inr h))
      have hr5 := HDU3.out.rdH hk6 HRO3.out.2.2 (fun _ h => .inr h)
      have HDU4 := Lib.hid hduo
      have HDE2 := Lib.hid (hduo.decode hr5 hc5 hm5 (by omega) (hduo.notH (fun _ h => .inl (.inr h))) (by omega) (by omega) HP.out.1)
      have HRO4 := Lib.hid (And.intro hro (And.intro hr4 (And.intro hr5 hr6)))
      clear hduo hro hr4 hr5 hr6 hk6 HDE HDU3 HRO3
      go_wp2_with fail
      refine HDE2.out.mono ?_
      rintro e9 w9 ⟨A7, c7, H7, rfl, hr7, hduo, hk7, -⟩
      have hro := HDU4.out.rdH hk7 HRO4.out.1 (fun _ h => .inl (.inl (.inl h)))
      have hr4 := HDU4.out.rdH hk7 HRO4.out.2.1 (fun _ h => .inl (.inl (.inr h)))
      have hr5 := HDU4.out.rdH hk7 HRO4.out.2.2.1 (fun _ h => .inl (.inr h))
      have hr6 := HDU4.out.rdH hk7 HRO4.out.2.2.2 (fun _ h => .inr h)
      have HDU5 := Lib.hid hduo
      have HBS := Lib.hid (bytes_same (c := c4) (c' := c5) hr4 hr5)
      have HRO5 := Lib.hid (And.intro hro (And.intro hr6 hr7))
      have hLl := HP.out.2.2.2.2
      rw [hLl] at HRO5
      clear hduo hro hr4 hr5 hr6 hr7 hk7 HDE2 HDU4 HRO4
      rw [hLl]
      clear hLl
      go_wp2_with fail
      refine HBS.out.mono ?_
      rintro e10 w10 ⟨rfl, rfl⟩
      have HF1 := Lib.hid (fields_same (c := c6) (c' := c3) w9 HRO5.out.2.1 HRO5.out.1 (by omega))
      go_wp2_with fail
      refine HF1.out.mono ?_
      rintro e11 w11 ⟨rfl, d11, rfl⟩
      have HF2 := Lib.hid (fields_same (c := c7) (c' := c3) (w9.drewN d11) (HRO5.out.2.2.drewN _) (HRO5.out.1.drewN _) (by omega))
      go_wp2_with fail
      refine HF2.out.mono ?_
      rintro e12 w12 ⟨rfl, d12, rfl⟩
      have hdu := HDU5.out.drewN (d11 + d12)
      have HER := Lib.hid (erows_any _ hdu.enc)
      have HDU6 := Lib.hid hdu
      clear hdu HBS HF1 HF2 HDU5
      go_wp2_with fail
      refine HER.out.mono ?_
      rintro e13 w13 ⟨A8, c8, rfl, -, hb13⟩
      have hdu := HDU6.out.still hb13
      have HDR := Lib.hid (drows_any _ hdu.dec)
      have HDU7 := Lib.hid hdu
      clear hdu hb13 HER HDU6
      go_wp2_with fail
      refine HDR.out.mono ?_
      rintro e14 w14 ⟨A9, c9, rfl, -, hb14⟩
      have hdu := HDU7.out.still hb14
      have HFB := Lib.hid hdu.bel
      clear hdu hb14
      go_wp2
      go_ret
      exact ⟨rfl, HFB.out⟩
end Go.Proofs.Ythpieiipddfpjaa

/- Fields that never come into a table leave no row at either end, are told as such, and are written alike each time. -/
namespace Go.Proofs.Ythpieiipddfpjaa
open Go.ChangeShapes Go.WideShapes Go.ChangeAt Go.RowKit

set_option maxRecDepth 100000 in
theorem hpackNever_lifted (os : Os) (started : os.Started) (H : Type) (enc : TypeId × Value → H) :
    ReturnsInHanded {} Try.checked os 10 .any (Rows.hpackNeverSpec.pre6 enc Try.prog Try.f10 Rows.hpackNeverRow.domain false) (Rows.hpackNeverSpec.post enc Try.prog Try.f10 false true false false) := by
  refine law_lift started (by kernel_rfl) Try.func10 (by rw [Try.params10]; exact of_decide_eq_true (by kernel_rfl)) rfl Try.underlying4 rfl
    (ChangeSpec.witness6 (enc := enc) (C := Try.checked) false ⟨#[], #[.slice none 0 0], []⟩ 8 (by kernel_rfl) (by kernel_rfl) (by kernel_rfl) (by kernel_rfl)) ?_
  intro W base args ds p hval hA hlt hsz
  rw [Try.params10] at hA hval hsz
  obtain ⟨v0, vs0, d0, ds0, p0, q0, hargs, rfl, rfl, g0, r0⟩ := trodAll_cons hA
  obtain ⟨rfl, rfl, rfl⟩ := trodAll_nil r0
  obtain rfl : args = #[v0] := by cases args; simp_all
  obtain ⟨A0, n0, c0, l0, rfl, hc0, hm0, hz0, hl0, hr0, hs0⟩ := open_fds (hval 0 32 v0 rfl rfl) g0 (fun x hx => hlt x (by simp [hx])) hsz (j := 0) rfl rfl
  refine ⟨rfl, ?_⟩
  exact hnever_any W hr0 hz0 hs0

theorem hpackNever_holds : Rows.HpackNeverSaid :=
  OpenClaim.holds_of_wide 10 Try.f10 rfl rfl rfl rfl rfl rfl rfl ⟨rfl, rfl, rfl, rfl, rfl⟩ rfl rfl rfl rfl rfl (by kernel_rfl) Try.func10 (by kernel_rfl)
    (of_decide_eq_true (by kernel_rfl)) (by unfold Func.isWrapper; first | (rw [if_pos (by decide +kernel)]; kernel_rfl) | (rw [if_neg (by decide +kernel)]; exact ⟨rfl, rfl⟩))
    (fun os started H enc _ => hpackNever_lifted os started H enc)
#print axioms hpackNever_holds
end Go.Proofs.Ythpieiipddfpjaa
