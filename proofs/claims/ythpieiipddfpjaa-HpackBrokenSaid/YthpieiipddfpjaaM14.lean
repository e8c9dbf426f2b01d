/- 2 texts in one: HBroken, ClaimHpackBroken. -/
import Derived.Test.YthpieiipddfpjaaM12
import Derived.Test.YthpieiipddfpjaaM7
/- The walk of drawbridgelaw05.HpackBroken. -/
namespace Go.Proofs.Ythpieiipddfpjaa
open Go.RowKit

set_option maxRecDepth 100000 in
set_option maxHeartbeats 4000000 in
theorem hbroken_any {n c n' c' : Nat} {A A' : Option Addr} {l l' : List UInt8} (w : World) (hr : Rd w w.heap.size 1 A n (bvs l)) (hr' : Rd w w.heap.size 1 A' n' (bvs l')) (hc : n ≤ c) (hm : c ≤ maxLen) (hc' : n' ≤ c') (hm' : c' ≤ maxLen) :
    Calls Try.prog 12 #[.slice A n c, .slice A' n' c'] w (RetT w) := by
  have H1 := Lib.hid (And.intro hr hr')
  have HAW := Lib.hid (awake_any w)
  have HM := Lib.hid (And.intro hm hm')
  clear hr hr' hm hm'
  go_enter Try.func12, Try.ntmps12
  go_wp2_with fail
  refine HAW.out.mono ?_
  rintro e1 w1 ⟨rfl, hb1⟩
  have HB1 := Lib.hid hb1
  clear hb1 HAW
  by_cases hbig : 16384 < n ∨ 16384 < n'
  · have hs : 16384 < n ∨ (n ≤ 16384 ∧ 16384 < n') := by omega
    clear hbig
    rcases hs with h | ⟨h, h'⟩
    · go_wp2
      go_ret
      exact ⟨rfl, HB1.out⟩
    · go_wp2
      go_ret
      exact ⟨rfl, HB1.out⟩
  have hn : n ≤ 16384 := by omega
  have hn' : n' ≤ 16384 := by omega
  clear hbig
  have HDN := Lib.hid (decode_nil (.slice A n c) w1)
  go_wp2_with fail
  refine HDN.out.mono ?_
  rintro e2 w2 ⟨rfl, hb2⟩
  have HB2 := Lib.hid (HB1.out.trans (hb2.mono HB1.out.size))
  clear hb2 HDN
  have HRN := Lib.hid (drows_nil w2)
  go_wp2_with fail
  refine HRN.out.mono ?_
  rintro e3 w3 ⟨rfl, rfl⟩
  have HEN := Lib.hid (erows_nil w2)
  go_wp2_with fail
  refine HEN.out.mono ?_
  rintro e3 w3 ⟨rfl, rfl⟩
  have HLN := Lib.hid (limit_nil 4 w2)
  go_wp2_with fail
  refine HLN.out.mono ?_
  rintro e3 w3 ⟨rfl, rfl⟩
  go_wp2_with fail
  obtain ⟨W3, hW3⟩ : ∃ W3, w2.alloc (.cells #[.string ⟨#[97]⟩, .string ⟨#[]⟩, .bool false] 24) = W3 := ⟨_, rfl⟩
  rw [hW3]
  have HB3 : Hid (Below w.heap.size w W3) := Lib.hid (by rw [← hW3]; exact HB2.out.alloc HB2.out.size _)
  clear hW3
  refine (encode_nil _ W3).mono ?_
  rintro e4 w4 ⟨rfl, rfl⟩
  have HND := Lib.hid (newdec_any 4096 1099511627776 W3 (by omega) (by omega) (by omega))
  go_wp2_with fail
  refine HND.out.mono ?_
  rintro e5 w5 ⟨d, G, rfl, hd, hG, hb5⟩
  have HB5 := Lib.hid (HB3.out.trans (hb5.mono HB3.out.size))
  have hG2 : ∀ k, G k → w.heap.size ≤ k := fun k hk => by have := hG k hk; have := HB3.out.size; omega
  have hr5 := H1.out.1.below HB5.out (Nat.le_refl _)
  have hr5' := H1.out.2.below HB5.out (Nat.le_refl _)
  have hlt : ∀ (m : Nat) (C : Option Addr) (q : List UInt8), Rd w w.heap.size 1 C m (bvs q) → 0 < m → ∀ a, C = some a → ¬ G a.block := fun m C q hq hm0 a ha hg => by
    obtain ⟨b, o, hC, hb, -⟩ := hq.2 hm0
    rw [hC] at ha
    injection ha with ha
    subst ha
    have := hG2 _ hg
    simp only at this
    omega
  have HDE := Lib.hid (decode_any w5 hd (hr5.more HB5.out.size) hc HM.out.1 (by omega) (hlt n A l H1.out.1) (by omega) (by omega))
  have HGG := Lib.hid hG2
  have hll := H1.out.1.blen
  have htk := DecIs.tok hd
  have HTK := Lib.hid htk
  clear hb5 hG hG2 hr5 hr5' hlt hd htk HND HB3
  obtain ⟨R, hR⟩ : ∃ R, outD 4096 1099511627776 ⟨min 4096 4096, 0, []⟩ l = R := ⟨_, rfl⟩
  have hok : R.2.1 = 0 → R.2.2.isNone = false := by rw [← hR]; exact outD_good
  have hfell : R.2.1 ≠ 0 → R.2.2.isNone = true := by rw [← hR]; exact outD_fell HTK.out (by omega) (by omega)
  rw [hR] at HDE
  clear hR hll
  obtain ⟨fl, er, tb⟩ := R
  simp only at hok hfell
  go_wp2_with fail
  refine HDE.out.mono ?_
  rintro e6 w6 ⟨A6, c6, rfl, ho6, G6, T6, hd6, -, -, hk6, hg6⟩
  have hG6 : ∀ k, G6 k → w.heap.size ≤ k := fun k hk => (hg6 k hk).elim (HGG.out k) fun h => Nat.le_trans HB5.out.size h
  have HB6 : Hid (Below w.heap.size w w6) := Lib.hid (HB5.out.trans (hk6.below (HGG.out) HB5.out.size))
  have hr6 := H1.out.2.below HB6.out (Nat.le_refl _)
  have hlt : 0 < n' → ∀ a, A' = some a → ¬ G6 a.block := fun hm0 a ha hg => by
    obtain ⟨b, o, hC, hb, -⟩ := H1.out.2.2 hm0
    rw [hC] at ha
    injection ha with ha
    subst ha
    have := hG6 _ hg
    simp only at this
    omega
  simp only at hd6 ho6
  have HHD := Lib.hid hd6
  have HRR := Lib.hid (hr6.more HB6.out.size)
  have HLT := Lib.hid hlt
  have HG6 := Lib.hid hG6
  clear hd6 ho6 hr6 hlt hG6 hk6 hg6
  by_cases he : er = 0
  · subst he
    have hnb := hok rfl
    rw [hnb] at HHD
    have HDE2 := Lib.hid (decode_any w6 HHD.out HRR.out hc' HM.out.2 (by omega) HLT.out (by omega) (by omega))
    obtain ⟨R2, hR2⟩ : ∃ R2, outD 4096 1099511627776 T6 l' = R2 := ⟨_, rfl⟩
    have hne : R2.2.1 ≠ 5 := by rw [← hR2]; exact outD_ne5 _ _ _ _
    rw [hR2] at HDE2
    obtain ⟨fl2, er2, tb2⟩ := R2
    simp only at hne
    have hb : ((er2 : Int) != 5) = true := by rw [bne_iff_ne]; omega
    clear hR2 hok hfell hnb
    go_wp2_with fail
    refine HDE2.out.mono ?_
    rintro e7 w7 ⟨A7, c7, rfl, -, G7, T7, -, -, -, hk7, -⟩
    have HB7 : Hid (Below w.heap.size w w7) := Lib.hid (HB6.out.trans (hk7.below HG6.out HB6.out.size))
    clear hk7
    go_wp2
    go_ret
    exact ⟨rfl, HB7.out⟩
  · have hbr := hfell he
    rw [hbr] at HHD
    have HDE2 := Lib.hid (decode_broken (.slice A' n' c') w6 HHD.out)
    have hb : ((er : Int) != 0) = true := by rw [bne_iff_ne]; omega
    clear hok hfell hbr
    go_wp2_with fail
    refine HDE2.out.mono ?_
    rintro e7 w7 ⟨rfl, hb7⟩
    have HB7 : Hid (Below w.heap.size w w7) := Lib.hid (HB6.out.trans (hb7.mono HB6.out.size))
    clear hb7
    go_wp2
    go_ret
    exact ⟨rfl, HB7.out⟩
end Go.Proofs.Ythpieiipddfpjaa

/- A decoder that met a block which can't be read answers nothing any more; one that isn't there, and an encoder that isn't there, neither. -/
namespace Go.Proofs.Ythpieiipddfpjaa
open Go.ChangeShapes Go.WideShapes Go.ChangeAt Go.RowKit

set_option maxRecDepth 100000 in
theorem hpackBroken_lifted (os : Os) (started : os.Started) (H : Type) (enc : TypeId × Value → H) :
    ReturnsInHanded {} Try.checked os 12 .any (Rows.hpackBrokenSpec.pre6 enc Try.prog Try.f12 Rows.hpackBrokenRow.domain false) (Rows.hpackBrokenSpec.post enc Try.prog Try.f12 false true false false) := by
  refine law_lift started (by kernel_rfl) Try.func12 (by rw [Try.params12]; exact of_decide_eq_true (by kernel_rfl)) rfl Try.underlying4 rfl
    (ChangeSpec.witness6 (enc := enc) (C := Try.checked) false ⟨#[], #[.slice none 0 0, .slice none 0 0], []⟩ 8 (by kernel_rfl) (by kernel_rfl) (by kernel_rfl) (by kernel_rfl)) ?_
  intro W base args ds p hval hA hlt hsz
  rw [Try.params12] at hA hval hsz
  obtain ⟨v0, vs0, d0, ds0, p0, q0, hargs, rfl, rfl, g0, r0⟩ := trodAll_cons hA
  obtain ⟨v1, vs1, d1, ds1, p1, q1, rfl, rfl, rfl, g1, r1⟩ := trodAll_cons r0
  obtain ⟨rfl, rfl, rfl⟩ := trodAll_nil r1
  obtain rfl : args = #[v0, v1] := by cases args; simp_all
  obtain ⟨A0, n0, c0, l0, rfl, hc0, hm0, hz0, hr0⟩ := open_bts (hval 0 52 v0 rfl rfl) g0 (fun x hx => hlt x (by simp [hx])) hsz (j := 0) rfl rfl
  obtain ⟨A1, n1, c1, l1, rfl, hc1, hm1, hz1, hr1⟩ := open_bts (hval 1 52 v1 rfl rfl) g1 (fun x hx => hlt x (by simp [hx])) hsz (j := 1) rfl rfl
  refine ⟨rfl, ?_⟩
  exact hbroken_any W hr0 hr1 hc0 hm0 hc1 hm1

theorem hpackBroken_holds : Rows.HpackBrokenSaid :=
  OpenClaim.holds_of_wide 12 Try.f12 rfl rfl rfl rfl rfl rfl rfl ⟨rfl, rfl, rfl, rfl, rfl⟩ rfl rfl rfl rfl rfl (by kernel_rfl) Try.func12 (by kernel_rfl)
    (of_decide_eq_true (by kernel_rfl)) (by unfold Func.isWrapper; first | (rw [if_pos (by decide +kernel)]; kernel_rfl) | (rw [if_neg (by decide +kernel)]; exact ⟨rfl, rfl⟩))
    (fun os started H enc _ => hpackBroken_lifted os started H enc)
#print axioms hpackBroken_holds
end Go.Proofs.Ythpieiipddfpjaa
