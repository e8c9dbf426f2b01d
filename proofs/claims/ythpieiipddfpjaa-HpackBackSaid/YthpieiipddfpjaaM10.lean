/- 5 texts in one: HDec4, HDec5, RTab4, HTab1, HTab2. -/
import Derived.Test.YthpieiipddfpjaaM9
import Derived.Defers
import Derived.Recover
import Derived.Test.YthpieiipddfpjaaM3
import Derived.Deep.DeepCutAuto
import Derived.Test.YthpieiipddfpjaaM8
import Derived.IntWalk
/- The walk of hpack.reader's part. -/
namespace Go.Proofs.Ythpieiipddfpjaa
open Go.RowKit

section
variable {mo : Int} {S : HSt} {c : Nat}
theorem partP_128 (hc : ba S.left 0 = c) (h : 128 ≤ c) : ((takeI 127 S.left).2.2 ≠ 0 → partP mo S = .error (takeI 127 S.left).2.2) ∧
    ((takeI 127 S.left).2.2 = 0 → atRows S.T.rows (takeI 127 S.left).1 = none → partP mo S = .error 40) ∧
    (∀ r, (takeI 127 S.left).2.2 = 0 → atRows S.T.rows (takeI 127 S.left).1 = some r → partP mo S = .ok (S.put (S.left.drop (takeI 127 S.left).2.1) (r, false))) := by
  have e : prefF c = 127 := by unfold prefF; rw [if_pos h]
  unfold partP
  rw [hc, e]
  refine ⟨fun h1 => if_pos h1, fun h1 h2 => ?_, fun r h1 h2 => ?_⟩
  · rw [if_neg (by simpa using h1)]; unfold afterP; rw [if_pos h, h2]
  · rw [if_neg (by simpa using h1)]; unfold afterP; rw [if_pos h, h2]
theorem partP_64 (hc : ba S.left 0 = c) (h1 : ¬ 128 ≤ c) (h : 64 ≤ c) : (∀ z, litR 63 S.T S.left = .error z → partP mo S = .error z) ∧
    (∀ f l2, litR 63 S.T S.left = .ok (f, l2) → partP mo S = .ok ({ S with T := S.T.add f }.put l2 (f, false))) := by
  have e : prefF c = 63 := by unfold prefF; rw [if_neg h1, if_pos h]
  unfold partP litR
  rw [hc, e]
  by_cases hz : (takeI 63 S.left).2.2 ≠ 0
  · rw [if_pos hz, if_pos hz]
    exact ⟨fun z hq => by injection hq with hq; rw [hq], fun f l2 hq => by cases hq⟩
  · rw [if_neg hz, if_neg hz]
    unfold afterP
    rw [if_neg h1, if_pos h]
    exact ⟨fun z hq => by rw [hq], fun f l2 hq => by rw [hq]⟩
theorem partP_32 (hc : ba S.left 0 = c) (h1 : ¬ 128 ≤ c) (h2 : ¬ 64 ≤ c) (h : 32 ≤ c) : partP mo S = rszP mo S := by
  have e : prefF c = 31 := by unfold prefF; rw [if_neg h1, if_neg h2, if_pos h]
  unfold partP rszP
  rw [hc, e]
  unfold afterP
  rw [if_neg h1, if_neg h2, if_pos h]
theorem partP_0 (hc : ba S.left 0 = c) (h : ¬ 32 ≤ c) : (∀ z, litR 15 S.T S.left = .error z → partP mo S = .error z) ∧
    (∀ f l2, litR 15 S.T S.left = .ok (f, l2) → partP mo S = .ok (S.put l2 (f, decide (16 ≤ c)))) := by
  have h1 : ¬ 128 ≤ c := by omega
  have h2 : ¬ 64 ≤ c := by omega
  have e : prefF c = 15 := by unfold prefF; rw [if_neg h1, if_neg h2, if_neg h]
  unfold partP litR
  rw [hc, e]
  by_cases hz : (takeI 15 S.left).2.2 ≠ 0
  · rw [if_pos hz, if_pos hz]
    exact ⟨fun z hq => by injection hq with hq; rw [hq], fun f l2 hq => by cases hq⟩
  · rw [if_neg hz, if_neg hz]
    unfold afterP
    rw [if_neg h1, if_neg h2, if_neg h]
    exact ⟨fun z hq => by rw [hq], fun f l2 hq => by rw [hq]⟩
end
theorem litR_ok {T : Tb} (hT : TOk T) {Fm : Nat} (hF : Fm ≤ 255) {l l2 : List UInt8} {f : Rw} (h : litR Fm T l = .ok (f, l2)) : f.1.size ≤ 65536 ∧ f.2.size ≤ 4096 ∧ l2.length < l.length := by
  unfold litR at h
  split at h
  · cases h
  · rename_i h0
    have := takeI_bd hF l (by simpa using h0)
    have h2 := litP_ok hT h
    rw [List.length_drop] at h2
    omega
theorem full4 : Full 4 15 := by constructor <;> decide
theorem full6 : Full 6 63 := by constructor <;> decide
set_option maxRecDepth 100000 in
set_option maxHeartbeats 4000000 in
theorem part_any {W w : World} {p d g N cl L : Nat} {F0 F : Nat → Prop} {mo li : Int} {S : HSt} {AL : Option Addr} {fv : Value} (h : RdS W w p d g N F0 F mo li S AL cl fv) (hok : HOk L S) (hL : L ≤ 1048576) (hmo : mo ≤ 65536) (h0 : 0 < S.left.length) (hN : N + 1 ≤ 1099511627776) :
    Calls Try.prog 51 #[.pointer (some ⟨p, 0, none⟩)] w (PartPost W w p d g (N + 1) F0 F mo li fv (partP mo S)) := by
  obtain ⟨hlen, b, o, rfl, hbw, hcs⟩ := h.left.bas h0
  have q0 := hcs 0 h0
  rw [Nat.add_zero] at q0
  have hba := ba_lt S.left 0
  obtain ⟨c, hc⟩ : ∃ c, ba S.left 0 = c := ⟨_, rfl⟩
  rw [hc] at q0 hba
  obtain ⟨-, c1, -, -, -⟩ := h.cells
  have H := Lib.hid h
  have HOK := Lib.hid hok
  have HC := Lib.hid hc
  have hl20 : S.left.length ≤ 1048576 := by have := hok.len; omega
  have HL20 := Lib.hid hl20
  obtain ⟨R, hR⟩ : ∃ R, partP mo S = R := ⟨_, rfl⟩
  have HR := Lib.hid hR
  obtain ⟨ln, hln⟩ : ∃ ln, S.left.length = ln := ⟨_, rfl⟩
  have HLN := Lib.hid hln
  rw [hR]
  rw [hln] at c1 h0
  have n0 : (0 : Int) < ln := by omega
  clear hR hcs h hok hc hl20 hln
  by_cases hc1 : 128 ≤ c
  · have E := partP_128 (mo := mo) HC.out hc1
    rw [HR.out] at E
    have HE := Lib.hid E
    have hbd := takeI_bd (show 127 ≤ 255 by omega) S.left
    have HNU := Lib.hid (number_any2 full7 H.out)
    obtain ⟨⟨n, a, z⟩, hv⟩ : ∃ r, takeI 127 S.left = r := ⟨_, rfl⟩
    rw [hv] at HE HNU hbd
    have g1 : (128 : Int) ≤ c := by omega
    clear E hv hc1
    go_enter Try.func51, Try.ntmps51
    go_wp2_with fail
    refine HNU.out.mono ?_
    rintro e w1 ⟨hm1, ⟨hz, rfl, AL1, cl1, h1⟩ | ⟨hz, rfl, AL1, cl1, h1⟩⟩
    · simp only at hz
      have H1 := Lib.hid (h1.more (Nat.le_succ N) hN)
      have HZ := Lib.hid hz
      have HM1 := Lib.hid hm1
      clear h1 hbd hz hm1
      unfold errP
      go_wp2
      rw [HE.out.1 HZ.out]
      exact ⟨rfl, rfl, _, _, _, _, _, H1.out, HM1.out⟩
    · simp only at hz
      subst hz
      obtain ⟨h31, ha1, han, -⟩ := hbd rfl
      simp only at h1 h31 ha1 han
      have HRW := Lib.hid (row_any (n : Int) h1 (by omega))
      have HM1 := Lib.hid hm1
      simp only at HRW
      clear hm1 hbd h1
      cases hat : atRows S.T.rows n with
      | none =>
        have E9 := Lib.hid (HE.out.2.1 (by trivial) hat)
        rw [hat] at HRW
        clear hat
        go_wp2_with fail
        refine HRW.out.mono ?_
        rintro e w3 ⟨hb3, h3, rfl⟩
        have H3 := Lib.hid (h3.more (Nat.le_succ N) hN)
        have HM3 := Lib.hid (HM1.out.below hb3)
        clear h3 hb3
        simp only
        unfold errP
        go_wp2
        rw [E9.out]
        exact ⟨rfl, rfl, _, _, _, _, _, H3.out, HM3.out⟩
      | some r =>
        have E9 := Lib.hid (HE.out.2.2 r (by trivial) hat)
        have hrs := atRows_size HOK.out.tok hat
        rw [hat] at HRW
        clear hat
        go_wp2_with fail
        refine HRW.out.mono ?_
        rintro e w3 ⟨hb3, h3, rfl⟩
        have HM3 := Lib.hid (HM1.out.below hb3)
        have hok3 : HOk L { S with left := S.left.drop a } := { tok := HOK.out.tok, sz := HOK.out.sz, cost := HOK.out.cost, len := by have := HOK.out.len; simp only [List.length_drop]; omega, chg := HOK.out.chg }
        have HP := Lib.hid (put_any (r, false) (h3.more (Nat.le_succ N) hN) hok3 hL hrs.1 hrs.2)
        simp only at HP
        clear h3 hb3 hok3
        simp only
        unfold fieldV
        go_wp2_with fail
        refine HP.out.mono ?_
        rintro e w4 ⟨rfl, fv4, h4, hm4⟩
        have H4 := Lib.hid h4
        have HM4 := Lib.hid (HM3.out.trans hm4)
        clear h4 hm4
        go_wp2_with fail
        go_end0
        rw [E9.out]
        exact ⟨rfl, _, _, _, _, H4.out, HM4.out⟩
  by_cases hc2 : 64 ≤ c
  · have E := partP_64 (mo := mo) HC.out hc1 hc2
    rw [HR.out] at E
    have HE := Lib.hid E
    have g1 : ¬ (128 : Int) ≤ c := by omega
    have g2 : (64 : Int) ≤ c := by omega
    have HLT := Lib.hid (literal_any false full6 H.out HL20.out)
    obtain ⟨lr, hlr⟩ : ∃ lr, litR 63 S.T S.left = lr := ⟨_, rfl⟩
    rw [hlr] at HLT HE
    have HLR := Lib.hid hlr
    clear hc1 hc2 E hlr
    go_enter Try.func51, Try.ntmps51
    go_wp2_with fail
    refine HLT.out.mono ?_
    cases lr with
    | error z =>
      rintro e w1 ⟨hm1, rfl, S1, AL1, cl1, h1⟩
      have H1 := Lib.hid (h1.more (Nat.le_succ N) hN)
      have HM1 := Lib.hid hm1
      clear h1 hm1
      unfold errP
      go_wp2
      rw [HE.out.1 z rfl]
      exact ⟨rfl, rfl, _, _, _, _, _, H1.out, HM1.out⟩
    | ok fl =>
      obtain ⟨f, l2⟩ := fl
      have hfs := litR_ok HOK.out.tok (by omega) HLR.out
      rintro e w1 ⟨hm1, rfl, AL1, cl1, h1⟩
      obtain ⟨W2, hW2⟩ : ∃ W2, w1.alloc (.cells #[.string f.1, .string f.2, .bool false] 24) = W2 := ⟨_, rfl⟩
      obtain ⟨x, hx⟩ : ∃ x, w1.heap.size = x := ⟨_, rfl⟩
      have b2 : Below w1.heap.size w1 W2 := by rw [← hW2]; exact (Below.refl _ _).alloc (Nat.le_refl _) _
      have HBX : Hid (By W2 p F fv x (some (.cells #[.string f.1, .string f.2, .bool false] 24 (0, 0)))) := Lib.hid (by rw [← hW2, ← hx]; exact By.new h1 _)
      have HM2 := Lib.hid (hm1.below b2)
      have h2 := h1.below b2
      have hdx : d ≠ x := by have := h1.dw; omega
      obtain ⟨d0, -, -, -, -⟩ := h2.cells
      obtain ⟨-, -, e2, -⟩ := h2.dcells
      have k2 := HBX.out.at_
      have x0 : W2.cell? ⟨x, 0, none⟩ = some (.string f.1) := by unfold World.cell?; rw [k2]; rfl
      have x1 : W2.cell? ⟨x, 1, none⟩ = some (.string f.2) := by unfold World.cell?; rw [k2]; rfl
      have x2 : W2.cell? ⟨x, 2, none⟩ = some (.bool false) := by unfold World.cell?; rw [k2]; rfl
      have H2 := Lib.hid h2
      have HA : Hid (∀ w', w'.heap = W2.heap → Calls Try.prog 25 #[.pointer (some ⟨g, 0, none⟩), .agg #[.string f.1, .string f.2, .bool false]] w' (TStep w' g F (N + 1) (S.T.add f) (.tuple #[]))) := Lib.hid fun w' hw => add_any f false w' (h2.tab.keep fun k _ => by rw [hw]) (by omega) (by omega) hN
      have HW2 := Lib.hid hW2
      have HX := Lib.hid hx
      clear h1 hm1 hW2 hx b2 h2 k2 c1
      unfold fieldV
      go_upto_region 6 with fail
      rw [HW2.out, HX.out]
      go_region_held3 (fun w' => w'.cell? ⟨p, 0, none⟩ = some (.pointer (some ⟨d, 0, none⟩)) ∧ w'.cell? ⟨d, 2, none⟩ = some (.pointer (some ⟨g, 0, none⟩)) ∧ w'.cell? ⟨x, 0, none⟩ = some (.string f.1) ∧ w'.cell? ⟨x, 1, none⟩ = some (.string f.2) ∧ w'.cell? ⟨x, 2, none⟩ = some (.bool false))
        (first | go_keep | exact ⟨k0, k1, k2, k3, k4⟩)
        (first
          | (go_at_call 25; refine (HA.out _ (by rfl)).mono ?_; rintro e w3 ⟨rfl, F3, ht3, hk3, hg3⟩; have hk3' : Kept F W2 w3 := ⟨hk3.os, hk3.tape, hk3.output, hk3.size, hk3.block⟩; have hg3' : Grew W2 F F3 := hg3; have h3 := H2.out.tabStep ht3 hk3' hg3'; have hm3 : Mv W2 w3 p F F3 fv fv := ⟨hk3'.mono (fun _ h => .inr (.inl h)), hg3', fun _ h => .inl h⟩; have hb3 := HBX.out.mv hm3; obtain ⟨k0, -, -, -, -⟩ := h3.cells; obtain ⟨-, -, k1, -⟩ := h3.dcells; have kk := hb3.at_; have k2 : w3.cell? ⟨x, 0, none⟩ = some (.string f.1) := (by unfold World.cell?; rw [kk]; rfl); have k3 : w3.cell? ⟨x, 1, none⟩ = some (.string f.2) := (by unfold World.cell?; rw [kk]; rfl); have k4 : w3.cell? ⟨x, 2, none⟩ = some (.bool false) := (by unfold World.cell?; rw [kk]; rfl); have H3 := Lib.hid (And.intro h3 (And.intro hm3 hb3)); clear ht3 hk3 hg3 hk3' hg3' h3 hm3 hb3 kk))
      all_goals
        have hok3 : HOk L { S with T := S.T.add f, left := l2 } := { tok := HOK.out.tok.add (by omega) (by omega), sz := HOK.out.sz, cost := HOK.out.cost, len := by have := HOK.out.len; simp only; omega, chg := HOK.out.chg }
        have HP : Hid (∀ w', Below w3.heap.size w3 w' → Calls Try.prog 58 #[.pointer (some ⟨p, 0, none⟩), .agg #[.string f.1, .string f.2, .bool false]] w' fun e w4 => e = .returned (.tuple #[]) ∧ ∃ fv4, RdS W w4 p d g (N + 1) F0 F3 mo li ({ S with T := S.T.add f }.put l2 (f, false)) AL1 cl1 fv4 ∧ Mv w w4 p F F3 fv fv4) := Lib.hid fun w' hb => by
          refine (put_any (f, false) (H3.out.1.below hb) hok3 hL hfs.1 (by simp only; omega)).mono ?_
          rintro e w4 ⟨rfl, fv4, h4, hm4⟩
          exact ⟨rfl, fv4, h4, (HM2.out.trans (H3.out.2.1.below hb)).trans hm4⟩
        clear hok3 x0 x1 x2 d0 e2
        go_wp2_with fail
        refine (HP.out _ (by first | exact Below.refl _ _ | exact (Below.refl _ _).drew)).mono ?_
        rintro e w4 ⟨rfl, fv4, h4, hm4⟩
        have H4 := Lib.hid h4
        have HM4 := Lib.hid hm4
        clear h4 hm4
        go_wp2_with fail
        go_end0
        rw [HE.out.2 f l2 rfl]
        exact ⟨rfl, _, _, _, _, H4.out, HM4.out⟩
  by_cases hc3 : 32 ≤ c
  · have E9 : Hid (R = rszP mo S) := Lib.hid (HR.out.symm.trans (partP_32 HC.out hc1 hc2 hc3))
    have HS := Lib.hid (resize_any2 H.out HOK.out hmo)
    have g1 : ¬ (128 : Int) ≤ c := by omega
    have g2 : ¬ (64 : Int) ≤ c := by omega
    have g3 : (32 : Int) ≤ c := by omega
    obtain ⟨R2, hR2⟩ : ∃ R2, rszP mo S = R2 := ⟨_, rfl⟩
    rw [hR2] at HS E9
    clear hc1 hc2 hc3 hR2
    go_enter Try.func51, Try.ntmps51
    go_wp2_with fail
    refine HS.out.mono ?_
    cases R2 with
    | error z =>
      rintro e w1 ⟨rfl, S1, F1, AL1, cl1, fv1, h1, hm1⟩
      have H1 := Lib.hid (h1.more (Nat.le_succ N) hN)
      have HM1 := Lib.hid hm1
      clear h1 hm1
      unfold errP
      go_wp2
      rw [E9.out]
      exact ⟨rfl, rfl, _, _, _, _, _, H1.out, HM1.out⟩
    | ok S1 =>
      rintro e w1 ⟨rfl, F1, AL1, cl1, fv1, h1, hm1⟩
      have H1 := Lib.hid (h1.more (Nat.le_succ N) hN)
      have HM1 := Lib.hid hm1
      clear h1 hm1
      go_wp2_with fail
      go_end0
      rw [E9.out]
      exact ⟨rfl, _, _, _, _, H1.out, HM1.out⟩
  · have E := partP_0 (mo := mo) HC.out hc3
    rw [HR.out] at E
    have HE := Lib.hid E
    have g1 : ¬ (128 : Int) ≤ c := by omega
    have g2 : ¬ (64 : Int) ≤ c := by omega
    have g3 : ¬ (32 : Int) ≤ c := by omega
    obtain ⟨nv, hnv⟩ : ∃ nv, decide (16 ≤ c) = nv := ⟨_, rfl⟩
    have hnv2 : decide ((16 : Int) ≤ c) = nv := by rw [← hnv]; congr 1; simp; omega
    rw [hnv] at HE
    have HLT := Lib.hid (literal_any nv full4 H.out HL20.out)
    obtain ⟨lr, hlr⟩ : ∃ lr, litR 15 S.T S.left = lr := ⟨_, rfl⟩
    rw [hlr] at HLT HE
    have HLR := Lib.hid hlr
    clear hc1 hc2 hc3 hnv E hlr
    go_enter Try.func51, Try.ntmps51
    go_wp2_with fail
    refine HLT.out.mono ?_
    cases lr with
    | error z =>
      rintro e w1 ⟨hm1, rfl, S1, AL1, cl1, h1⟩
      have H1 := Lib.hid (h1.more (Nat.le_succ N) hN)
      have HM1 := Lib.hid hm1
      clear h1 hm1
      unfold errP
      go_wp2
      rw [HE.out.1 z rfl]
      exact ⟨rfl, rfl, _, _, _, _, _, H1.out, HM1.out⟩
    | ok fl =>
      obtain ⟨f, l2⟩ := fl
      have hfs := litR_ok HOK.out.tok (by omega) HLR.out
      rintro e w1 ⟨hm1, rfl, AL1, cl1, h1⟩
      have HM1 := Lib.hid hm1
      have hok3 : HOk L { S with left := l2 } := { tok := HOK.out.tok, sz := HOK.out.sz, cost := HOK.out.cost, len := by have := HOK.out.len; simp only; omega, chg := HOK.out.chg }
      have HP := Lib.hid (put_any (f, nv) (h1.more (Nat.le_succ N) hN) hok3 hL hfs.1 (by simp only; omega))
      simp only at HP
      clear h1 hm1 hok3
      unfold fieldV
      go_wp2_with fail
      refine HP.out.mono ?_
      rintro e w4 ⟨rfl, fv4, h4, hm4⟩
      have H4 := Lib.hid h4
      have HM4 := Lib.hid (HM1.out.trans hm4)
      clear h4 hm4
      go_wp2_with fail
      go_end0
      rw [HE.out.2 f l2 rfl]
      exact ⟨rfl, _, _, _, _, H4.out, HM4.out⟩
end Go.Proofs.Ythpieiipddfpjaa

/- The walks of hpack.Decoder's Decode and of what it defers. -/
namespace Go.Proofs.Ythpieiipddfpjaa
open Go.RowKit

theorem wpOpsS_recover {P : Program} {o0 o1 : Oper} {K : Exit → Act → List Frame → World → Prop} {a : Act} {c₀ : Frame} {cs : List Frame} {w : World} {v : Value} {older : List PanicEntry} {d0 d1 : Nat}
    (h0 : o0.op = .call { callee := .builtin .recover, args := #[], argTypes := #[] }) (g0 : o0.guard = none) (hd : o0.dst = some d0) (h1 : o1.op = .assign (.tmp d0)) (g1 : o1.guard = none) (hd1 : o1.dst = some d1)
    (hm : c₀.mode = .panicking ({ v := v, recovered := false } :: older)) (hsz : d0 < a.tmps.size)
    (h : K .normal ((a.put (some d0) v).put (some d1) v) ({ c₀ with mode := .panicking ({ v := v, recovered := true } :: older) } :: cs) w) : wpOpsS P #[o0, o1] K (List.range 2) a (c₀ :: cs) w := by
  have e : List.range 2 = [0, 1] := rfl
  rw [e]
  simp [wpOpsS, Region.wanted, g0, g1, execOp, h0, h1, hd, hd1, go_sem, recoverD, hm, hsz]
  exact h
theorem run_asF (v : Value) (w : World) : (Instr.typeAssert (.iface 92 v) 20 92 true).run Try.prog w = .ok (.tuple #[v, .bool true]) w := by
  simp [Instr.typeAssert, run_underlying Try.underlying92, go_sem, Result.andThen]
theorem wp_at {P : Program} {c : Code} {Q : Exit → Act → World → Prop} {a a' : Act} {w : World} (h : a = a') (h2 : c.wp P Q a' w) : c.wp P Q a w := h ▸ h2
/-- What giving up has turned: the decoder is broken; the results. -/
structure Cat (w w' : World) (d x4 x5 : Nat) (mo li : Int) (g z : Nat) : Prop where
  dec : w'.heap[d]? = some (deB mo li g true)
  r4 : w'.heap[x4]? = some (.cells #[.slice none 0 0] 32 (0, 0))
  r5 : w'.heap[x5]? = some (.cells #[.int .i64 (z : Int)] 28 (0, 0))
  kept : Kept (fun k => k = d ∨ k = x4 ∨ k = x5) w w'
set_option maxRecDepth 100000 in
set_option maxHeartbeats 1000000 in
theorem catch_panicking (x2 x4 x5 d : Nat) (mo li : Int) (g z : Nat) (v4 : Value) (v5 : Int) (older : List PanicEntry) (w : World)
    (h2 : w.heap[x2]? = some (.cells #[.pointer (some ⟨d, 0, none⟩)] 53 (0, 0))) (h4 : w.heap[x4]? = some (.cells #[v4] 32 (0, 0))) (h5 : w.heap[x5]? = some (.cells #[.int .i64 v5] 28 (0, 0)))
    (hd : w.heap[d]? = some (deB mo li g false)) (n4 : d ≠ x4) (n5 : d ≠ x5) (n6 : x4 ≠ x5) :
    CallsD Try.prog 50 #[.pointer (some ⟨x2, 0, none⟩), .pointer (some ⟨x4, 0, none⟩), .pointer (some ⟨x5, 0, none⟩)] (.panicking ({ v := .iface 92 (.agg #[.int .i64 (z : Int)]), recovered := false } :: older)) w fun e u' w' =>
      e = .returned (.tuple #[]) ∧ u' = .panicking ({ v := .iface 92 (.agg #[.int .i64 (z : Int)]), recovered := true } :: older) ∧ Cat w w' d x4 x5 mo li g z := by
  refine callsD_of_wpS Try.func50 rfl fun c₀ cs hu => ?_
  have c2 : w.cell? ⟨x2, 0, none⟩ = some (.pointer (some ⟨d, 0, none⟩)) := by unfold World.cell?; rw [h2]; rfl
  have c4 : w.cell? ⟨x4, 0, none⟩ = some v4 := by unfold World.cell?; rw [h4]; rfl
  have c5 : w.cell? ⟨x5, 0, none⟩ = some (.int .i64 v5) := by unfold World.cell?; rw [h5]; rfl
  have cd : w.cell? ⟨d, 3, none⟩ = some (.bool false) := by unfold World.cell?; rw [hd]; rfl
  have f4 : w.frozen? ⟨x4, 0, none⟩ = false := by unfold World.frozen?; rw [h4]; simp
  have f5 : w.frozen? ⟨x5, 0, none⟩ = false := by unfold World.frozen?; rw [h5]; simp
  have fd : w.frozen? ⟨d, 3, none⟩ = false := by unfold World.frozen?; rw [hd]; simp [deB]
  refine wpS_seq (wpS_region (wpOpsS_recover rfl rfl rfl rfl rfl rfl hu (by simp [Try.ntmps50]) ?_))
  refine wpS_of_wp ?_
  refine Code.wp_mono (Q := fun e a' w' => e = .normal ∧ a'.defers = [] ∧ Cat w w' d x4 x5 mo li g z) ?_ ?_
  · rintro e a w' ⟨rfl, had, hc⟩
    exact ⟨had, _, rfl, .tuple #[], by simp [results, Try.results50, go_sem], rfl, rfl, hc⟩
  rw [Try.ntmps50]
  refine wp_at (a' := { tmps := #[.pointer (some ⟨x2, 0, none⟩), .pointer (some ⟨x4, 0, none⟩), .pointer (some ⟨x5, 0, none⟩), .iface 92 (.agg #[.int .i64 (z : Int)]), undef, undef, .iface 92 (.agg #[.int .i64 (z : Int)]), undef, undef, undef, undef, undef, undef, undef, undef, undef, undef, undef, undef, undef, undef, undef], defers := [] }) (by kernel_rfl) ?_
  have hasf := run_asF
  obtain ⟨Q, hQ⟩ : ∃ Q : World → Prop, (fun w' => Cat w w' d x4 x5 mo li g z) = Q := ⟨_, rfl⟩
  have HQ := Lib.hid hQ
  have l2 := (Array.getElem?_eq_some_iff.1 h2).1
  have l4 := (Array.getElem?_eq_some_iff.1 h4).1
  have l5 := (Array.getElem?_eq_some_iff.1 h5).1
  have ld := (Array.getElem?_eq_some_iff.1 hd).1
  have H2 := Lib.hid h2
  have H4 := Lib.hid h4
  have H5 := Lib.hid h5
  have HD := Lib.hid hd
  clear hQ h2 h4 h5 hd
  go_wp2
  go_region
  obtain ⟨W1, hW1⟩ : ∃ W1, w.setCell ⟨d, 3, none⟩ (.bool true) = W1 := ⟨_, rfl⟩
  have a1 : W1.heap[d]? = some (deB mo li g true) := by rw [← hW1, set_b _ HD.out]; rfl
  have o1 : ∀ k, k ≠ d → W1.heap[k]? = w.heap[k]? := fun k hk => by rw [← hW1]; exact Below.heap_setCell _ _ _ _ hk
  have k1 : Kept (fun k => k = d ∨ k = x4 ∨ k = x5) w W1 := by rw [← hW1]; exact (Kept.refl (fun k => k = d ∨ k = x4 ∨ k = x5) w).setCell (.inl rfl) _ _
  rw [hW1]
  obtain ⟨W2, hW2⟩ : ∃ W2, W1.setCell ⟨x4, 0, none⟩ (.slice none 0 0) = W2 := ⟨_, rfl⟩
  have a2 : W2.heap[x4]? = some (.cells #[.slice none 0 0] 32 (0, 0)) := by rw [← hW2, set_b _ ((o1 x4 (Ne.symm n4)).trans H4.out)]; rfl
  have o2 : ∀ k, k ≠ x4 → W2.heap[k]? = W1.heap[k]? := fun k hk => by rw [← hW2]; exact Below.heap_setCell _ _ _ _ hk
  have k2 : Kept (fun k => k = d ∨ k = x4 ∨ k = x5) w W2 := by rw [← hW2]; exact k1.setCell (.inr (.inl rfl)) _ _
  rw [hW2]
  obtain ⟨W3, hW3⟩ : ∃ W3, W2.setCell ⟨x5, 0, none⟩ (.int .i64 (z : Int)) = W3 := ⟨_, rfl⟩
  have a3 : W3.heap[x5]? = some (.cells #[.int .i64 (z : Int)] 28 (0, 0)) := by rw [← hW3, set_b _ (((o2 x5 (Ne.symm n6)).trans (o1 x5 (Ne.symm n5))).trans H5.out)]; rfl
  have o3 : ∀ k, k ≠ x5 → W3.heap[k]? = W2.heap[k]? := fun k hk => by rw [← hW3]; exact Below.heap_setCell _ _ _ _ hk
  have k3 : Kept (fun k => k = d ∨ k = x4 ∨ k = x5) w W3 := by rw [← hW3]; exact k2.setCell (.inr (.inr rfl)) _ _
  rw [hW3]
  have hs := k3.size
  have hal : ∀ k (o : Obj), k < W3.heap.size → (W3.alloc o).drew.heap[k]? = W3.heap[k]? := fun k o hk => Below.heap_alloc W3 o k hk
  exact ⟨rfl, rfl, (hal d _ (by omega)).trans (((o3 d n5).trans (o2 d n4)).trans a1), (hal x4 _ (by omega)).trans ((o3 x4 n6).trans a2), (hal x5 _ (by omega)).trans a3, (k3.alloc _).drew⟩
theorem wpOpsS_idle {P : Program} {o0 o1 : Oper} {K : Exit → Act → List Frame → World → Prop} {a : Act} {c₀ : Frame} {cs : List Frame} {w : World} {d0 d1 : Nat}
    (h0 : o0.op = .call { callee := .builtin .recover, args := #[], argTypes := #[] }) (g0 : o0.guard = none) (hd : o0.dst = some d0) (h1 : o1.op = .assign (.tmp d0)) (g1 : o1.guard = none) (hd1 : o1.dst = some d1)
    (hm : c₀.mode = .returning) (hsz : d0 < a.tmps.size)
    (h : K .normal ((a.put (some d0) .nilIface).put (some d1) .nilIface) (c₀ :: cs) w) : wpOpsS P #[o0, o1] K (List.range 2) a (c₀ :: cs) w := by
  have e : List.range 2 = [0, 1] := rfl
  rw [e]
  simp [wpOpsS, Region.wanted, g0, g1, execOp, h0, h1, hd, hd1, go_sem, recoverD, hm, hsz]
  exact h
set_option maxRecDepth 100000 in
set_option maxHeartbeats 1000000 in
theorem catch_idle (x2 x4 x5 : Nat) (w : World) :
    CallsD Try.prog 50 #[.pointer (some ⟨x2, 0, none⟩), .pointer (some ⟨x4, 0, none⟩), .pointer (some ⟨x5, 0, none⟩)] .returning w fun e u' w' =>
      e = .returned (.tuple #[]) ∧ u' = .returning ∧ w' = w := by
  refine callsD_of_wpS Try.func50 rfl fun c₀ cs hu => ?_
  refine wpS_seq (wpS_region (wpOpsS_idle rfl rfl rfl rfl rfl rfl hu (by simp [Try.ntmps50]) ?_))
  refine wpS_of_wp ?_
  refine Code.wp_mono (Q := fun e a' w' => e = .normal ∧ a'.defers = [] ∧ w' = w) ?_ ?_
  · rintro e a w' ⟨rfl, had, rfl⟩
    refine ⟨had, .returning, by rw [← hu], .tuple #[], by simp [results, Try.results50, go_sem], rfl, rfl, rfl⟩
  rw [Try.ntmps50]
  refine wp_at (a' := { tmps := #[.pointer (some ⟨x2, 0, none⟩), .pointer (some ⟨x4, 0, none⟩), .pointer (some ⟨x5, 0, none⟩), .nilIface, undef, undef, .nilIface, undef, undef, undef, undef, undef, undef, undef, undef, undef, undef, undef, undef, undef, undef, undef], defers := [] }) (by kernel_rfl) ?_
  go_wp2
/-- A decoder in memory. -/
def DecIs (w : World) (d : Nat) (G : Nat → Prop) (N : Nat) (mo li : Int) (T : Tb) (br : Bool) : Prop :=
  ∃ g F, G = (fun k => k = d ∨ F k) ∧ w.heap[d]? = some (deB mo li g br) ∧ TabIs w g F N T ∧ ¬ F d
set_option maxRecDepth 100000 in
set_option maxHeartbeats 4000000 in
theorem decode_nil (v : Value) (w : World) : Calls Try.prog 31 #[.pointer none, v] w fun e w' => e = .returned (.tuple #[.slice none 0 0, .int .i64 5]) ∧ Below w.heap.size w w' := by
  have hmf : ∀ (fn : Fn) (first cap : Array Value) (w : World), (Instr.makeFunc fn first cap).run Try.prog w = .ok (.func fn first cap) w := fun _ _ _ _ => rfl
  go_enter_defers Try.func31, Try.ntmps31
  go_wp2
  refine ⟨_, (by simp [results, Try.results31, go_sem]), rfl, ?_⟩
  exact (((Below.refl _ w).alloc (Nat.le_refl _) _).alloc (by simp) _).alloc (by simp; omega) _
theorem DecIs.lt {w : World} {d N : Nat} {G : Nat → Prop} {mo li : Int} {T : Tb} {br : Bool} (h : DecIs w d G N mo li T br) : ∀ k, G k → k < w.heap.size := by
  obtain ⟨g, F, rfl, hd, ht, hF⟩ := h
  rintro k (rfl | hk)
  · exact (Array.getElem?_eq_some_iff.1 hd).1
  · exact ht.lt k hk
theorem DecIs.keep {w w' : World} {d N : Nat} {G : Nat → Prop} {mo li : Int} {T : Tb} {br : Bool} (h : DecIs w d G N mo li T br) (hk : ∀ k, G k → w'.heap[k]? = w.heap[k]?) : DecIs w' d G N mo li T br := by
  obtain ⟨g, F, rfl, hd, ht, hF⟩ := h
  exact ⟨g, F, rfl, (hk d (.inl rfl)).trans hd, ht.keep fun k hf => hk k (.inr hf), hF⟩
theorem DecIs.more {w : World} {d N N' : Nat} {G : Nat → Prop} {mo li : Int} {T : Tb} {br : Bool} (h : DecIs w d G N mo li T br) (hn : N ≤ N') (hN : N' ≤ 1099511627776) : DecIs w d G N' mo li T br := by
  obtain ⟨g, F, hG, hd, ht, hF⟩ := h
  exact ⟨g, F, hG, hd, ht.more hn hN, hF⟩
theorem TabIs.tok {w : World} {g N : Nat} {F : Nat → Prop} {T : Tb} (h : TabIs w g F N T) : TOk T := by
  obtain ⟨h1, h2, h3, h4, h5, h6, h7⟩ := h.inv
  exact ⟨h2, h3, h7, h1⟩
theorem DecIs.tok {w : World} {d N : Nat} {G : Nat → Prop} {mo li : Int} {T : Tb} {br : Bool} (h : DecIs w d G N mo li T br) : TOk T := by
  obtain ⟨g, F, hG, hd, ht, hF⟩ := h
  exact ht.tok
set_option maxRecDepth 100000 in
set_option maxHeartbeats 4000000 in
theorem decode_broken {d N : Nat} {G : Nat → Prop} {mo li : Int} {T : Tb} (v : Value) (w : World) (h : DecIs w d G N mo li T true) : Calls Try.prog 31 #[.pointer (some ⟨d, 0, none⟩), v] w fun e w' => e = .returned (.tuple #[.slice none 0 0, .int .i64 5]) ∧ Below w.heap.size w w' := by
  have hmf : ∀ (fn : Fn) (first cap : Array Value) (w : World), (Instr.makeFunc fn first cap).run Try.prog w = .ok (.func fn first cap) w := fun _ _ _ _ => rfl
  obtain ⟨g, F, -, hd, -, -⟩ := h
  have hdl := (Array.getElem?_eq_some_iff.1 hd).1
  obtain ⟨W3, hW3⟩ : ∃ W3, ((w.alloc (.cells #[.pointer (some ⟨d, 0, none⟩)] 53)).alloc (.cells #[.slice none 0 0] 32)).alloc (.cells #[.int .i64 0] 28) = W3 := ⟨_, rfl⟩
  have b3 : Below w.heap.size w W3 := by rw [← hW3]; exact (((Below.refl _ w).alloc (Nat.le_refl _) _).alloc (by simp) _).alloc (by simp; omega) _
  have k3 : W3.heap[d]? = some (deB mo li g true) := (b3.block d hdl).trans hd
  have c3 : W3.cell? ⟨d, 3, none⟩ = some (.bool true) := by unfold World.cell?; rw [k3]; rfl
  have e2 : W3.heap[w.heap.size]? = some (.cells #[.pointer (some ⟨d, 0, none⟩)] 53 (0, 0)) := by
    rw [← hW3]
    exact ((Below.heap_alloc _ _ _ (by simp; omega)).trans (Below.heap_alloc _ _ _ (by simp))).trans (heapNew _ _)
  have e4 : W3.heap[w.heap.size + 1]? = some (.cells #[.slice none 0 0] 32 (0, 0)) := by
    rw [← hW3]
    exact (Below.heap_alloc _ _ _ (by simp)).trans (heapNew1 _ _ _)
  have e5 : W3.heap[w.heap.size + 1 + 1]? = some (.cells #[.int .i64 0] 28 (0, 0)) := by
    rw [← hW3]
    have := heapNew ((w.alloc (.cells #[.pointer (some ⟨d, 0, none⟩)] 53)).alloc (.cells #[.slice none 0 0] 32)) (.cells #[.int .i64 0] 28)
    simpa using this
  obtain ⟨x2, hx2⟩ : ∃ x, w.heap.size = x := ⟨_, rfl⟩
  rw [hx2] at e2 e4 e5
  have q2 : W3.cell? ⟨x2, 0, none⟩ = some (.pointer (some ⟨d, 0, none⟩)) := by unfold World.cell?; rw [e2]; rfl
  have q4 : W3.cell? ⟨x2 + 1, 0, none⟩ = some (.slice none 0 0) := by unfold World.cell?; rw [e4]; rfl
  have q5 : W3.cell? ⟨x2 + 1 + 1, 0, none⟩ = some (.int .i64 0) := by unfold World.cell?; rw [e5]; rfl
  have fq4 : W3.frozen? ⟨x2 + 1, 0, none⟩ = false := by unfold World.frozen?; rw [e4]; simp
  have fq5 : W3.frozen? ⟨x2 + 1 + 1, 0, none⟩ = false := by unfold World.frozen?; rw [e5]; simp
  have HW3 := Lib.hid hW3
  have HB3 := Lib.hid b3
  have HX2 := Lib.hid hx2
  clear hd k3 e2 e4 e5 hW3 b3 hx2
  go_enter_defers Try.func31, Try.ntmps31
  go_upto_region 1 with fail
  rw [HW3.out, HX2.out]
  go_wp2
  refine ⟨_, (by simp [results, Try.results31, go_sem, q4, q5]), rfl, ?_⟩
  exact (HB3.out.setCell (by rw [HX2.out]; show x2 ≤ x2 + 1; omega) _).setCell (by rw [HX2.out]; show x2 ≤ x2 + 1 + 1; omega) _
/-- What a block's reading hands back. -/
def DPost (W : World) (d : Nat) (G : Nat → Prop) (N : Nat) (mo li : Int) (out : List Fd × Nat × Option Tb) (e : Ending) (w' : World) : Prop :=
  ∃ A c, e = .returned (.tuple #[.slice A out.1.length c, .int .i64 (out.2.1 : Int)]) ∧ w'.ownsRow W.heap.size 24 3 (.slice A out.1.length c) out.1.length (fds out.1) ∧
    ∃ G' T', DecIs w' d G' N mo li T' out.2.2.isNone ∧ (∀ T1, out.2.2 = some T1 → T' = T1) ∧ (∀ a, A = some a → ¬ G' a.block) ∧ Kept G W w' ∧ Grew W G G'
def HDRel (W : World) (p d g N L : Nat) (F : Nat → Prop) (mo li : Int) (x2 x4 x5 : Nat) (S0 : HSt) (k : Nat) (wr : World) : Prop :=
  ∃ S N' F' AL cl fv, k = S.left.length ∧ RdS W wr p d g N' F F' mo li S AL cl fv ∧ HOk L S ∧ decP mo L S0 = decP mo S.left.length S ∧ N' + S.left.length ≤ N + L ∧
    By wr p F' fv x2 (some (.cells #[.pointer (some ⟨d, 0, none⟩)] 53 (0, 0))) ∧ By wr p F' fv x4 (some (.cells #[.slice none 0 0] 32 (0, 0))) ∧ By wr p F' fv x5 (some (.cells #[.int .i64 0] 28 (0, 0)))
section
variable {mo li : Int} {T : Tb} {l : List UInt8} {S : HSt} {z : Nat}
theorem outD_err (h : decP mo l.length ⟨T, l, [], 0, 0⟩ = .error z) : outD mo li T l = ([], z, none) := by unfold outD; rw [h]
theorem outD_list (h : decP mo l.length ⟨T, l, [], 0, 0⟩ = .ok S) (h2 : li < (S.cost : Int)) : outD mo li T l = ([], 51, some S.T) := by unfold outD; rw [h]; exact if_pos h2
theorem outD_ok (h : decP mo l.length ⟨T, l, [], 0, 0⟩ = .ok S) (h2 : ¬ li < (S.cost : Int)) : outD mo li T l = (S.fields, 0, some S.T) := by unfold outD; rw [h]; exact if_neg h2
end
theorem Kept.but {F : Nat → Prop} {w w1 w2 : World} {x4 x5 d : Nat} (h : Kept (fun k => k = d ∨ F k) w w1) (h2 : Kept (fun k => k = d ∨ k = x4 ∨ k = x5) w1 w2) (h4 : w.heap.size ≤ x4) (h5 : w.heap.size ≤ x5) : Kept (fun k => k = d ∨ F k) w w2 :=
  ⟨h2.os.trans h.os, h2.tape.trans h.tape, h2.output.trans h.output, Nat.le_trans h.size h2.size, fun k hk hn => (h2.block k (Nat.lt_of_lt_of_le hk h.size) (fun e => by
    rcases e with e | e | e
    · exact hn (.inl e)
    · omega
    · omega)).trans (h.block k hk hn)⟩
set_option maxRecDepth 100000 in
set_option maxHeartbeats 4000000 in
theorem decode_any {d N n cap : Nat} {G : Nat → Prop} {mo li : Int} {T : Tb} {A : Option Addr} {l : List UInt8} (w : World) (h : DecIs w d G N mo li T false) (hr : Rd w w.heap.size 1 A n (bvs l)) (hcap : n ≤ cap) (hm : cap ≤ maxLen) (hn : n ≤ 1048576) (hA : 0 < n → ∀ a, A = some a → ¬ G a.block) (hmo : mo ≤ 65536) (hN : N + n ≤ 1099511627776) :
    Calls Try.prog 31 #[.pointer (some ⟨d, 0, none⟩), .slice A n cap] w (DPost w d G (N + n) mo li (outD mo li T l)) := by
  have hmf : ∀ (fn : Fn) (first cap : Array Value) (w : World), (Instr.makeFunc fn first cap).run Try.prog w = .ok (.func fn first cap) w := fun _ _ _ _ => rfl
  obtain ⟨g, F, hG, hd, ht, hF⟩ := h
  have hln := hr.blen
  have hdl := (Array.getElem?_eq_some_iff.1 hd).1
  have c3 : w.cell? ⟨d, 3, none⟩ = some (.bool false) := by unfold World.cell?; rw [hd]; rfl
  obtain ⟨W3, hW3⟩ : ∃ W3, ((w.alloc (.cells #[.pointer (some ⟨d, 0, none⟩)] 53)).alloc (.cells #[.slice none 0 0] 32)).alloc (.cells #[.int .i64 0] 28) = W3 := ⟨_, rfl⟩
  have b3 : Below w.heap.size w W3 := by rw [← hW3]; exact (((Below.refl _ w).alloc (Nat.le_refl _) _).alloc (by simp) _).alloc (by simp; omega) _
  have s3 : W3.heap.size = w.heap.size + 1 + 1 + 1 := by rw [← hW3]; simp
  have k3 : W3.heap[d]? = some (deB mo li g false) := (b3.block d hdl).trans hd
  have c3 : W3.cell? ⟨d, 3, none⟩ = some (.bool false) := by unfold World.cell?; rw [k3]; rfl
  have e2 : W3.heap[w.heap.size]? = some (.cells #[.pointer (some ⟨d, 0, none⟩)] 53 (0, 0)) := by
    rw [← hW3]
    exact ((Below.heap_alloc _ _ _ (by simp; omega)).trans (Below.heap_alloc _ _ _ (by simp))).trans (heapNew _ _)
  have e4 : W3.heap[w.heap.size + 1]? = some (.cells #[.slice none 0 0] 32 (0, 0)) := by
    rw [← hW3]
    exact (Below.heap_alloc _ _ _ (by simp)).trans (heapNew1 _ _ _)
  have e5 : W3.heap[w.heap.size + 1 + 1]? = some (.cells #[.int .i64 0] 28 (0, 0)) := by
    rw [← hW3]
    have := heapNew ((w.alloc (.cells #[.pointer (some ⟨d, 0, none⟩)] 53)).alloc (.cells #[.slice none 0 0] 32)) (.cells #[.int .i64 0] 28)
    simpa using this
  have hlw : w.heap.size ≤ W3.heap.size := b3.size
  obtain ⟨W4, hW4⟩ : ∃ W4, W3.alloc (.cells #[.pointer (some ⟨d, 0, none⟩), .slice A n cap, .slice none 0 0, .int .i64 0, .int .i64 0] 96) = W4 := ⟨_, rfl⟩
  have b4 : Below W3.heap.size W3 W4 := by rw [← hW4]; exact (Below.refl _ _).alloc (Nat.le_refl _) _
  have b34 : Below w.heap.size w W4 := b3.trans (b4.mono hlw)
  have hr4 := hr.kept (Kept.of_below (F := fun _ => False) b34) (fun _ _ _ h => h)
  have hrd0 : RdS w W4 W3.heap.size d g N F F mo li ⟨T, l, [], 0, 0⟩ A cap (.slice none 0 0) :=
    { tab := ht.keep fun k hk => b34.block k (ht.lt k hk)
      dec := (b34.block d hdl).trans hd
      rdr := by rw [← hW4, hln]; exact heapNew _ _
      left := by rw [hln]; exact hr4
      lcap := by rw [hln]; exact ⟨hcap, hm⟩
      lF := fun h0 a ha => by
        rw [hln] at h0
        have h1 := hA h0 a ha
        rw [hG] at h1
        obtain ⟨b, o, e, hb, -⟩ := hr.2 (by omega)
        rw [e] at ha
        injection ha with ha
        subst ha
        exact ⟨fun hf => h1 (.inr hf), fun hf => h1 (.inl hf), hb⟩
      fld := World.ownsRow_nil _ _ _ _
      fF := fun k hk => by cases hk
      grew := Grew.refl _ _
      kept := Kept.of_below b34
      dl := hdl
      dF := hF
      pl := hlw
      pF := fun hf => by have := ht.lt _ hf; omega }
  have hby : ∀ b o, w.heap.size ≤ b → b < W3.heap.size → W3.heap[b]? = o → By W4 W3.heap.size F (.slice none 0 0) b o := fun b o h1 h2 h3 =>
    ⟨Nat.lt_of_lt_of_le h2 b4.size, by omega, fun hf => by have := ht.lt _ hf; omega, by simp [Value.ownBlock], (b4.block b h2).trans h3⟩
  have hy2 := hby _ _ (Nat.le_refl _) (by omega) e2
  have hy4 := hby _ _ (by omega) (by omega) e4
  have hy5 := hby _ _ (by omega) (by omega) e5
  obtain ⟨x2, hx2⟩ : ∃ x, w.heap.size = x := ⟨_, rfl⟩
  have hx2' : w.heap.size ≤ x2 := by omega
  rw [hx2] at e2 hy2 hy4 hy5
  have q2 : W3.cell? ⟨x2, 0, none⟩ = some (.pointer (some ⟨d, 0, none⟩)) := by unfold World.cell?; rw [e2]; rfl
  obtain ⟨x4, hx4⟩ : ∃ x, x2 + 1 = x := ⟨_, rfl⟩
  obtain ⟨x5, hx5⟩ : ∃ x, x4 + 1 = x := ⟨_, rfl⟩
  rw [hx4] at hy4 hy5
  rw [hx5] at hy5
  obtain ⟨p, hp⟩ : ∃ p, W3.heap.size = p := ⟨_, rfl⟩
  rw [hp] at hrd0 hy2 hy4 hy5
  have HX := Lib.hid (And.intro hx2' (And.intro hx4 hx5))
  have HTOK := Lib.hid (DecIs.tok (d := d) ⟨g, F, rfl, hd, ht, hF⟩ : TOk T)
  have HRD := Lib.hid hrd0
  have HBY := Lib.hid (And.intro hy2 (And.intro hy4 hy5))
  have HW3 := Lib.hid hW3
  have HW4 := Lib.hid hW4
  have HX2 := Lib.hid hx2
  have HX4 := Lib.hid hx4
  have HX5 := Lib.hid hx5
  have HP := Lib.hid hp
  have HG := Lib.hid hG
  have HLN := Lib.hid hln
  clear hd k3 e2 e4 e5 hW3 b3 hx2 hW4 b4 b34 hr4 hrd0 hby hy2 hy4 hy5 hx4 hx5 hp hlw s3 ht hF hr hA hx2' hG hln
  go_enter_defers Try.func31, Try.ntmps31
  go_upto_region 1 with fail
  rw [HW3.out, HX2.out]
  rw [HX4.out]
  rw [HX5.out]
  go_wp2_with fail
  rw [HW4.out, HP.out]
  go_loopg [27] n (fun k _ wr => HDRel w p d g N n F mo li x2 x4 x5 ⟨T, l, [], 0, 0⟩ k wr)
  case atStart => 
    refine ⟨_, N, F, A, cap, _, HLN.out.symm, HRD.out, ?_, ?_, ?_, HBY.out⟩
    · rw [← HLN.out]; exact HOk.start HTOK.out l
    · rw [← HLN.out]
    · rw [HLN.out]; exact Nat.le_refl _
  case round =>
    obtain ⟨S, N', F', AL, cl, fv, hk, hrd, hok, hdec, hNN, hy2, hy4, hy5⟩ := hrel
    obtain ⟨Af, cf, rfl, -⟩ := own_slice hrd.fld
    obtain ⟨-, r1, r2, r3, -⟩ := hrd.cells
    have hne : x5 ≠ x4 := by have := HX.out.2.2; omega
    have hne2 : x4 ≠ x5 := fun e => hne e.symm
    obtain ⟨-, d1, -, -⟩ := hrd.dcells
    have z2 : wr.cell? ⟨x2, 0, none⟩ = some (.pointer (some ⟨d, 0, none⟩)) := by unfold World.cell?; rw [hy2.at_]; rfl
    have z4 : wr.cell? ⟨x4, 0, none⟩ = some (.slice none 0 0) := by unfold World.cell?; rw [hy4.at_]; rfl
    have z5 : wr.cell? ⟨x5, 0, none⟩ = some (.int .i64 0) := by unfold World.cell?; rw [hy5.at_]; rfl
    have fz4 : wr.frozen? ⟨x4, 0, none⟩ = false := by unfold World.frozen?; rw [hy4.at_]; simp
    have fz5 : wr.frozen? ⟨x5, 0, none⟩ = false := by unfold World.frozen?; rw [hy5.at_]; simp
    rw [← HLN.out] at hdec
    have HRW := Lib.hid hrd
    have HOKW := Lib.hid hok
    have HDEC := Lib.hid hdec
    have HY := Lib.hid (And.intro hy2 (And.intro hy4 hy5))
    have hlen := hok.len
    obtain ⟨ln, hlnn⟩ : ∃ ln, S.left.length = ln := ⟨_, rfl⟩
    have HLL := Lib.hid hlnn
    rw [hlnn] at hk r1 hNN hlen
    have HK := Lib.hid hk
    by_cases h0 : 0 < ln
    · have HPA := Lib.hid (part_any hrd hok hn hmo (by rw [hlnn]; exact h0) (by omega))
      have n0 : (0 : Int) < ln := by omega
      cases hpp : partP mo S with
      | error z =>
        have HE := Lib.hid (outD_err (li := li) (HDEC.out.trans (decP_fail (by rw [hlnn]; exact h0) hpp)))
        rw [hpp] at HPA
        clear hrd hok hdec hy2 hy4 hy5 hpp hlnn hk z4 z5 fz4 fz5
        go_wp2_with fail
        refine HPA.out.mono ?_
        rintro e w5 ⟨rfl, S1, F1, AL1, cl1, fv1, h1, hm1⟩
        have H1 := Lib.hid h1
        have HY2 := Lib.hid (HY.out.1.mv hm1)
        have HY4 := Lib.hid (HY.out.2.1.mv hm1)
        have HY5 := Lib.hid (HY.out.2.2.mv hm1)
        clear h1 hm1
        unfold errP
        go_wp2
        refine leaves_cons (f := 50) (args := #[.pointer (some ⟨x2, 0, none⟩), .pointer (some ⟨x4, 0, none⟩), .pointer (some ⟨x5, 0, none⟩)]) (by simp) (by simp [go_sem]) ?_
        have hd4 : d ≠ x4 := by have := HX.out; omega
        have hd5 : d ≠ x5 := by have := HX.out; omega
        refine (catch_panicking x2 x4 x5 d mo li g z (.slice none 0 0) 0 [] w5 HY2.out.at_ HY4.out.at_ HY5.out.at_ H1.out.dec hd4 hd5 hne2).mono ?_
        rintro e u' w6 ⟨rfl, rfl, hcat⟩
        have t4 : w6.cell? ⟨x4, 0, none⟩ = some (.slice none 0 0) := by unfold World.cell?; rw [hcat.r4]; rfl
        have t5 : w6.cell? ⟨x5, 0, none⟩ = some (.int .i64 (z : Int)) := by unfold World.cell?; rw [hcat.r5]; rfl
        refine (show Leaves _ _ _ _ [] .returning w6 from ⟨_, (by simp [results, Try.results31, go_sem, t4, t5]; rfl), ?_⟩)
        rw [HE.out]
        have hH := H1.out
        refine ⟨none, 0, rfl, World.ownsRow_nil _ _ _ _, fun k => k = d ∨ F1 k, S1.T, ⟨g, F1, rfl, hcat.dec, (hH.tab.keep fun k hk => hcat.kept.block k (hH.tab.lt k hk) (fun e => ?_)).more (by omega) hN, hH.dF⟩, (fun T1 h => by cases h), (fun a ha => by cases ha), ?_, ?_⟩
        · rcases e with e | e | e
          · exact hH.dF (e ▸ hk)
          · exact HY4.out.nF (e ▸ hk)
          · exact HY5.out.nF (e ▸ hk)
        · rw [HG.out]
          exact hH.kept.but hcat.kept (by have := HX.out; omega) (by have := HX.out; omega)
        · rw [HG.out]
          exact fun k hk => hk.elim (fun e => .inl (.inl e)) (fun hf => (hH.grew k hf).imp .inr id)
      | ok S' =>
        have hnext := HOKW.out.part hmo hpp
        have HST := Lib.hid (decP_step hmo HOKW.out (by rw [hlnn]; exact h0) hpp)
        have HNX := Lib.hid hnext
        have hln2 := hnext.2
        rw [hlnn] at hln2
        rw [hpp] at HPA
        clear hrd hok hdec hy2 hy4 hy5 hpp hlnn hk z4 z5 fz4 fz5 hnext
        go_wp2_with fail
        refine HPA.out.mono ?_
        rintro e w5 ⟨rfl, F1, AL1, cl1, fv1, h1, hm1⟩
        have H1 := Lib.hid h1
        have HY2 := Lib.hid (HY.out.1.mv hm1)
        have HY4 := Lib.hid (HY.out.2.1.mv hm1)
        have HY5 := Lib.hid (HY.out.2.2.mv hm1)
        clear h1 hm1
        go_wp2_with fail
        go_roundg S'.left.length
        case measure => rw [HK.out]; exact hln2
        case rel => exact ⟨S', N' + 1, F1, AL1, cl1, fv1, rfl, H1.out, HNX.out.1, by rw [← HLN.out]; exact HDEC.out.trans HST.out, by omega, HY2.out, HY4.out, HY5.out⟩
    · have hz : ln = 0 := by omega
      subst hz
      have hdn := HDEC.out.trans (decP_done HLL.out)
      have HDN := Lib.hid hdn
      clear hrd hok hdec hy2 hy4 hy5 hlnn hk hdn
      by_cases hc : li < (S.cost : Int)
      · have HO := Lib.hid (outD_list HDN.out hc)
        go_wp2
        go_quiet (fail)
        go_wp2
        refine leaves_cons (f := 50) (args := #[.pointer (some ⟨x2, 0, none⟩), .pointer (some ⟨x4, 0, none⟩), .pointer (some ⟨x5, 0, none⟩)]) (by simp) (by simp [go_sem]) ?_
        refine (catch_idle x2 x4 x5 _).mono ?_
        rintro e u' w6 ⟨rfl, rfl, rfl⟩
        refine (show Leaves _ _ _ _ [] .returning _ from ⟨_, (by simp [results, Try.results31, go_sem, z4, z5]; rfl), ?_⟩)
        obtain ⟨w6, hw6⟩ : ∃ w6, ((wr.drewN nq).setCell ⟨x4, 0, none⟩ (.slice none 0 0)).setCell ⟨x5, 0, none⟩ (.int .i64 51) = w6 := ⟨_, rfl⟩
        have hk6 : Kept (fun k => k = d ∨ k = x4 ∨ k = x5) wr w6 := by rw [← hw6]; exact (((Kept.refl (fun k => k = d ∨ k = x4 ∨ k = x5) wr).drewN nq).setCell (.inr (.inl rfl)) _ _).setCell (.inr (.inr rfl)) _ _
        have hd6 : w6.heap[d]? = wr.heap[d]? := by rw [← hw6]; exact (Below.heap_setCell _ _ _ _ (by show d ≠ x5; have := HX.out; omega)).trans (Below.heap_setCell _ _ _ _ (by show d ≠ x4; have := HX.out; omega))
        rw [hw6, HO.out]
        clear hw6
        have hH := HRW.out
        refine ⟨none, 0, rfl, World.ownsRow_nil _ _ _ _, fun k => k = d ∨ F' k, S.T, ⟨g, F', rfl, hd6.trans hH.dec, (hH.tab.keep fun k hk => hk6.block k (hH.tab.lt k hk) (fun e => ?_)).more (by omega) hN, hH.dF⟩, (fun T1 h => by injection h), (fun a ha => by cases ha), ?_, ?_⟩
        · rcases e with e | e | e
          · exact hH.dF (e ▸ hk)
          · exact HY.out.2.1.nF (e ▸ hk)
          · exact HY.out.2.2.nF (e ▸ hk)
        · rw [HG.out]
          exact hH.kept.but hk6 (by have := HX.out; omega) (by have := HX.out; omega)
        · rw [HG.out]
          exact fun k hk => hk.elim (fun e => .inl (.inl e)) (fun hf => (hH.grew k hf).imp .inr id)
      · have HO := Lib.hid (outD_ok HDN.out hc)
        go_wp2
        go_quiet (fail)
        go_wp2
        refine leaves_cons (f := 50) (args := #[.pointer (some ⟨x2, 0, none⟩), .pointer (some ⟨x4, 0, none⟩), .pointer (some ⟨x5, 0, none⟩)]) (by simp) (by simp [go_sem]) ?_
        refine (catch_idle x2 x4 x5 _).mono ?_
        rintro e u' w6 ⟨rfl, rfl, rfl⟩
        refine (show Leaves _ _ _ _ [] .returning _ from ⟨_, (by simp [results, Try.results31, go_sem, z4, z5]; rfl), ?_⟩)
        obtain ⟨w6, hw6⟩ : ∃ w6, ((wr.drewN nq).setCell ⟨x4, 0, none⟩ (.slice Af S.fields.length cf)).setCell ⟨x5, 0, none⟩ (.int .i64 0) = w6 := ⟨_, rfl⟩
        have hk6 : Kept (fun k => k = d ∨ k = x4 ∨ k = x5) wr w6 := by rw [← hw6]; exact (((Kept.refl (fun k => k = d ∨ k = x4 ∨ k = x5) wr).drewN nq).setCell (.inr (.inl rfl)) _ _).setCell (.inr (.inr rfl)) _ _
        have hd6 : w6.heap[d]? = wr.heap[d]? := by rw [← hw6]; exact (Below.heap_setCell _ _ _ _ (by show d ≠ x5; have := HX.out; omega)).trans (Below.heap_setCell _ _ _ _ (by show d ≠ x4; have := HX.out; omega))
        rw [hw6, HO.out]
        clear hw6
        have hH := HRW.out
        have hfv : ∀ a, Af = some a → ¬ (a.block = x4 ∨ a.block = x5) ∧ ¬ F' a.block ∧ w.heap.size ≤ a.block := fun a ha => by
          have h1 : (Value.slice Af S.fields.length cf).ownBlock = some a.block := by rw [ha]; rfl
          refine ⟨fun e => ?_, (hH.fF _ h1).1, (hH.fld.lt _ h1).1⟩
          rcases e with e | e
          · exact HY.out.2.1.nv (by rw [h1, e])
          · exact HY.out.2.2.nv (by rw [h1, e])
        refine ⟨Af, cf, rfl, own_kept4 hH.fld hk6 (fun q hq e => ?_), fun k => k = d ∨ F' k, S.T, ⟨g, F', rfl, hd6.trans hH.dec, (hH.tab.keep fun k hk => hk6.block k (hH.tab.lt k hk) (fun e => ?_)).more (by omega) hN, hH.dF⟩, (fun T1 h => by injection h), (fun a ha e => ?_), ?_, ?_⟩
        · have hq1 := (hH.fld.lt q hq).1
          rcases e with e | e | e
          · omega
          · exact HY.out.2.1.nv (by rw [hq, e])
          · exact HY.out.2.2.nv (by rw [hq, e])
        · rcases e with e | e | e
          · exact hH.dF (e ▸ hk)
          · exact HY.out.2.1.nF (e ▸ hk)
          · exact HY.out.2.2.nF (e ▸ hk)
        · have h1 := hfv a ha
          rcases e with e | e
          · omega
          · exact h1.2.1 e
        · rw [HG.out]
          exact hH.kept.but hk6 (by have := HX.out; omega) (by have := HX.out; omega)
        · rw [HG.out]
          exact fun k hk => hk.elim (fun e => .inl (.inl e)) (fun hf => (hH.grew k hf).imp .inr id)
end Go.Proofs.Ythpieiipddfpjaa

/- The walk of drawbridgeref04.At. -/
namespace Go.Proofs.Ythpieiipddfpjaa
open Go.RowKit

theorem fstatV_get {i : Nat} {r : Rw} (h : statF[i]? = some r) : fstatV.toArray[i * 3]? = some (.string r.1) ∧ fstatV.toArray[i * 3 + 1]? = some (.string r.2) ∧ fstatV.toArray[i * 3 + 2]? = some (.bool false) := by
  have := fcs_get h
  simpa [fstatV] using this

set_option maxRecDepth 100000 in
set_option maxHeartbeats 2000000 in
theorem rat_any {g : Nat} {F : Nat → Prop} {most : Int} {rows : List Rw} (n : Int) (w : World) (h : RIs w g F most rows) (hs : Small rows) (hnb : n ≤ 9223372036854775807) :
    Calls Try.prog 24 #[.pointer (some ⟨g, 0, none⟩), .int .i64 n] w fun e w' => e = .returned (atV (atRows rows n)) ∧ Below w.heap.size w w' := by
  obtain ⟨A, c, rfl, ht⟩ := h
  have hl := hs.len
  have hgl := ht.lt g (.inl rfl)
  obtain ⟨W0, hW0⟩ : ∃ W0, (w.alloc (.cells #[.string emptyB, .string emptyB, .bool false] 24)).alloc (.cells fstatV.toArray 24) = W0 := ⟨_, rfl⟩
  have b0 : Below w.heap.size w W0 := by rw [← hW0]; exact ((Below.refl _ _).alloc (Nat.le_refl _) _).alloc (by simp) _
  obtain ⟨p, hp⟩ : ∃ p, w.heap.size = p := ⟨_, rfl⟩
  have k0 : W0.heap[p]? = some (.cells #[.string emptyB, .string emptyB, .bool false] 24 (0, 0)) := by
    rw [← hW0, ← hp]; exact (Below.heap_alloc _ _ _ (by simp)).trans (heapNew _ _)
  have k1 : W0.heap[p + 1]? = some (.cells fstatV.toArray 24 (0, 0)) := by rw [← hW0, ← hp]; exact heapNew1 _ _ _
  have p0 : W0.cell? ⟨p, 0, none⟩ = some (.string emptyB) := by unfold World.cell?; rw [k0]; rfl
  have p1 : W0.cell? ⟨p, 1, none⟩ = some (.string emptyB) := by unfold World.cell?; rw [k0]; rfl
  have p2 : W0.cell? ⟨p, 2, none⟩ = some (.bool false) := by unfold World.cell?; rw [k0]; rfl
  have f0 : ∀ o, W0.frozen? ⟨p, o, none⟩ = false := fun o => by unfold World.frozen?; rw [k0]; simp
  have ht0 : RT W0 g A c most rows := ht.keep fun k hk => b0.block k (ht.lt k hk)
  obtain ⟨-, d1⟩ := ht0.cells
  have HW0 := Lib.hid hW0
  have HP := Lib.hid hp
  have hq1 : (w.alloc (.cells #[.string emptyB, .string emptyB, .bool false] 24)).heap.size = p + 1 := by rw [← hp]; simp
  have HQ := Lib.hid hq1
  have HB := Lib.hid b0
  have HK1 := Lib.hid k1
  have HT := Lib.hid ht0
  have hend : ∀ x y z : Value, Below w.heap.size w (((W0.setCell ⟨p, 0, none⟩ x).setCell ⟨p, 1, none⟩ y).setCell ⟨p, 2, none⟩ z) := fun x y z =>
    ((HB.out.setCell (by show w.heap.size ≤ p; omega) x).setCell (by show w.heap.size ≤ p; omega) y).setCell (by show w.heap.size ≤ p; omega) z
  have HE := Lib.hid hend
  clear hW0 hp b0 k0 k1 ht ht0 hend hs hq1
  by_cases h1 : n < 1
  · have ha := Lib.hid (atRows_none (rows := rows) (.inl h1))
    go_enter Try.func24, Try.ntmps24
    go_wp2_with fail
    refine (static_any _).mono ?_
    rintro e w1 ⟨rfl, rfl⟩
    rw [show (w.alloc (.cells #[.string ⟨#[]⟩, .string ⟨#[]⟩, .bool false] 24)).alloc (.cells fstatV.toArray 24) = W0 from HW0.out, HP.out]
    go_wp2
    refine bodyPost_ret (v := atV none) (by simp [results, Try.results24, go_sem, atV, fieldV, emptyB, p0, p1, p2]) rfl ?_
    rw [ha.out]
    exact ⟨rfl, HE.out _ _ _⟩
  by_cases h2 : n ≤ 61
  · obtain ⟨i, hi⟩ : ∃ i : Nat, n = i + 1 := ⟨(n - 1).toNat, by omega⟩
    subst hi
    obtain ⟨r, hr, ha⟩ := atRows_stat rows (i := i) (by omega)
    have HA := Lib.hid ha
    obtain ⟨s0, s1, s2⟩ := fstatV_get hr
    have t0 : W0.cell? ⟨p + 1, i * 3, none⟩ = some (.string r.1) := by unfold World.cell?; rw [HK1.out]; exact s0
    have t1 : W0.cell? ⟨p + 1, i * 3 + 1, none⟩ = some (.string r.2) := by unfold World.cell?; rw [HK1.out]; exact s1
    have t2 : W0.cell? ⟨p + 1, i * 3 + 2, none⟩ = some (.bool false) := by unfold World.cell?; rw [HK1.out]; exact s2
    clear hr ha s0 s1 s2
    go_enter Try.func24, Try.ntmps24
    go_wp2_with fail
    refine (static_any _).mono ?_
    rintro e w1 ⟨rfl, rfl⟩
    rw [show (w.alloc (.cells #[.string ⟨#[]⟩, .string ⟨#[]⟩, .bool false] 24)).alloc (.cells fstatV.toArray 24) = W0 from HW0.out]
    rw [show (w.alloc (.cells #[.string ⟨#[]⟩, .string ⟨#[]⟩, .bool false] 24)).heap.size = p + 1 from HQ.out, HP.out]
    go_wp2
    refine bodyPost_ret (v := atV (some r)) (by simp [results, Try.results24, go_sem, atV, fieldV, p0, p1, p2]) rfl ?_
    rw [HA.out]
    exact ⟨rfl, HE.out _ _ _⟩
  by_cases h3 : 61 + (rows.length : Int) < n
  · have ha := Lib.hid (atRows_none (rows := rows) (.inr h3))
    go_enter Try.func24, Try.ntmps24
    go_wp2_with fail
    refine (static_any _).mono ?_
    rintro e w1 ⟨rfl, rfl⟩
    rw [show (w.alloc (.cells #[.string ⟨#[]⟩, .string ⟨#[]⟩, .bool false] 24)).alloc (.cells fstatV.toArray 24) = W0 from HW0.out]
    rw [show (w.alloc (.cells #[.string ⟨#[]⟩, .string ⟨#[]⟩, .bool false] 24)).heap.size = p + 1 from HQ.out, HP.out]
    go_wp2
    refine bodyPost_ret (v := atV none) (by simp [results, Try.results24, go_sem, atV, fieldV, emptyB, p0, p1, p2]) rfl ?_
    rw [ha.out]
    exact ⟨rfl, HE.out _ _ _⟩
  · obtain ⟨j, hj⟩ : ∃ j : Nat, (n - 62).toNat = j := ⟨_, rfl⟩
    have hjl : j < rows.length := by omega
    obtain ⟨r, hr, ha⟩ := atRows_came rows (i := rows.length - 1 - j) (by omega)
    rw [show (61 + rows.length - ((rows.length - 1 - j : Nat) : Int)) = n by omega] at ha
    have hrv : rows.reverse[j]? = some r := by rw [List.getElem?_reverse hjl]; exact hr
    obtain ⟨q, o, rfl, hq, q0, q1, q2⟩ := HT.out.at_ hrv
    have HA := Lib.hid ha
    have n1 : 61 < n := by omega
    have n2 : n - 61 ≤ rows.length := by omega
    have n3 : n ≤ 61 + rows.length := by omega
    have hj2 : (n - 61).toNat - 1 = j := by omega
    rw [← hj2] at q0 q1 q2
    clear hr ha hrv hj hj2 hjl h1 h2 h3
    go_enter Try.func24, Try.ntmps24
    go_wp2_with fail
    refine (static_any _).mono ?_
    rintro e w1 ⟨rfl, rfl⟩
    rw [show (w.alloc (.cells #[.string ⟨#[]⟩, .string ⟨#[]⟩, .bool false] 24)).alloc (.cells fstatV.toArray 24) = W0 from HW0.out]
    rw [show (w.alloc (.cells #[.string ⟨#[]⟩, .string ⟨#[]⟩, .bool false] 24)).heap.size = p + 1 from HQ.out, HP.out]
    go_wp2
    refine bodyPost_ret (v := atV (some r)) (by simp [results, Try.results24, go_sem, atV, fieldV, p0, p1, p2]) rfl ?_
    rw [HA.out]
    exact ⟨rfl, HE.out _ _ _⟩
end Go.Proofs.Ythpieiipddfpjaa

/- Out of XRTab1: the document's table inside its decoder (printed by gen_htab.py). -/
namespace Go.Proofs.Ythpieiipddfpjaa
open Go.RowKit

variable {X : Value × Value × Value}
/-- The document's table: the rows (here the oldest first) lie the youngest first. -/
structure HT (w : World) (g : Nat) (X : Value × Value × Value) (A : Option Addr) (c : Nat) (most : Int) (rows : List Rw) : Prop where
  book : w.heap[g]? = some (.cells #[X.1, X.2.1, .int .i64 most, .slice A rows.length c, X.2.2] 63 (0, 0))
  row : Lies w 24 3 (.slice A rows.length c) rows.length (fcs rows.reverse)
  ne : ∀ a, A = some a → a.block ≠ g
def HIs (w : World) (g : Nat) (X : Value × Value × Value) (F : Nat → Prop) (most : Int) (rows : List Rw) : Prop := ∃ A c, F = rfoot g A ∧ HT w g X A c most rows
section
variable {w w' : World} {g c : Nat} {A : Option Addr} {most : Int} {rows : List Rw} {F : Nat → Prop}
theorem HT.lt (h : HT w g X A c most rows) : ∀ k, rfoot g A k → k < w.heap.size := by
  rintro k (rfl | ⟨a, ha, rfl⟩)
  · exact (Array.getElem?_eq_some_iff.1 h.book).1
  · obtain ⟨A', c', hv, _, _, hb⟩ := h.row.form
    injection hv with e1
    subst e1
    exact hb a ha
theorem HT.keep (h : HT w g X A c most rows) (hk : ∀ k, rfoot g A k → w'.heap[k]? = w.heap[k]?) : HT w' g X A c most rows := by
  refine ⟨(hk g (.inl rfl)).trans h.book, h.row.keep fun q hq => hk q ?_, h.ne⟩
  cases A with
  | none => cases hq
  | some a => exact .inr ⟨a, rfl, by simpa [Value.ownBlock] using hq⟩
theorem HT.cells (h : HT w g X A c most rows) : w.cell? ⟨g, 2, none⟩ = some (.int .i64 most) ∧ w.cell? ⟨g, 3, none⟩ = some (.slice A rows.length c) := by
  refine ⟨?_, ?_⟩ <;> (unfold World.cell?; rw [h.book]; rfl)
theorem HT.free (h : HT w g X A c most rows) (o : Nat) : w.frozen? ⟨g, o, none⟩ = false := by
  unfold World.frozen?; rw [h.book]; simp
theorem HT.setMost (h : HT w g X A c most rows) (v : Int) : HT (w.setCell ⟨g, 2, none⟩ (.int .i64 v)) g X A c v rows := by
  refine ⟨?_, h.row.keep fun q hq => Below.heap_setCell _ _ _ _ (fun e => ?_), h.ne⟩
  · simp only [World.setCell, Array.getElem?_modify, if_true]
    rw [h.book]; rfl
  · cases A with
    | none => cases hq
    | some a => simp only [Value.ownBlock, Option.some.injEq] at hq; exact h.ne a rfl (hq.trans e)
theorem HIs.lt (h : HIs w g X F most rows) : ∀ k, F k → k < w.heap.size := by
  obtain ⟨A, c, rfl, ht⟩ := h
  exact ht.lt
theorem HIs.keep (h : HIs w g X F most rows) (hk : ∀ k, F k → w'.heap[k]? = w.heap[k]?) : HIs w' g X F most rows := by
  obtain ⟨A, c, rfl, ht⟩ := h
  exact ⟨A, c, rfl, ht.keep hk⟩
theorem HIs.below (h : HIs w g X F most rows) (hb : Below w.heap.size w w') : HIs w' g X F most rows := h.keep fun k hk => hb.block k (h.lt k hk)
theorem HIs.kept {G : Nat → Prop} (h : HIs w g X F most rows) (hk : Kept G w w') (hd : ∀ k, F k → ¬ G k) : HIs w' g X F most rows := h.keep fun k hf => hk.block k (h.lt k hf) (hd k hf)
/-- A row's cells, by its place from the youngest. -/
theorem HT.at_ (h : HT w g X A c most rows) {i : Nat} {r : Rw} (hi : rows.reverse[i]? = some r) : ∃ q o, A = some ⟨q, o, none⟩ ∧ q < w.heap.size ∧ w.cell? ⟨q, o + i * 3, none⟩ = some (.string r.1) ∧ w.cell? ⟨q, o + i * 3 + 1, none⟩ = some (.string r.2) ∧ w.cell? ⟨q, o + i * 3 + 2, none⟩ = some (.bool false) := by
  have hlt : i < rows.length := by have := (List.getElem?_eq_some_iff.1 hi).1; simpa using this
  obtain ⟨q, o, hA, hq, hc⟩ := (h.row.rd rfl).2 (by omega)
  have e := fcs_get hi
  exact ⟨q, o, hA, hq, (hc _ (by omega)).trans e.1, (hc (i * 3 + 1) (by omega)).trans e.2.1, (hc (i * 3 + 2) (by omega)).trans e.2.2⟩
end
set_option maxHeartbeats 1000000 in
theorem hrsize_any {g : Nat} {F : Nat → Prop} {most : Int} {rows : List Rw} (w : World) (h : HIs w g X F most rows) (hs : Small rows) :
    Calls Try.prog 22 #[.pointer (some ⟨g, 2, none⟩)] w fun e w' => e = .returned (.int .i64 (sumc rows)) ∧ Below w.heap.size w w' := by
  obtain ⟨A, c, rfl, ht⟩ := h
  have H := Lib.hid ht
  have hlen := hs.len
  have HS := Lib.hid hs
  clear ht hs
  go_enter Try.func22, Try.ntmps22
  go_wp2
  go_loopw [3, 4] (fun n i wr => RSzRel w rows.reverse n i wr) (fun _ i _ => rows.length - (intOf i).toNat)
  case atStart => exact ⟨0, rfl, rfl, by omega, Below.refl _ _⟩
  case round =>
    obtain ⟨k, rfl, rfl, hk, hbel⟩ := hrel
    rw [List.length_reverse] at hk
    have hrt := H.out.keep (w' := wr) (fun j hj => hbel.block j (H.out.lt j hj))
    obtain ⟨-, c1⟩ := hrt.cells
    have HB := Lib.hid hbel
    have hsz := hbel.size
    have h0 := sumc_nonneg (rows.reverse.take k)
    have h1 := sumc_take_le rows.reverse k
    rw [sumc_rev] at h1
    have hsm := HS.out.1
    have HR := Lib.hid hrt
    clear hrt hbel
    by_cases hlt : k < rows.length
    · obtain ⟨r, hr⟩ : ∃ r, rows.reverse[k]? = some r := ⟨_, List.getElem?_eq_getElem (by simpa using hlt)⟩
      obtain ⟨q, o, rfl, hq, q0, q1, q2⟩ := HR.out.at_ hr
      have hm := HS.out.mem (List.mem_reverse.1 (List.mem_of_getElem? hr))
      have HT := Lib.hid (sumc_take hr)
      have h2 := sumc_take_le rows.reverse (k + 1)
      rw [sumc_rev, HT.out] at h2
      clear hr
      go_wp2_with fail
      refine (cost_ref r false wr (by omega) (by omega)).mono ?_
      rintro e w' ⟨rfl, rfl⟩
      go_wp2
      go_roundw
      case rel => exact ⟨k + 1, by go_num, by rw [HT.out], by rw [List.length_reverse]; omega, HB.out.alloc hsz _⟩
      case measure => simp [intOf]; omega
    · obtain rfl : k = rows.length := by omega
      go_wp2
      go_ret
      rw [← List.length_reverse, List.take_length, sumc_rev]
      exact ⟨rfl, HB.out⟩
end Go.Proofs.Ythpieiipddfpjaa

/- Out of XRTab2: the document's table inside its decoder (printed by gen_htab.py). -/
namespace Go.Proofs.Ythpieiipddfpjaa
open Go.RowKit

variable {X : Value × Value × Value}
section
variable {P : Program} {w : World}
end
/-- A new row of its own is the table's from now on. -/
theorem HT.store {w w4 : World} {g c c4 : Nat} {A A4 : Option Addr} {most : Int} {rows rows' : List Rw} {base : Nat} (h : HT w g X A c most rows) (hg : w4.heap[g]? = w.heap[g]?)
    (hl : w4.ownsRow base 24 3 (.slice A4 rows'.length c4) rows'.length (fcs rows'.reverse)) (hb : ∀ a, A4 = some a → a.block ≠ g) :
    HT (w4.setCell ⟨g, 3, none⟩ (.slice A4 rows'.length c4)) g X A4 c4 most rows' := by
  refine ⟨?_, (Lies.of_own hl).keep fun q hq => Below.heap_setCell _ _ _ _ (fun e => ?_), hb⟩
  · simp only [World.setCell, Array.getElem?_modify, if_true]
    rw [hg, h.book]; rfl
  · cases A4 with
    | none => cases hq
    | some a => simp only [Value.ownBlock, Option.some.injEq] at hq; exact hb a rfl (hq.trans e)
def HStep (W : World) (g : Nat) (X : Value × Value × Value) (F : Nat → Prop) (most : Int) (rows : List Rw) (e : Ending) (w' : World) : Prop :=
  e = .returned (.tuple #[]) ∧ ∃ F', HIs w' g X F' most rows ∧ Kept F W w' ∧ Grew W F F'
def HRShRel (W : World) (g : Nat) (X : Value × Value × Value) (F : Nat → Prop) (m : Int) (rows0 : List Rw) (k : Nat) (wr : World) : Prop :=
  ∃ F1 g1 rows, HIs wr g X F1 m rows ∧ Kept F W wr ∧ Grew W F F1 ∧ shrunk m 0 rows0 = shrunk m g1 rows ∧ Small rows ∧ k = rows.length
set_option maxRecDepth 100000 in
set_option maxHeartbeats 4000000 in
theorem hrresize_any {g : Nat} {F : Nat → Prop} {most : Int} {rows : List Rw} (m : Int) (w : World) (h : HIs w g X F most rows) (hs : Small rows) (hm : 0 ≤ m) :
    Calls Try.prog 44 #[.pointer (some ⟨g, 2, none⟩), .int .i64 m] w (HStep w g X F m (shrunk m 0 rows).2) := by
  obtain ⟨A, c, rfl, ht⟩ := h
  have hf0 := ht.free 2
  obtain ⟨c0, -⟩ := ht.cells
  have H := Lib.hid ht
  have HS := Lib.hid hs
  clear ht hs
  go_enter Try.func44, Try.ntmps44
  go_wp2
  go_loopg [9] rows.length (fun k _ wr => HRShRel w g X (rfoot g A) m rows k wr)
  case atStart => exact ⟨rfoot g A, 0, rows, ⟨A, c, rfl, H.out.setMost m⟩, (Kept.refl _ _).setCell (.inl rfl) _ _, Grew.refl _ _, rfl, HS.out, rfl⟩
  case round =>
    obtain ⟨F1, g1, rows1, hris, hkept, hgrew, hsh, hsm, hk⟩ := hrel
    have hl := hsm.len
    have HC := Lib.hid (hrsize_any wr hris hsm)
    have HR := Lib.hid (And.intro hris (And.intro hkept (And.intro hgrew (And.intro hsh (And.intro hsm hk)))))
    have hss := sumc_nonneg rows1
    clear hris hkept hgrew hsh hsm hk
    by_cases hbig : m < sumc rows1
    · cases rows1 with
      | nil => exact absurd hbig (by unfold sumc; simp; omega)
      | cons r l =>
        go_wp2_with fail
        refine HC.out.mono ?_
        rintro e w1 ⟨rfl, hb1⟩
        obtain ⟨A1, c1', hF1, hrt⟩ := HR.out.1.below hb1
        have HB1 := Lib.hid hb1
        have HRT := Lib.hid hrt
        have HF1 := Lib.hid hF1
        obtain ⟨-, d1⟩ := hrt.cells
        have hfz := hrt.free 3
        have hgl := hrt.lt g (.inl rfl)
        have hrd := ((hrt.row.rd rfl).pre (m := l.length) (by simp))
        rw [List.reverse_cons, ← List.length_reverse, fcs_pre, List.length_reverse] at hrd
        have HRD := Lib.hid hrd
        obtain ⟨A', c', hv, hnc, hcm, -⟩ := hrt.row.form
        injection hv with e1 e2 e3
        subst e1 e3
        simp only [List.length_cons] at d1 hnc hl
        clear hb1 hrt hF1 hrd
        have s1 : IntKind.i64.wrap (l.length : Int) = (l.length : Int) := by rw [IntWalk.i64_in _ ⟨by omega, by omega⟩]
        have hnc2 : (l.length : Int) ≤ (c1' : Int) := by omega
        go_upto_region 2 with fail
        go_region_law (first
          | (refine step_app (.tmp 13) (.tmp 24) tFields rfl rfl (own_new w1 w1.heap.size 3 _ (Nat.le_refl _)) rfl (HRD.out.alloc (Nat.le_refl _) _) rfl (fcs_one _) (le_maxLen (by omega)) (by omega) (by simp) ?_; intro v4 w4 hown4 hg4 hb4; obtain ⟨A4, c4, rfl, -, -, -, hbase⟩ := own_slice hown4; have hg5 : w4.heap[g]? = w1.heap[g]? := (hg4.block g (by simp; omega) (by simp [Value.ownBlock]; omega)).trans (Below.heap_alloc w1 _ g hgl); have m1 : w4.cell? ⟨g, 3, none⟩ = some (.slice A1 (l.length + 1) c1') := (World.cell?_of_block (a := ⟨g, 3, none⟩) hg5).trans d1; have mf : w4.frozen? ⟨g, 3, none⟩ = false := (World.frozen?_of_block (a := ⟨g, 3, none⟩) hg5).trans hfz; have H5 := Lib.hid (And.intro hown4 (And.intro hg4 (And.intro hbase hg5))); clear hown4 hg4 hbase hg5 hb4))
        all_goals
          go_wp2_with fail
          go_roundg l.length
          case measure => have := HR.out.2.2.2.2.2; simp at this; omega
          case rel =>
            obtain ⟨hown4, hg4, hbase, hg5⟩ := H5.out
            obtain ⟨hris, hkept, hgrew, hsh, hsm, hk⟩ := HR.out
            simp only [Nat.zero_add, List.nil_append] at hown4 ⊢
            have hsz1 := HB1.out.size
            have hszw := hkept.size
            refine ⟨rfoot g A4, g1 + 1, l, ⟨A4, c4, rfl, HRT.out.store hg5 hown4 (fun a ha => by have := hbase a ha; omega)⟩, ?_, ?_, ?_, hsm.tail, rfl⟩
            · refine Kept.setCell (Kept.grown ((hkept.same (Kept.of_below HB1.out)).alloc _).drew hg4 (fun k hk => .inr ?_)) (.inl rfl) _ _
              simp [Value.ownBlock] at hk
              omega
            · intro k hk
              rcases hk with rfl | ⟨a, ha, rfl⟩
              · exact .inl (.inl rfl)
              · exact .inr (by have := hbase a ha; omega)
            · rw [hsh]; exact shrunk_go hbig
    · have hle : sumc rows1 ≤ m := by omega
      go_wp2_with fail
      refine HC.out.mono ?_
      rintro e w1 ⟨rfl, hb1⟩
      have HB1 := Lib.hid hb1
      clear hb1
      go_wp2
      go_end0
      obtain ⟨hris, hkept, hgrew, hsh, hsm, hk⟩ := HR.out
      refine ⟨rfl, F1, ?_, hkept.same (Kept.of_below HB1.out), hgrew⟩
      rw [hsh, shrunk_stop hle]
      exact hris.below HB1.out
end Go.Proofs.Ythpieiipddfpjaa
