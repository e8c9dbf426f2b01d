/- 1 texts in one: Tp6. -/
import Derived.Test.YtfpcamkimjecdaaM13
/- The walk of drawbridgetop.TopBlocks. -/
namespace Go.Proofs.Ytfpcamkimjecdaa
open Go.RowKit

def sumB (D : Nat → Fl) : Nat → Nat
  | 0 => 0
  | k + 1 => sumB D k + bytesV (D k).l
def lsK (D : Nat → Fl) (k : Nat) : List (List Fd) := (List.range k).map fun i => (D i).l
theorem lsK_snoc (D : Nat → Fl) (k : Nat) : lsK D (k + 1) = lsK D k ++ [(D k).l] := by simp [lsK, List.range_succ]
theorem lsK_len (D : Nat → Fl) (k : Nat) : (lsK D k).length = k := by simp [lsK]
theorem len_sumF (l : List Fd) : 32 * l.length ≤ sumF l := by
  induction l with
  | nil => exact Nat.zero_le _
  | cons f l ih =>
    unfold sumF at ih ⊢
    have hc : cost f.1 = f.1.1.size + f.1.2.size + 32 := rfl
    simp only [List.map_cons, List.sum_cons, List.length_cons]
    omega
/-- k lists were encoded and laid. -/
structure TbD (w : World) (D : Nat → Fl) (sz pd : List UInt8) (e d k : Nat) (wr : World) (av : Value) (E : Enc) (bs : List (List UInt8)) (G H : Nat → Prop) (L : Nat → Nat) : Prop where
  duo : Duo w wr e d G H (fun k => 3 ≤ L k) (k * 1048576) 0 4096 1073741824 E ⟨4096, 0, []⟩
  all : OwnB wr 0 av (strm (allF sz pd 0 bs))
  allL : ∀ q, av.ownBlock = some q → L q = 3
  dec : Decs 4096 1073741824 ⟨4096, 0, []⟩ bs (lsK D k) E.T
  len : bs.length = k
  lens : lens bs ≤ sumB D k + 8 * k
  pair : Pair E E.T
  most : E.T.most = 4096
theorem TbD.bd {w : World} {D : Nat → Fl} {sz pd : List UInt8} {e d k : Nat} {wr : World} {av : Value} {E : Enc} {bs : List (List UInt8)} {G H : Nat → Prop} {L : Nat → Nat} (h : TbD w D sz pd e d k wr av E bs G H L) (hk : k ≤ 10) (hs : sumB D k ≤ 10000) :
    (strm (allF sz pd 0 bs)).length ≤ 170000000 ∧ (allF sz pd 0 bs).length ≤ 10200 ∧ ∀ p ∈ allF sz pd 0 bs, Good 16384 p := by
  have h0 := h.len
  have hgd : ∀ p ∈ allF sz pd 0 bs, Good 16384 p := allF_good sz pd bs 0 (by omega)
  have h1 := strm_len _ hgd
  have h2 := allF_len sz pd bs 0
  have h3 := h.lens
  have h4 : (allF sz pd 0 bs).length * (9 + 16384) ≤ 10200 * (9 + 16384) := Nat.mul_le_mul_right _ (by omega)
  exact ⟨by omega, by omega, hgd⟩
def TbFew (D : Nat → Fl) (w1 : World) (n : Nat) (tv iv : Value) (wr : World) : Prop := ∃ k t d : Nat, iv = .int .i64 k ∧ tv = .int .i64 t ∧ t ≤ 10000 ∧ k ≤ n ∧ k ≤ 10 ∧ wr = w1.drewN d ∧ t = sumB D k ∧ ∀ i, i < k → shortB (D i).l = true ∧ bytesV (D i).l ≤ 10000
def TbRel (w : World) (D : Nat → Fl) (sz pd : List UInt8) (e d n : Nat) (av iv : Value) (wr : World) : Prop := ∃ (k : Nat) (E : Enc) (bs : List (List UInt8)) (G H : Nat → Prop) (L : Nat → Nat), iv = .int .i64 k ∧ k ≤ n ∧ k ≤ 10 ∧ TbD w D sz pd e d k wr av E bs G H L
def TbEnd (W : World) (q : Nat) (iv : Value) (wr : World) : Prop := ∃ i d : Nat, iv = .int .i64 i ∧ i ≤ q ∧ wr = W.drewN d
set_option maxRecDepth 100000 in
set_option maxHeartbeats 16000000 in
theorem tblocks_any {n c ns cs np cp : Nat} {A As Ap : Option Addr} {D : Nat → Fl} {sz pd : List UInt8} (w : World) (h : Fls w w.heap.size A n D) (hn : n ≤ 140737488351232) (hs : Rd w w.heap.size 1 As ns (bvs sz)) (hsn : ns ≤ 140737488351232) (hp : Rd w w.heap.size 1 Ap np (bvs pd)) (hpn : np ≤ 140737488351232) :
    Calls Try.prog 3 #[.slice A n c, .slice As ns cs, .slice Ap np cp] w (RetT w) := by
  have HL := Lib.hid h
  have HS := Lib.hid hs
  have HP := Lib.hid hp
  have HFR := Lib.hid (frames_any w)
  clear h hs hp
  go_enter Try.func3, Try.ntmps3
  go_wp2_with fail
  refine HFR.out.mono ?_
  rintro e1 w1 ⟨rfl, hb1⟩
  have HB1 := Lib.hid hb1
  have HL1 := Lib.hid (HL.out.below hb1)
  have hs1 := hb1.size
  clear hb1 HFR
  go_wp2_with fail
  go_loopw [7, 8] (fun tv iv wr => TbFew D w1 n tv iv wr) (fun _ iv _ => n - (intOf iv).toNat)
  case atStart => exact ⟨0, 0, 0, rfl, rfl, by omega, by omega, by omega, rfl, rfl, fun i hi => by omega⟩
  case round =>
    obtain ⟨k, t, d, rfl, rfl, ht, hk, hk10, hwr, hsum, hall⟩ := hrel
    subst hwr
    have HALL := Lib.hid (And.intro hsum hall)
    clear hsum hall
    go_upto_region 5 with fail
    go_cut [30] (fun y wx => y = .bool (decide (k < n ∧ k < 10)) ∧ wx = w1.drewN d)
    case first =>
      by_cases h1 : (k : Int) < n
      · by_cases h2 : (k : Int) < 10
        · go_wp2
          go_meet
          exact ⟨by congr 1; exact (decide_eq_true (by omega)).symm, rfl⟩
        · go_wp2
          go_meet
          exact ⟨by congr 1; exact (decide_eq_false (by omega)).symm, rfl⟩
      · go_wp2
        go_meet
        exact ⟨by congr 1; exact (decide_eq_false (by omega)).symm, rfl⟩
    case rest =>
    obtain ⟨rfl, hwc⟩ := hcut
    subst hwc
    by_cases hlt : k < n ∧ k < 10
    · rw [decide_eq_true hlt]
      obtain ⟨hlt, hlt2⟩ := hlt
      obtain ⟨b, o, rfl, hb, hc⟩ := HL1.out (by omega)
      obtain ⟨c0, ok⟩ := hc k hlt
      have z0 : ∀ d, (w1.drewN d).cell? ⟨b, o + k, none⟩ = some (.slice (D k).A (D k).n (D k).c) := fun _ => c0
      have n1 : (k : Int) < n := by omega
      have n2 : (k : Int) < 10 := by omega
      have HBY := Lib.hid (fun d => bytes_any (c := (D k).c) (w1.drewN d) (ok.rd.drewN d) ok.nr ok.sz)
      have HRE := Lib.hid (fun d => readable_any (c := (D k).c) (w1.drewN d) (ok.rd.drewN d) ok.nr ok.sz)
      have hbl := bytesV_le ok.sz
      obtain ⟨v, hv⟩ : ∃ v, bytesV (D k).l = v := ⟨_, rfl⟩
      obtain ⟨sb, hsb⟩ : ∃ sb, shortB (D k).l = sb := ⟨_, rfl⟩
      rw [hv] at HBY hbl
      rw [hsb] at HRE
      have HV := Lib.hid (And.intro hv hsb)
      clear hc hv hsb ok c0
      have hbl2 : (v : Int) ≤ 281476050452000 := by omega
      clear hbl
      have HBY2 := Lib.hid (HBY.out d)
      go_wp2_with fail
      refine HBY2.out.mono ?_
      rintro e2 w2 ⟨rfl, d2, rfl⟩
      obtain ⟨d3, hd3⟩ : ∃ d3, d + d2 = d3 := ⟨_, rfl⟩
      have hw3 : (w1.drewN d).drewN d2 = w1.drewN d3 := by rw [← hd3]; exact World.drewN_drewN _ _ _
      rw [hw3]
      have HRE2 := Lib.hid (HRE.out d3)
      clear hw3 hd3 HBY HRE HBY2
      by_cases hbig : (10000 : Int) < t + v
      · go_wp2
        go_ret
        exact ⟨rfl, below_dN HB1.out _⟩
      · go_wp2_with fail
        refine HRE2.out.mono ?_
        rintro e4 w4 ⟨rfl, d4, rfl⟩
        obtain ⟨d5, hd5⟩ : ∃ d5, d3 + d4 = d5 := ⟨_, rfl⟩
        have hw5 : (w1.drewN d3).drewN d4 = w1.drewN d5 := by rw [← hd5]; exact World.drewN_drewN _ _ _
        rw [hw5]
        clear hw5 hd5 HRE2
        obtain rfl | rfl : sb = false ∨ sb = true := by cases sb <;> simp
        · go_wp2
          go_ret
          exact ⟨rfl, below_dN HB1.out _⟩
        · have HREL : Hid (TbFew D w1 n (.int .i64 (t + v : Nat)) (.int .i64 (k + 1 : Nat)) (w1.drewN d5)) := Lib.hid (by
            refine ⟨k + 1, t + v, d5, rfl, rfl, by omega, by omega, by omega, rfl, ?_, fun i hi => ?_⟩
            · show t + v = sumB D k + bytesV (D k).l
              rw [HV.out.1, ← HALL.out.1]
            · rcases Nat.lt_succ_iff_lt_or_eq.1 hi with h | rfl
              · exact HALL.out.2 i h
              · exact ⟨HV.out.2, by rw [HV.out.1]; omega⟩)
          go_wp2
          go_roundw
          case rel => exact HREL.out
          case measure => simp [intOf]; omega
    · rw [decide_eq_false hlt]
      obtain ⟨K, hK⟩ : ∃ K, min n 10 = K := ⟨_, rfl⟩
      have hkK : k = K := by omega
      subst hkK
      have HALL2 : Hid (sumB D k ≤ 10000 ∧ ∀ i, i < k → shortB (D i).l = true ∧ bytesV (D i).l ≤ 10000) := Lib.hid ⟨by rw [← HALL.out.1]; omega, HALL.out.2⟩
      have HKK := Lib.hid hK
      obtain ⟨W2, hW2⟩ : ∃ W2, w1.drewN d = W2 := ⟨_, rfl⟩
      have HB2 : Hid (Below w.heap.size w W2) := Lib.hid (by rw [← hW2]; exact below_dN HB1.out _)
      have HL2 : Hid (Fls W2 w.heap.size A n D) := Lib.hid (HL.out.below HB2.out)
      have hs2 := HB2.out.size
      rw [hW2]
      have HNE := Lib.hid (newenc_any 4096 W2 (by omega) (by omega))
      clear hK hW2 HALL HB1 HL1 hs1 ht
      go_wp2_with fail
      refine HNE.out.mono ?_
      rintro e4 w4 ⟨e, G0, rfl, he, hG, hb4⟩
      have HE := Lib.hid (And.intro he (And.intro hG hb4))
      have HND := Lib.hid (newdec_any 4096 1073741824 w4 (by omega) (by omega) (by omega))
      clear he hG hb4 HNE
      go_wp2_with fail
      refine HND.out.mono ?_
      rintro e5 w5 ⟨dd, H0, rfl, hd, hH, hb5⟩
      have hs4 := HE.out.2.2.size
      have hduo : TbD w D sz pd e dd 0 w5 (.slice none 0 0) (encNew 4096) [] G0 H0 (fun _ => 0) := by
        have hel := EncIs.lt HE.out.1
        refine ⟨⟨EncIs.below HE.out.1 hb5, hd, fun j hj => by have := HE.out.2.1 j hj; omega, fun j hj => by have := hH j hj; omega, fun j hj => by simp at hj, fun j hj hj2 => by have := hel j hj; have := hH j hj2; omega, fun _ _ h => by simp at h, fun _ _ h => by simp at h, (HB2.out.trans (HE.out.2.2.mono hs2)).trans (hb5.mono (by omega))⟩, ⟨rfl, .inl ⟨rfl, rfl⟩⟩, fun q hq => by simp [Value.ownBlock] at hq, ⟨rfl, rfl⟩, rfl, Nat.zero_le _, Pair.new (own := 4096) (mo := 4096) (by omega) (by omega) (by omega), rfl⟩
      have HDU := Lib.hid hduo
      clear hd hH hb5 hduo HND HE hs4
      go_wp2_with fail
      go_loopw [13, 14] (fun av iv wr => TbRel w D sz pd e dd n av iv wr) (fun _ iv _ => n - (intOf iv).toNat)
      case atStart => exact ⟨0, _, _, G0, H0, _, rfl, Nat.zero_le _, Nat.zero_le _, HDU.out⟩
      case round =>
        obtain ⟨q, E, bs, G, H, L, rfl, hqn, hq10, hT⟩ := hrel
        have HT := Lib.hid hT
        have hsr := hT.duo.bel.size
        clear hT
        go_upto_region 16 with fail
        go_cut [79] (fun y wx => y = .bool (decide (q < n ∧ q < 10)) ∧ wx = wr)
        case first =>
          by_cases h1 : (q : Int) < n
          · by_cases h2 : (q : Int) < 10
            · go_wp2
              go_meet
              exact ⟨by congr 1; exact (decide_eq_true (by omega)).symm, rfl⟩
            · go_wp2
              go_meet
              exact ⟨by congr 1; exact (decide_eq_false (by omega)).symm, rfl⟩
          · go_wp2
            go_meet
            exact ⟨by congr 1; exact (decide_eq_false (by omega)).symm, rfl⟩
        case rest =>
        obtain ⟨rfl, hwc⟩ := hcut
        subst hwc
        by_cases hlt : q < n ∧ q < 10
        · rw [decide_eq_true hlt]
          obtain ⟨hlt, hlt2⟩ := hlt
          obtain ⟨b, o, rfl, hb, hc⟩ := HL.out.below HT.out.duo.bel (by omega)
          obtain ⟨c0, ok⟩ := hc q hlt
          have n1 : (q : Int) < n := by omega
          have hfq := HALL2.out.2 q (by have := HKK.out; omega)
          have hbs := bytesV_sum (show bytesV (D q).l < 1073741824 by omega)
          have hf : ∀ f ∈ (D q).l, f.1.1.size ≤ 4096 ∧ f.1.2.size ≤ 4096 := shortB_iff hfq.1
          have hsf : sumF (D q).l ≤ 10000 := by omega
          have hnl : (D q).n ≤ 313 := by have h1 := len_sumF (D q).l; have h2 := ok.len; omega
          have hp := HT.out.pair
          have hm := HT.out.most
          have hlen := run_short hp.etok (by have := hp.l1; omega) hf
          have hbb := block_back (mo := 4096) (li := 1073741824) hp (by omega) (by omega) hf
          rw [if_neg (by omega)] at hbb
          have hlen2 : (E.run (D q).l).1.length ≤ 10008 := by omega
          have hm2 : (E.run (D q).l).2.T.most = 4096 := by rw [← hm]; exact encL_most E.T _
          obtain ⟨E8, hE8⟩ : ∃ E8, (E.run (D q).l).2 = E8 := ⟨_, rfl⟩
          obtain ⟨bt, hbt⟩ : ∃ bt, (E.run (D q).l).1 = bt := ⟨_, rfl⟩
          have HEN := Lib.hid (HT.out.duo.encode (c := (D q).c) (D q).l (ok.rd.more hsr) (fun h0 a ha hg => by
            have h1 := HT.out.duo.nG _ hg
            obtain ⟨bb, oo, hA, hlt, -⟩ := ok.rd.2 h0
            rw [hA] at ha; injection ha with ha; subst ha; simp only at h1; omega) hp.l0 (by have := hp.l1; omega) (by omega) (by omega) (fun f hf' => by have := hf f hf'; omega))
          rw [hE8, hbt] at HEN hbb
          rw [hbt] at hlen hlen2
          rw [hE8] at hm2
          have HBB := Lib.hid (And.intro hbb (And.intro hm2 (And.intro hbs hlen)))
          clear hfq hbs hf hsf hp hm hlen hbb hm2 hE8 hbt ok hc
          go_wp2_with fail
          refine HEN.out.mono ?_
          rintro e8 w8 ⟨A4, c4, G8, rfl, hc4, hm4, hr4, hd8, hk8, hA8⟩
          have hd8' := hd8.dlab (n := wc.heap.size)
          obtain ⟨L8, hL8⟩ : ∃ L8, declab L wc.heap.size A4 = L8 := ⟨_, rfl⟩
          have hl8 : ∀ b, b < wc.heap.size → L8 b = L b := fun b hb => by rw [← hL8]; exact declab_old hb
          rw [hL8] at hd8'
          have HLA := Lib.hid (laid_any (cs := cs) (cp := cp) (st := 2 * q + 1) w8 hr4 hc4 hm4 (by omega) (HS.out.below hd8'.bel (Nat.le_refl _)) hsn hd8'.bel.size (HP.out.below hd8'.bel (Nat.le_refl _)) hpn hd8'.bel.size (by omega) (by omega))
          rw [show ((2 * q + 1 : Nat) : Int) = 2 * (q : Int) + 1 by omega] at HLA
          have hall8 : OwnB w8 0 u13 (strm (allF sz pd 0 bs)) := own_kept4 HT.out.all hk8 (fun k hk hg => by have := HT.out.allL k hk; exact HT.out.duo.aGX _ hg (by omega))
          have hallL8 : ∀ k, u13.ownBlock = some k → L8 k = 3 := fun k hk => (hl8 k (World.ownsRow.lt HT.out.all k hk).2).trans (HT.out.allL k hk)
          obtain ⟨bl, hbl⟩ : ∃ bl, bt.length = bl := ⟨_, rfl⟩
          rw [hbl] at HLA hlen2 ⊢
          have H8 := Lib.hid (And.intro hd8' (And.intro hall8 (And.intro hallL8 hbl)))
          clear hc4 hm4 hr4 hd8 hd8' hk8 hA8 hL8 hl8 hall8 hallL8 hbl HEN
          go_wp2_with fail
          refine HLA.out.mono ?_
          rintro e9 w9 ⟨v9, rfl, ho9, hb9⟩
          obtain ⟨A9, c9, rfl, hr9⟩ := ho9.rd
          have hk9 : Kept (fun b => 3 ≤ L8 b) w8 w9 := Kept.of_below hb9
          have hd9 := H8.out.1.turn hk9 3
          obtain ⟨L9, hL9⟩ : ∃ L9, relab L8 w8.heap.size w9.heap.size 3 = L9 := ⟨_, rfl⟩
          have hl9 : ∀ b, b < w8.heap.size → L9 b = L8 b := fun b hb => by rw [← hL9]; exact relab_old hb
          rw [hL9] at hd9
          have hall9 : OwnB w9 0 u13 (strm (allF sz pd 0 bs)) := own_kept4 H8.out.2.1 (Kept.of_below (F := fun _ => False) hb9) (fun _ _ h => h)
          have hallL9 : ∀ k, u13.ownBlock = some k → L9 k = 3 := fun k hk => (hl9 k (World.ownsRow.lt H8.out.2.1 k hk).2).trans (H8.out.2.2.1 k hk)
          have hgd : ∀ p ∈ allF sz pd 0 bs, Good 16384 p := allF_good sz pd bs 0 (by have := HT.out.len; omega)
          have hsum10 : lens bs ≤ 10100 := by
            have h1 := HT.out.lens
            have h2 : ∀ j, q ≤ j → sumB D q ≤ sumB D j := by
              intro j hj
              induction j with
              | zero => obtain rfl : q = 0 := by omega
                        exact Nat.le_refl _
              | succ j ih =>
                rcases Nat.lt_succ_iff_lt_or_eq.1 (Nat.lt_succ_of_le hj) with h | rfl
                · exact Nat.le_trans (ih (by omega)) (Nat.le_add_right _ _)
                · exact Nat.le_refl _
            have h3 := h2 k (by have := HKK.out; omega)
            have h4 := HALL2.out.1
            omega
          have hsl : (strm (allF sz pd 0 bs)).length ≤ 170000000 := by
            have h1 := strm_len _ hgd
            have h2 := allF_len sz pd bs 0
            have h3 := HT.out.len
            have h4 : (allF sz pd 0 bs).length * (9 + 16384) ≤ 10200 * (9 + 16384) := Nat.mul_le_mul_right _ (by omega)
            omega
          have hbl2 : (strm (laidL sz pd (2 * q + 1) bt)).length ≤ 170000000 := by
            have h1 := strm_len _ (laidF_good sz pd (st := 2 * q + 1) (by omega) (by omega) (bt.length + 1) 0 1 bt (.inl rfl))
            have h2 := laidF_len sz pd (2 * q + 1) (bt.length + 1) 0 1 bt
            have h3 := H8.out.2.2.2
            have h4 : (laidF sz pd (2 * q + 1) (bt.length + 1) 0 1 bt).length * (9 + 16384) ≤ 10200 * (9 + 16384) := Nat.mul_le_mul_right _ (by omega)
            unfold laidL
            omega
          obtain ⟨lb, hlb⟩ : ∃ lb, strm (laidL sz pd (2 * q + 1) bt) = lb := ⟨_, rfl⟩
          obtain ⟨la, hla⟩ : ∃ la, strm (allF sz pd 0 bs) = la := ⟨_, rfl⟩
          obtain ⟨mb, hmb⟩ : ∃ mb, lb.length = mb := ⟨_, rfl⟩
          obtain ⟨ma, hma⟩ : ∃ ma, la.length = ma := ⟨_, rfl⟩
          rw [hlb] at hr9 hbl2 ⊢
          rw [hla] at hall9 hsl
          rw [hmb] at hr9 hbl2 ⊢
          unfold OwnB at hall9
          rw [hma] at hall9 hsl
          have H9 := Lib.hid (And.intro hd9 (And.intro hall9 (And.intro hallL9 (And.intro hr9 (And.intro hlb (And.intro hla (And.intro hmb hma)))))))
          have HS10 := Lib.hid hsum10
          clear hd9 hall9 hallL9 hr9 hlb hla hmb hma hgd hsum10 hl9 hL9 hk9 hb9 ho9 HLA
          go_wp2_with (at_builtin; refine of_stop ?_)
          unfold Stop
          refine wpList_app (.tmp 99) (.tmp 100) tBytes rfl rfl H9.out.2.1 rfl H9.out.2.2.2.1 rfl (bvs_one _) (le_maxLen (by omega)) (by omega) (Nat.zero_le _) ?_
          intro v10 w10 hown10 hg10 ho10
          obtain ⟨A10, c10, rfl, -, -, -, -⟩ := own_slice hown10
          have HREL : Hid (TbRel w D sz pd e dd n (.slice A10 (ma + mb) c10) (.int .i64 (q + 1 : Nat)) w10) := Lib.hid (by
            obtain ⟨hd9, hall9, hallL9, hr9, hlb, hla, hmb, hma⟩ := H9.out
            have hk10 : Kept (fun b => L9 b = 3) w9 w10 := (Kept.refl _ w9).grown hg10 (fun q hq => .inl (hallL9 q hq))
            have hd10 := hd9.turn (hk10.mono (fun b e => by omega)) 3
            have hstr : strm (allF sz pd 0 (bs ++ [bt])) = la ++ lb := by rw [allF_snoc, strm_append, Nat.zero_add, HT.out.len, hla, hlb]
            refine ⟨q + 1, E8, bs ++ [bt], G8, H, _, rfl, by omega, by omega, hd10.more (N' := (q + 1) * 1048576) (M' := 0) (by omega) (Nat.le_refl _) (by omega) (by omega), ?_, fun k hk => ?_, ?_, ?_, ?_, HBB.out.1.2, HBB.out.2.1⟩
            · rw [hstr]
              unfold OwnB
              rw [List.length_append, hma, hmb, bvs_append]
              exact hown10
            · rcases ho10 with ho | ho
              · rw [hk] at ho
                have h1 := hallL9 k ho.symm
                rw [relab_old (hd9.lablt (by omega))]; exact h1
              · rw [hk] at ho
                injection ho with ho
                exact relab_new (by omega) (World.ownsRow.lt hown10 k hk).2
            · rw [lsK_snoc]
              exact HT.out.dec.snoc (by rw [H8.out.2.2.2]; omega) HBB.out.1.1
            · rw [List.length_append, HT.out.len]; rfl
            · rw [lens_snoc]
              have h1 := HT.out.lens
              have h2 := HBB.out.2.2
              show lens bs + bt.length ≤ sumB D q + bytesV (D q).l + 8 * (q + 1)
              omega)
          clear hown10 hg10 ho10
          go_wp2
          go_roundw
          case rel => exact HREL.out
          case measure => simp [intOf]; omega
        · rw [decide_eq_false hlt]
          obtain rfl : q = k := by have := HKK.out; omega
          obtain ⟨Aa, ca, hav, hnca, hcma, hra, -⟩ := own_slice HT.out.all
          subst hav
          obtain ⟨bd1, bd2, bd3⟩ := HT.out.bd hq10 HALL2.out.1
          have HRD := Lib.hid (read_any (cs := cs) (ca := ca) HT.out.duo hra (fun a ha => HT.out.allL a.block (by rw [ha]; rfl)) hnca hcma (by omega) HS.out hsn bd3 (by omega) (allF_fin sz pd bs 0) HT.out.dec (by have := HT.out.len; omega))
          obtain ⟨ma, hma⟩ : ∃ ma, (strm (allF sz pd 0 bs)).length = ma := ⟨_, rfl⟩
          rw [hma] at HRD ⊢
          have HMA := Lib.hid hma
          clear hnca hcma hra bd1 bd2 bd3 hma
          go_wp2_with fail
          refine HRD.out.mono ?_
          rintro e11 w11 ⟨Ag, cg, vs, H1, L1, M1, rfl, hd11, hrg, hgl⟩
          rw [lsK_len] at hrg ⊢
          have HDR := Lib.hid (drows_any w11 hd11.dec)
          have H11 := Lib.hid (And.intro hd11 (And.intro hrg hgl))
          have hmin : (((q : Nat) : Int) != min (n : Int) 10) = false := by rw [bne_eq_false_iff_eq]; have := HKK.out; omega
          clear hd11 hrg hgl HRD
          go_wp2_with fail
          refine HDR.out.mono ?_
          rintro e12 w12 ⟨A12, c12, rfl, ho12, hb12⟩
          have hd12 := H11.out.1.still hb12
          have hrr := Rd.of_own ho12
          have HER := Lib.hid (erows_any w12 hd12.enc)
          have H12 := Lib.hid (And.intro hd12 (And.intro hrr hb12))
          clear hd12 hrr hb12 ho12 HDR
          go_wp2_with fail
          refine HER.out.mono ?_
          rintro e13 w13 ⟨A13, c13, rfl, ho13, hb13⟩
          have hrr := (H12.out.2.1.below hb13 (Nat.le_refl _)).more hb13.size
          have hrs := Rd.of_own ho13
          have hd13 := H12.out.1.still hb13
          have hrf := rows_few hd13.enc.tok
          rw [← fds_rows] at hrr hrs
          have HFS := Lib.hid (fields_same (c := c12) (c' := c13) w13 hrr hrs (by omega))
          have hrg := (((H11.out.2.1.below H12.out.2.2 (Nat.le_refl _)).more H12.out.2.2.size).below hb13 (Nat.le_refl _)).more hb13.size
          have hb3 : Below w11.heap.size w11 w13 := H12.out.2.2.trans (hb13.mono H12.out.2.2.size)
          have hgl : GotL w13 L1 vs (lsK D q) := H11.out.2.2.keep (Kept.of_below (F := fun _ => False) hb3) (fun _ h => h.elim) (fun _ h => h)
          have H13 := Lib.hid (And.intro hd13 (And.intro hrg hgl))
          clear hrr hrs hd13 hrf hrg hgl hb13 hb3 ho13 HER
          go_wp2_with fail
          refine HFS.out.mono ?_
          rintro e14 w14 ⟨rfl, d14, rfl⟩
          have HB13 : Hid (Below w.heap.size w w13) := Lib.hid H13.out.1.bel
          have HL13 := Lib.hid (HL.out.below HB13.out)
          clear HFS hmin
          go_wp2_with fail
          go_loopw [19] (fun iv wr => TbEnd w13 q iv wr) (fun iv _ => q - (intOf iv).toNat)
          case atStart => exact ⟨0, d14, rfl, Nat.zero_le _, rfl⟩
          case round =>
            obtain ⟨i, d, rfl, hi, rfl⟩ := hrel
            by_cases hlt : i < q
            · have i1 : (i : Int) < q := by omega
              obtain ⟨b, o, rfl, hb, hc⟩ := HL13.out (by omega)
              obtain ⟨c0, ok⟩ := hc i (by omega)
              obtain ⟨bg, og, rfl, hbg, hcg⟩ := H13.out.2.1.at_ (by omega)
              obtain ⟨Ai, ci, hvi, hri⟩ := H13.out.2.2.get (j := i) (l := (D i).l) (by simp [lsK, hlt])
              have g0 := (hcg i hlt).trans hvi
              rw [ok.len] at g0 hri
              have z0 : ∀ d, (w13.drewN d).cell? ⟨b, o + i, none⟩ = some (.slice (D i).A (D i).n (D i).c) := fun _ => c0
              have z1 : ∀ d, (w13.drewN d).cell? ⟨bg, og + i, none⟩ = some (.slice Ai (D i).n ci) := fun _ => g0
              have hni := ok.nr
              have n1 : (i : Int) < n := by have := HKK.out; omega
              have HOK := Lib.hid (And.intro ok hri)
              clear hc hcg hvi c0 g0 ok hri
              go_wp2_with fail
              go_quiet (fail)
              go_wp2_with fail
              go_loopw [20] (fun jv wr => TbEnd w13 (D i).n jv wr) (fun jv _ => (D i).n - (intOf jv).toNat)
              case atStart => exact ⟨0, _, rfl, Nat.zero_le _, World.drewN_drewN _ _ _⟩
              case round =>
                obtain ⟨j, d3, rfl, hj, rfl⟩ := hrel
                by_cases hlt2 : j < (D i).n
                · obtain ⟨hl1, b1, o1, hA1, hb1, q1⟩ := fd_at HOK.out.1.rd (by omega)
                  obtain ⟨hl2, b2, o2, rfl, hb2, q2⟩ := fd_at HOK.out.2 (by omega)
                  obtain ⟨f, hf⟩ : ∃ f, (D i).l[j]? = some f := ⟨_, List.getElem?_eq_getElem (by omega)⟩
                  obtain ⟨p0, p1, -⟩ := q1 j f hf
                  obtain ⟨m0, m1, -⟩ := q2 j (told f) (by rw [List.getElem?_map, hf]; rfl)
                  have j1 : (j : Int) < (D i).n := by omega
                  rw [hA1] at z0
                  have y0 : ∀ d, (w13.drewN d).cell? ⟨b1, o1 + j * 3, none⟩ = some (.string f.1.1) := fun _ => p0
                  have y1 : ∀ d, (w13.drewN d).cell? ⟨b1, o1 + j * 3 + 1, none⟩ = some (.string f.1.2) := fun _ => p1
                  have x0 : ∀ d, (w13.drewN d).cell? ⟨b2, o2 + j * 3, none⟩ = some (.string f.1.1) := fun _ => m0
                  have x1 : ∀ d, (w13.drewN d).cell? ⟨b2, o2 + j * 3 + 1, none⟩ = some (.string f.1.2) := fun _ => m1
                  clear q1 q2 p0 p1 m0 m1 hf hA1 hl1 hl2
                  go_wp2_with fail
                  go_quiet (fail)
                  go_wp2
                  go_roundw
                  case rel => exact ⟨j + 1, _, by go_num, by omega, rfl⟩
                  case measure => simp [intOf]; omega
                · obtain rfl : j = (D i).n := by omega
                  go_wp2
                  go_roundw
                  case rel => exact ⟨i + 1, _, by go_num, by omega, rfl⟩
                  case measure => simp [intOf]; omega
            · obtain rfl : i = q := by omega
              go_wp2
              go_ret
              exact ⟨rfl, below_dN HB13.out _⟩
end Go.Proofs.Ytfpcamkimjecdaa
