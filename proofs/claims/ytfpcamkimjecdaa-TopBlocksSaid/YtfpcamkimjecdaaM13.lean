/- 6 texts in one: Tp2, Tp3, Tp4, Tp5, HOpen, TpOpen. -/
import Derived.Test.YtfpcamkimjecdaaM12
import Derived.Test.YtfpcamkimjecdaaM7
import Derived.Test.YtfpcamkimjecdaaM8
import Derived.Deep.Slices
import Derived.Deep.Fields
import Derived.ChangeSame
/- The walk of drawbridgetop.laid. -/
namespace Go.Proofs.Ytfpcamkimjecdaa
open Go.RowKit

set_option maxRecDepth 100000 in
theorem slice_upto (A : Option Addr) (nb cap a : Nat) (ha : a ≤ cap) : ∀ w, (Instr.slice 23 (.slice A nb cap) none (some (.int .i64 (a : Int))) none).run Try.prog w = .ok (.slice A a cap) w := by
  intro w
  rw [run_slice_h (P := Try.prog) (w := w) 23 A nb cap Try.underlying23 .i64 (a : Int) (by omega) (by omega)]
  simp only [Int.toNat_natCast]
  have hs : ∀ w, (sizeOf (Try.prog.elem 23)).run Try.prog w = .ok 1 w := fun _ => by kernel_rfl
  rw [hs]
  cases A <;> simp [Result.andThen, sliced, Addr.add]
def LaidPost (W : World) (l : List UInt8) (e : Ending) (w' : World) : Prop := ∃ v, e = .returned (.tuple #[v, .bool true]) ∧ OwnB w' W.heap.size v l ∧ Below W.heap.size W w'
/-- At the loop's head: these frames are laid, 'b' is left. -/
def LaRel (w : World) (sz pd block : List UInt8) (st : Nat) (av lv kv iv : Value) (wr : World) : Prop :=
  ∃ (i kind n A c : Nat) (Ad : Option Addr) (b : List UInt8) (fs : List (Fr × Bool)), A = n ∧ av = .slice Ad n c ∧ n ≤ c ∧ c ≤ maxLen ∧ Rd w w.heap.size 1 Ad n (bvs b) ∧ OwnB wr w.heap.size lv (strm fs) ∧ kv = .int .i64 kind ∧ (kind = 1 ∨ kind = 9) ∧ iv = .int .i64 i ∧ i + n ≤ block.length ∧
    laidL sz pd st block = fs ++ laidF sz pd st (n + 1) i kind b ∧ Below w.heap.size w wr ∧ fs.length = i ∧ ∀ p ∈ fs, Good 16384 p
def LaMeas (av : Value) : Nat := match av with
  | .slice _ n _ => n
  | _ => 0
theorem laidF_more (sz pd : List UInt8) (st : Nat) : ∀ (n m i kind : Nat) (b : List UInt8), b.length < n → b.length < m → laidF sz pd st n i kind b = laidF sz pd st m i kind b
  | 0, _, _, _, _, h, _ => by omega
  | _, 0, _, _, _, _, h => by omega
  | n + 1, m + 1, i, kind, b, hn, hm => by
    have hp := sizeAt_pos sz (st + i)
    unfold laidF
    split
    · rfl
    · rw [laidF_more sz pd st n m (i + 1) 9 (b.drop (sizeAt sz (st + i))) (by rw [List.length_drop]; omega) (by rw [List.length_drop]; omega)]
set_option maxRecDepth 100000 in
set_option maxHeartbeats 8000000 in
theorem laid_any {n0 c0 ns cs np cp Bs Bp st : Nat} {A0 As Ap : Option Addr} {block sz pd : List UInt8} (w : World) (hb : Rd w w.heap.size 1 A0 n0 (bvs block)) (hnc : n0 ≤ c0) (hcm : c0 ≤ maxLen) (hn : n0 ≤ 1048576)
    (hs : Rd w Bs 1 As ns (bvs sz)) (hsn : ns ≤ 140737488351232) (hBs : Bs ≤ w.heap.size) (hp : Rd w Bp 1 Ap np (bvs pd)) (hpn : np ≤ 140737488351232) (hBp : Bp ≤ w.heap.size) (h1 : 0 < st) (h2 : st ≤ 1000) :
    Calls Try.prog 9 #[.slice A0 n0 c0, .int .i64 st, .slice As ns cs, .slice Ap np cp] w (LaidPost w (strm (laidL sz pd st block))) := by
  have hbl := hb.blen
  have hsl := hs.blen
  have hpl := hp.blen
  have HB := Lib.hid hb
  have HS := Lib.hid hs
  have HP := Lib.hid hp
  have HL := Lib.hid (And.intro hbl (And.intro hsl hpl))
  clear hb hs hp hbl hsl hpl
  go_enter Try.func9, Try.ntmps9
  go_wp2_with fail
  go_loopw [0, 10, 11, 12] (fun av lv kv iv wr => LaRel w sz pd block st av lv kv iv wr) (fun av _ _ _ _ => LaMeas av)
  case atStart =>
    refine ⟨0, 1, n0, n0, c0, A0, block, [], rfl, rfl, hnc, hcm, HB.out, ⟨rfl, .inl ⟨rfl, rfl⟩⟩, rfl, .inl rfl, rfl, by have := HL.out; omega, ?_, Below.refl _ _, rfl, fun p hp => by cases hp⟩
    unfold laidL
    rw [HL.out.1]
    rfl
  case round =>
    obtain ⟨i, kind, n, nn, c, A, b, fs, rfl, rfl, hnc2, hcm2, hrb, hown, rfl, hk, rfl, hin, hla, hbel, hfl, hgd⟩ := hrel
    rename Value => lv
    have HH := Lib.hid (And.intro hrb (And.intro hown (And.intro hla (And.intro hbel (And.intro hfl (And.intro hgd hk))))))
    have hi6 : i ≤ 1048576 := by have := HL.out; omega
    have hn6 : nn ≤ 1048576 := by have := HL.out; omega
    have hsr := hbel.size
    clear hrb hown hla hbel hfl hgd hk
    obtain ⟨sq, hsq⟩ : ∃ sq, sizeAt sz (st + i) = sq := ⟨_, rfl⟩
    have hs1 := sizeAt_pos sz (st + i)
    have hs2 := sizeAt_le sz (st + i)
    rw [hsq] at hs1 hs2
    have HSQ := Lib.hid hsq
    clear hsq
    go_upto_if 22 with fail
    go_cut [13] (fun y wx => y = .int .i64 (sq : Nat) ∧ wx = wr)
    case first =>
      by_cases h0 : ns = 0
      · have hq : sq = 17 := by rw [← HSQ.out]; unfold sizeAt; rw [if_pos (HL.out.2.1.trans h0)]
        subst hq
        subst h0
        go_wp2
        go_meet
        exact ⟨rfl, rfl⟩
      · obtain ⟨hsl, b', o', rfl, -, hc⟩ := (HS.out.below HH.out.2.2.2.1 hBs).bas (by omega)
        obtain ⟨q, hq⟩ : ∃ q, (st + i) % ns = q := ⟨_, rfl⟩
        have hqn : q < ns := by rw [← hq]; exact Nat.mod_lt _ (by omega)
        have z := hc q hqn
        have hv := ba_lt sz q
        have HQ : Hid (sq = max 1 (ba sz q)) := Lib.hid (by rw [← HSQ.out]; unfold sizeAt; rw [if_neg (by omega), hsl, hq])
        have hqi : ((st : Int) + (i : Int)) % (ns : Int) = (q : Int) := by rw [← hq]; simp
        have n0 : (0 : Int) < ns := by omega
        obtain ⟨v, hv2⟩ : ∃ v, ba sz q = v := ⟨_, rfl⟩
        rw [hv2] at z HQ hv
        clear hc hq hsl hv2
        go_wp2
        go_meet
        exact ⟨by rw [HQ.out]; congr 1; omega, rfl⟩
    case rest =>
    obtain ⟨rfl, hwc⟩ := hcut
    subst hwc
    go_upto_region 9 with fail
    refine wp_named ?_
    intro W8 hW8
    obtain ⟨x, hx⟩ : ∃ x, wc.heap.size = x := ⟨_, rfl⟩
    have b8 : Below wc.heap.size wc W8 := by rw [hW8]; exact (Below.refl _ _).alloc (Nat.le_refl _) _
    have kx : W8.heap[x]? = some (.cells (Fr.cells ⟨kind, 0, st, ⟨#[]⟩, 0⟩) 49 (0, 0)) := by rw [hW8, ← hx]; exact heapNew _ _
    rw [hx]
    have HX := Lib.hid (And.intro b8 hx)
    clear b8 hx hW8
    obtain ⟨pk, hpk⟩ : ∃ pk, padK pd st kind = pk := ⟨_, rfl⟩
    have HPK := Lib.hid hpk
    have HKX := Lib.hid kx
    clear hpk kx
    go_cut [54] (fun y wx => y = .bool pk ∧ wx = W8)
    case first =>
      have HPR : Hid (0 < np → pd.length = np ∧ ∃ b o, Ap = some ⟨b, o, none⟩ ∧ b < Bp ∧ ∀ j, j < np → W8.cell? ⟨b, o + j, none⟩ = some (.int .u8 (ba pd j : Int))) := Lib.hid (fun h => ((HP.out.below HH.out.2.2.2.1 hBp).below HX.out.1 (by omega)).bas h)
      rcases HH.out.2.2.2.2.2.2 with rfl | rfl
      · by_cases h0 : np = 0
        · have hq : pk = false := by rw [← HPK.out]; unfold padK padB; rw [decide_eq_false (p := 0 < pd.length) (by have := HL.out.2.2; omega)]; rfl
          subst hq
          subst h0
          go_wp2
          go_meet
          exact ⟨rfl, rfl⟩
        · obtain ⟨hsl, b', o', rfl, -, hc⟩ := HPR.out (by omega)
          obtain ⟨q, hq⟩ : ∃ q, st % np = q := ⟨_, rfl⟩
          have hqn : q < np := by rw [← hq]; exact Nat.mod_lt _ (by omega)
          have z := hc q hqn
          have hv := ba_lt pd q
          have HQ : Hid (pk = decide (ba pd q % 2 = 1)) := Lib.hid (by rw [← HPK.out]; unfold padK padB padAt; rw [decide_eq_true (p := 0 < pd.length) (by omega), hsl, hq]; rfl)
          have hqi : (st : Int) % (np : Int) = (q : Int) := by rw [← hq]; simp
          have n0 : (0 : Int) < np := by omega
          obtain ⟨v, hv2⟩ : ∃ v, ba pd q = v := ⟨_, rfl⟩
          rw [hv2] at z HQ hv
          clear hc hq hsl hv2 HPR
          by_cases h21 : v % 2 = 1
          · have e1 : ((v : Int) % 2 == 1) = true := by rw [beq_iff_eq]; omega
            go_wp2
            go_meet
            exact ⟨by rw [HQ.out, decide_eq_true h21], rfl⟩
          · have e1 : ((v : Int) % 2 == 1) = false := by rw [beq_eq_false_iff_ne]; omega
            go_wp2
            go_meet
            exact ⟨by rw [HQ.out, decide_eq_false h21], rfl⟩
      · have hq : pk = false := by rw [← HPK.out]; rfl
        subst hq
        by_cases h0 : (0 : Int) < np
        · go_wp2
          go_meet
          exact ⟨rfl, rfl⟩
        · go_wp2
          go_meet
          exact ⟨rfl, rfl⟩
    case rest =>
    obtain ⟨rfl, hwc⟩ := hcut
    subst hwc
    obtain ⟨pv, hpv⟩ : ∃ pv, (if pk = true then padAt pd st else 0) = pv := ⟨_, rfl⟩
    obtain ⟨f8, hf8⟩ : ∃ f8 : Nat, (if pk = true then 8 else 0) = f8 := ⟨_, rfl⟩
    have HPV := Lib.hid (And.intro hpv hf8)
    clear hpv hf8
    have hfz := fz_of HKX.out
    go_upto_if 54 with fail
    go_cut [13] (fun y wx => y = .int .i64 (sq : Nat) ∧ wx.heap[x]? = some (.cells (Fr.cells ⟨kind, f8, st, ⟨#[]⟩, pv⟩) 49 (0, 0)) ∧ Kept (fun b => b = x) wc wx)
    case first =>
      cases pk with
      | false =>
        have h1 : pv = 0 := HPV.out.1.symm
        have h2 : f8 = 0 := HPV.out.2.symm
        subst h1 h2
        go_wp2
        go_meet
        exact ⟨rfl, HKX.out, Kept.refl _ _⟩
      | true =>
        have hpp : 0 < np := by
          have := HPK.out
          simp only [padK, padB, Bool.and_eq_true, decide_eq_true_eq] at this
          have := HL.out.2.2
          omega
        have hz : ∀ v, ((wc.setCell ⟨x, 1, none⟩ v).heap[x]? = some (.cells #[.int .i64 kind, v, .int .i64 st, .string ⟨#[]⟩, .int .i64 0, .slice none 0 0, .int .i64 0, .int .i64 0, .int .i64 0, .int .i64 0, .int .i64 0, .bool false] 49 (0, 0))) := fun v => set_b7 v HKX.out
        have hfz1 : ∀ v o, (wc.setCell ⟨x, 1, none⟩ v).frozen? ⟨x, o, none⟩ = false := fun v => fz_of (hz v)
        obtain ⟨hsl, b', o', rfl, hb', hc⟩ := ((HP.out.below HH.out.2.2.2.1 hBp).below HX.out.1 (by have := HX.out.2; omega)).bas hpp
        obtain ⟨q, hq⟩ : ∃ q, st % np = q := ⟨_, rfl⟩
        have hqn : q < np := by rw [← hq]; exact Nat.mod_lt _ (by omega)
        have hxx := HX.out.2
        have z : ∀ v, (wc.setCell ⟨x, 1, none⟩ v).cell? ⟨b', o' + q, none⟩ = some (.int .u8 (ba pd q : Int)) := fun v => (World.cell?_of_block (a := ⟨b', o' + q, none⟩) (Below.heap_setCell _ _ _ _ (show b' ≠ x by omega))).trans (hc q hqn)
        have hv := ba_lt pd q
        have HQ : Hid (pv = ba pd q ∧ f8 = 8) := Lib.hid ⟨by rw [← HPV.out.1]; unfold padAt; rw [if_pos rfl, hsl, hq], HPV.out.2.symm⟩
        have hqi : ((st : Int)) % (np : Int) = (q : Int) := by rw [← hq]; simp
        have n0 : (0 : Int) < np := by omega
        obtain ⟨v, hv2⟩ : ∃ v, ba pd q = v := ⟨_, rfl⟩
        rw [hv2] at z HQ hv
        have HZ := Lib.hid hz
        have y1 : wc.cell? ⟨x, 1, none⟩ = some (.int .i64 0) := by unfold World.cell?; rw [HKX.out]; rfl
        have y4 : wc.cell? ⟨x, 4, none⟩ = some (.int .i64 0) := by unfold World.cell?; rw [HKX.out]; rfl
        clear hc hq hsl hv2 hz
        go_wp2
        go_meet
        refine ⟨rfl, ?_, ((Kept.refl (fun b => b = x) wc).setCell rfl 1 _).setCell rfl 4 _⟩
        rw [HQ.out.1, HQ.out.2]
        exact set_b7 _ (HZ.out _)
    case rest =>
    rename World => W9
    obtain ⟨rfl, hk9, hkp9⟩ := hcut
    have hbn : b.length = nn := HH.out.1.blen
    obtain ⟨la, hla⟩ : ∃ la, decide (nn ≤ sq) = la := ⟨_, rfl⟩
    obtain ⟨m, hm⟩ : ∃ m, min sq nn = m := ⟨_, rfl⟩
    obtain ⟨f4, hf4⟩ : ∃ f4 : Nat, (if la = true then 4 else 0) = f4 := ⟨_, rfl⟩
    have hf88 : f8 ≤ 8 := by have := HPV.out.2; rw [← this]; split <;> omega
    have H9 := Lib.hid (And.intro hk9 (And.intro hkp9 (And.intro hbn (And.intro hla (And.intro hm hf4)))))
    have hfz9 := fz_of hk9
    have z9 : W9.cell? ⟨x, 1, none⟩ = some (.int .i64 f8) := by unfold World.cell?; rw [hk9]; rfl
    clear hk9 hkp9 hbn hm hfz
    go_upto_if 69 with fail
    go_cut [13, 15] (fun y y15 wx => y = .int .i64 (m : Nat) ∧ y15 = .bool la ∧ wx.heap[x]? = some (.cells (Fr.cells ⟨kind, f8 + f4, st, ⟨#[]⟩, pv⟩) 49 (0, 0)) ∧ Kept (fun b => b = x) wc wx)
    case first =>
      by_cases hc : nn ≤ sq
      · have h1 : la = true := by rw [← hla, decide_eq_true hc]
        subst h1
        have h2 : f4 = 4 := hf4.symm
        have h3 : nn = m := by have := H9.out.2.2.2.2.1; omega
        subst h2 h3
        clear hla hf4
        go_wp2
        go_meet
        exact ⟨rfl, rfl, set_b7 _ H9.out.1, H9.out.2.1.setCell rfl _ _⟩
      · have h1 : la = false := by rw [← hla, decide_eq_false hc]
        subst h1
        have h2 : f4 = 0 := hf4.symm
        have h3 : sq = m := by have := H9.out.2.2.2.2.1; omega
        subst h2 h3
        clear hla hf4
        go_wp2
        go_meet
        exact ⟨rfl, rfl, H9.out.1, H9.out.2.1⟩
    case rest =>
    rename World => Wb
    obtain ⟨rfl, rfl, hk10, hkp10⟩ := hcut
    obtain ⟨-, -, hbn, -, hm, hf4'⟩ := H9.out
    have hmn : m ≤ nn := by omega
    have bW : Below w.heap.size w Wb := (HH.out.2.2.2.1.trans (HX.out.1.mono hsr)).trans (hkp10.below (fun k e => by have := HX.out.2; omega) (by have := HX.out.1.size; omega))
    have hr10 : Rd Wb w.heap.size 1 A nn (bvs b) := HH.out.1.below bW (Nat.le_refl _)
    have hr11 : Rd Wb w.heap.size 1 A m (bvs (b.take m)) := by
      have := hr10.pre hmn
      rw [Nat.mul_one] at this
      unfold bvs at this ⊢
      rwa [List.map_take]
    have hsu := slice_upto A nn c m (by omega)
    have e1 := run_str Try.underlying23 Try.underlying5 Try.underlying9 hr11 c
    obtain ⟨A', hA', hsf⟩ := slice_from7 A nn c m hmn
    obtain ⟨D, hD⟩ : ∃ D : ByteArray, ⟨(b.take m).toArray⟩ = D := ⟨_, rfl⟩
    rw [hD] at e1
    have hgf : Good 16384 (frAt sz pd st i kind b) := frAt_good sz pd HH.out.2.2.2.2.2.2 h1 (by omega)
    have hfr : frAt sz pd st i kind b = (⟨kind, f8 + f4, st, D, pv⟩, pk) := by
      unfold frAt
      rw [HPK.out, HSQ.out, hbn, HPV.out.1, HPV.out.2, ← hD, ← hm]
      have e4 : (if nn ≤ sq then 4 else 0) = f4 := by
        rw [← hf4', ← hla]
        by_cases hc : nn ≤ sq
        · rw [if_pos hc, if_pos (by simpa using hc)]
        · rw [if_neg hc, if_neg (by simpa using hc)]
      have e5 : b.take sq = b.take (min sq nn) := by rw [← hbn]; exact (List.take_eq_take_iff.2 (by omega))
      rw [e4, e5]
    rw [hfr] at hgf
    have HFP := Lib.hid (fun w => fput_any ⟨kind, f8 + f4, st, D, pv⟩ pk w hgf.ok)
    have hf44 : f4 ≤ 4 := by rw [← hf4']; split <;> omega
    have hKK := (Kept.of_below (F := fun b => b = x) HX.out.1).same hkp10
    have HF := Lib.hid (And.intro hgf (And.intro hfr (And.intro hA' (And.intro bW (And.intro hr10 (And.intro hk10 (And.intro hD hKK)))))))
    have HLA := Lib.hid hla
    have z3 : Wb.cell? ⟨x, 3, none⟩ = some (.string ⟨#[]⟩) := by unfold World.cell?; rw [hk10]; rfl
    have hfz10 := fz_of hk10
    clear hKK hgf hfr hA' bW hr10 hr11 hk10 hkp10 hm hf4' hbn hla hf4 hD hfz9 z9
    go_upto_region 18 with fail
    refine wp_named ?_
    intro W18 hW18
    have hk18 : W18.heap[x]? = some (.cells (Fr.cells ⟨kind, f8 + f4, st, D, pv⟩) 49 (0, 0)) := by rw [hW18]; exact set_b7 _ HF.out.2.2.2.2.2.1
    have hKK := HF.out.2.2.2.2.2.2.2.setCell (g := x) rfl 3 (.string D)
    rw [← hW18] at hKK
    have hown18 := own_kept4 HH.out.2.1 hKK (fun q hq e => by have := (World.ownsRow.lt HH.out.2.1 q hq).2; have := HX.out.2; omega)
    have hb18 : Below w.heap.size w W18 := HH.out.2.2.2.1.trans (hKK.below (fun k e => by have := HX.out.2; omega) hsr)
    obtain ⟨z0, z1, z2, z3', z4, z5, z6, z7, z8, z9, z10, z11, hx18⟩ := FrAt.of hk18
    have HFP2 := Lib.hid (HFP.out W18)
    unfold frV at HFP2
    simp only [Fr.cells] at HFP2 z0 z1 z2 z3' z4
    have H18 := Lib.hid (And.intro hown18 hb18)
    have hs18 := hb18.size
    clear hW18 hk18 hKK hown18 hb18 HFP z3 hfz10
    go_wp2_with fail
    refine HFP2.out.mono ?_
    rintro e19 w19 ⟨v19, rfl, ho19, hb19⟩
    obtain ⟨A19, c19, rfl, hr19⟩ := ho19.rd
    have hl19 := own_kept4 H18.out.1 (Kept.of_below (F := fun _ => False) hb19) (fun _ _ h => h)
    have hs19 := hb19.size
    have hfl9 := frB_length ⟨kind, f8 + f4, st, D, pv⟩ pk
    have hpay := HF.out.1.len
    dsimp only at hpay
    obtain ⟨mf, hmf⟩ : ∃ mf, (frB ⟨kind, f8 + f4, st, D, pv⟩ pk).length = mf := ⟨_, rfl⟩
    rw [hmf] at hr19 hfl9 ⊢
    have hmf6 : mf ≤ 16393 := by omega
    have hsl : (strm fs).length ≤ 17189306368 := by
      have h1 := strm_len fs HH.out.2.2.2.2.2.1
      have h2 := HH.out.2.2.2.2.1
      have h3 : fs.length * (9 + 16384) ≤ 1048576 * (9 + 16384) := Nat.mul_le_mul_right _ (by omega)
      omega
    obtain ⟨ls, hls⟩ : ∃ ls, (strm fs).length = ls := ⟨_, rfl⟩
    unfold OwnB at hl19
    rw [hls] at hl19 hsl
    have H19 := Lib.hid (And.intro hl19 (And.intro hb19 (And.intro hr19 (And.intro hmf hls))))
    clear hl19 hb19 hr19 hmf hls ho19 hfl9 hpay z0 z1 z2 z3' z4 z5 z6 z7 z8 z9 z10 z11 hx18 HFP2
    go_wp2_with (at_builtin; refine of_stop ?_)
    unfold Stop
    refine wpList_app (.tmp 91) (.tmp 92) tBytes rfl rfl H19.out.1 rfl H19.out.2.2.1 rfl (bvs_one _) (le_maxLen (by omega)) (by omega) (by omega) ?_
    intro v20 w20 hown20 hg20 _
    obtain ⟨A20, c20, rfl, -, -, -, -⟩ := own_slice hown20
    have hb20 : Below w.heap.size w w20 := Below.app (H18.out.2.trans (H19.out.2.1.mono hs18)) H19.out.1 hg20 (Nat.le_refl _) (by omega)
    have ho20 : OwnB w20 w.heap.size (.slice A20 (ls + mf) c20) (strm (fs ++ [frAt sz pd st i kind b])) := by
      rw [HF.out.2.1, strm_append]
      unfold OwnB
      rw [show strm [((⟨kind, f8 + f4, st, D, pv⟩ : Fr), pk)] = frB ⟨kind, f8 + f4, st, D, pv⟩ pk by simp [strm], List.length_append, H19.out.2.2.2.1, H19.out.2.2.2.2, bvs_append]
      exact hown20
    have hbn : b.length = nn := HH.out.1.blen
    have hlf : laidF sz pd st (nn + 1) i kind b = if nn ≤ sq then [frAt sz pd st i kind b] else frAt sz pd st i kind b :: laidF sz pd st nn (i + 1) 9 (b.drop sq) := by
      show (if b.length ≤ sizeAt sz (st + i) then _ else _) = _
      rw [HSQ.out, hbn]
    have H20 := Lib.hid (And.intro ho20 (And.intro hb20 (And.intro hlf hbn)))
    have hm := H9.out.2.2.2.2.1
    clear ho20 hb20 hlf hbn hown20 hg20
    cases la with
    | true =>
      have hnq : nn ≤ sq := by simpa using HLA.out
      have HE : Hid (LaidPost w (strm (laidL sz pd st block)) (.returned (.tuple #[.slice A20 (ls + mf) c20, .bool true])) w20) := Lib.hid (by
        have h1 := HH.out.2.2.1
        rw [H20.out.2.2.1, if_pos hnq] at h1
        rw [h1]
        exact ⟨_, rfl, H20.out.1, H20.out.2.1⟩)
      clear hm
      go_wp2
      go_ret2
      exact HE.out
    | false =>
      have hnq : ¬ nn ≤ sq := by simpa using HLA.out
      have hm2 : m = sq := by omega
      have HE : Hid (LaRel w sz pd block st (.slice A' (nn - m) (c - m)) (.slice A20 (ls + mf) c20) (.int .i64 9) (.int .i64 (i + 1 : Nat)) w20) := Lib.hid (by
        have h1 := HH.out.2.2.1
        have h2 := H20.out.2.2.2
        rw [H20.out.2.2.1, if_neg hnq, ← hm2] at h1
        refine ⟨i + 1, 9, nn - m, nn - m, c - m, A', b.drop m, fs ++ [frAt sz pd st i kind b], rfl, rfl, by omega, by omega, HH.out.1.from7 hmn hnc2 HF.out.2.2.1, H20.out.1, rfl, .inr rfl, rfl, by omega, ?_, H20.out.2.1, by rw [List.length_append, HH.out.2.2.2.2.1]; rfl, ?_⟩
        · rw [h1, List.append_assoc, List.singleton_append]
          congr 2
          exact laidF_more sz pd st _ _ _ _ _ (by rw [List.length_drop]; omega) (by rw [List.length_drop]; omega)
        · intro p hp
          rcases List.mem_append.1 hp with h | h
          · exact HH.out.2.2.2.2.2.1 p h
          · obtain rfl : p = frAt sz pd st i kind b := by simpa using h
            rw [HF.out.2.1]
            exact HF.out.1)
      have HM : Hid (LaMeas (.slice A' (nn - m) (c - m)) < LaMeas (.slice A nn c)) := Lib.hid (by
        show nn - m < nn
        omega)
      clear hm hm2
      go_wp2
      go_roundw
      case rel => exact HE.out
      case measure => exact HM.out
end Go.Proofs.Ytfpcamkimjecdaa

/- Blocks of the memory under labels: what a decoder, a feed and rows of one's own keep of one another. -/
namespace Go.Proofs.Ytfpcamkimjecdaa
open Go.RowKit

/-- 3: what stays; 4: the feed; 5: what it holds, and its items; 6: the block; 7: the lists; under 3: the rest. -/
def relab (L : Nat → Nat) (n m j k : Nat) : Nat := if k < n then L k else if k < m then j else 0
theorem relab_old {L : Nat → Nat} {n m j k : Nat} (h : k < n) : relab L n m j k = L k := by unfold relab; rw [if_pos h]
theorem relab_new {L : Nat → Nat} {n m j k : Nat} (h1 : n ≤ k) (h2 : k < m) : relab L n m j k = j := by unfold relab; rw [if_neg (by omega), if_pos h2]
theorem relab_of {L : Nat → Nat} {n m j k : Nat} (h : 3 ≤ relab L n m j k) : (k < n ∧ 3 ≤ L k) ∨ (n ≤ k ∧ k < m) := by
  unfold relab at h
  split at h
  · exact .inl ⟨by assumption, h⟩
  · split at h
    · exact .inr ⟨by omega, by assumption⟩
    · omega
def atL (A : Option Addr) (k : Nat) : Bool := match A with
  | some a => a.block == k
  | none => false
theorem atL_iff {A : Option Addr} {k : Nat} : atL A k = true ↔ atB A k := by
  unfold atL atB
  cases A with
  | none => simp
  | some a => simp
def declab (L : Nat → Nat) (n : Nat) (A : Option Addr) (k : Nat) : Nat := if k < n then L k else if atL A k then 3 else 0
theorem declab_old {L : Nat → Nat} {n k : Nat} {A : Option Addr} (h : k < n) : declab L n A k = L k := by unfold declab; rw [if_pos h]
theorem declab_new {L : Nat → Nat} {n : Nat} {A : Option Addr} {a : Addr} (h : A = some a) (h1 : n ≤ a.block) : declab L n A a.block = 3 := by
  unfold declab
  rw [if_neg (by omega), if_pos (atL_iff.2 ⟨a, h, rfl⟩)]
section
variable {W w w' : World} {e d : Nat} {G H : Nat → Prop} {N M : Nat} {mo li : Int} {E : Enc} {T : Tb} {L : Nat → Nat}
theorem Duo.lablt (h : Duo W w e d G H (fun k => 3 ≤ L k) N M mo li E T) {k : Nat} (hk : 3 ≤ L k) : k < w.heap.size := (h.nX k hk).2
theorem Duo.turn (h : Duo W w e d G H (fun k => 3 ≤ L k) N M mo li E T) (hk : Kept (fun b => 3 ≤ L b) w w') (j : Nat) : Duo W w' e d G H (fun k => 3 ≤ relab L w.heap.size w'.heap.size j k) N M mo li E T := by
  have hs := hk.size
  refine ⟨h.enc.keep fun k hk' => hk.block k (h.enc.lt k hk') (h.aGX k hk'), h.dec.keep fun k hk' => hk.block k (h.dec.lt k hk') (h.aHX k hk'), h.nG, h.nH, fun k hx => ?_, h.aGH, fun k hg hx => ?_, fun k hg hx => ?_, h.bel.trans (hk.below (fun k hk => (h.nX k hk).1) h.bel.size)⟩
  · have hb := h.bel.size
    rcases relab_of hx with ⟨h1, h2⟩ | ⟨h1, h2⟩
    · exact ⟨(h.nX k h2).1, by omega⟩
    · exact ⟨by omega, h2⟩
  · have hl := h.enc.lt k hg
    rw [relab_old hl] at hx
    exact h.aGX k hg hx
  · have hl := h.dec.lt k hg
    rw [relab_old hl] at hx
    exact h.aHX k hg hx
/-- Where labels are taken away. -/
theorem Duo.dlab {A : Option Addr} {n : Nat} (h : Duo W w' e d G H (fun k => 3 ≤ L k ∨ atB A k) N M mo li E T) : Duo W w' e d G H (fun k => 3 ≤ declab L n A k) N M mo li E T :=
  h.less fun k hk => by
    unfold declab at hk
    split at hk
    · exact .inl hk
    · split at hk
      · exact .inr (atL_iff.1 (by assumption))
      · omega
theorem own_lab {F : Nat → Prop} {B sz n j : Nat} {t : TypeId} {v : Value} {xs : List Value} (h : w.ownsRow B t sz v n xs) (hL : ∀ q, v.ownBlock = some q → L q = j) (hk : Kept F w w') (hF : ∀ b, F b → L b ≠ j) : w'.ownsRow B t sz v n xs :=
  own_kept4 h hk fun q hq e => hF q e (hL q hq)
theorem rd_lab {F : Nat → Prop} {sz n j : Nat} {A : Option Addr} {xs : List Value} (h : Rd w w.heap.size sz A n xs) (hL : ∀ a, A = some a → L a.block = j) (hk : Kept F w w') (hF : ∀ b, F b → L b ≠ j) : Rd w' w'.heap.size sz A n xs :=
  h.kept hk fun _ a ha e => hF _ e (hL a ha)
/-- Lists that were read, each a slice of fields. -/
def GotL (w : World) (L : Nat → Nat) : List Value → List (List Fd) → Prop
  | [], [] => True
  | v :: vs, l :: ls => (∃ A c, v = .slice A l.length c ∧ Rd w w.heap.size 3 A l.length (fds (l.map told)) ∧ ∀ a, A = some a → L a.block = 3) ∧ GotL w L vs ls
  | _, _ => False
theorem GotL.len : ∀ {vs : List Value} {ls : List (List Fd)}, GotL w L vs ls → vs.length = ls.length
  | [], [], _ => rfl
  | [], _ :: _, h => h.elim
  | _ :: _, [], h => h.elim
  | _ :: vs, _ :: ls, h => by simp only [List.length_cons]; rw [GotL.len h.2]
theorem GotL.keep {L' : Nat → Nat} {F : Nat → Prop} (hk : Kept F w w') (hF : ∀ b, F b → L b ≠ 3) (hL : ∀ b, L b = 3 → L' b = 3) : ∀ {vs : List Value} {ls : List (List Fd)}, GotL w L vs ls → GotL w' L' vs ls
  | [], [], _ => trivial
  | [], _ :: _, h => h.elim
  | _ :: _, [], h => h.elim
  | _ :: vs, _ :: ls, h => by
    obtain ⟨⟨A, c, hv, hr, ha⟩, h2⟩ := h
    exact ⟨⟨A, c, hv, rd_lab hr ha hk hF, fun a e => hL _ (ha a e)⟩, GotL.keep hk hF hL h2⟩
theorem GotL.snoc {A : Option Addr} {c : Nat} {l : List Fd} (hr : Rd w w.heap.size 3 A l.length (fds (l.map told))) (ha : ∀ a, A = some a → L a.block = 3) : ∀ {vs : List Value} {ls : List (List Fd)}, GotL w L vs ls → GotL w L (vs ++ [.slice A l.length c]) (ls ++ [l])
  | [], [], _ => ⟨⟨A, c, rfl, hr, ha⟩, trivial⟩
  | [], _ :: _, h => h.elim
  | _ :: _, [], h => h.elim
  | _ :: _, _ :: _, h => ⟨h.1, GotL.snoc hr ha h.2⟩
theorem GotL.get : ∀ {vs : List Value} {ls : List (List Fd)} {j : Nat} {l : List Fd}, GotL w L vs ls → ls[j]? = some l → ∃ A c, vs[j]? = some (.slice A l.length c) ∧ Rd w w.heap.size 3 A l.length (fds (l.map told))
  | [], [], _, _, _, h => by cases h
  | [], _ :: _, _, _, h, _ => h.elim
  | _ :: _, [], _, _, h, _ => h.elim
  | _ :: _, m :: _, 0, l, h, hl => by
    obtain rfl : m = l := by simpa using hl
    obtain ⟨⟨A, c, hv, hr, -⟩, -⟩ := h
    exact ⟨A, c, by rw [hv]; rfl, hr⟩
  | _ :: _, _ :: _, j + 1, _, h, hl => GotL.get h.2 (j := j) (by simpa using hl)
end
section
variable {w : World} {base : Nat} {v : Value} {n : Nat} {xs : List Value}
theorem app_str_own (ty : TypeId) (hown : w.ownsRow base 5 1 v n xs) (s : ByteArray) (hb : n + s.size ≤ 1099511627776) {v' : Value} {w' : World}
    (h : (Builtin.append_ #[23, 9] ty #[v, .string s]).run Try.prog w = .ok v' w') : v'.ownBlock = v.ownBlock ∨ v'.ownBlock = some w.heap.size := by
  obtain ⟨i, hi, hz, hsize, hby⟩ := info_parts (show (Try.prog.info? 5).map (fun i => (i.zero, i.size, i.bytes)) = some (some (.int .u8 0), 1, 1) by kernel_rfl)
  have ht := Try.underlying23
  have hu := Try.underlying9
  rcases hown.2 with ⟨rfl, rfl⟩ | ⟨g, cap, cur, rfl, hbg, hg, hnc, hcm, hcs, htake⟩
  · by_cases hm : s.size = 0
    · have hf := Lib.run_firstCells_string (P := Try.prog) w 1 s
      rw [hm] at hf
      have e : (Builtin.append_ #[23, 9] ty #[.slice none 0 0, .string s]).run Try.prog w = .ok (.slice none 0 0) w := by
        simp [Builtin.append_, run_underlying ht, run_underlying hu, sizeOf, typeInfo, hi, hsize, Builtin.lenOf, hm, hf]
      rw [e] at h
      injection h with h1 h2
      subst h1
      exact .inl rfl
    · have e := run_append_nil_string (P := Try.prog) w 23 9 ty 5 i (.int .u8 0) ht hu hi hz s (by omega) (by omega) (by rw [hby]; omega)
      rw [e] at h
      injection h with h1 h2
      subst h1
      exact .inr rfl
  · by_cases hroom : n + s.size ≤ cap
    · have hcs' : cur.size = cap := by simpa using hcs
      have e := Lib.run_append_room_string (P := Try.prog) w 23 9 ty 5 i ht hu hi hsize g n cap cur hg s hroom (by omega)
      rw [e] at h
      injection h with h1 h2
      subst h1
      exact .inl rfl
    · have hxl : xs.length = n := by simpa using hown.1
      have holds : ∀ j u, xs[j]? = some u → w.cell? ((⟨g, 0, none⟩ : Addr).add j) = some u := hown.cells (g := g) rfl
      have e := Lib.run_append_grow_string (P := Try.prog) w 23 9 ty 5 i (.int .u8 0) ht hu hi hz ⟨g, 0, none⟩ n cap xs (by rw [hsize]; simpa using hxl) holds s (by omega) (by omega) (by rw [hby]; exact growslice_fits (by omega) (by omega))
      rw [e] at h
      injection h with h1 h2
      subst h1
      exact .inr rfl
theorem wpList_app_stro {ops : Array Oper} {rest : List Oper} {o : Oper} {a : Act} {Q : Exit → Act → World → Prop} (sl x : Operand) (hgd : o.guard = none)
    (ho : o.op = .call { callee := .builtin .append, args := #[sl, x], argTypes := #[23, 9] }) (hs : a.eval sl = v) (hown : w.ownsRow base 5 1 v n xs) (s : ByteArray) (hx : a.eval x = .string s)
    (hb : n + s.size ≤ 1099511627776) (hbase : base ≤ w.heap.size)
    (h : ∀ v' w', w'.ownsRow base 5 1 v' (n + s.size) (xs ++ bvs s.data.toList) → w.grownBy w' v.ownBlock → (v'.ownBlock = v.ownBlock ∨ v'.ownBlock = some w.heap.size) → wpList Try.prog ops Q rest (a.put o.dst v') w') : wpList Try.prog ops Q (o :: rest) a w := by
  refine wpList_plain hgd fun K hK => ?_
  obtain ⟨v', w', hr, h2, h3⟩ := run_app_str o.type hown s hb hbase
  have h4 := app_str_own o.type hown s hb hr
  unfold Oper.wp execOp
  simp only [ho, resolve, invoke, builtin, Sem.run_bind, Sem.run_pure, Result.andThen_ok, List.map_toArray, List.map_cons, List.map_nil, hs, hx, hr]
  exact hK _ _ (h v' w' h2 h3 h4)
end
theorem tLists : SlT Try.prog 22 26 (.slice none 0 0) 1 24 :=
  ⟨Try.underlying22, by kernel_rfl, rfl, by decide⟩
end Go.Proofs.Ytfpcamkimjecdaa

/- What drawbridgetop.read has read, and how its steps turn that. -/
namespace Go.Proofs.Ytfpcamkimjecdaa
open Go.RowKit

/-- The lists so far, and the block so far. -/
structure RdD (W : World) (e d : Nat) (G : Nat → Prop) (N : Nat) (E : Enc) (T' : Tb) (ls : List (List Fd)) (w : World) (L : Nat → Nat) (gv bv : Value) (H : Nat → Prop) (M j : Nat) (cur : List UInt8) (bs : List (List UInt8)) (T1 : Tb) (vs : List Value) : Prop where
  duo : Duo W w e d G H (fun k => 3 ≤ L k) N M 4096 1073741824 E T1
  blk : OwnB w 0 bv cur
  blkL : ∀ q, bv.ownBlock = some q → L q = 6
  got : w.ownsRow 0 26 1 gv j vs
  gotL : ∀ q, gv.ownBlock = some q → L q = 7
  lists : GotL w L vs (ls.take j)
  dec : Decs 4096 1073741824 T1 bs (ls.drop j) T'
  mm : M + bs.length * 1048576 ≤ 1099511627776
  jl : j ≤ ls.length
/-- The feed, its items, and the bytes to come. -/
structure RdO (w : World) (L : Nat → Nat) (x : Nat) (v : Value) (r : List UInt8) (AV : Option Addr) (nv : Nat) (its : List Value) (Ad : Option Addr) (n : Nat) (rest : List UInt8) : Prop where
  feed : FeedAt w x 16384 v
  fx : L x = 4
  own : OwnB w (x + 1) v r
  ownL : ∀ q, v.ownBlock = some q → L q = 5
  itr : Rd w w.heap.size 15 AV nv its
  itL : ∀ a, AV = some a → L a.block = 5
  alr : Rd w w.heap.size 1 Ad n (bvs rest)
  alL : ∀ a, Ad = some a → L a.block = 3
section
variable {W w w' : World} {e d : Nat} {G H : Nat → Prop} {N : Nat} {E : Enc} {T' : Tb} {ls : List (List Fd)} {L : Nat → Nat} {gv bv : Value} {M j : Nat} {cur : List UInt8} {bs : List (List UInt8)} {T1 : Tb} {vs : List Value}
  {x : Nat} {v : Value} {r : List UInt8} {AV : Option Addr} {nv : Nat} {its : List Value} {Ad : Option Addr} {n : Nat} {rest : List UInt8}
theorem RdO.keep {L' : Nat → Nat} {F : Nat → Prop} (h : RdO w L x v r AV nv its Ad n rest) (hk : Kept F w w') (hF : ∀ b, F b → L b ≠ 3 ∧ L b ≠ 4 ∧ L b ≠ 5) (hL : ∀ b, b < w.heap.size → L' b = L b) (hl : ∀ b, 3 ≤ L b → b < w.heap.size) : RdO w' L' x v r AV nv its Ad n rest := by
  have hx : x < w.heap.size := h.feed.lt
  refine ⟨h.feed.keep (hk.block x hx (fun e => (hF x e).2.1 h.fx)), (hL x hx).trans h.fx, own_lab h.own h.ownL hk (fun b e => (hF b e).2.2), fun q hq => (hL q (World.ownsRow.lt h.own q hq).2).trans (h.ownL q hq), rd_lab h.itr h.itL hk (fun b e => (hF b e).2.2), fun a ha => (hL _ (hl _ (by rw [h.itL a ha]; omega))).trans (h.itL a ha), rd_lab h.alr h.alL hk (fun b e => (hF b e).1), fun a ha => (hL _ (hl _ (by rw [h.alL a ha]; omega))).trans (h.alL a ha)⟩
/-- The feed has turned. -/
theorem RdD.fed (h : RdD W e d G N E T' ls w L gv bv H M j cur bs T1 vs) (hk : Kept (fun b => L b = 4 ∨ L b = 5) w w') : RdD W e d G N E T' ls w' (relab L w.heap.size w'.heap.size 5) gv bv H M j cur bs T1 vs := by
  have hl : ∀ b, 3 ≤ L b → b < w.heap.size := fun b hb => h.duo.lablt hb
  refine { duo := h.duo.turn (hk.mono (fun b e => by omega)) 5, blk := own_lab h.blk h.blkL hk (fun b e => by omega), blkL := fun q hq => ?_, got := own_lab h.got h.gotL hk (fun b e => by omega), gotL := fun q hq => ?_, lists := h.lists.keep hk (fun b e => by omega) (fun b e => ?_), dec := h.dec, mm := h.mm, jl := h.jl }
  · rw [relab_old (hl q (by rw [h.blkL q hq]; omega))]; exact h.blkL q hq
  · rw [relab_old (hl q (by rw [h.gotL q hq]; omega))]; exact h.gotL q hq
  · rw [relab_old (hl b (by omega))]; exact e
/-- The block has more. -/
theorem RdD.more (h : RdD W e d G N E T' ls w L gv bv H M j cur bs T1 vs) {bv' : Value} {l : List UInt8} (hown : OwnB w' 0 bv' (cur ++ l)) (hg : w.grownBy w' bv.ownBlock) (ho : bv'.ownBlock = bv.ownBlock ∨ bv'.ownBlock = some w.heap.size) : RdD W e d G N E T' ls w' (relab L w.heap.size w'.heap.size 6) gv bv' H M j (cur ++ l) bs T1 vs ∧ Kept (fun b => L b = 6) w w' := by
  have hl : ∀ b, 3 ≤ L b → b < w.heap.size := fun b hb => h.duo.lablt hb
  have hk : Kept (fun b => L b = 6) w w' := (Kept.refl _ w).grown hg (fun q hq => .inl (h.blkL q hq))
  refine ⟨{ duo := h.duo.turn (hk.mono (fun b e => by omega)) 6, blk := hown, blkL := fun q hq => ?_, got := own_lab h.got h.gotL hk (fun b e => by omega), gotL := fun q hq => ?_, lists := h.lists.keep hk (fun b e => by omega) (fun b e => ?_), dec := h.dec, mm := h.mm, jl := h.jl }, hk⟩
  · rcases ho with ho | ho
    · rw [hq] at ho
      have h1 := h.blkL q ho.symm
      rw [relab_old (hl q (by omega))]; exact h1
    · rw [hq] at ho
      injection ho with ho
      exact relab_new (by omega) (World.ownsRow.lt hown q hq).2
  · rw [relab_old (hl q (by rw [h.gotL q hq]; omega))]; exact h.gotL q hq
  · rw [relab_old (hl b (by omega))]; exact e
/-- One more list: the decoder has read the block, and it was appended. -/
theorem RdD.next (h : RdD W e d G N E T' ls w L gv bv H M j cur bs T1 vs) {b : List UInt8} {bs' : List (List UInt8)} {l : List Fd} {ls' : List (List Fd)} {T2 : Tb} (hbs : bs = b :: bs') (hls : ls.drop j = l :: ls') (hb : b.length ≤ 1048576) (hdec : Decs 4096 1073741824 T2 bs' ls' T')
    {A : Option Addr} {c : Nat} {H' : Nat → Prop} {w1 w2 w3 : World} (hr : Rd w1 w1.heap.size 3 A (l.map told).length (fds (l.map told))) (hd : Duo W w1 e d G H' (fun k => 3 ≤ L k ∨ atB A k) N (M + b.length) 4096 1073741824 E T2) (hk : Kept H w w1) (hA : ∀ a, A = some a → w.heap.size ≤ a.block)
    (h12 : Below w1.heap.size w1 w2) {gv' : Value} (hown : w3.ownsRow 0 26 1 gv' (j + 1) (vs ++ [.slice A (l.map told).length c])) (hg : w2.grownBy w3 gv.ownBlock) (ho : gv'.ownBlock = gv.ownBlock ∨ gv'.ownBlock = some w2.heap.size) :
    ∃ L', RdD W e d G N E T' ls w3 L' gv' (.slice none 0 0) H' (M + b.length) (j + 1) [] bs' T2 (vs ++ [.slice A (l.map told).length c]) ∧ Kept (fun b => H b ∨ L b = 7) w w3 ∧ (∀ b, b < w.heap.size → L' b = L b) := by
  have hl : ∀ b, 3 ≤ L b → b < w.heap.size := fun b hb => h.duo.lablt hb
  have hH : ∀ b, H b → ¬ 3 ≤ L b := h.duo.aHX
  have hs1 := hk.size
  have hs2 := h12.size
  have hs3 := hg.size
  obtain ⟨L1, hL1⟩ : ∃ L1, declab L w.heap.size A = L1 := ⟨_, rfl⟩
  have hd1 : Duo W w1 e d G H' (fun k => 3 ≤ L1 k) N (M + b.length) 4096 1073741824 E T2 := by rw [← hL1]; exact hd.dlab
  have e1 : ∀ b, b < w.heap.size → L1 b = L b := fun b hb => by rw [← hL1]; exact declab_old hb
  have hl1 : ∀ b, 3 ≤ L1 b → b < w1.heap.size := fun b hb => hd1.lablt hb
  have hgL1 : ∀ q, gv.ownBlock = some q → L1 q = 7 := fun q hq => (e1 q (World.ownsRow.lt h.got q hq).2).trans (h.gotL q hq)
  have hk13 : Kept (fun b => L1 b = 7) w1 w3 := (Kept.of_below h12).grown hg (fun q hq => .inl (hgL1 q hq))
  have hlt : ∀ a, A = some a → L1 a.block = 3 := fun a ha => by rw [← hL1]; exact declab_new ha (hA a ha)
  have hlk : ls[j]? = some l := by rw [← List.head?_drop, hls]; rfl
  have g1 : GotL w1 L1 vs (ls.take j) := h.lists.keep hk (fun b e => by have := hH b e; omega) (fun b e => (e1 b (hl b (by omega))).trans e)
  have g2 : GotL w1 L1 (vs ++ [.slice A (l.map told).length c]) (ls.take (j + 1)) := by
    rw [List.take_add_one, hlk]
    rw [List.length_map] at hr ⊢
    exact g1.snoc hr hlt
  have hj : j < ls.length := (List.getElem?_eq_some_iff.1 hlk).1
  refine ⟨relab L1 w1.heap.size w3.heap.size 7, { duo := hd1.turn (hk13.mono (fun b e => by omega)) 7, blk := ⟨rfl, .inl ⟨rfl, rfl⟩⟩, blkL := fun q hq => by simp [Value.ownBlock] at hq, got := hown, gotL := fun q hq => ?_, lists := g2.keep hk13 (fun b e => by omega) (fun b e => (relab_old (hl1 b (by omega))).trans e), dec := ?_, mm := ?_, jl := hj }, ?_, fun b hb => ?_⟩
  · rcases ho with ho | ho
    · rw [hq] at ho
      have h1 := hgL1 q ho.symm
      rw [relab_old (hl1 q (by omega))]; exact h1
    · rw [hq] at ho
      injection ho with ho
      exact relab_new (by omega) (World.ownsRow.lt hown q hq).2
  · have e2 : ls.drop (j + 1) = ls' := by rw [← List.tail_drop, hls]; rfl
    rw [e2]
    exact hdec
  · have := h.mm
    rw [hbs, List.length_cons] at this
    omega
  · exact (hk.mono (fun b e => .inl e)).trans hk13 (fun b e => by
      rcases Nat.lt_or_ge b w.heap.size with hb | hb
      · exact .inl (.inr (by rw [← e1 b hb]; exact e))
      · exact .inr hb)
  · rw [relab_old (by omega)]
    exact e1 b hb
end
end Go.Proofs.Ytfpcamkimjecdaa

/- The walk of drawbridgetop.read. -/
namespace Go.Proofs.Ytfpcamkimjecdaa
open Go.RowKit

def ReadPost (W : World) (e d : Nat) (G : Nat → Prop) (N : Nat) (E : Enc) (T' : Tb) (ls : List (List Fd)) (ev : Ending) (w' : World) : Prop :=
  ∃ (Ag : Option Addr) (cg : Nat) (vs : List Value) (H' : Nat → Prop) (L' : Nat → Nat) (M' : Nat), ev = .returned (.tuple #[.slice Ag ls.length cg, .bool true]) ∧ Duo W w' e d G H' (fun k => 3 ≤ L' k) N M' 4096 1073741824 E T' ∧ Rd w' w'.heap.size 1 Ag ls.length vs ∧ GotL w' L' vs ls
/-- At the outer loop's head. -/
def RdRel (W : World) (e d : Nat) (G : Nat → Prop) (N : Nat) (E : Enc) (T' : Tb) (ls : List (List Fd)) (x : Nat) (Fsq : List (Fr × Bool)) (av gv bv : Value) (wr : World) : Prop :=
  ∃ (k n c : Nat) (Ad : Option Addr) (r rest cur : List UInt8) (v : Value) (L : Nat → Nat) (H : Nat → Prop) (M j : Nat) (bs : List (List UInt8)) (T1 : Tb) (vs : List Value),
    av = .slice Ad n c ∧ n ≤ c ∧ c ≤ maxLen ∧ k ≤ Fsq.length ∧ strm (Fsq.drop k) = r ++ rest ∧ (∀ p, Fsq[k]? = some p → r.length < 9 + (payL p.1 p.2).length) ∧ RdO wr L x v r none 0 [] Ad n rest ∧ RdD W e d G N E T' ls wr L gv bv H M j cur bs T1 vs ∧ Fin (Fsq.drop k) bs cur
def RdMeas (av : Value) : Nat := match av with
  | .slice _ n _ => n
  | _ => 0
/-- At the inner loop's head: i items were gone through. -/
def RiRel (W : World) (e d : Nat) (G : Nat → Prop) (N : Nat) (E : Enc) (T' : Tb) (ls : List (List Fd)) (x : Nat) (fs : List (Fr × Bool)) (v : Value) (r : List UInt8) (AV : Option Addr) (k : Nat) (Ad : Option Addr) (n : Nat) (rest : List UInt8) (gv bv iv : Value) (wr : World) : Prop :=
  ∃ (i : Nat) (cur : List UInt8) (L : Nat → Nat) (H : Nat → Prop) (M j : Nat) (bs : List (List UInt8)) (T1 : Tb) (vs : List Value),
    iv = .int .i64 i ∧ i ≤ k ∧ RdO wr L x v r AV k (itsL (fs.take k)) Ad n rest ∧ RdD W e d G N E T' ls wr L gv bv H M j cur bs T1 vs ∧ Fin (fs.drop i) bs cur
theorem from_blk {A A' : Option Addr} {c s : Nat} (hA : A' = (if c = s then A else A.map (·.add s))) {a : Addr} (h : A' = some a) : ∃ a0, A = some a0 ∧ a0.block = a.block := by
  subst hA
  split at h
  · exact ⟨a, h, rfl⟩
  · cases A with
    | none => cases h
    | some a0 =>
      injection h with h
      subst h
      refine ⟨a0, rfl, ?_⟩
      unfold Addr.add
      split <;> rfl
/-- Where no byte is left no frame is. -/
theorem none_left {Fsq : List (Fr × Bool)} {k : Nat} {r : List UInt8} (hstr : strm (Fsq.drop k) = r) (hsh : ∀ p, Fsq[k]? = some p → r.length < 9 + (payL p.1 p.2).length) : Fsq.drop k = [] ∧ r = [] := by
  rcases hdr : Fsq.drop k with _ | ⟨p, fs⟩
  · rw [hdr] at hstr
    exact ⟨rfl, hstr.symm⟩
  · exfalso
    have hk : Fsq[k]? = some p := by rw [← List.head?_drop, hdr]; rfl
    have h1 := hsh p hk
    rw [hdr, strm_cons] at hstr
    have h2 := congrArg List.length hstr
    rw [List.length_append, frB_length] at h2
    omega
theorem strm_left {Fsq : List (Fr × Bool)} {k k2 s : Nat} {r r2 rest : List UInt8} (hstr : strm (Fsq.drop k) = r ++ rest) (h : r ++ rest.take s = strm ((Fsq.drop k).take k2) ++ r2) : strm (Fsq.drop (k + k2)) = r2 ++ rest.drop s := by
  have h1 : strm (Fsq.drop k) = strm ((Fsq.drop k).take k2) ++ strm (Fsq.drop (k + k2)) := by rw [← strm_append, ← List.drop_drop, List.take_append_drop]
  rw [hstr, ← List.take_append_drop s rest, ← List.append_assoc, h, List.append_assoc] at h1
  exact (List.append_cancel_left h1).symm
set_option maxRecDepth 100000 in
set_option maxHeartbeats 16000000 in
theorem read_any {W w : World} {e d : Nat} {G H : Nat → Prop} {N M : Nat} {E : Enc} {T T' : Tb} {L : Nat → Nat} {na ca ns cs : Nat} {Aa As : Option Addr} {sz : List UInt8} {Fsq : List (Fr × Bool)} {bs : List (List UInt8)} {ls : List (List Fd)}
    (hd : Duo W w e d G H (fun k => 3 ≤ L k) N M 4096 1073741824 E T) (ha : Rd w w.heap.size 1 Aa na (bvs (strm Fsq))) (hal : ∀ a, Aa = some a → L a.block = 3) (hnc : na ≤ ca) (hcm : ca ≤ maxLen) (hna : na ≤ 1099511627776)
    (hs : Rd W W.heap.size 1 As ns (bvs sz)) (hsn : ns ≤ 140737488351232) (hg : ∀ p ∈ Fsq, Good 16384 p) (hfl : Fsq.length ≤ 1048576) (hfin : Fin Fsq bs []) (hdec : Decs 4096 1073741824 T bs ls T') (hM : M + bs.length * 1048576 ≤ 1099511627776) :
    Calls Try.prog 11 #[.slice Aa na ca, .pointer (some ⟨d, 0, none⟩), .slice As ns cs] w (ReadPost W e d G N E T' ls) := by
  have HN := Lib.hid (newfeed_any 16384 w (by omega) (by omega))
  have HS := Lib.hid hs
  have HG := Lib.hid hg
  have hal2 := ha.blen
  have H0 := Lib.hid (And.intro hd (And.intro ha (And.intro hal (And.intro hfin (And.intro hdec (And.intro hM hal2))))))
  clear hd ha hal hfin hdec hs hg hal2 hM
  go_enter Try.func11, Try.ntmps11
  go_wp2_with fail
  refine HN.out.mono ?_
  rintro e1 w1 ⟨rfl, hf1, hb1⟩
  obtain ⟨x, hx⟩ : ∃ x, w.heap.size = x := ⟨_, rfl⟩
  rw [hx] at hf1 ⊢
  have h0 : RdRel W e d G N E T' ls x Fsq (.slice Aa na ca) (.slice none 0 0) (.slice none 0 0) w1 := by
    obtain ⟨hd, ha, hal, hfin, hdec, hM, hl⟩ := H0.out
    have hk : Kept (fun b => 3 ≤ L b) w w1 := Kept.of_below hb1
    have hxl := hf1.lt
    refine ⟨0, na, ca, Aa, [], strm Fsq, [], .slice none 0 0, relab L w.heap.size w1.heap.size 4, H, M, 0, bs, T, [], rfl, hnc, hcm, Nat.zero_le _, rfl, fun p _ => by simp; omega, ?_, ?_, hfin⟩
    · exact ⟨hf1, relab_new (by omega) hxl, ⟨rfl, .inl ⟨rfl, rfl⟩⟩, fun q hq => by simp [Value.ownBlock] at hq, Rd.none_ _ _ _ _, (fun a h => by cases h), (ha.below hb1 (Nat.le_refl _)).more hb1.size, fun a h => by rw [relab_old (hd.lablt (by rw [hal a h]; omega))]; exact hal a h⟩
    · exact ⟨hd.turn hk 4, ⟨rfl, .inl ⟨rfl, rfl⟩⟩, fun q hq => by simp [Value.ownBlock] at hq, ⟨rfl, .inl ⟨rfl, rfl⟩⟩, fun q hq => by simp [Value.ownBlock] at hq, trivial, hdec, hM, Nat.zero_le _⟩
  have H1 := Lib.hid h0
  clear h0 hf1 hb1 HN
  go_wp2_with fail
  go_loopw [0, 9, 10] (fun av gv bv wr => RdRel W e d G N E T' ls x Fsq av gv bv wr) (fun av _ _ _ => RdMeas av)
  case atStart => exact H1.out
  case round =>
    obtain ⟨k, n, c, Ad, r, rest, cur, v, L0, H2, M2, j, bs2, T1, vs, rfl, hnc2, hcm2, hk, hstr, hshort, hO, hD, hF⟩ := hrel
    have hrl := hO.alr.blen
    have hlen : r.length + n ≤ 1099511627776 := by
      have h1 := congrArg List.length hstr
      have h2 : (strm (Fsq.drop k)).length ≤ (strm Fsq).length := by
        have := congrArg List.length (show strm Fsq = strm (Fsq.take k) ++ strm (Fsq.drop k) by rw [← strm_append, List.take_append_drop])
        rw [List.length_append] at this
        omega
      have h3 := H0.out.2.2.2.2.2.2
      rw [List.length_append] at h1
      omega
    by_cases hn0 : 0 < n
    · have n1 : (0 : Int) < n := by omega
      have hr2 := hD.duo.bel
      have hx2 := hO.feed.lt
      have HR := Lib.hid (And.intro hstr (And.intro hshort (And.intro hO (And.intro hD (And.intro hF (And.intro hrl hr2))))))
      clear hstr hshort hO hD hF hrl hr2
      go_upto_if 25 with fail
      go_cut [11] (fun y wx => ∃ s : Nat, y = .int .i64 s ∧ 1 ≤ s ∧ s ≤ n ∧ wx = wr)
      case first =>
        by_cases h0 : ns = 0
        · subst h0
          go_wp2
          go_meet
          exact ⟨min 7 n, by congr 1; omega, by omega, by omega, rfl⟩
        · obtain ⟨hsl, b', o', rfl, -, hc⟩ := (HS.out.below HR.out.2.2.2.2.2.2 (Nat.le_refl _)).bas (by omega)
          obtain ⟨q, hq⟩ : ∃ q, n % ns = q := ⟨_, rfl⟩
          have hqn : q < ns := by rw [← hq]; exact Nat.mod_lt _ (by omega)
          have z := hc q hqn
          have hv := ba_lt sz q
          have hqi : (n : Int) % (ns : Int) = (q : Int) := by rw [← hq]; simp
          have n0 : (0 : Int) < ns := by omega
          obtain ⟨u, hv2⟩ : ∃ u, ba sz q = u := ⟨_, rfl⟩
          rw [hv2] at z hv
          clear hc hq hsl hv2
          go_wp2
          go_meet
          exact ⟨min (1 + u) n, by congr 1; omega, by omega, by omega, rfl⟩
      case rest =>
      obtain ⟨s, rfl, hs1, hsn2, hwc⟩ := hcut
      subst hwc
      obtain ⟨hstr, hshort, hO, hD, hF, hrl, hr2⟩ := HR.out
      have hsu := slice_upto Ad n c s (by omega)
      obtain ⟨A', hA', hsf⟩ := slice_from7 Ad n c s hsn2
      have hrt : Rd wc wc.heap.size 1 Ad s (bvs (rest.take s)) := by
        have := hO.alr.pre hsn2
        rw [Nat.mul_one] at this
        unfold bvs at this ⊢
        rwa [List.map_take]
      have HT := Lib.hid (fdtake_any (cap := c) (Fsq.drop k) wc (by omega) (fun p hp => HG.out p (List.mem_of_mem_drop hp)) hO.feed hO.own (Nat.lt_succ_self x) hx2 hrt (fun _ a ha => by
        have h3 := hO.alL a ha
        refine ⟨fun e => ?_, fun e => ?_⟩
        · have := hO.fx; rw [e] at h3; omega
        · have := hO.ownL _ e; omega) (by rw [hstr]; exact ⟨rest.drop s, by rw [List.append_assoc, List.take_append_drop]⟩) (by rw [List.length_take]; omega) (by rw [List.length_drop]; omega))
      have HA := Lib.hid hA'
      clear hstr hshort hO hD hF hrl hr2 hrt hA'
      go_upto_region 9 with fail
      go_wp2_with fail
      refine HT.out.mono ?_
      rintro e5 w5 ⟨k2, r2, V, v2, rfl, hk2, hL2, hpre2, hsh2, hrow, hown2, hf2, hkp⟩
      obtain ⟨AV, cV, rfl, -, -, hrV, -⟩ := own_slice hrow
      have hatV := own_at hrow
      have h0 : RdO w5 (relab L0 wc.heap.size w5.heap.size 5) x v2 r2 AV k2 (itsL ((Fsq.drop k).take k2)) A' (n - s) (rest.drop s) ∧ RdD W e d G N E T' ls w5 (relab L0 wc.heap.size w5.heap.size 5) u9 u10 H2 M2 j cur bs2 T1 vs := by
        obtain ⟨hstr, hshort, hO, hD, hF, hrl, hr2⟩ := HR.out
        have hkk : Kept (fun b => L0 b = 4 ∨ L0 b = 5) wc w5 := hkp.mono (fun b e => by
          rcases e with e | e
          · left; rw [e]; exact hO.fx
          · right; exact hO.ownL b e)
        have hl : ∀ b, 3 ≤ L0 b → b < wc.heap.size := fun b hb => hD.duo.lablt hb
        refine ⟨⟨hf2, (relab_old hx2).trans hO.fx, own_base hown2 (by omega), fun q hq => ?_, hrV, fun a ha => relab_new (hatV a ha).1 (hatV a ha).2, ?_, fun a ha => ?_⟩, hD.fed hkk⟩
        · have := World.ownsRow.lt hown2 q hq
          exact relab_new this.1 this.2
        · exact (rd_lab hO.alr hO.alL hkk (fun b e => by omega)).from7 hsn2 hnc2 HA.out
        · obtain ⟨a0, h1, h2⟩ := from_blk HA.out ha
          have h3 := hO.alL a0 h1
          rw [h2] at h3
          rw [relab_old (hl _ (by omega))]
          exact h3
      have HK := Lib.hid (And.intro hL2 hsh2)
      have HI := Lib.hid h0
      have hfd : (Fsq.drop k).length ≤ 1048576 := by rw [List.length_drop]; omega
      have hk2i : k2 ≤ 1048576 := by omega
      clear hrow hatV hrV hown2 hf2 hkp h0 hL2 hsh2 hpre2 HT
      go_wp2_with fail
      go_loopw [9, 10, 13] (fun gv bv iv wr => RiRel W e d G N E T' ls x (Fsq.drop k) v2 r2 AV k2 A' (n - s) (rest.drop s) gv bv iv wr) (fun _ _ iv _ => k2 - (intOf iv).toNat)
      case atStart => exact ⟨0, cur, _, H2, M2, j, bs2, T1, vs, rfl, Nat.zero_le _, HI.out.1, HI.out.2, HR.out.2.2.2.2.1⟩
      case round =>
        obtain ⟨i, cur3, L3, H3, M3, j3, bs3, T3, vs3, rfl, hik, hO3, hD3, hF3⟩ := hrel
        by_cases hlt : i < k2
        · have i1 : (i : Int) < k2 := by omega
          obtain ⟨hlk, b, o, rfl, hb, hc⟩ := it_at hO3.itr (by omega)
          obtain ⟨p, hp⟩ : ∃ p, (Fsq.drop k)[i]? = some p := ⟨_, List.getElem?_eq_getElem (by omega)⟩
          have hpt : ((Fsq.drop k).take k2)[i]? = some p := by rw [List.getElem?_take, if_pos hlt]; exact hp
          have y1 : wr.cell? ⟨b, o + i * 15 + 1, none⟩ = some (.int .i64 (p.1.fl : Nat)) := hc i p hpt 1 (by omega)
          have y3 : wr.cell? ⟨b, o + i * 15 + 3, none⟩ = some (.string p.1.data) := hc i p hpt 3 (by omega)
          have y12 : wr.cell? ⟨b, o + i * 15 + 12, none⟩ = some (.bool false) := hc i p hpt 12 (by omega)
          have hdr : (Fsq.drop k).drop i = p :: (Fsq.drop k).drop (i + 1) := by
            obtain ⟨h1, h2⟩ := List.getElem?_eq_some_iff.1 hp
            rw [List.drop_eq_getElem_cons h1, h2]
          rw [hdr] at hF3
          have hbL := hO3.itL _ rfl
          have HP := Lib.hid (And.intro hO3 (And.intro hD3 (And.intro hF3 (And.intro hbL hp))))
          have hcl : cur3.length + p.1.data.size ≤ 1048576 := by
            have hds : p.1.data.data.toList.length = p.1.data.size := by simp
            have hF3' := hF3
            have hde := hD3.dec
            unfold Fin at hF3'
            split at hF3'
            · obtain ⟨bb, bs', e1, e2, -⟩ := hF3'
              rw [e1] at hde
              obtain ⟨_, _, _, _, h3, _⟩ := hde
              rw [← e2, List.length_append] at h3
              omega
            · obtain ⟨e1, e2⟩ := hF3'
              cases bs3 with
              | nil => exact absurd rfl e1
              | cons bb bs' =>
                obtain ⟨_, _, _, _, h3, _⟩ := hde
                have := e2.le
                rw [List.length_append] at this
                omega
          have hpl : p.1.fl ≤ 255 := by have := (HG.out p (List.mem_of_mem_drop (List.mem_of_getElem? hp))).ok.fl; omega
          obtain ⟨fl, hfl2⟩ : ∃ fl, p.1.fl = fl := ⟨_, rfl⟩
          obtain ⟨da, hda⟩ : ∃ da, p.1.data = da := ⟨_, rfl⟩
          rw [hfl2] at y1 hpl
          rw [hda] at y3 hcl
          have HFD := Lib.hid (And.intro hfl2 hda)
          clear hO3 hD3 hF3 hc hp hpt hdr hbL hlk hfl2 hda
          go_wp2_with (at_builtin; refine of_stop ?_)
          unfold Stop
          have hblk := HP.out.2.1.blk
          unfold OwnB at hblk
          refine wpList_app_stro (.tmp 59) (.tmp 65) rfl rfl rfl hblk da rfl (by omega) (Nat.zero_le _) ?_
          intro v6 w6 hown6 hg6 ho6
          obtain ⟨A6, c6, rfl, hnc6, hcm6, hr6, -⟩ := own_slice hown6
          have hl3 : ∀ b, 3 ≤ L3 b → b < wr.heap.size := fun b hb => HP.out.2.1.duo.lablt hb
          have hown6' : OwnB w6 0 (.slice A6 (cur3.length + da.size) c6) (cur3 ++ da.data.toList) := by
            unfold OwnB
            rw [List.length_append, show da.data.toList.length = da.size by simp, bvs_append]
            exact hown6
          obtain ⟨hD6, hk6⟩ := HP.out.2.1.more hown6' hg6 ho6
          have hO6 := HP.out.1.keep (L' := relab L3 wr.heap.size w6.heap.size 6) hk6 (fun b e => by omega) (fun b hb => relab_old hb) hl3
          have y1' : w6.cell? ⟨b, o + i * 15 + 1, none⟩ = some (.int .i64 (fl : Nat)) := (hk6.cell hb (fun e => by have := HP.out.2.2.2.1; omega) _).trans y1
          have hrd6 : Rd w6 w6.heap.size 1 A6 (cur3.length + da.size) (bvs (cur3 ++ da.data.toList)) := by rw [bvs_append]; exact hr6
          obtain ⟨nb, hnb⟩ : ∃ nb, cur3.length + da.size = nb := ⟨_, rfl⟩
          rw [hnb] at hD6 hrd6 hnc6 hcl ⊢
          obtain ⟨L6, hL6⟩ : ∃ L6, relab L3 wr.heap.size w6.heap.size 6 = L6 := ⟨_, rfl⟩
          rw [hL6] at hD6 hO6
          have H6 := Lib.hid (And.intro hD6 (And.intro hO6 (And.intro hrd6 hnb)))
          clear hown6 hown6' hg6 ho6 hk6 hD6 hO6 hr6 hrd6 hnb hL6 hblk y1 y3 y12
          by_cases hlast : fl / 4 % 2 = 1
          · have e1 : ((fl : Int) / 4 % 2 == 1) = true := by rw [beq_iff_eq]; omega
            obtain ⟨bb, bs', hbs, hbb, hFn⟩ : ∃ bb bs', bs3 = bb :: bs' ∧ cur3 ++ da.data.toList = bb ∧ Fin ((Fsq.drop k).drop (i + 1)) bs' [] := by
              have h1 := HP.out.2.2.1
              unfold Fin at h1
              rw [HFD.out.1, HFD.out.2, if_pos hlast] at h1
              exact h1
            subst hbs hbb
            obtain ⟨l, ls', T2, hls, hbl, hout, hdec2⟩ := H6.out.1.dec
            have hbl2 : (cur3 ++ da.data.toList).length = nb := by rw [List.length_append, show da.data.toList.length = da.size by simp]; exact H6.out.2.2.2
            have hmm := H6.out.1.mm
            simp only [List.length_cons] at hmm
            have HDE := Lib.hid (H6.out.1.duo.decode (cap := c6) H6.out.2.2.1 hnc6 hcm6 (by omega) (fun _ a ha e => by
              have h1 := H6.out.1.blkL a.block (by rw [ha]; rfl)
              exact H6.out.1.duo.aHX _ e (by omega)) (by omega) (by omega) hout)
            have HN := Lib.hid (And.intro hFn (And.intro hls (And.intro hbl (And.intro hdec2 hbl2))))
            clear hFn hls hbl hdec2 hbl2 hout hmm
            go_wp2_with fail
            refine HDE.out.mono ?_
            rintro e7 w7 ⟨A7, c7, H7, rfl, hr7, hd7, hk7, hA7⟩
            have hgot7 : ∀ ob, (w7.alloc ob).ownsRow 0 26 1 _ j3 vs3 := fun ob => own_kept4 H6.out.1.got (hk7.alloc ob) (fun q hq e => by
              have h1 := H6.out.1.gotL q hq
              exact H6.out.1.duo.aHX _ e (by omega))
            have hj20 : j3 ≤ 1048576 := by
              have h1 := Decs.len H0.out.2.2.2.2.1
              have h2 := H0.out.2.2.2.2.2.1
              have h3 := H6.out.1.jl
              omega
            have hs7 := hk7.size
            have H7H := Lib.hid (And.intro hr7 (And.intro hd7 (And.intro hk7 hA7)))
            have HG7 := Lib.hid hgot7
            obtain ⟨nl, hnl⟩ : ∃ nl, (l.map told).length = nl := ⟨_, rfl⟩
            rw [hnl] at H7H ⊢
            have HNL := Lib.hid hnl
            clear hr7 hd7 hk7 hA7 hgot7 hnl HDE
            go_wp2_with (at_builtin; refine of_stop ?_)
            unfold Stop
            refine wpList_app (.tmp 84) (.tmp 86) tLists rfl rfl (HG7.out _) rfl (Rd.one _ _ _) rfl (by simp [Value.oneCell']) (le_maxLen (by omega)) (by omega) (Nat.zero_le _) ?_
            intro v8 w8 hown8 hg8 ho8
            obtain ⟨A8, c8, rfl, -, -, -, -⟩ := own_slice hown8
            obtain ⟨L8, hD8, hk8, hL8⟩ : ∃ L', RdD W e d G N E T' ls w8 L' (.slice A8 (j3 + 1) c8) (.slice none 0 0) H7 (M3 + nb) (j3 + 1) [] bs' T2 (vs3 ++ [.slice A7 nl c7]) ∧ Kept (fun b => H3 b ∨ L6 b = 7) w6 w8 ∧ (∀ b, b < w6.heap.size → L' b = L6 b) := by
              have h1 := HN.out
              have h2 := H7H.out
              have hn := HNL.out
              subst hn
              have h3 := H6.out.1.next rfl h1.2.1 h1.2.2.1 h1.2.2.2.1 h2.1 (by rw [h1.2.2.2.2]; exact h2.2.1) h2.2.2.1 h2.2.2.2 ((Below.refl _ _).alloc (Nat.le_refl _) _) hown8 hg8 ho8
              rw [h1.2.2.2.2] at h3
              exact h3
            have hl6 : ∀ b, 3 ≤ L6 b → b < w6.heap.size := fun b hb => H6.out.1.duo.lablt hb
            have hO8 := H6.out.2.1.keep (L' := L8) hk8 (fun b e => by
              rcases e with e | e
              · have := H6.out.1.duo.aHX b e
                omega
              · omega) hL8 hl6
            have H8 := Lib.hid (And.intro hD8 hO8)
            clear hown8 hg8 ho8 hD8 hk8 hL8 hO8 hl6 HG7
            go_wp2
            go_roundw
            case rel => exact ⟨i + 1, [], L8, H7, M3 + nb, j3 + 1, bs', T2, _, by go_num, by omega, H8.out.2, H8.out.1, HN.out.1⟩
            case measure => simp [intOf]; omega
          · have e1 : ((fl : Int) / 4 % 2 == 1) = false := by rw [beq_eq_false_iff_ne]; omega
            have HF : Hid (Fin ((Fsq.drop k).drop (i + 1)) bs3 (cur3 ++ da.data.toList)) := Lib.hid (by
              have h1 := HP.out.2.2.1
              unfold Fin at h1
              rw [HFD.out.1, HFD.out.2, if_neg hlast] at h1
              exact h1.2)
            go_wp2
            go_roundw
            case rel => exact ⟨i + 1, _, L6, H3, M3, j3, bs3, T3, vs3, by go_num, by omega, H6.out.2.1, H6.out.1, HF.out⟩
            case measure => simp [intOf]; omega
        · have hik2 : i = k2 := by omega
          subst hik2
          have HE : Hid (RdRel W e d G N E T' ls x Fsq (.slice A' (n - s) (c - s)) u9 u10 wr) := Lib.hid (by
            have hle := hk2
            rw [List.length_drop] at hle
            refine ⟨k + i, n - s, c - s, A', r2, rest.drop s, cur3, v2, L3, H3, M3, j3, bs3, T3, vs3, rfl, by omega, by omega, by omega, strm_left HR.out.1 HK.out.1, fun p hp => HK.out.2 p (by rw [List.getElem?_drop]; exact hp), ⟨hO3.feed, hO3.fx, hO3.own, hO3.ownL, Rd.none_ _ _ _ _, (fun a h => by cases h), hO3.alr, hO3.alL⟩, hD3, ?_⟩
            rw [← List.drop_drop]
            exact hF3)
          have HM : Hid (RdMeas (.slice A' (n - s) (c - s)) < RdMeas (.slice Ad n c)) := Lib.hid (by
            show n - s < n
            omega)
          clear hO3 hD3 hF3
          go_wp2
          go_roundw
          case rel => exact HE.out
          case measure => exact HM.out
    · obtain rfl : n = 0 := by omega
      have hr0 : rest = [] := List.eq_nil_of_length_eq_zero hrl
      subst hr0
      rw [List.append_nil] at hstr
      obtain ⟨hdr, hr0⟩ := none_left hstr hshort
      subst hr0
      rw [hdr] at hF
      obtain ⟨hb0, hc0⟩ := hF
      subst hb0 hc0
      obtain ⟨hl0, hT0⟩ := hD.dec
      subst hT0
      have hjl : j = ls.length := by have := hD.jl; have h1 := congrArg List.length hl0; simp at h1; omega
      obtain ⟨Av, cv, hv, -⟩ := hO.own.rd
      subst hv
      have HL := Lib.hid (left_any wr hO.feed)
      obtain ⟨Ag, cg, hgv, -, -, hrg, -⟩ := own_slice hD.got
      subst hgv
      have HE : Hid (ReadPost W e d G N E T1 ls (.returned (.tuple #[.slice Ag j cg, .bool true])) wr) := Lib.hid (by
        have h1 := hD.lists
        rw [hjl, List.take_length] at h1
        rw [hjl] at hrg ⊢
        exact ⟨Ag, cg, vs, H2, L0, M2, rfl, hD.duo, hrg, h1⟩)
      clear hstr hshort hO hD hrl hdr hl0 hjl hrg hlen
      go_wp2_with fail
      refine HL.out.mono ?_
      rintro e7 w7 ⟨rfl, rfl⟩
      go_wp2
      go_ret2
      exact HE.out
end Go.Proofs.Ytfpcamkimjecdaa

/- A []api.Field, a [][]byte, a []drawbridgelaw05.Do that came in: in memory. -/
namespace Go.Proofs.Ytfpcamkimjecdaa
open Go.ChangeShapes Go.WideShapes Go.ChangeAt Go.RowKit Go.WideMaps Go.ChangeMaps Go.Deep
set_option maxRecDepth 100000

theorem weightsAll_mem {H : Type} {P : Program} {e : TypeId} : ∀ {l : List (DataW H)} {d : DataW H}, d ∈ l → ∀ n ∈ d.weights P e, n ∈ DataW.weightsAll P e l
  | a :: l, d, hd, n, hn => by
    simp only [DataW.weightsAll, List.mem_append]
    rcases List.mem_cons.1 hd with rfl | h
    · exact Or.inl hn
    · exact Or.inr (weightsAll_mem h n hn)
/-- Within the form's reach. -/
def Near {H : Type} (t : TypeId) (d : DataW H) : Prop := ∀ n ∈ d.weights Try.prog t, n ≤ reachBytes
theorem near_of {H : Type} {ts : List TypeId} {ds : List (DataW H)} (hsz : (DataW.weightsEach Try.prog ts ds).all (· ≤ reachBytes) = true) {j : Nat} {t : TypeId} {d : DataW H} (ht : ts[j]? = some t) (hd : ds[j]? = some d) : Near t d :=
  fun n hn => of_decide_eq_true (List.all_eq_true.1 hsz _ (DataW.weights_mem_each ht hd n hn))
theorem Near.elem {H : Type} {t e : TypeId} {elems spare : List (DataW H)} (h : Near t (.slice elems spare)) (hu : Try.prog.underlying t = some (.slice e)) {d : DataW H} (hd : d ∈ elems) : Near e d := fun n hn =>
  h n (by simp only [DataW.weights, hu, List.mem_cons, List.mem_append]; exact .inr (.inl (weightsAll_mem hd n hn)))
theorem Near.len {H : Type} {t e : TypeId} {elems spare : List (DataW H)} (h : Near t (.slice elems spare)) (hu : Try.prog.underlying t = some (.slice e)) : (elems.length + spare.length) * Try.prog.bytesOf e ≤ reachBytes :=
  h _ (by simp [DataW.weights, hu])

section
variable {H : Type} {enc : TypeId × Value → H} {W : World}
/-- A field's three cells. -/
theorem field5 {cs : List Value} {x : DataW H × List MemPlace} {n : Nat} (h : DataW.trod enc Try.prog W 0 (fun _ => true) true n 43 cs = some x) (hw : Near 43 x.1) :
    ∃ f : Fd, cs = [.string f.1.1, .string f.1.2, .bool f.2] ∧ f.1.1.size ≤ 140737488351232 ∧ f.1.2.size ≤ 140737488351232 := by
  obtain ⟨xs, m, _, hd0, hl, hx, hf⟩ := DataW.trod_struct Try.underlying43 h
  rw [show Try.prog.cellsOf 43 = 3 by kernel_rfl] at hl
  have cb : Try.prog.cellsOf 4 = 1 := by kernel_rfl
  have cs1 : Try.prog.cellsOf 9 = 1 := by kernel_rfl
  match cs, hl with
  | [c0, c1, c2], _ =>
    match xs, hx with
    | [x0, x1, x2], _ =>
      have f0 := hf 0 _ rfl
      have f1 := hf 1 _ rfl
      have f2 := hf 2 _ rfl
      change DataW.trod enc Try.prog W 0 _ true m 9 (List.take (Try.prog.cellsOf 9) (List.drop 0 [c0, c1, c2])) = some x0 at f0
      change DataW.trod enc Try.prog W 0 _ true m 9 (List.take (Try.prog.cellsOf 9) (List.drop 1 [c0, c1, c2])) = some x1 at f1
      change DataW.trod enc Try.prog W 0 _ true m 4 (List.take (Try.prog.cellsOf 4) (List.drop 2 [c0, c1, c2])) = some x2 at f2
      rw [cb] at f2
      rw [cs1] at f0 f1
      obtain ⟨a, e0, y0, w0⟩ := DataW.trod_string Try.underlying9 f0
      obtain ⟨b, e1, y1, w1⟩ := DataW.trod_string Try.underlying9 f1
      obtain ⟨v, e2, -⟩ := DataW.trod_bool Try.underlying4 f2
      simp at e0 e1 e2
      subst e0 e1 e2 y0 y1
      rw [hd0] at hw
      refine ⟨((a, b), v), rfl, ?_, ?_⟩
      · have h2 := hw a.data.toList.length (by simp [DataW.weights, Try.underlying43, DataW.weightsEach])
        have h3 : a.data.toList.length = a.size := by simp
        unfold reachBytes at h2
        show a.size ≤ _
        omega
      · have h2 := hw b.data.toList.length (by simp [DataW.weights, Try.underlying43, DataW.weightsEach])
        have h3 : b.data.toList.length = b.size := by simp
        unfold reachBytes at h2
        show b.size ≤ _
        omega
theorem fds_of (F : Nat → Fd) (n : Nat) : ∀ i, i < n → ∀ j, j < 3 → (fds ((List.range n).map F))[i * 3 + j]? = [Value.string (F i).1.1, .string (F i).1.2, .bool (F i).2][j]? := by
  intro i hi j hj
  have hg : ((List.range n).map F)[i]? = some (F i) := by simp [hi]
  have e := fds_get hg
  match j, hj with
  | 0, _ => exact e.1
  | 1, _ => exact e.2.1
  | 2, _ => exact e.2.2
/-- A []api.Field's cell. -/
theorem fds5 {cs : List Value} {x : DataW H × List MemPlace} {fuel B : Nat} (h : DataW.trod enc Try.prog W 0 (fun _ => true) true fuel 26 cs = some x) (hw : Near 26 x.1) (hlt : ∀ y ∈ x.2, y.block < B) :
    ∃ A n c l, cs = [.slice A n c] ∧ n ≤ c ∧ c ≤ maxLen ∧ n ≤ 140737488351232 ∧ l.length = n ∧ Rd W B 3 A n (fds l) ∧ ∀ f ∈ l, f.1.1.size ≤ 140737488351232 ∧ f.1.2.size ≤ 140737488351232 := by
  rcases open_slice Try.underlying26 h with ⟨hcs, hx⟩ | ⟨a, len, cap, m, k, D, Pl, hcs, _, hl, hm, hmm, hx, hi⟩
  · exact ⟨none, 0, 0, [], hcs, Nat.le_refl _, Nat.zero_le _, by omega, rfl, Rd.none_ _ _ _ _, fun f hf => by cases hf⟩
  · have hmc : m = cap := by simpa using hmm
    subst hmc
    subst hx
    have hC : Try.prog.cellsOf 43 = 3 := by kernel_rfl
    have hreach := hw.len Try.underlying26
    rw [show Try.prog.bytesOf 43 = 40 by kernel_rfl] at hreach
    simp [reachBytes] at hreach
    have hall : ∀ i, i < len → ∃ f : Fd, (∀ j, j < 3 → W.cell? (a.add (i * 3 + j)) = [Value.string f.1.1, .string f.1.2, .bool f.2][j]?) ∧ f.1.1.size ≤ 140737488351232 ∧ f.1.2.size ≤ 140737488351232 := by
      intro i hil
      obtain ⟨cs', hc, ht'⟩ := hi i (by omega)
      rw [hC] at hc
      obtain ⟨f, rfl, s1, s2⟩ := field5 ht' (hw.elem Try.underlying26 (by simp only [List.mem_map, List.mem_range]; exact ⟨i, hil, rfl⟩))
      obtain ⟨_, _, hat⟩ := World.cells?_some hc
      exact ⟨f, fun j hj => by rw [← Go.Deep.add_add]; exact hat j hj, s1, s2⟩
    obtain ⟨F, hF⟩ := choose_lt (α := Fd) hall
    refine ⟨some a, len, m, (List.range len).map F, hcs, hl, hm, by omega, by simp, ⟨by rw [fds_length]; simp, fun hn => ?_⟩, fun f hf => ?_⟩
    · obtain ⟨ab, ao, spot⟩ := a
      have hspot : spot = none := by
        have := (hF 0 hn).1 0 (by omega)
        simpa [Addr.add] using World.cell?_spot this
      subst hspot
      refine ⟨ab, ao, rfl, ?_, fun j hj => ?_⟩
      · exact hlt (.cell ab ao) (List.mem_append_left _ (by rw [hC]; simp only [MemPlace.row, List.mem_map, List.mem_range]; exact ⟨0, by omega, rfl⟩))
      · have hd := Nat.div_add_mod j 3
        have h1 : j / 3 < len := by omega
        have h2 : j % 3 < 3 := by omega
        have := (hF (j / 3) h1).1 (j % 3) h2
        rw [← fds_of F len (j / 3) h1 (j % 3) h2, show j / 3 * 3 + j % 3 = j by omega, Addr.add_lit] at this
        exact this
    · obtain ⟨i, hi', rfl⟩ := List.mem_map.1 hf
      exact (hF i (List.mem_range.1 hi')).2
/-- A []byte's cell. -/
theorem bts5 {cs : List Value} {x : DataW H × List MemPlace} {fuel B : Nat} (h : DataW.trod enc Try.prog W 0 (fun _ => true) true fuel 23 cs = some x) (hw : Near 23 x.1) (hlt : ∀ y ∈ x.2, y.block < B) :
    ∃ A n c l, cs = [.slice A n c] ∧ n ≤ c ∧ c ≤ maxLen ∧ n ≤ 140737488351232 ∧ Rd W B 1 A n (bvs l) := by
  rcases open_ints Try.underlying23 Try.underlying5 (by kernel_rfl) h with ⟨hcs, hx⟩ | ⟨a, len, cap, zs, hcs, _, hl, hm, hz, hx, hcell, hwz⟩
  · exact ⟨none, 0, 0, [], hcs, Nat.le_refl _, Nat.zero_le _, by omega, Rd.none_ _ _ _ _⟩
  · subst hx
    simp only [if_true] at hz
    have hreach := hw.len Try.underlying23
    rw [show Try.prog.bytesOf 5 = 1 by kernel_rfl] at hreach
    simp only [lits, List.length_map, List.length_take, List.length_drop, reachBytes] at hreach
    refine ⟨some a, len, cap, (zs.take len).map fun n => UInt8.ofNat n.toNat, hcs, hl, hm, by omega, by simp [bvs]; omega, fun hn => ?_⟩
    obtain ⟨ab, ao, spot⟩ := a
    have hspot : spot = none := by simpa [Addr.add] using World.cell?_spot (hcell 0 (by omega))
    subst hspot
    refine ⟨ab, ao, rfl, ?_, fun i hi => ?_⟩
    · exact hlt (.cell ab ao) (by simp only [MemPlace.row, List.mem_map, List.mem_range]; exact ⟨0, by omega, rfl⟩)
    · have hcj := hcell i (by omega)
      rw [Addr.add_lit] at hcj
      have hb := range_u8 hwz i
      rw [hcj]
      show some (Value.int .u8 (zs[i]?.getD 0)) = _
      rw [bv_of hb.1 (by omega)]
      simp [bvs, show i < len by omega, List.getElem?_eq_getElem (show i < zs.length by omega)]
/-- A row of bytes, as a value and what it reads as. -/
structure Bt where
  A : Option Addr
  n : Nat
  c : Nat
  l : List UInt8
def BtAt (w : World) (B b o : Nat) (x : Bt) : Prop := w.cell? ⟨b, o, none⟩ = some (.slice x.A x.n x.c) ∧ x.n ≤ x.c ∧ x.c ≤ maxLen ∧ x.n ≤ 140737488351232 ∧ Rd w B 1 x.A x.n (bvs x.l)
def Bts (w : World) (B : Nat) (A : Option Addr) (n : Nat) (D : Nat → Bt) : Prop := 0 < n → ∃ b o, A = some ⟨b, o, none⟩ ∧ b < B ∧ ∀ i, i < n → BtAt w B b (o + i) (D i)
theorem Bts.below {w w' : World} {B : Nat} {A : Option Addr} {n : Nat} {D : Nat → Bt} (h : Bts w B A n D) (hb : Below B w w') : Bts w' B A n D := by
  intro hn
  obtain ⟨b, o, hA, hlt, hc⟩ := h hn
  refine ⟨b, o, hA, hlt, fun i hi => ?_⟩
  obtain ⟨h1, h2, h3, h4, h5⟩ := hc i hi
  exact ⟨(hb.cell (p := ⟨b, o + i, none⟩) hlt).trans h1, h2, h3, h4, h5.below hb (Nat.le_refl _)⟩
/-- A step: is the limit set; the limit; the list. -/
structure Do5 where
  st : Bool
  lim : Int
  A : Option Addr
  n : Nat
  c : Nat
  l : List Fd
structure DoOk (W : World) (B : Nat) (x : Do5) : Prop where
  lo : -9223372036854775808 ≤ x.lim
  hi : x.lim ≤ 9223372036854775807
  nc : x.n ≤ x.c
  cm : x.c ≤ maxLen
  nr : x.n ≤ 140737488351232
  len : x.l.length = x.n
  rd : Rd W B 3 x.A x.n (fds x.l)
  sz : ∀ f ∈ x.l, f.1.1.size ≤ 140737488351232 ∧ f.1.2.size ≤ 140737488351232
def DoAt (w : World) (B b o : Nat) (x : Do5) : Prop := (w.cell? ⟨b, o, none⟩ = some (.bool x.st) ∧ w.cell? ⟨b, o + 1, none⟩ = some (.int .i64 x.lim) ∧ w.cell? ⟨b, o + 2, none⟩ = some (.slice x.A x.n x.c)) ∧ DoOk w B x
def Dos5 (w : World) (B : Nat) (A : Option Addr) (n : Nat) (D : Nat → Do5) : Prop := 0 < n → ∃ b o, A = some ⟨b, o, none⟩ ∧ b < B ∧ ∀ i, i < n → DoAt w B b (o + i * 3) (D i)
theorem Dos5.below {w w' : World} {B : Nat} {A : Option Addr} {n : Nat} {D : Nat → Do5} (h : Dos5 w B A n D) (hb : Below B w w') : Dos5 w' B A n D := by
  intro hn
  obtain ⟨b, o, hA, hlt, hc⟩ := h hn
  refine ⟨b, o, hA, hlt, fun i hi => ?_⟩
  obtain ⟨⟨h1, h2, h3⟩, ok⟩ := hc i hi
  have e : ∀ j, w'.cell? ⟨b, j, none⟩ = w.cell? ⟨b, j, none⟩ := fun j => hb.cell (p := ⟨b, j, none⟩) hlt
  exact ⟨⟨(e _).trans h1, (e _).trans h2, (e _).trans h3⟩, { ok with rd := ok.rd.below hb (Nat.le_refl _) }⟩
end
section
variable {H : Type} {enc : TypeId × Value → H} {W : World} {base : Nat}
theorem open_fds {v : Value} {d : DataW H} {p : List MemPlace} (hval : Value.okWide Try.prog W .any base 26 v) (h : DataW.Trod enc Try.prog W 0 (fun _ => true) true 26 v d p)
    (hlt : ∀ x ∈ p, x.block < W.heap.size) {ts : List TypeId} {ds : List (DataW H)} (hsz : (DataW.weightsEach Try.prog ts ds).all (· ≤ reachBytes) = true) {j : Nat} (ht : ts[j]? = some 26) (hd : ds[j]? = some d) :
    ∃ A n c l, v = .slice A n c ∧ n ≤ c ∧ c ≤ maxLen ∧ n ≤ 140737488351232 ∧ l.length = n ∧ Rd W W.heap.size 3 A n (fds l) ∧ ∀ f ∈ l, f.1.1.size ≤ 140737488351232 ∧ f.1.2.size ≤ 140737488351232 := by
  obtain ⟨a1, len, cap, rfl⟩ := okWide_slice Try.underlying26 hval
  obtain ⟨fuel, hf⟩ := h
  obtain ⟨A, n, c, l, hv, hr⟩ := fds5 hf (near_of hsz ht hd) hlt
  simp [Value.cells] at hv
  obtain ⟨rfl, rfl, rfl⟩ := hv
  exact ⟨_, _, _, l, rfl, hr⟩
end
end Go.Proofs.Ytfpcamkimjecdaa

/- A [][]api.Field that came in: in memory. -/
namespace Go.Proofs.Ytfpcamkimjecdaa
open Go.ChangeShapes Go.WideShapes Go.ChangeAt Go.RowKit Go.WideMaps Go.ChangeMaps Go.Deep
set_option maxRecDepth 100000

/-- A row of fields, as a value and what it reads as. -/
structure Fl where
  A : Option Addr
  n : Nat
  c : Nat
  l : List Fd
structure FlOk (w : World) (B : Nat) (x : Fl) : Prop where
  nc : x.n ≤ x.c
  cm : x.c ≤ maxLen
  nr : x.n ≤ 140737488351232
  len : x.l.length = x.n
  rd : Rd w B 3 x.A x.n (fds x.l)
  sz : ∀ f ∈ x.l, f.1.1.size ≤ 140737488351232 ∧ f.1.2.size ≤ 140737488351232
def Fls (w : World) (B : Nat) (A : Option Addr) (n : Nat) (D : Nat → Fl) : Prop := 0 < n → ∃ b o, A = some ⟨b, o, none⟩ ∧ b < B ∧ ∀ i, i < n → w.cell? ⟨b, o + i, none⟩ = some (.slice (D i).A (D i).n (D i).c) ∧ FlOk w B (D i)
theorem Fls.below {w w' : World} {B : Nat} {A : Option Addr} {n : Nat} {D : Nat → Fl} (h : Fls w B A n D) (hb : Below B w w') : Fls w' B A n D := by
  intro hn
  obtain ⟨b, o, hA, hlt, hc⟩ := h hn
  refine ⟨b, o, hA, hlt, fun i hi => ?_⟩
  obtain ⟨h1, ok⟩ := hc i hi
  exact ⟨(hb.cell (p := ⟨b, o + i, none⟩) hlt).trans h1, { ok with rd := ok.rd.below hb (Nat.le_refl _) }⟩
section
variable {H : Type} {enc : TypeId × Value → H} {W : World} {base : Nat}
theorem fdss5 {cs : List Value} {x : DataW H × List MemPlace} {fuel B : Nat} (h : DataW.trod enc Try.prog W 0 (fun _ => true) true fuel 22 cs = some x) (hw : Near 22 x.1) (hlt : ∀ y ∈ x.2, y.block < B) :
    ∃ A n c D, cs = [.slice A n c] ∧ n ≤ c ∧ c ≤ maxLen ∧ n ≤ 140737488351232 ∧ Fls W B A n D := by
  rcases open_slice1 Try.underlying22 (by kernel_rfl) h with ⟨hcs, hx⟩ | ⟨a, len, cap, m, k, V, D, Pl, hcs, _, hl, hm, hmm, hx, hi⟩
  · exact ⟨none, 0, 0, fun _ => ⟨none, 0, 0, []⟩, hcs, Nat.le_refl _, Nat.zero_le _, by omega, fun h => absurd h (by omega)⟩
  · have hmc : m = cap := by simpa using hmm
    subst hmc
    subst hx
    have hreach := hw.len Try.underlying22
    rw [show Try.prog.bytesOf 26 = 24 by kernel_rfl] at hreach
    simp [reachBytes] at hreach
    have hall : ∀ i, i < len → ∃ y : Fl, W.cell? (a.add i) = some (.slice y.A y.n y.c) ∧ FlOk W B y := by
      intro i hil
      obtain ⟨hc, ht'⟩ := hi i (by omega)
      obtain ⟨A', n', c', l', hv, r1, r2, r3, r4, r5, r6⟩ := fds5 (B := B) ht' (hw.elem Try.underlying22 (by simp only [List.mem_map, List.mem_range]; exact ⟨i, hil, rfl⟩)) (fun y hy => hlt y (List.mem_append_right _ (List.mem_flatMap.2 ⟨i, List.mem_range.2 (by omega), hy⟩)))
      simp at hv
      exact ⟨⟨A', n', c', l'⟩, by rw [hc, hv], r1, r2, r3, r4, r5, r6⟩
    rcases Nat.eq_zero_or_pos len with h0 | hpos
    · exact ⟨some a, len, m, fun _ => ⟨none, 0, 0, []⟩, hcs, hl, hm, by omega, fun h => absurd h (by omega)⟩
    have : Inhabited Fl := ⟨⟨none, 0, 0, []⟩⟩
    obtain ⟨F, hF⟩ := choose_lt (α := Fl) hall
    refine ⟨some a, len, m, F, hcs, hl, hm, by omega, fun hn => ?_⟩
    obtain ⟨ab, ao, spot⟩ := a
    have hspot : spot = none := by simpa [Addr.add] using World.cell?_spot (hF 0 hn).1
    subst hspot
    refine ⟨ab, ao, rfl, ?_, fun i hi => ?_⟩
    · exact hlt (.cell ab ao) (List.mem_append_left _ (by simp only [MemPlace.row, List.mem_map, List.mem_range]; exact ⟨0, by omega, rfl⟩))
    · obtain ⟨h1, h2⟩ := hF i hi
      rw [Addr.add_lit] at h1
      exact ⟨h1, h2⟩
theorem open_fdss {v : Value} {d : DataW H} {p : List MemPlace} (hval : Value.okWide Try.prog W .any base 22 v) (h : DataW.Trod enc Try.prog W 0 (fun _ => true) true 22 v d p)
    (hlt : ∀ x ∈ p, x.block < W.heap.size) {ts : List TypeId} {ds : List (DataW H)} (hsz : (DataW.weightsEach Try.prog ts ds).all (· ≤ reachBytes) = true) {j : Nat} (ht : ts[j]? = some 22) (hd : ds[j]? = some d) :
    ∃ A n c D, v = .slice A n c ∧ n ≤ c ∧ c ≤ maxLen ∧ n ≤ 140737488351232 ∧ Fls W W.heap.size A n D := by
  obtain ⟨a1, len, cap, rfl⟩ := okWide_slice Try.underlying22 hval
  obtain ⟨fuel, hf⟩ := h
  obtain ⟨A, n, c, l, hv, hr⟩ := fdss5 hf (near_of hsz ht hd) hlt
  simp [Value.cells] at hv
  obtain ⟨rfl, rfl, rfl⟩ := hv
  exact ⟨_, _, _, l, rfl, hr⟩
end
end Go.Proofs.Ytfpcamkimjecdaa
