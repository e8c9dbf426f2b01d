/- The walk of drawbridgelaw04.TableShifts. -/
import Derived.Test.YthpieiipddfpjaaTabTwin
import Derived.Test.YthpieiipddfpjaaRTab5
namespace Go.Proofs.Ythpieiipddfpjaa
open Go.RowKit

theorem Rd.tri (w : World) (x y z : Value) (t : TypeId) : Rd (w.alloc (.cells #[x, y, z] t)) (w.heap.size + 1) 3 (some ⟨w.heap.size, 0, none⟩) 1 [x, y, z] := by
  refine ⟨rfl, fun _ => ⟨_, _, rfl, by omega, fun j hj => ?_⟩⟩
  rw [World.cell?_alloc_at _ _ _ _ rfl]
  simp
theorem Rd.tri2 (w : World) (x y z : Value) (t : TypeId) {m : Nat} (hm : w.heap.size = m) : Rd (w.alloc (.cells #[x, y, z] t)) (m + 1) 3 (some ⟨m, 0, none⟩) 1 [x, y, z] := by
  subst hm; exact Rd.tri w x y z t
theorem atRows_rev (rows : List Rw) {k : Nat} {r : Rw} (h : rows.reverse[k]? = some r) : atRows rows (62 + k : Int) = some r := by
  have h2 : (statF ++ rows.reverse)[61 + k]? = some r := by
    rw [List.getElem?_append_right (by rw [statF_length]; omega), statF_length]
    rw [show 61 + k - 61 = k by omega]; exact h
  have := atRows_all rows (61 + k) h2
  rw [← this]; congr 1; omega
theorem atRows_next (rows : List Rw) (f : Rw) {k : Nat} {r : Rw} (h : rows.reverse[k]? = some r) : atRows (rows ++ [f]) (63 + k : Int) = some r := by
  have := atRows_rev (rows ++ [f]) (k := k + 1) (r := r) (by rw [List.reverse_append]; simpa using h)
  rw [← this]; congr 1; omega
theorem Tb.add_room {T : Tb} {f : Rw} {sz cf mo : Int} (hs : sumc T.rows = sz) (hc : (cost f : Int) = cf) (hm : T.most = mo) (h0 : 0 ≤ sz) (h : sz ≤ mo - cf) : T.add f = ⟨T.most, T.gone, T.rows ++ [f]⟩ := by
  unfold Tb.add
  rw [if_neg (by omega)]
  unfold Tb.shrink
  simp only
  rw [shrunk_stop (by show sumc T.rows ≤ _; omega)]
theorem own_below {w w' : World} {base n : Nat} {e : TypeId} {size : Nat} {v : Value} {xs : List Value} (h : w.ownsRow base e size v n xs) (hb : Below w.heap.size w w') : w'.ownsRow base e size v n xs :=
  h.kept (row := none) ⟨hb.os, hb.tape, hb.output, hb.size, fun k hk _ => hb.block k hk⟩ (by simp; exact Classical.em _)
theorem below_dal (w : World) (n : Nat) (o : Obj) : Below w.heap.size w ((w.drewN n).alloc o) := (below_dN (Below.refl _ _) n).alloc (Nat.le_refl _) _
def ShRel (w4 : World) (L : List Rw) (ov iv : Value) (wr : World) : Prop :=
  ∃ (k : Nat) (A : Option Addr) (c : Nat), iv = .int .i64 k ∧ ov = .slice A k c ∧ k ≤ L.length ∧ wr.ownsRow w4.heap.size 24 3 (.slice A k c) k (fcs (L.take k)) ∧ Below w4.heap.size w4 wr
def ShRel2 (wl : World) (n : Nat) (iv : Value) (wr : World) : Prop := ∃ k : Nat, iv = .int .i64 k ∧ k ≤ n ∧ Below wl.heap.size wl wr
set_option maxRecDepth 100000 in
set_option maxHeartbeats 4000000 in
theorem tshifts_any {n c : Nat} {A : Option Addr} {D : Nat → St} (f : Rw) (nv : Bool) (w : World) (h : Script w w.heap.size A n D) (hn : n ≤ 140737488351232) (hf1 : f.1.size ≤ 140737488351232) (hf2 : f.2.size ≤ 140737488351232) :
    Calls Try.prog 7 #[.slice A n c, .agg #[.string f.1, .string f.2, .bool nv]] w (RetT w) := by
  obtain ⟨W0, hW0⟩ : ∃ W0, w.alloc (.cells #[.string f.1, .string f.2, .bool nv] 24) = W0 := ⟨_, rfl⟩
  obtain ⟨p, hp⟩ : ∃ p, w.heap.size = p := ⟨_, rfl⟩
  obtain ⟨B, hB⟩ : ∃ B, p + 1 = B := ⟨_, rfl⟩
  have b0 : Below w.heap.size w W0 := by rw [← hW0]; exact (Below.refl _ _).alloc (Nat.le_refl _) _
  have f0 : W0.cell? ⟨p, 0, none⟩ = some (.string f.1) := by rw [← hW0, ← hp]; exact World.cell?_alloc_at _ _ _ _ rfl
  have f1 : W0.cell? ⟨p, 1, none⟩ = some (.string f.2) := by rw [← hW0, ← hp]; exact World.cell?_alloc_at _ _ _ _ rfl
  have f2 : W0.cell? ⟨p, 2, none⟩ = some (.bool nv) := by rw [← hW0, ← hp]; exact World.cell?_alloc_at _ _ _ _ rfl
  have hBs : W0.heap.size = B := by rw [← hW0, ← hB, ← hp]; simp
  have hpB : p < B := by omega
  have H := Lib.hid ((h.below b0).mono (B' := B) (by omega))
  have HC : Hid (∀ w', Below B W0 w' → w'.cell? ⟨p, 0, none⟩ = some (.string f.1) ∧ w'.cell? ⟨p, 1, none⟩ = some (.string f.2) ∧ w'.cell? ⟨p, 2, none⟩ = some (.bool nv)) := Lib.hid fun w' hb =>
    ⟨(hb.cell (p := ⟨p, 0, none⟩) hpB).trans f0, (hb.cell (p := ⟨p, 1, none⟩) hpB).trans f1, (hb.cell (p := ⟨p, 2, none⟩) hpB).trans f2⟩
  have HE : Hid (∀ w', Below B W0 w' → Below w.heap.size w w') := Lib.hid fun w' hb => b0.trans (hb.mono (by omega))
  have HW := Lib.hid hW0
  have HP := Lib.hid hp
  clear h b0 f0 f1 f2 hW0 hp hB
  go_enter Try.func7, Try.ntmps7
  go_wp2_with fail
  rw [HW.out, HP.out]
  refine (awake4_any W0).mono ?_
  rintro e w0 ⟨rfl, hb0⟩
  rw [hBs] at hb0
  have HB0 := Lib.hid hb0
  have hs0 := hb0.size
  clear hb0
  go_wp2_with fail
  refine (few_any (B := B) w0 (H.out.below HB0.out) (by omega) hn).mono ?_
  rintro e w1 ⟨bf, rfl, hb1, hfew⟩
  have HB1 := Lib.hid (HB0.out.trans (hb1.mono (by omega)))
  have hs1 := HB1.out.size
  have HF := Lib.hid hfew
  obtain ⟨g0, g1, g2⟩ := HC.out w1 HB1.out
  obtain ⟨a1, ha1⟩ : ∃ a1 : Nat, f.1.size = a1 := ⟨_, rfl⟩
  obtain ⟨a2, ha2⟩ : ∃ a2 : Nat, f.2.size = a2 := ⟨_, rfl⟩
  rw [ha1] at hf1
  rw [ha2] at hf2
  clear hb1 hfew HB0 hs0
  obtain rfl | rfl : bf = false ∨ bf = true := by cases bf <;> simp
  · go_wp2_with fail
    go_ret
    exact ⟨rfl, HE.out _ HB1.out⟩
  rcases Nat.lt_or_ge 65536 (a1 + a2) with z1 | z1
  · go_wp2_with fail
    go_ret
    exact ⟨rfl, HE.out _ HB1.out⟩
  go_wp2_with fail
  refine (tnew_any 8192 w1 (by decide) (by decide)).mono ?_
  rintro e w2 ⟨g, F, rfl, ht, hF, hb2⟩
  have HB2 := Lib.hid (HB1.out.trans (hb2.mono (by omega)))
  have hs2 := HB2.out.size
  have HT := Lib.hid ht
  have HFF : Hid (∀ k, F k → B ≤ k) := Lib.hid fun k hk => by have := hF k hk; omega
  clear hb2 ht hF
  go_wp2_with fail
  obtain ⟨W3, hW3⟩ : ∃ W3, w2.alloc (.cells #[.int .i64 8192, .slice none 0 0] 34) = W3 := ⟨_, rfl⟩
  obtain ⟨q, hq⟩ : ∃ q, w2.heap.size = q := ⟨_, rfl⟩
  have HB3 : Hid (Below B W0 W3) := Lib.hid (by rw [← hW3]; exact HB2.out.alloc (by omega) _)
  have HBO := Lib.hid (both_new HT.out HFF.out (by omega) hW3 hq)
  have hs3 := HB3.out.size
  rw [hW3, hq]
  clear hW3 hq g0 g1 g2
  refine (play_any (B := B) W3 (H.out.below HB3.out) (by omega) hn (HF.out (by simp)) HBO.out).mono ?_
  rintro e w4 ⟨rfl, T, hbo⟩
  obtain ⟨F4, G4, ht, -, -, hF, -, hb4⟩ := hbo.from HB3.out
  obtain ⟨-, hm0, hm1, hgone, hlen, -, hfit⟩ := ht.inv
  have hsz0 := sumc_nonneg T.rows
  have HT4 := Lib.hid ht
  have HF4 := Lib.hid hF
  have HB4 := Lib.hid hb4
  have hs4 : B ≤ w4.heap.size := by have := hb4.size; omega
  obtain ⟨ln, hln⟩ : ∃ ln, T.rows.length = ln := ⟨_, rfl⟩
  have HLN := Lib.hid hln
  obtain ⟨sz, hsz⟩ : ∃ sz, sumc T.rows = sz := ⟨_, rfl⟩
  have HSZ := Lib.hid hsz
  obtain ⟨mo, hmo⟩ : ∃ mo, T.most = mo := ⟨_, rfl⟩
  have HMO := Lib.hid hmo
  rw [hln] at hlen
  rw [hsz] at hfit hsz0
  rw [hmo] at hfit hm0 hm1
  obtain ⟨cf, hcf⟩ : ∃ cf : Nat, cost f = cf := ⟨_, rfl⟩
  have hcf2 : cf ≤ a1 + a2 + 32 := by rw [← hcf, ← ha1, ← ha2]; exact Nat.le_refl _
  have hcf3 : a1 + a2 + 32 ≤ cf := by rw [← hcf, ← ha1, ← ha2]; exact Nat.le_refl _
  have HCF := Lib.hid hcf
  have hll : T.rows.reverse.length = ln := by rw [List.length_reverse]; exact hln
  have HLL := Lib.hid hll
  have hln3 : ln ≤ 120 := by omega
  clear hbo ht hF hb4 hln hsz hmo hcf hll
  go_wp2_with fail
  go_loopw [8, 9] (fun o i wr => ShRel w4 T.rows.reverse o i wr) (fun _ i _ => ln - (intOf i).toNat)
  case atStart => exact ⟨0, none, 0, rfl, rfl, by omega, World.ownsRow_nil w4 w4.heap.size _ 3, Below.refl _ _⟩
  case round =>
    obtain ⟨k, A1, c1, rfl, rfl, hk, hown, hbr⟩ := hrel
    rw [HLL.out] at hk
    have HO := Lib.hid hown
    have HBR := Lib.hid hbr
    have hsr := hbr.size
    have HT5 : Hid (TabIs wr g F4 120 T) := Lib.hid (HT4.out.keep fun k hk => hbr.block k (HT4.out.lt k hk))
    clear hown hbr
    go_wp2_with fail
    refine (len_any wr HT5.out).mono ?_
    rintro e w5 ⟨rfl, rfl⟩
    rw [HLN.out]
    by_cases hlt : k < ln
    · have n1 : (k : Int) < ln := by omega
      obtain ⟨r, hr⟩ : ∃ r, T.rows.reverse[k]? = some r := ⟨_, List.getElem?_eq_getElem (by rw [HLL.out]; exact hlt)⟩
      have HR := Lib.hid hr
      clear hr
      go_wp2_with fail
      refine (at_any (62 + k) wr HT5.out (by omega)).mono ?_
      rw [atRows_rev T.rows HR.out]
      rintro e w6 ⟨rfl, hb6⟩
      simp only [atV, fieldV]
      have HB6 := Lib.hid hb6
      have hs6 := hb6.size
      have HO6 := Lib.hid (own_below HO.out hb6)
      clear hb6
      go_wp2_with (at_builtin; refine wpList_app (.tmp 67) (.tmp 69) tFields rfl rfl (World.ownsRow.alloc (World.ownsRow.alloc HO6.out _) _) rfl (Rd.tri2 (w6.alloc (.cells #[.string r.1, .string r.2, .bool false] 24)) (.string r.1) (.string r.2) (.bool false) 24 (m := w6.heap.size + 1) (by simp)) rfl (fcs_one [r]) (le_maxLen (by omega)) (by omega) (by simp; omega) ?_; intro v7 w7 hown7 hg7 hv7)
      go_roundw
      case rel =>
        obtain ⟨A7, c7, rfl, -, -, -, -⟩ := own_slice hown7
        have hb7 : Below w4.heap.size w4 w7 := Below.app ((((HBR.out.trans (HB6.out.mono hsr)).alloc (by omega) _).alloc (by simp; omega) _)) ((HO6.out.alloc _).alloc _) hg7 (Nat.le_refl _) (by simp; omega)
        refine ⟨k + 1, A7, c7, by go_num, rfl, by rw [HLL.out]; omega, ?_, hb7⟩
        rw [List.take_add_one, HR.out, Option.toList_some, fcs_app]
        exact hown7
      case measure => simp [intOf]; omega
    · obtain rfl : k = ln := by omega
      have hown := HO.out
      rw [List.take_of_length_le (by rw [HLL.out]; exact Nat.le_refl _)] at hown
      have HLI := Lib.hid (Lies.of_own hown)
      have HOB : Hid (∀ q, (Value.slice A1 k c1).ownBlock = some q → w4.heap.size ≤ q ∧ q < wr.heap.size) := Lib.hid fun q hq => hown.lt q hq
      have hbB : Below B W0 wr := HB4.out.trans (HBR.out.mono hs4)
      obtain ⟨y0, y1, y2⟩ := HC.out wr hbB
      have HBB := Lib.hid hbB
      have hpr : p < wr.heap.size := by omega
      have HTC : Hid (∀ w', w'.heap = wr.heap → TabIs w' g F4 120 T) := Lib.hid fun w' hw => HT5.out.keep fun k _ => by rw [hw]
      clear hown hbB HO
      go_upto_region 17 with fail
      go_cut [78] (fun v wx => BoolIs v (decide (mo - cf < sz)) ∧ Below wr.heap.size wr wx)
      case first =>
        have s1 : IntKind.i64.wrap (mo - cf) = mo - cf := by rw [IntWalk.i64_in _ ⟨by omega, by omega⟩]
        go_region_held3 (fun w' => w'.cell? ⟨p, 0, none⟩ = some (.string f.1) ∧ w'.cell? ⟨p, 1, none⟩ = some (.string f.2) ∧ w'.cell? ⟨p, 2, none⟩ = some (.bool nv))
          (first | go_keep | exact ⟨k0, k1, k2⟩)
          (first
            | (go_at_call 21; refine (size_any _ (HTC.out _ (by rfl))).mono ?_; rintro e w9 ⟨rfl, rfl⟩; rw [HSZ.out])
            | (go_at_call 20; refine (most_any _ (HTC.out _ (by rfl))).mono ?_; rintro e w9 ⟨rfl, rfl⟩; rw [HMO.out])
            | (go_at_call 27; refine (cost_ref f nv _ (by omega) (by omega)).mono ?_; rintro e w5 ⟨rfl, hw5⟩; rw [HCF.out]; have hb5 : Below wr.heap.size wr w5 := (by rw [hw5]; refine Below.alloc ?_ ?_ _; exact ⟨rfl, rfl, rfl, Nat.le_refl _, fun _ _ => rfl⟩; exact Nat.le_refl _); have k0 := (hb5.cell (p := ⟨p, 0, none⟩) hpr).trans y0; have k1 := (hb5.cell (p := ⟨p, 1, none⟩) hpr).trans y1; have k2 := (hb5.cell (p := ⟨p, 2, none⟩) hpr).trans y2; have HTC5 : Hid (∀ w', w'.heap = w5.heap → TabIs w' g F4 120 T) := Lib.hid (fun w' hw => HT5.out.keep fun k hk => by rw [hw]; exact hb5.block k (HT5.out.lt k hk)); have HB5 := Lib.hid hb5; clear hb5 hw5)
            | (go_at_call 21; refine (size_any _ (HTC5.out _ (by rfl))).mono ?_; rintro e w9 ⟨rfl, rfl⟩; rw [HSZ.out])
            | (go_at_call 20; refine (most_any _ (HTC5.out _ (by rfl))).mono ?_; rintro e w9 ⟨rfl, rfl⟩; rw [HMO.out]))
        all_goals
          go_wp2_with fail
          go_meet
          exact ⟨⟨_, rfl, rfl⟩, HB5.out⟩
      case rest =>
        obtain ⟨⟨b, rfl, rfl⟩, hbc⟩ := hcut
        have HBC := Lib.hid hbc
        have hsc := hbc.size
        clear hbc y0 y1 y2
        have HTc : Hid (TabIs wc g F4 120 T) := Lib.hid (HT5.out.keep fun k hk => HBC.out.block k (HT5.out.lt k hk))
        have hbB2 : Below B W0 wc := HBB.out.trans (HBC.out.mono (by omega))
        have HBB2 := Lib.hid hbB2
        by_cases hgt : mo - cf < sz
        · clear hbB2
          go_wp2_with fail
          go_ret
          exact ⟨rfl, HE.out _ HBB2.out⟩
        · have hgt' : sz ≤ mo - cf := by omega
          obtain ⟨y0, y1, y2⟩ := HC.out wc hbB2
          have HADD := Lib.hid (Tb.add_room (f := f) HSZ.out (by rw [HCF.out]) HMO.out hsz0 hgt')
          clear hbB2
          go_wp2_with fail
          refine (size_any wc HTc.out).mono ?_
          rintro e w9 ⟨rfl, rfl⟩
          rw [HSZ.out]
          go_wp2_with fail
          refine (add_any (N := 120) f nv wc HTc.out (by omega) (by omega) (by omega)).mono ?_
          rw [HADD.out]
          rintro e w6 ⟨rfl, F6, ht6, hk6, hg6⟩
          have HT6 := Lib.hid ht6
          have hpF : ¬ F4 p := fun h => by have := HF4.out p h; omega
          have hpc : p < wc.heap.size := by omega
          have z0 := (hk6.cell hpc hpF 0).trans y0
          have z1 := (hk6.cell hpc hpF 1).trans y1
          have z2 := (hk6.cell hpc hpF 2).trans y2
          have hs6 : wc.heap.size ≤ w6.heap.size := hk6.size
          have HB6 := Lib.hid (HBB2.out.trans (hk6.below HF4.out (by omega)))
          have HLI6 : Hid (Lies w6 24 3 (.slice A1 k c1) k (fcs T.rows.reverse)) := Lib.hid (HLI.out.keep fun q hq => by
            obtain ⟨o1, o2⟩ := HOB.out q hq
            rw [hk6.block q (by omega) (fun h => by have := HT4.out.lt q h; omega), HBC.out.block q o2])
          clear ht6 hk6 hg6 y0 y1 y2 hpF
          have HF62 : Hid (atRows (T.rows ++ [f]) 62 = some f) := Lib.hid (by have := atRows_rev (T.rows ++ [f]) (k := 0) (r := f) (by simp); simpa using this)
          have HL2 : Hid (((T.rows ++ [f]).length : Int) = (k : Int) + 1) := Lib.hid (by rw [List.length_append, HLN.out]; simp)
          have HS2 : Hid (sumc (T.rows ++ [f]) = sz + cf) := Lib.hid (by rw [sumc_app, HSZ.out, sumc_cons, HCF.out]; have : sumc ([] : List Rw) = 0 := rfl; omega)
          go_wp2_with fail
          refine (at_any 62 w6 HT6.out (by omega)).mono ?_
          rw [show atRows (⟨T.most, T.gone, T.rows ++ [f]⟩ : Tb).rows 62 = some f from HF62.out]
          rintro e w7 ⟨rfl, hb7⟩
          simp only [atV, fieldV]
          obtain ⟨W8, hW8⟩ : ∃ W8, w7.alloc (.cells #[.string f.1, .string f.2, .bool false] 24) = W8 := ⟨_, rfl⟩
          obtain ⟨x, hx⟩ : ∃ x, w7.heap.size = x := ⟨_, rfl⟩
          have hb8 : Below w6.heap.size w6 W8 := by rw [← hW8]; exact hb7.alloc hb7.size _
          have v0 : W8.cell? ⟨x, 0, none⟩ = some (.string f.1) := by rw [← hW8, ← hx]; exact World.cell?_alloc_at _ _ _ _ rfl
          have v1 : W8.cell? ⟨x, 1, none⟩ = some (.string f.2) := by rw [← hW8, ← hx]; exact World.cell?_alloc_at _ _ _ _ rfl
          have hx8 : x < W8.heap.size := by rw [← hW8, ← hx]; simp
          have hp6 : p < w6.heap.size := by omega
          have y0 := (hb8.cell (p := ⟨p, 0, none⟩) hp6).trans z0
          have y1 := (hb8.cell (p := ⟨p, 1, none⟩) hp6).trans z1
          have y2 := (hb8.cell (p := ⟨p, 2, none⟩) hp6).trans z2
          have hs8 := hb8.size
          have hp8 : p < W8.heap.size := by omega
          have HT8 : Hid (TabIs W8 g F6 121 ⟨T.most, T.gone, T.rows ++ [f]⟩) := Lib.hid (HT6.out.keep fun k hk => hb8.block k (HT6.out.lt k hk))
          have HLI8 : Hid (Lies W8 24 3 (.slice A1 k c1) k (fcs T.rows.reverse)) := Lib.hid (HLI6.out.keep fun q hq => hb8.block q (by have := HOB.out q hq; omega))
          have HB8 := Lib.hid (HB6.out.trans (hb8.mono (by omega)))
          have HTC8 : Hid (∀ w', w'.heap = W8.heap → TabIs w' g F6 121 ⟨T.most, T.gone, T.rows ++ [f]⟩) := Lib.hid fun w' hw => HT8.out.keep fun k _ => by rw [hw]
          have HW8 := Lib.hid hW8
          have HX := Lib.hid hx
          clear hb7 hb8 z0 z1 z2 hW8 hx HT6 HLI6
          go_upto_region 22 with fail
          rw [HW8.out, HX.out]
          go_cut [121] (fun v wx => BoolIs v false ∧ Below W8.heap.size W8 wx)
          case first =>
            have s1 : IntKind.i64.wrap (sz + cf) = sz + cf := by rw [IntWalk.i64_in _ ⟨by omega, by omega⟩]
            have s2 : IntKind.i64.wrap ((k : Int) + 1) = (k : Int) + 1 := by rw [IntWalk.i64_in _ ⟨by omega, by omega⟩]
            go_region_held3 (fun w' => w'.cell? ⟨p, 0, none⟩ = some (.string f.1) ∧ w'.cell? ⟨p, 1, none⟩ = some (.string f.2) ∧ w'.cell? ⟨p, 2, none⟩ = some (.bool nv) ∧ w'.cell? ⟨x, 0, none⟩ = some (.string f.1) ∧ w'.cell? ⟨x, 1, none⟩ = some (.string f.2))
              (first | go_keep | exact ⟨k0, k1, k2, k3, k4⟩)
              (first
                | (go_at_call 23; refine (len_any _ (HTC8.out _ (by rfl))).mono ?_; rintro e w9 ⟨rfl, rfl⟩; rw [show (((⟨T.most, T.gone, T.rows ++ [f]⟩ : Tb).rows.length : Nat) : Int) = (k : Int) + 1 from HL2.out])
                | (go_at_call 21; refine (size_any _ (HTC8.out _ (by rfl))).mono ?_; rintro e w9 ⟨rfl, rfl⟩; rw [show sumc (⟨T.most, T.gone, T.rows ++ [f]⟩ : Tb).rows = sz + cf from HS2.out])
                | (go_at_call 27; refine (cost_ref f nv _ (by omega) (by omega)).mono ?_; rintro e w5 ⟨rfl, hw5⟩; rw [HCF.out]; have hb5 : Below W8.heap.size W8 w5 := (by rw [hw5]; refine Below.alloc ?_ ?_ _; exact ⟨rfl, rfl, rfl, Nat.le_refl _, fun _ _ => rfl⟩; exact Nat.le_refl _); have k0 := (hb5.cell (p := ⟨p, 0, none⟩) hp8).trans y0; have k1 := (hb5.cell (p := ⟨p, 1, none⟩) hp8).trans y1; have k2 := (hb5.cell (p := ⟨p, 2, none⟩) hp8).trans y2; have k3 := (hb5.cell (p := ⟨x, 0, none⟩) hx8).trans v0; have k4 := (hb5.cell (p := ⟨x, 1, none⟩) hx8).trans v1; have HTC5 : Hid (∀ w', w'.heap = w5.heap → TabIs w' g F6 121 ⟨T.most, T.gone, T.rows ++ [f]⟩) := Lib.hid (fun w' hw => HT8.out.keep fun k hk => by rw [hw]; exact hb5.block k (HT8.out.lt k hk)); have HB5 := Lib.hid hb5; clear hb5 hw5)
                | (go_at_call 23; refine (len_any _ (HTC5.out _ (by rfl))).mono ?_; rintro e w9 ⟨rfl, rfl⟩; rw [show (((⟨T.most, T.gone, T.rows ++ [f]⟩ : Tb).rows.length : Nat) : Int) = (k : Int) + 1 from HL2.out])
                | (go_at_call 21; refine (size_any _ (HTC5.out _ (by rfl))).mono ?_; rintro e w9 ⟨rfl, rfl⟩; rw [show sumc (⟨T.most, T.gone, T.rows ++ [f]⟩ : Tb).rows = sz + cf from HS2.out]))
            all_goals
              go_wp2_with fail
              go_meet
              exact ⟨⟨_, rfl, by first | rfl | simp⟩, HB5.out⟩
          case rest =>
            obtain ⟨⟨b, rfl, rfl⟩, hbd⟩ := hcut
            have HBD := Lib.hid hbd
            have hsd := hbd.size
            have HTD : Hid (TabIs wc g F6 121 ⟨T.most, T.gone, T.rows ++ [f]⟩) := Lib.hid (HT8.out.keep fun k hk => hbd.block k (HT8.out.lt k hk))
            have HLID : Hid (Lies wc 24 3 (.slice A1 k c1) k (fcs T.rows.reverse)) := Lib.hid (HLI8.out.keep fun q hq => hbd.block q (by have := HOB.out q hq; omega))
            have HBB3 := Lib.hid (HB8.out.trans (hbd.mono (by omega)))
            clear hbd y0 y1 y2 v0 v1
            go_wp2_with fail
            go_loopw [15] (fun i wr => ShRel2 wc k i wr) (fun i _ => k - (intOf i).toNat)
            case atStart => exact ⟨0, rfl, by omega, Below.refl _ _⟩
            case round =>
              obtain ⟨j, rfl, hj, hbr⟩ := hrel
              have HBR2 := Lib.hid hbr
              have hsr2 := hbr.size
              have HTR : Hid (TabIs wr g F6 121 ⟨T.most, T.gone, T.rows ++ [f]⟩) := Lib.hid (HTD.out.keep fun k hk => hbr.block k (HTD.out.lt k hk))
              have hlr := HLID.out.keep (w' := wr) fun q hq => hbr.block q (by have := HOB.out q hq; omega)
              have HLR := Lib.hid hlr
              clear hbr hlr
              by_cases hlt : j < k
              · have m1 : (j : Int) < k := by omega
                have m0 : (0 : Int) ≤ j := by omega
                obtain ⟨r, hr⟩ : ∃ r, T.rows.reverse[j]? = some r := ⟨_, List.getElem?_eq_getElem (by rw [HLL.out]; exact hlt)⟩
                obtain ⟨b, o, rfl, hb, hcell⟩ := (HLR.out.rd rfl).2 (by omega)
                have e := fcs_get hr
                have q0 : wr.cell? ⟨b, o + j * 3, none⟩ = some (.string r.1) := (hcell (j * 3) (by omega)).trans e.1
                have q1 : wr.cell? ⟨b, o + j * 3 + 1, none⟩ = some (.string r.2) := (hcell (j * 3 + 1) (by omega)).trans e.2.1
                have q2 : wr.cell? ⟨b, o + j * 3 + 2, none⟩ = some (.bool false) := (hcell (j * 3 + 2) (by omega)).trans e.2.2
                have HN := Lib.hid (atRows_next T.rows f hr)
                clear hcell e hr
                go_wp2_with fail
                refine (at_any (63 + j) wr HTR.out (by omega)).mono ?_
                rw [show atRows (⟨T.most, T.gone, T.rows ++ [f]⟩ : Tb).rows (63 + j : Int) = some r from HN.out]
                rintro e w8 ⟨rfl, hb8⟩
                simp only [atV, fieldV]
                have p0 := (hb8.cell (p := ⟨b, o + j * 3, none⟩) hb).trans q0
                have p1 := (hb8.cell (p := ⟨b, o + j * 3 + 1, none⟩) hb).trans q1
                have p2 := (hb8.cell (p := ⟨b, o + j * 3 + 2, none⟩) hb).trans q2
                have hb2 : b < w8.heap.size := Nat.lt_of_lt_of_le hb hb8.size
                have hs8' := hb8.size
                have HB9 := Lib.hid (HBR2.out.trans (hb8.mono hsr2))
                clear hb8 q0 q1 q2
                go_wp2_with fail
                go_quiet (fail)
                go_wp2_with fail
                go_roundw
                case rel => exact ⟨j + 1, by go_num, by omega, below_dN (HB9.out.alloc (by omega) _) _⟩
                case measure => simp [intOf]; omega
              · obtain rfl : j = k := by omega
                go_wp2_with fail
                go_ret
                exact ⟨rfl, HE.out _ (HBB3.out.trans (HBR2.out.mono (by omega)))⟩
end Go.Proofs.Ythpieiipddfpjaa
