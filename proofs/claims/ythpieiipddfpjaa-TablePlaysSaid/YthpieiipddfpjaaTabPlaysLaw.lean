/- The walk of drawbridgelaw04.TablePlays. -/
import Derived.Test.YthpieiipddfpjaaTabBoth
namespace Go.Proofs.Ythpieiipddfpjaa
open Go.RowKit

def PlaysRel (B : Nat) (w : World) (g q : Nat) (T : Tb) (iv : Value) (wr : World) : Prop := ∃ k : Nat, iv = .int .i64 (60 + k) ∧ k ≤ T.rows.length + 3 ∧ Both B w wr g q 120 T
set_option maxRecDepth 100000 in
set_option maxHeartbeats 4000000 in
theorem tplays_any {n c : Nat} {A : Option Addr} {D : Nat → St} (most : Int) (w : World) (h : Script w w.heap.size A n D) (hn : n ≤ 140737488351232) :
    Calls Try.prog 4 #[.int .i64 most, .slice A n c] w (RetT w) := by
  have H := Lib.hid h
  clear h
  go_enter Try.func4, Try.ntmps4
  go_wp2_with fail
  refine (awake4_any w).mono ?_
  rintro e w0 ⟨rfl, hb0⟩
  have HB0 := Lib.hid hb0
  have hs0 := hb0.size
  clear hb0
  go_wp2_with fail
  refine (few_any (B := w.heap.size) w0 (H.out.below HB0.out) hs0 hn).mono ?_
  rintro e w1 ⟨bf, rfl, hb1, hfew⟩
  have HB1 := Lib.hid (HB0.out.trans (hb1.mono hs0))
  have hs1 := HB1.out.size
  have HF := Lib.hid hfew
  clear hb1 hfew HB0 hs0
  obtain rfl | rfl : bf = false ∨ bf = true := by cases bf <;> simp
  · go_wp2_with fail
    go_ret
    exact ⟨rfl, HB1.out⟩
  by_cases hbad : most < 0 ∨ 65536 < most
  · go_wp2_with fail
    refine (tnew_bad most w1 hbad).mono ?_
    rintro e w2 ⟨rfl, rfl⟩
    by_cases h0 : most < 0
    · clear hbad
      go_wp2_with fail
      go_ret
      exact ⟨rfl, HB1.out⟩
    · have h1 : 65536 < most := by omega
      clear hbad
      go_wp2_with fail
      go_ret
      exact ⟨rfl, HB1.out⟩
  have h0 : 0 ≤ most := by omega
  have h1 : most ≤ 65536 := by omega
  clear hbad
  go_wp2_with fail
  refine (tnew_any most w1 h0 h1).mono ?_
  rintro e w2 ⟨g, F, rfl, ht, hF, hb2⟩
  have HB2 := Lib.hid (HB1.out.trans (hb2.mono hs1))
  have hs2 := HB2.out.size
  have HT := Lib.hid ht
  have HFF : Hid (∀ k, F k → w.heap.size ≤ k) := Lib.hid fun k hk => by have := hF k hk; omega
  clear hb2 ht hF
  go_wp2_with fail
  obtain ⟨W3, hW3⟩ : ∃ W3, w2.alloc (.cells #[.int .i64 most, .slice none 0 0] 34) = W3 := ⟨_, rfl⟩
  obtain ⟨q, hq⟩ : ∃ q, w2.heap.size = q := ⟨_, rfl⟩
  have HB3 : Hid (Below w.heap.size w W3) := Lib.hid (by rw [← hW3]; exact HB2.out.alloc hs2 _)
  have HBO := Lib.hid (both_new HT.out HFF.out hs2 hW3 hq)
  have hs3 := HB3.out.size
  rw [hW3, hq]
  clear hW3 hq
  refine (play_any (B := w.heap.size) W3 (H.out.below HB3.out) hs3 hn (HF.out (by simp)) HBO.out).mono ?_
  rintro e w4 ⟨rfl, T, hbo⟩
  obtain ⟨F4, G4, ht, hr, hd, hF, hG, hb4⟩ := hbo.from HB3.out
  obtain ⟨A4, c4, hG4, hrt⟩ := hr
  obtain ⟨y0, y1⟩ := hrt.cells
  obtain ⟨-, hm0, hm1, hgone, hlen, -, hfit⟩ := ht.inv
  have hsz0 := sumc_nonneg T.rows
  have HTC : Hid (∀ w', w'.heap = w4.heap → TabIs w' g F4 120 T) := Lib.hid fun w' hw => ht.keep fun k _ => by rw [hw]
  have HRC : Hid (∀ w', w'.heap = w4.heap → RIs w' q G4 T.most T.rows) := Lib.hid fun w' hw => (show RIs w4 q G4 T.most T.rows from ⟨A4, c4, hG4, hrt⟩).keep fun k _ => by rw [hw]
  have HSM := Lib.hid ht.small
  have HBB := Lib.hid (And.intro hd (And.intro hF (And.intro hG hb4)))
  have hgq : q < w4.heap.size := hrt.lt q (.inl rfl)
  clear hbo ht hrt hd hF hG hb4
  obtain ⟨sz, hsz⟩ : ∃ sz, sumc T.rows = sz := ⟨_, rfl⟩
  have HSZ := Lib.hid hsz
  rw [hsz] at hfit hsz0
  clear hsz
  go_upto_region 11 with fail
  go_cut [81] (fun v wx => BoolIs v false ∧ Both w.heap.size w wx g q 120 T)
  case first =>
    go_region_held3 (fun w' => w'.cell? ⟨q, 0, none⟩ = some (.int .i64 T.most) ∧ w'.cell? ⟨q, 1, none⟩ = some (.slice A4 T.rows.length c4))
      (first | go_keep | exact ⟨k0, k1⟩)
      (first
        | (go_at_call 20; refine (most_any _ (HTC.out _ (by rfl))).mono ?_; rintro e w9 ⟨rfl, rfl⟩)
        | (go_at_call 21; refine (size_any _ (HTC.out _ (by rfl))).mono ?_; rintro e w9 ⟨rfl, rfl⟩; rw [HSZ.out])
        | (go_at_call 22; refine (rsize_any _ (HRC.out _ (by rfl)) HSM.out).mono ?_; rintro e w5 ⟨rfl, hb5⟩; rw [HSZ.out]; have k0 := (hb5.cell (p := ⟨q, 0, none⟩) hgq).trans y0; have k1 := (hb5.cell (p := ⟨q, 1, none⟩) hgq).trans y1; have HTC5 : Hid (∀ w', w'.heap = w5.heap → TabIs w' g F4 120 T) := Lib.hid (fun w' hw => (HTC.out w4 rfl).keep fun k hk => by rw [hw]; exact hb5.block k ((HTC.out w4 rfl).lt k hk)); have HB5 : Hid (Below w4.heap.size w4 w5) := Lib.hid ⟨hb5.os, hb5.tape, hb5.output, hb5.size, hb5.block⟩; clear hb5)
        | (go_at_call 20; refine (most_any _ (HTC5.out _ (by rfl))).mono ?_; rintro e w9 ⟨rfl, rfl⟩)
        | (go_at_call 21; refine (size_any _ (HTC5.out _ (by rfl))).mono ?_; rintro e w9 ⟨rfl, rfl⟩; rw [HSZ.out])
        | (go_at_call 23; refine (len_any _ (HTC5.out _ (by rfl))).mono ?_; rintro e w9 ⟨rfl, rfl⟩))
    all_goals
      go_wp2_with fail
      go_meet
      exact ⟨⟨_, rfl, by simp; try omega⟩, F4, G4, HTC5.out w5 rfl, (HRC.out w4 rfl).below HB5.out, HBB.out.1, HBB.out.2.1, HBB.out.2.2.1, HBB.out.2.2.2.trans (HB5.out.mono HBB.out.2.2.2.size)⟩
  case rest =>
    obtain ⟨⟨b, rfl, rfl⟩, hbo⟩ := hcut
    have HO := Lib.hid hbo
    have hl2 : T.rows.length ≤ 2048 := by omega
    clear hbo y0 y1
    go_wp2
    go_loopw [8] (fun i wr => PlaysRel w.heap.size w g q T i wr) (fun i _ => T.rows.length + 3 - ((intOf i) - 60).toNat)
    case atStart => exact ⟨0, rfl, by omega, HO.out⟩
    case round =>
      obtain ⟨k, rfl, hk, hbo⟩ := hrel
      have HBO1 := Lib.hid hbo
      obtain ⟨F5, G5, ht5, hr5, hd5, hF5, hG5, hb5⟩ := hbo
      have ht5' := ht5
      have HB5 := Lib.hid hb5
      obtain ⟨A5, c5, hG5, hrt5⟩ := hr5
      obtain ⟨-, z1⟩ := hrt5.cells
      have hs5 := hb5.size
      clear ht5 hd5 hF5 hG5 hb5
      by_cases hlt : k < T.rows.length + 3
      · have hle : (60 + k : Int) ≤ 62 + T.rows.length := by omega
        obtain ⟨f, er, hf⟩ := atV_shape (atRows T.rows (60 + k))
        have HFV := Lib.hid hf
        clear hf hrt5
        have HT5 := Lib.hid ht5'
        go_wp2_with fail
        refine (at_any (60 + k) wr HT5.out (by omega)).mono ?_
        rw [HFV.out]
        rintro e w6 ⟨rfl, hb6⟩
        have H6 := Lib.hid (HBO1.out.below hs5 hb6)
        have hs6 := hb6.size
        obtain ⟨x, hx⟩ : ∃ x, w6.heap.size = x := ⟨_, rfl⟩
        obtain ⟨W7, hW7⟩ : ∃ W7, w6.alloc (.cells #[.string f.1, .string f.2, .bool false] 24) = W7 := ⟨_, rfl⟩
        have HB7 := Lib.hid (H6.out.below (Nat.le_trans hs5 hs6) (show Below w6.heap.size w6 W7 by rw [← hW7]; exact (Below.refl _ _).alloc (Nat.le_refl _) _))
        have x0 : W7.cell? ⟨x, 0, none⟩ = some (.string f.1) := by rw [← hW7, ← hx]; exact World.cell?_alloc_at _ _ _ _ rfl
        have x1 : W7.cell? ⟨x, 1, none⟩ = some (.string f.2) := by rw [← hW7, ← hx]; exact World.cell?_alloc_at _ _ _ _ rfl
        have x2 : W7.cell? ⟨x, 2, none⟩ = some (.bool false) := by rw [← hW7, ← hx]; exact World.cell?_alloc_at _ _ _ _ rfl
        have hxs : x < W7.heap.size := by rw [← hW7, ← hx]; simp
        have hs7 : w.heap.size ≤ W7.heap.size := by rw [← hW7]; simp; omega
        have HW7 := Lib.hid hW7
        have HX := Lib.hid hx
        clear hb6 hW7 hx
        go_wp2_with fail
        rw [HW7.out, HX.out]
        obtain ⟨F7, G7, ht7, hr7, -⟩ := HB7.out
        have HR7 := Lib.hid hr7
        clear ht7 hr7
        refine (rat_any (60 + k) W7 HR7.out HSM.out (by omega)).mono ?_
        rw [HFV.out]
        rintro e w8 ⟨rfl, hb8⟩
        have H8 := Lib.hid (HB7.out.below hs7 hb8)
        have hs8 := hb8.size
        have a0 := (hb8.cell (p := ⟨x, 0, none⟩) hxs).trans x0
        have a1 := (hb8.cell (p := ⟨x, 1, none⟩) hxs).trans x1
        have a2 := (hb8.cell (p := ⟨x, 2, none⟩) hxs).trans x2
        have hx8 : x < w8.heap.size := Nat.lt_of_lt_of_le hxs hs8
        clear hb8 x0 x1 x2 z1
        go_wp2
        go_roundw
        case rel => exact ⟨k + 1, by go_num, by omega, H8.out.below (Nat.le_trans hs7 hs8) ((Below.refl _ _).alloc (Nat.le_refl _) _)⟩
        case measure => simp [intOf]; omega
      · have hle : ¬ (60 + k : Int) ≤ 62 + T.rows.length := by omega
        go_wp2
        go_ret
        obtain ⟨F6, G6, -, -, -, -, -, hb6⟩ := HBO1.out
        exact ⟨rfl, hb6⟩
end Go.Proofs.Ythpieiipddfpjaa
