/- The walk of drawbridgelaw04.TableFinds. -/
import Derived.Test.YthpieiipddfpjaaTabTwin
import Derived.Test.YthpieiipddfpjaaRTab5
import Derived.RegionTactic
namespace Go.Proofs.Ythpieiipddfpjaa
open Go.RowKit

theorem findA_le (l : List Rw) (f : Rw) : (findA l f).1 ≤ l.length := by
  unfold findA
  cases h : l.findIdx? (fun r => r = f) with
  | some i => have := (List.findIdx?_eq_some_iff_getElem.1 h).1; simp only; omega
  | none => have := nearA_le l f.1; simp only; omega
theorem keep_set {w : World} {p k o : Nat} (v : Value) (h : k ≠ p) : (w.setCell ⟨p, o, none⟩ v).heap[k]? = w.heap[k]? := Below.heap_setCell _ _ _ _ (by simpa using h)
theorem Both.set {B B' p o : Nat} {W W' w : World} {g q N : Nat} {T : Tb} (v : Value) (h : Both B W w g q N T) (hp : p < B) (hB : B' ≤ p) (hb : Below B' W' W) : Both B' W' (w.setCell ⟨p, o, none⟩ v) g q N T := by
  obtain ⟨F, G, ht, hr, hd, hF, hG, hb0⟩ := h
  exact ⟨F, G, ht.keep fun k hk => keep_set v (by have := hF k hk; omega), hr.keep fun k hk => keep_set v (by have := hG k hk; omega), hd, fun k hk => by have := hF k hk; omega, fun k hk => by have := hG k hk; omega, (hb.trans (hb0.mono (by omega))).setCell (by show B' ≤ p; exact hB) v⟩
theorem Both.low {B B' : Nat} {W W' w : World} {g q N : Nat} {T : Tb} (h : Both B W w g q N T) (hB : B' ≤ B) (hb : Below B' W' W) : Both B' W' w g q N T := by
  obtain ⟨F, G, ht, hr, hd, hF, hG, hb0⟩ := h
  exact ⟨F, G, ht, hr, hd, fun k hk => by have := hF k hk; omega, fun k hk => by have := hG k hk; omega, hb.trans (hb0.mono hB)⟩
theorem Both.set2 {B B' p : Nat} {W W' w : World} {g q N : Nat} {T : Tb} (v v' : Value) (h : Both B W w g q N T) (hp : p < B) (hB : B' ≤ p) (hb : Below B' W' W) : Both B' W' ((w.setCell ⟨p, 0, none⟩ v).setCell ⟨p, 1, none⟩ v') g q N T := by
  obtain ⟨F, G, ht, hr, hd, hF, hG, hb0⟩ := h
  have e : ∀ k, k ≠ p → ((w.setCell ⟨p, 0, none⟩ v).setCell ⟨p, 1, none⟩ v').heap[k]? = w.heap[k]? := fun k hk => (keep_set v' hk).trans (keep_set v hk)
  exact ⟨F, G, ht.keep fun k hk => e k (by have := hF k hk; omega), hr.keep fun k hk => e k (by have := hG k hk; omega), hd, fun k hk => by have := hF k hk; omega, fun k hk => by have := hG k hk; omega, ((hb.trans (hb0.mono (by omega))).setCell (by show B' ≤ p; exact hB) v).setCell (by show B' ≤ p; exact hB) v'⟩
set_option maxRecDepth 100000 in
set_option maxHeartbeats 4000000 in
theorem tfinds_any {n c : Nat} {A : Option Addr} {D : Nat → St} (f : Rw) (nv : Bool) (which : Int) (w : World) (h : Script w w.heap.size A n D) (hn : n ≤ 140737488351232) (hf1 : f.1.size ≤ 9223372036854775807) (hf2 : f.2.size ≤ 9223372036854775807)
    (hw0 : -9223372036854775808 ≤ which) (hw1 : which ≤ 9223372036854775807) :
    Calls Try.prog 3 #[.slice A n c, .agg #[.string f.1, .string f.2, .bool nv], .int .i64 which] w (RetT w) := by
  obtain ⟨W0, hW0⟩ : ∃ W0, w.alloc (.cells #[.string f.1, .string f.2, .bool nv] 24) = W0 := ⟨_, rfl⟩
  obtain ⟨p, hp⟩ : ∃ p, w.heap.size = p := ⟨_, rfl⟩
  obtain ⟨B, hB⟩ : ∃ B, p + 1 = B := ⟨_, rfl⟩
  have b0 : Below w.heap.size w W0 := by rw [← hW0]; exact (Below.refl _ _).alloc (Nat.le_refl _) _
  have f0 : W0.cell? ⟨p, 0, none⟩ = some (.string f.1) := by rw [← hW0, ← hp]; exact World.cell?_alloc_at _ _ _ _ rfl
  have f1 : W0.cell? ⟨p, 1, none⟩ = some (.string f.2) := by rw [← hW0, ← hp]; exact World.cell?_alloc_at _ _ _ _ rfl
  have f2 : W0.cell? ⟨p, 2, none⟩ = some (.bool nv) := by rw [← hW0, ← hp]; exact World.cell?_alloc_at _ _ _ _ rfl
  have fz : ∀ o, W0.frozen? ⟨p, o, none⟩ = false := fun o => by rw [← hW0, ← hp]; unfold World.frozen?; rw [heapNew]; simp
  have hBs : W0.heap.size = B := by rw [← hW0, ← hB, ← hp]; simp
  have hpB : p < B := by omega
  have H := Lib.hid ((h.below b0).mono (B' := B) (by omega))
  have HC : Hid (∀ w', Below B W0 w' → w'.cell? ⟨p, 0, none⟩ = some (.string f.1) ∧ w'.cell? ⟨p, 1, none⟩ = some (.string f.2) ∧ w'.cell? ⟨p, 2, none⟩ = some (.bool nv) ∧ w'.frozen? ⟨p, 0, none⟩ = false ∧ w'.frozen? ⟨p, 1, none⟩ = false) := Lib.hid fun w' hb =>
    ⟨(hb.cell (p := ⟨p, 0, none⟩) hpB).trans f0, (hb.cell (p := ⟨p, 1, none⟩) hpB).trans f1, (hb.cell (p := ⟨p, 2, none⟩) hpB).trans f2, (hb.frozen (p := ⟨p, 0, none⟩) hpB).trans (fz 0), (hb.frozen (p := ⟨p, 1, none⟩) hpB).trans (fz 1)⟩
  have HE : Hid (∀ w', Below B W0 w' → Below w.heap.size w w') := Lib.hid fun w' hb => b0.trans (hb.mono (by omega))
  have HW := Lib.hid hW0
  have HB00 : Hid (Below p w W0) := Lib.hid (by rw [← hp]; exact b0)
  have HP := Lib.hid hp
  clear h b0 f0 f1 f2 hW0 hp hB fz
  go_enter Try.func3, Try.ntmps3
  go_wp2_with fail
  rw [HW.out, HP.out]
  refine (awake4_any W0).mono ?_
  rintro e w0 ⟨rfl, hb0⟩
  rw [hBs] at hb0
  have HB0 := Lib.hid hb0
  have hs0 := hb0.size
  clear hb0
  go_wp2_with fail
  refine (few_any (B := B) w0 (H.out.below HB0.out) (by omega) hn).mono ?_
  rintro e w1 ⟨bf, rfl, hb1, hfew⟩
  have HB1 := Lib.hid (HB0.out.trans (hb1.mono (by omega)))
  have hs1 := HB1.out.size
  have HF := Lib.hid hfew
  clear hb1 hfew HB0 hs0
  obtain rfl | rfl : bf = false ∨ bf = true := by cases bf <;> simp
  · go_wp2_with fail
    go_ret
    exact ⟨rfl, HE.out _ HB1.out⟩
  go_wp2_with fail
  refine (tnew_any 4096 w1 (by decide) (by decide)).mono ?_
  rintro e w2 ⟨g, F, rfl, ht, hF, hb2⟩
  have HB2 := Lib.hid (HB1.out.trans (hb2.mono (by omega)))
  have hs2 := HB2.out.size
  have HT := Lib.hid ht
  have HFF : Hid (∀ k, F k → B ≤ k) := Lib.hid fun k hk => by have := hF k hk; omega
  clear hb2 ht hF
  go_wp2_with fail
  obtain ⟨W3, hW3⟩ : ∃ W3, w2.alloc (.cells #[.int .i64 4096, .slice none 0 0] 34) = W3 := ⟨_, rfl⟩
  obtain ⟨q, hq⟩ : ∃ q, w2.heap.size = q := ⟨_, rfl⟩
  have HB3 : Hid (Below B W0 W3) := Lib.hid (by rw [← hW3]; exact HB2.out.alloc (by omega) _)
  have HBO := Lib.hid (both_new HT.out HFF.out (by omega) hW3 hq)
  have hs3 := HB3.out.size
  rw [hW3, hq]
  clear hW3 hq
  refine (play_any (B := B) W3 (H.out.below HB3.out) (by omega) hn (HF.out (by simp)) HBO.out).mono ?_
  rintro e w4 ⟨rfl, T, hbo⟩
  have hbo2 := hbo.from HB3.out
  have HB4 := Lib.hid hbo2
  obtain ⟨F4, G4, ht, hr, hd, hF, hG, hb4⟩ := hbo2
  obtain ⟨A4, c4, hG4, hrt⟩ := hr
  obtain ⟨-, y1⟩ := hrt.cells
  obtain ⟨-, hm0, hm1, hgone, hlen, -, hfit⟩ := ht.inv
  have HSM := Lib.hid ht.small
  have hlen2 := ht.small.len
  have hgq : q < w4.heap.size := hrt.lt q (.inl rfl)
  have hs4 : B ≤ w4.heap.size := by have := hb4.size; omega
  have HRT := Lib.hid hrt
  have HBL := Lib.hid hb4
  obtain ⟨ln, hln⟩ : ∃ ln, T.rows.length = ln := ⟨_, rfl⟩
  have HLN := Lib.hid hln
  rw [hln] at y1 hlen hlen2
  clear hbo ht hrt hd hF hG hb4 hln
  obtain ⟨z0, z1, z2, z3, z4⟩ := HC.out w4 HBL.out
  by_cases hc : 0 < ln ∧ 0 ≤ which
  · obtain ⟨hc1, hc2⟩ := hc
    have hc1' : (0 : Int) < (ln : Int) := by omega
    go_wp2_with fail
    obtain ⟨j, hj⟩ : ∃ j : Nat, (which % (ln : Int)).toNat = j := ⟨_, rfl⟩
    have hjm : which % (ln : Int) = j := by have := Int.emod_nonneg which (show (ln : Int) ≠ 0 by omega); omega
    have hjl : j < ln := by have := Int.emod_lt_of_pos which (show (0 : Int) < (ln : Int) by omega); omega
    have hjt : which.tmod (ln : Int) = j := by rw [Int.tmod_eq_emod_of_nonneg hc2]; exact hjm
    obtain ⟨r, hr⟩ : ∃ r, T.rows.reverse[j]? = some r := ⟨_, List.getElem?_eq_getElem (by rw [List.length_reverse, HLN.out]; exact hjl)⟩
    obtain ⟨b, o, rfl, hb, q0, q1, q2⟩ := HRT.out.at_ hr
    have hj0 : (0 : Int) ≤ j := by omega
    have hj1 : (j : Int) < ln := by omega
    have hne : ¬ ln = 0 := by omega
    have hnz : ((ln : Int) == 0) = false := by rw [beq_eq_false_iff_ne]; omega
    have hw : IntKind.i64.wrap (j : Int) = j := IntWalk.i64_in _ ⟨by omega, by omega⟩
    have HRM := Lib.hid (List.mem_reverse.1 (List.mem_of_getElem? hr))
    clear hj hjm hr
    go_region_held3 (fun w' => w'.cell? ⟨q, 1, none⟩ = some (.slice (some ⟨b, o, none⟩) ln c4) ∧ w'.cell? ⟨b, o + j * 3, none⟩ = some (.string r.1) ∧ w'.cell? ⟨b, o + j * 3 + 1, none⟩ = some (.string r.2) ∧ w'.cell? ⟨b, o + j * 3 + 2, none⟩ = some (.bool false))
      (go_keep) (fail)
    all_goals (rename_i hHeld)
    obtain ⟨r1, r2⟩ := r
    obtain ⟨fa, fb⟩ := f
    simp only at z0 z1 q0 q1 hf1 hf2
    obtain ⟨ok1, ok2⟩ := HSM.out.2 _ HRM.out
    unfold okS maxLen at ok1 ok2
    simp only at ok1 ok2
    obtain ⟨W5, hW5⟩ : ∃ W5, (w4.alloc (.cells #[.string r1, .string r2, .bool false] 24)).drew = W5 := ⟨_, rfl⟩
    obtain ⟨x, hx⟩ : ∃ x, w4.heap.size = x := ⟨_, rfl⟩
    have hb5 : Below w4.heap.size w4 W5 := by rw [← hW5]; exact ((Below.refl _ _).alloc (Nat.le_refl _) _).drew
    have v0 : W5.cell? ⟨x, 0, none⟩ = some (.string r1) := by rw [← hW5, ← hx]; exact World.cell?_alloc_at _ _ _ _ rfl
    have v1 : W5.cell? ⟨x, 1, none⟩ = some (.string r2) := by rw [← hW5, ← hx]; exact World.cell?_alloc_at _ _ _ _ rfl
    have hpx5 : p < w4.heap.size := by omega
    have u0 := (hb5.cell (p := ⟨p, 0, none⟩) hpx5).trans z0
    have u1 := (hb5.cell (p := ⟨p, 1, none⟩) hpx5).trans z1
    have u2 := (hb5.cell (p := ⟨p, 2, none⟩) hpx5).trans z2
    have u3 := (hb5.frozen (p := ⟨p, 0, none⟩) hpx5).trans z3
    have u4 := (hb5.frozen (p := ⟨p, 1, none⟩) hpx5).trans z4
    have hxp : x ≠ p := by omega
    have hpx : p < W5.heap.size := by have := hb5.size; omega
    have HB5 := Lib.hid (HB4.out.below (by omega) hb5)
    rw [hW5, hx]
    clear hW5 hx hb5 z0 z1 z2 z3 z4 q0 q1 q2 y1 hjt hjl hj0 hj1 hne hnz hw hHeld
    by_cases h3 : which % 3 = 0
    · go_wp2_with fail
      have y0 : ((W5.setCell ⟨p, 0, none⟩ (.string r1)).setCell ⟨p, 1, none⟩ (.string r2)).cell? ⟨p, 0, none⟩ = some (.string r1) := by go_simp
      have y1 : ((W5.setCell ⟨p, 0, none⟩ (.string r1)).setCell ⟨p, 1, none⟩ (.string r2)).cell? ⟨p, 1, none⟩ = some (.string r2) := by go_simp
      have y2 : ((W5.setCell ⟨p, 0, none⟩ (.string r1)).setCell ⟨p, 1, none⟩ (.string r2)).cell? ⟨p, 2, none⟩ = some (.bool nv) := by go_simp
      obtain ⟨WX, hWX⟩ : ∃ WX, (W5.setCell ⟨p, 0, none⟩ (.string r1)).setCell ⟨p, 1, none⟩ (.string r2) = WX := ⟨_, rfl⟩
      have HBX : Hid (Both p w WX g q 120 T) := Lib.hid (by rw [← hWX]; exact (HB5.out.set2 _ _ hpB (Nat.le_refl _) HB00.out))
      have hpx : p < WX.heap.size := by rw [← hWX]; simpa [World.setCell] using hpx
      rw [hWX] at y0 y1 y2 ⊢
      clear hWX u0 u1 u2 u3 u4 HB5
      have hsz1 := ok1
      have hsz2 := ok2
      obtain ⟨FX, GX, htx, hrx, -, -, -, hbx⟩ := HBX.out
      have HTX := Lib.hid htx
      have HRX := Lib.hid hrx
      have HBLX := Lib.hid hbx
      have hszx := hbx.size
      clear htx hrx hbx
      refine (find_any (r1, r2) nv WX HTX.out hsz1 hsz2).mono ?_
      rw [findT_all]
      rintro e w6 ⟨rfl, hb6⟩
      have hR6 := HRX.out.below hb6
      have HR6 := Lib.hid hR6
      have x0 := (hb6.cell (p := ⟨p, 0, none⟩) hpx).trans y0
      have x1 := (hb6.cell (p := ⟨p, 1, none⟩) hpx).trans y1
      have x2 := (hb6.cell (p := ⟨p, 2, none⟩) hpx).trans y2
      have hp6 : p < w6.heap.size := Nat.lt_of_lt_of_le hpx hb6.size
      have HB6 := Lib.hid hb6
      clear hR6 hb6 y0 y1 y2
      go_wp2_with fail
      refine (rfind_any (r1, r2) nv w6 HR6.out HSM.out).mono ?_
      rintro e w7 ⟨rfl, hb7⟩
      have y0 := (hb7.cell (p := ⟨p, 0, none⟩) hp6).trans x0
      have y1 := (hb7.cell (p := ⟨p, 1, none⟩) hp6).trans x1
      have hp7 : p < w7.heap.size := Nat.lt_of_lt_of_le hp6 hb7.size
      have hbz := HB6.out.trans (hb7.mono HB6.out.size)
      have HT7 : Hid (TabIs w7 g FX 120 T) := Lib.hid (HTX.out.keep fun k hk => hbz.block k (HTX.out.lt k hk))
      have HB7 := Lib.hid (HBLX.out.trans (hbz.mono (by have := HP.out; omega)))
      have hs7 : p ≤ w7.heap.size := by omega
      have HAT := Lib.hid (findA_at T.rows (r1, r2))
      have hle := findA_le (statF ++ T.rows.reverse) (r1, r2)
      obtain ⟨m, ok, hv⟩ : ∃ m ok, findA (statF ++ T.rows.reverse) (r1, r2) = (m, ok) := ⟨_, _, rfl⟩
      rw [hv] at HAT hle ⊢
      simp only [List.length_append, statF_length, List.length_reverse, HLN.out] at HAT hle ⊢
      clear hb7 x0 x1 x2 hbz hv
      rcases HAT.out with ⟨rfl, rfl⟩ | ⟨gr, g1, g2, g3, g4⟩
      · go_wp2_with fail
        go_ret
        exact ⟨rfl, by rw [HP.out]; exact HB7.out⟩
      · have HG2 := Lib.hid g2
        obtain ⟨ga, gb⟩ := gr
        simp only at g3 g4
        subst g3
        clear g2
        have hmz : ¬ m = 0 := by omega
        obtain rfl | rfl : ok = true ∨ ok = false := by cases ok <;> simp
        · obtain rfl : gb = r2 := by simpa using g4
          clear g4
          go_wp2_with fail
          refine (at_any m w7 HT7.out (by omega)).mono ?_
          rw [HG2.out]
          rintro e w8 ⟨rfl, hb8⟩
          simp only [atV, fieldV]
          have HB8 := Lib.hid (HB7.out.trans (hb8.mono hs7))
          have x0 := (hb8.cell (p := ⟨p, 0, none⟩) hp7).trans y0
          have x1 := (hb8.cell (p := ⟨p, 1, none⟩) hp7).trans y1
          have hp8 : p < w8.heap.size := Nat.lt_of_lt_of_le hp7 hb8.size
          clear hb8 y0 y1
          go_wp2_with fail
          go_ret
          exact ⟨rfl, by rw [HP.out]; exact HB8.out.alloc (by omega) _⟩
        · have ev : (gb.toList == r2.toList) = false := (Lib.bytes_beq_false_iff gb r2).2 (by simpa using g4)
          clear g4
          go_wp2_with fail
          refine (at_any m w7 HT7.out (by omega)).mono ?_
          rw [HG2.out]
          rintro e w8 ⟨rfl, hb8⟩
          simp only [atV, fieldV]
          have HB8 := Lib.hid (HB7.out.trans (hb8.mono hs7))
          have x0 := (hb8.cell (p := ⟨p, 0, none⟩) hp7).trans y0
          have x1 := (hb8.cell (p := ⟨p, 1, none⟩) hp7).trans y1
          have hp8 : p < w8.heap.size := Nat.lt_of_lt_of_le hp7 hb8.size
          clear hb8 y0 y1
          go_wp2_with fail
          go_ret
          exact ⟨rfl, by rw [HP.out]; exact HB8.out.alloc (by omega) _⟩
    · go_wp2_with fail
      have y0 : (W5.setCell ⟨p, 0, none⟩ (.string r1)).cell? ⟨p, 0, none⟩ = some (.string r1) := by go_simp
      have y1 : (W5.setCell ⟨p, 0, none⟩ (.string r1)).cell? ⟨p, 1, none⟩ = some (.string fb) := by go_simp
      have y2 : (W5.setCell ⟨p, 0, none⟩ (.string r1)).cell? ⟨p, 2, none⟩ = some (.bool nv) := by go_simp
      obtain ⟨WX, hWX⟩ : ∃ WX, W5.setCell ⟨p, 0, none⟩ (.string r1) = WX := ⟨_, rfl⟩
      have HBX : Hid (Both p w WX g q 120 T) := Lib.hid (by rw [← hWX]; exact (HB5.out.set _ hpB (Nat.le_refl _) HB00.out))
      have hpx : p < WX.heap.size := by rw [← hWX]; simpa [World.setCell] using hpx
      rw [hWX] at y0 y1 y2 ⊢
      clear hWX u0 u1 u2 u3 u4 HB5
      have hsz1 := ok1
      have hsz2 := hf2
      obtain ⟨FX, GX, htx, hrx, -, -, -, hbx⟩ := HBX.out
      have HTX := Lib.hid htx
      have HRX := Lib.hid hrx
      have HBLX := Lib.hid hbx
      have hszx := hbx.size
      clear htx hrx hbx
      refine (find_any (r1, fb) nv WX HTX.out hsz1 hsz2).mono ?_
      rw [findT_all]
      rintro e w6 ⟨rfl, hb6⟩
      have hR6 := HRX.out.below hb6
      have HR6 := Lib.hid hR6
      have x0 := (hb6.cell (p := ⟨p, 0, none⟩) hpx).trans y0
      have x1 := (hb6.cell (p := ⟨p, 1, none⟩) hpx).trans y1
      have x2 := (hb6.cell (p := ⟨p, 2, none⟩) hpx).trans y2
      have hp6 : p < w6.heap.size := Nat.lt_of_lt_of_le hpx hb6.size
      have HB6 := Lib.hid hb6
      clear hR6 hb6 y0 y1 y2
      go_wp2_with fail
      refine (rfind_any (r1, fb) nv w6 HR6.out HSM.out).mono ?_
      rintro e w7 ⟨rfl, hb7⟩
      have y0 := (hb7.cell (p := ⟨p, 0, none⟩) hp6).trans x0
      have y1 := (hb7.cell (p := ⟨p, 1, none⟩) hp6).trans x1
      have hp7 : p < w7.heap.size := Nat.lt_of_lt_of_le hp6 hb7.size
      have hbz := HB6.out.trans (hb7.mono HB6.out.size)
      have HT7 : Hid (TabIs w7 g FX 120 T) := Lib.hid (HTX.out.keep fun k hk => hbz.block k (HTX.out.lt k hk))
      have HB7 := Lib.hid (HBLX.out.trans (hbz.mono (by have := HP.out; omega)))
      have hs7 : p ≤ w7.heap.size := by omega
      have HAT := Lib.hid (findA_at T.rows (r1, fb))
      have hle := findA_le (statF ++ T.rows.reverse) (r1, fb)
      obtain ⟨m, ok, hv⟩ : ∃ m ok, findA (statF ++ T.rows.reverse) (r1, fb) = (m, ok) := ⟨_, _, rfl⟩
      rw [hv] at HAT hle ⊢
      simp only [List.length_append, statF_length, List.length_reverse, HLN.out] at HAT hle ⊢
      clear hb7 x0 x1 x2 hbz hv
      rcases HAT.out with ⟨rfl, rfl⟩ | ⟨gr, g1, g2, g3, g4⟩
      · go_wp2_with fail
        go_ret
        exact ⟨rfl, by rw [HP.out]; exact HB7.out⟩
      · have HG2 := Lib.hid g2
        obtain ⟨ga, gb⟩ := gr
        simp only at g3 g4
        subst g3
        clear g2
        have hmz : ¬ m = 0 := by omega
        obtain rfl | rfl : ok = true ∨ ok = false := by cases ok <;> simp
        · obtain rfl : gb = fb := by simpa using g4
          clear g4
          go_wp2_with fail
          refine (at_any m w7 HT7.out (by omega)).mono ?_
          rw [HG2.out]
          rintro e w8 ⟨rfl, hb8⟩
          simp only [atV, fieldV]
          have HB8 := Lib.hid (HB7.out.trans (hb8.mono hs7))
          have x0 := (hb8.cell (p := ⟨p, 0, none⟩) hp7).trans y0
          have x1 := (hb8.cell (p := ⟨p, 1, none⟩) hp7).trans y1
          have hp8 : p < w8.heap.size := Nat.lt_of_lt_of_le hp7 hb8.size
          clear hb8 y0 y1
          go_wp2_with fail
          go_ret
          exact ⟨rfl, by rw [HP.out]; exact HB8.out.alloc (by omega) _⟩
        · have ev : (gb.toList == fb.toList) = false := (Lib.bytes_beq_false_iff gb fb).2 (by simpa using g4)
          clear g4
          go_wp2_with fail
          refine (at_any m w7 HT7.out (by omega)).mono ?_
          rw [HG2.out]
          rintro e w8 ⟨rfl, hb8⟩
          simp only [atV, fieldV]
          have HB8 := Lib.hid (HB7.out.trans (hb8.mono hs7))
          have x0 := (hb8.cell (p := ⟨p, 0, none⟩) hp7).trans y0
          have x1 := (hb8.cell (p := ⟨p, 1, none⟩) hp7).trans y1
          have hp8 : p < w8.heap.size := Nat.lt_of_lt_of_le hp7 hb8.size
          clear hb8 y0 y1
          go_wp2_with fail
          go_ret
          exact ⟨rfl, by rw [HP.out]; exact HB8.out.alloc (by omega) _⟩
  · obtain ⟨fa, fb⟩ := f
    simp only at z0 z1 hf1 hf2
    obtain ⟨WX, hWX⟩ : ∃ WX, w4 = WX := ⟨_, rfl⟩
    subst hWX
    have HBX : Hid (Both p w w4 g q 120 T) := Lib.hid (HB4.out.low (by omega) HB00.out)
    have hpx : p < w4.heap.size := by omega
    have hsz1 := hf1
    have hsz2 := hf2
    have y0 := z0
    have y1' := z1
    have HYY := Lib.hid z1
    have y2 := z2
    clear z0 z1 z2 z3 z4
    rcases (show (ln : Int) = 0 ∨ (0 < (ln : Int) ∧ which < 0) by omega) with l1 | ⟨l1, l2⟩
    · have l0 : ¬ 0 < (ln : Int) := by omega
      go_wp2_with fail
      clear l1 l0 HB4 y1'
      have y1 := HYY.out
      obtain ⟨FX, GX, htx, hrx, -, -, -, hbx⟩ := HBX.out
      have HTX := Lib.hid htx
      have HRX := Lib.hid hrx
      have HBLX := Lib.hid hbx
      have hszx := hbx.size
      clear htx hrx hbx
      refine (find_any (fa, fb) nv w4 HTX.out hsz1 hsz2).mono ?_
      rw [findT_all]
      rintro e w6 ⟨rfl, hb6⟩
      have hR6 := HRX.out.below hb6
      have HR6 := Lib.hid hR6
      have x0 := (hb6.cell (p := ⟨p, 0, none⟩) hpx).trans y0
      have x1 := (hb6.cell (p := ⟨p, 1, none⟩) hpx).trans y1
      have x2 := (hb6.cell (p := ⟨p, 2, none⟩) hpx).trans y2
      have hp6 : p < w6.heap.size := Nat.lt_of_lt_of_le hpx hb6.size
      have HB6 := Lib.hid hb6
      clear hR6 hb6 y0 y1 y2
      go_wp2_with fail
      refine (rfind_any (fa, fb) nv w6 HR6.out HSM.out).mono ?_
      rintro e w7 ⟨rfl, hb7⟩
      have y0 := (hb7.cell (p := ⟨p, 0, none⟩) hp6).trans x0
      have y1 := (hb7.cell (p := ⟨p, 1, none⟩) hp6).trans x1
      have hp7 : p < w7.heap.size := Nat.lt_of_lt_of_le hp6 hb7.size
      have hbz := HB6.out.trans (hb7.mono HB6.out.size)
      have HT7 : Hid (TabIs w7 g FX 120 T) := Lib.hid (HTX.out.keep fun k hk => hbz.block k (HTX.out.lt k hk))
      have HB7 := Lib.hid (HBLX.out.trans (hbz.mono (by have := HP.out; omega)))
      have hs7 : p ≤ w7.heap.size := by omega
      have HAT := Lib.hid (findA_at T.rows (fa, fb))
      have hle := findA_le (statF ++ T.rows.reverse) (fa, fb)
      obtain ⟨m, ok, hv⟩ : ∃ m ok, findA (statF ++ T.rows.reverse) (fa, fb) = (m, ok) := ⟨_, _, rfl⟩
      rw [hv] at HAT hle ⊢
      simp only [List.length_append, statF_length, List.length_reverse, HLN.out] at HAT hle ⊢
      clear hb7 x0 x1 x2 hbz hv
      rcases HAT.out with ⟨rfl, rfl⟩ | ⟨gr, g1, g2, g3, g4⟩
      · go_wp2_with fail
        go_ret
        exact ⟨rfl, by rw [HP.out]; exact HB7.out⟩
      · have HG2 := Lib.hid g2
        obtain ⟨ga, gb⟩ := gr
        simp only at g3 g4
        subst g3
        clear g2
        have hmz : ¬ m = 0 := by omega
        obtain rfl | rfl : ok = true ∨ ok = false := by cases ok <;> simp
        · obtain rfl : gb = fb := by simpa using g4
          clear g4
          go_wp2_with fail
          refine (at_any m w7 HT7.out (by omega)).mono ?_
          rw [HG2.out]
          rintro e w8 ⟨rfl, hb8⟩
          simp only [atV, fieldV]
          have HB8 := Lib.hid (HB7.out.trans (hb8.mono hs7))
          have x0 := (hb8.cell (p := ⟨p, 0, none⟩) hp7).trans y0
          have x1 := (hb8.cell (p := ⟨p, 1, none⟩) hp7).trans y1
          have hp8 : p < w8.heap.size := Nat.lt_of_lt_of_le hp7 hb8.size
          clear hb8 y0 y1
          go_wp2_with fail
          go_ret
          exact ⟨rfl, by rw [HP.out]; exact HB8.out.alloc (by omega) _⟩
        · have ev : (gb.toList == fb.toList) = false := (Lib.bytes_beq_false_iff gb fb).2 (by simpa using g4)
          clear g4
          go_wp2_with fail
          refine (at_any m w7 HT7.out (by omega)).mono ?_
          rw [HG2.out]
          rintro e w8 ⟨rfl, hb8⟩
          simp only [atV, fieldV]
          have HB8 := Lib.hid (HB7.out.trans (hb8.mono hs7))
          have x0 := (hb8.cell (p := ⟨p, 0, none⟩) hp7).trans y0
          have x1 := (hb8.cell (p := ⟨p, 1, none⟩) hp7).trans y1
          have hp8 : p < w8.heap.size := Nat.lt_of_lt_of_le hp7 hb8.size
          clear hb8 y0 y1
          go_wp2_with fail
          go_ret
          exact ⟨rfl, by rw [HP.out]; exact HB8.out.alloc (by omega) _⟩
    · go_wp2_with fail
      clear l1 l2 HB4 y1'
      have y1 := HYY.out
      obtain ⟨FX, GX, htx, hrx, -, -, -, hbx⟩ := HBX.out
      have HTX := Lib.hid htx
      have HRX := Lib.hid hrx
      have HBLX := Lib.hid hbx
      have hszx := hbx.size
      clear htx hrx hbx
      refine (find_any (fa, fb) nv w4 HTX.out hsz1 hsz2).mono ?_
      rw [findT_all]
      rintro e w6 ⟨rfl, hb6⟩
      have hR6 := HRX.out.below hb6
      have HR6 := Lib.hid hR6
      have x0 := (hb6.cell (p := ⟨p, 0, none⟩) hpx).trans y0
      have x1 := (hb6.cell (p := ⟨p, 1, none⟩) hpx).trans y1
      have x2 := (hb6.cell (p := ⟨p, 2, none⟩) hpx).trans y2
      have hp6 : p < w6.heap.size := Nat.lt_of_lt_of_le hpx hb6.size
      have HB6 := Lib.hid hb6
      clear hR6 hb6 y0 y1 y2
      go_wp2_with fail
      refine (rfind_any (fa, fb) nv w6 HR6.out HSM.out).mono ?_
      rintro e w7 ⟨rfl, hb7⟩
      have y0 := (hb7.cell (p := ⟨p, 0, none⟩) hp6).trans x0
      have y1 := (hb7.cell (p := ⟨p, 1, none⟩) hp6).trans x1
      have hp7 : p < w7.heap.size := Nat.lt_of_lt_of_le hp6 hb7.size
      have hbz := HB6.out.trans (hb7.mono HB6.out.size)
      have HT7 : Hid (TabIs w7 g FX 120 T) := Lib.hid (HTX.out.keep fun k hk => hbz.block k (HTX.out.lt k hk))
      have HB7 := Lib.hid (HBLX.out.trans (hbz.mono (by have := HP.out; omega)))
      have hs7 : p ≤ w7.heap.size := by omega
      have HAT := Lib.hid (findA_at T.rows (fa, fb))
      have hle := findA_le (statF ++ T.rows.reverse) (fa, fb)
      obtain ⟨m, ok, hv⟩ : ∃ m ok, findA (statF ++ T.rows.reverse) (fa, fb) = (m, ok) := ⟨_, _, rfl⟩
      rw [hv] at HAT hle ⊢
      simp only [List.length_append, statF_length, List.length_reverse, HLN.out] at HAT hle ⊢
      clear hb7 x0 x1 x2 hbz hv
      rcases HAT.out with ⟨rfl, rfl⟩ | ⟨gr, g1, g2, g3, g4⟩
      · go_wp2_with fail
        go_ret
        exact ⟨rfl, by rw [HP.out]; exact HB7.out⟩
      · have HG2 := Lib.hid g2
        obtain ⟨ga, gb⟩ := gr
        simp only at g3 g4
        subst g3
        clear g2
        have hmz : ¬ m = 0 := by omega
        obtain rfl | rfl : ok = true ∨ ok = false := by cases ok <;> simp
        · obtain rfl : gb = fb := by simpa using g4
          clear g4
          go_wp2_with fail
          refine (at_any m w7 HT7.out (by omega)).mono ?_
          rw [HG2.out]
          rintro e w8 ⟨rfl, hb8⟩
          simp only [atV, fieldV]
          have HB8 := Lib.hid (HB7.out.trans (hb8.mono hs7))
          have x0 := (hb8.cell (p := ⟨p, 0, none⟩) hp7).trans y0
          have x1 := (hb8.cell (p := ⟨p, 1, none⟩) hp7).trans y1
          have hp8 : p < w8.heap.size := Nat.lt_of_lt_of_le hp7 hb8.size
          clear hb8 y0 y1
          go_wp2_with fail
          go_ret
          exact ⟨rfl, by rw [HP.out]; exact HB8.out.alloc (by omega) _⟩
        · have ev : (gb.toList == fb.toList) = false := (Lib.bytes_beq_false_iff gb fb).2 (by simpa using g4)
          clear g4
          go_wp2_with fail
          refine (at_any m w7 HT7.out (by omega)).mono ?_
          rw [HG2.out]
          rintro e w8 ⟨rfl, hb8⟩
          simp only [atV, fieldV]
          have HB8 := Lib.hid (HB7.out.trans (hb8.mono hs7))
          have x0 := (hb8.cell (p := ⟨p, 0, none⟩) hp7).trans y0
          have x1 := (hb8.cell (p := ⟨p, 1, none⟩) hp7).trans y1
          have hp8 : p < w8.heap.size := Nat.lt_of_lt_of_le hp7 hb8.size
          clear hb8 y0 y1
          go_wp2_with fail
          go_ret
          exact ⟨rfl, by rw [HP.out]; exact HB8.out.alloc (by omega) _⟩
end Go.Proofs.Ythpieiipddfpjaa
