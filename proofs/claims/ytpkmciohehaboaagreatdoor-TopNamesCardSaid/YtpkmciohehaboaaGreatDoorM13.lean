/- 4 texts in one: Sp4, Cn1, Dh4, Cn2. -/
import Derived.Test.YtpkmciohehaboaaGreatDoorM12
import Derived.Test.YtpkmciohehaboaaGreatDoorM7
import Derived.Deep.RegionHeld3
import Derived.BigGuard
/- The walk of frame.Put on frames of control (its region printed by gen_sp4.py). -/
namespace Go.Proofs.YtpkmciohehaboaaGreatDoor
open Go.RowKit

/-- Some bytes, and no error. -/
def RetSE (W : World) (m : Nat) (e : Ending) (w' : World) : Prop := ∃ l v, e = .returned (.tuple #[v, .int .i64 0]) ∧ l.length ≤ m ∧ OwnB w' W.heap.size v l ∧ Below W.heap.size W w'
set_option maxRecDepth 100000 in
set_option maxHeartbeats 8000000 in
theorem fput_ct {M : Nat} (f : Ct) (ss : List (Nat × Nat)) (w : World) (hf : CtOk f ss) (hr : Rd w w.heap.size 2 f.A f.n (setsL ss)) (hM : M ≤ 1000) (hpay : ∀ w', Below w.heap.size w w' → Calls Tryz.prog 124 #[ctV f] w' (RetS w' M)) :
    Calls Tryz.prog 86 #[ctV f] w (RetSE w (M + 9)) := by
  obtain ⟨W0, hW0⟩ : ∃ W0, w.alloc (.cells f.cells 52) = W0 := ⟨_, rfl⟩
  obtain ⟨x, hx⟩ : ∃ x, w.heap.size = x := ⟨_, rfl⟩
  have b0 : Below w.heap.size w W0 := by rw [← hW0]; exact (Below.refl _ _).alloc (Nat.le_refl _) _
  have HF : Hid (CtAt W0 x f) := Lib.hid ⟨by rw [← hW0, ← hx]; exact heapNew _ _⟩
  have HMA := Lib.hid (may_ct f ss W0 hf ((hr.below b0 (Nat.le_refl _)).more b0.size))
  have HPA := Lib.hid hpay
  have hty : f.ty ≤ 8 := by have := hf.k; unfold CtK at this; omega
  have hfl2 : f.fl < 256 := by have := hf.fl; omega
  have hst := hf.st
  clear hpay hr hf
  obtain ⟨ty, fl, st, A, n, c, code, last, inc⟩ := f
  unfold ctV at HMA HPA ⊢
  simp only [Ct.cells] at hW0 HMA HPA hty hfl2 hst ⊢
  have HB := Lib.hid b0
  have HW0 := Lib.hid hW0
  have HX := Lib.hid hx
  clear hW0 hx b0
  have hs0 := HB.out.size
  obtain ⟨c0, c1, c2, c3, c4, c5, c6, c7, c8, c9, c10, c11⟩ := HF.out.cells
  simp only at c0 c1 c2 c5 c6 c7 c8
  have hxl := HF.out.lt
  go_enter Tryz.func86, Tryz.ntmps86
  go_upto_region 1 with fail
  refine wp_named ?_
  intro W3 hW3
  obtain rfl : W3 = W0 := hW3.trans HW0.out
  rw [HX.out]
  clear hW3
  go_wp2_with fail
  refine HMA.out.mono ?_
  rintro e1 w1 ⟨rfl, hb1⟩
  have HF1 := Lib.hid (HF.out.below hb1)
  have HB1 := Lib.hid (HB.out.trans (hb1.mono hs0))
  clear hb1 c0 c1 c2 c3 c4 c5 c6 c7 c8 c9 c10 c11 HMA
  obtain ⟨c0, c1, c2, c3, c4, c5, c6, c7, c8, c9, c10, c11⟩ := HF1.out.cells
  simp only at c0 c1 c2 c5 c6 c7 c8
  have hxl1 := HF1.out.lt
  go_wp2_with fail
  refine (HPA.out _ HB1.out).mono ?_
  rintro e2 w2 ⟨P, v2, rfl, hPl, ho2, hb2⟩
  have HF2 := Lib.hid (HF1.out.below hb2)
  have HB2 := Lib.hid (HB1.out.trans (hb2.mono HB1.out.size))
  obtain ⟨A2, c2', rfl, hr2⟩ := ho2.rd
  have HR2 := Lib.hid hr2
  have HPL := Lib.hid hPl
  clear hb2 ho2 hr2 c0 c1 c2 c3 c4 c5 c6 c7 c8 c9 c10 c11 HPA
  have hxl2 := HF2.out.lt
  have ew : IntKind.u32.wrap (P.length : Int) = P.length := by rw [IntKind.wrap_u32]; omega
  have ew1 : IntKind.u8.wrap (ty : Int) = ty := by rw [IntKind.wrap_u8]; omega
  have ew2 : IntKind.u8.wrap (fl : Int) = fl := by rw [IntKind.wrap_u8]; omega
  have HPU : Hid (∀ w, Calls Tryz.prog 125 #[.int .u32 (P.length : Int), .int .i64 3] w (RetB w (be 3 P.length))) := Lib.hid fun w => oput_any P.length 3 w (by omega) (by omega) (by omega)
  have HFO : Hid (∀ w, Calls Tryz.prog 126 #[.int .i64 (st : Int)] w (RetB w (be 4 st))) := Lib.hid fun w => four_any st w (by omega)
  have HTW := Lib.hid (bvs_two (show ty < 256 by omega) hfl2)
  have hs2w : w.heap.size ≤ w2.heap.size := HB2.out.size
  have hp0 : P.length ≤ 16777215 := by omega
  clear hPl
  go_upto_region 6 with fail
  go_cut [5] (fun y wx => OwnB wx w2.heap.size y (be 3 P.length ++ [UInt8.ofNat ty, UInt8.ofNat fl]) ∧ Below w2.heap.size w2 wx)
  case first =>
    have HFD : Hid (CtAt w2.drew x ⟨ty, fl, st, A, n, c, code, last, inc⟩) := Lib.hid ⟨HF2.out.blk⟩
    have hwd : w2.drew.heap.size = w2.heap.size := rfl
    have hbd : Hid (Below w2.heap.size w2 w2.drew) := Lib.hid ⟨rfl, rfl, rfl, Nat.le_refl _, fun _ _ => rfl⟩
    --REGION6
    refine wp_region_held_drew (S := fun w' => w'.cell? ⟨x, 0, none⟩ = some (.int .i64 (ty : Int)) ∧ w'.cell? ⟨x, 1, none⟩ = some (.int .i64 (fl : Int))) (by kernel_rfl) (⟨HFD.out.cells.1, HFD.out.cells.2.1⟩) (fun hHeld => ?_)
    refine wpAnyH_take (i := 0) (oi := ⟨some 14, _, _, _, _, _⟩) (v := ?_) rfl (by kernel_rfl) (by kernel_rfl) (by kernel_rfl) (fun _ _ _ h => h) (Or.inl ⟨by kernel_rfl, ?_⟩) hHeld ?_
    rotate_left
    · intro w hSw
      obtain ⟨h0, h1⟩ := hSw
      go_simp
      all_goals with_reducible rfl
    try simp only [Act.put, List.setIfInBounds_toArray, List.set_cons_zero, List.set_cons_succ]
    refine wpAnyH_take (i := 1) (oi := ⟨some 15, _, _, _, _, _⟩) (v := ?_) rfl (by kernel_rfl) (by kernel_rfl) (by kernel_rfl) (fun _ _ _ h => h) (Or.inl ⟨by kernel_rfl, ?_⟩) hHeld ?_
    rotate_left
    · intro w hSw
      obtain ⟨h0, h1⟩ := hSw
      go_simp
      all_goals with_reducible rfl
    try simp only [Act.put, List.setIfInBounds_toArray, List.set_cons_zero, List.set_cons_succ]
    refine wpAnyH_take (i := 2) (oi := ⟨some 16, _, _, _, _, _⟩) (v := ?_) rfl (by kernel_rfl) (by kernel_rfl) (by kernel_rfl) (fun _ _ _ h => h) (Or.inl ⟨by kernel_rfl, ?_⟩) hHeld ?_
    rotate_left
    · intro w hSw
      obtain ⟨h0, h1⟩ := hSw
      go_simp
      all_goals with_reducible rfl
    try simp only [Act.put, List.setIfInBounds_toArray, List.set_cons_zero, List.set_cons_succ]
    refine wpAnyH_take (i := 4) (oi := ⟨some 18, _, _, _, _, _⟩) (v := ?_) rfl (by kernel_rfl) (by kernel_rfl) (by kernel_rfl) (fun _ _ _ h => h) (Or.inl ⟨by kernel_rfl, ?_⟩) hHeld ?_
    rotate_left
    · intro w hSw
      obtain ⟨h0, h1⟩ := hSw
      go_simp
      all_goals with_reducible rfl
    try simp only [Act.put, List.setIfInBounds_toArray, List.set_cons_zero, List.set_cons_succ]
    refine wpAnyH_take (i := 5) (oi := ⟨some 19, _, _, _, _, _⟩) (v := ?_) rfl (by kernel_rfl) (by kernel_rfl) (by kernel_rfl) (fun _ _ _ h => h) (Or.inl ⟨by kernel_rfl, ?_⟩) hHeld ?_
    rotate_left
    · intro w hSw
      obtain ⟨h0, h1⟩ := hSw
      go_simp
      all_goals with_reducible rfl
    try simp only [Act.put, List.setIfInBounds_toArray, List.set_cons_zero, List.set_cons_succ]
    refine wpAnyH_take (i := 6) (oi := ⟨some 20, _, _, _, _, _⟩) (v := ?_) rfl (by kernel_rfl) (by kernel_rfl) (by kernel_rfl) (fun _ _ _ h => h) (Or.inl ⟨by kernel_rfl, ?_⟩) hHeld ?_
    rotate_left
    · intro w hSw
      obtain ⟨h0, h1⟩ := hSw
      go_simp
      all_goals with_reducible rfl
    try simp only [Act.put, List.setIfInBounds_toArray, List.set_cons_zero, List.set_cons_succ]
    refine wpAnyH_take (i := 7) (oi := ⟨some 21, _, _, _, _, _⟩) (v := ?_) rfl (by kernel_rfl) (by kernel_rfl) (by kernel_rfl) (fun _ _ _ h => h) (Or.inl ⟨by kernel_rfl, ?_⟩) hHeld ?_
    rotate_left
    · intro w hSw
      obtain ⟨h0, h1⟩ := hSw
      go_simp
      all_goals with_reducible rfl
    try simp only [Act.put, List.setIfInBounds_toArray, List.set_cons_zero, List.set_cons_succ]
    refine wpAnyH_take (i := 8) (oi := ⟨some 22, _, _, _, _, _⟩) (v := ?_) rfl (by kernel_rfl) (by kernel_rfl) (by kernel_rfl) (fun _ _ _ h => h) (Or.inl ⟨by kernel_rfl, ?_⟩) hHeld ?_
    rotate_left
    · intro w hSw
      obtain ⟨h0, h1⟩ := hSw
      go_simp
      all_goals with_reducible rfl
    try simp only [Act.put, List.setIfInBounds_toArray, List.set_cons_zero, List.set_cons_succ]
    refine wpAnyH_take (i := 9) (oi := ⟨some 23, _, _, _, _, _⟩) (v := ?_) rfl (by kernel_rfl) (by kernel_rfl) (by kernel_rfl) (fun _ _ _ h => h) (Or.inl ⟨by kernel_rfl, ?_⟩) hHeld ?_
    rotate_left
    · intro w hSw
      obtain ⟨h0, h1⟩ := hSw
      go_simp
      all_goals with_reducible rfl
    try simp only [Act.put, List.setIfInBounds_toArray, List.set_cons_zero, List.set_cons_succ]
    refine wpAnyH_ready (rs := [3, 10]) (by kernel_rfl) (by simp) ?_
    refine AllReadyH.cons (o := ⟨some 17, _, _, _, _, _⟩) rfl (fun K hK => ?_) (AllReadyH.cons (o := ⟨some 24, _, _, _, _, _⟩) rfl (fun K hK => ?_) AllReadyH.nil)
    · go_simp
      refine (HPU.out w2.drew).mono ?_
      rintro ev w3 ⟨v3, rfl, ho3, hb3⟩
      have HB3 : Hid (Below w2.heap.size w2 w3) := Lib.hid (hbd.out.trans hb3)
      have HF3 := Lib.hid (HF2.out.below HB3.out)
      obtain ⟨A3, c3', rfl, hr3⟩ := ho3.rd
      have HO3 : Hid (w3.ownsRow w2.heap.size 5 1 (.slice A3 3 c3') 3 (bvs (be 3 P.length))) := Lib.hid (by unfold OwnB at ho3; rw [be_length] at ho3; exact ho3)
      rw [be_length]
      clear ho3 hb3 hr3
      refine hK.out _ _ (⟨HF3.out.cells.1, HF3.out.cells.2.1⟩) (fun hHeld => ?_)
      clear hK K
      try simp only [Act.put, List.setIfInBounds_toArray, List.set_cons_zero, List.set_cons_succ]
      refine wpAnyH_ready (rs := [10]) (by kernel_rfl) (by simp) ?_
      refine AllReadyH.cons (o := ⟨some 24, _, _, _, _, _⟩) rfl (fun K hK => ?_) AllReadyH.nil
      go_simp
      have HF4 := Lib.hid (HF3.out.below ((Below.refl _ _).alloc (Nat.le_refl _) (.cells #[.int .u8 (ty : Int), .int .u8 (fl : Int)] 5)))
      have HBB : Hid (Below w2.heap.size w2 (w3.alloc (.cells #[.int .u8 (ty : Int), .int .u8 (fl : Int)] 5))) := Lib.hid (HB3.out.alloc HB3.out.size _)
      have HOW := Lib.hid (World.ownsRow.alloc HO3.out (.cells #[.int .u8 (ty : Int), .int .u8 (fl : Int)] 5))
      have HRS := Lib.hid (Rd.lit2 w3 #[.int .u8 (ty : Int), .int .u8 (fl : Int)] 5 2 (k := w3.heap.size) rfl rfl)
      refine hK.out _ _ (⟨HF4.out.cells.1, HF4.out.cells.2.1⟩) (fun hHeld => ?_)
      clear hK K HF4
      try simp only [Act.put, List.setIfInBounds_toArray, List.set_cons_zero, List.set_cons_succ]
      refine wpAnyH_ready (rs := [11]) (by kernel_rfl) (by simp) ?_
      refine AllReadyH.cons (o := ⟨some 25, _, _, _, _, _⟩) rfl (fun K hK => ?_) AllReadyH.nil
      refine step_app (.tmp 17) (.tmp 24) tBytes rfl rfl HOW.out rfl HRS.out rfl (by simp [Value.oneCell']) (le_maxLen (by omega)) (by omega) HBB.out.size ?_
      intro v4 w4 hown4 hg4 hb4
      have HO4 : Hid (OwnB w4 w2.heap.size v4 (be 3 P.length ++ [UInt8.ofNat ty, UInt8.ofNat fl]) ∧ Below w2.heap.size w2 w4) := Lib.hid ⟨by
          have h4 := hown4
          rw [← HTW.out, ← bvs_append] at h4
          exact own_of h4, Below.app HBB.out HOW.out hg4 (Nat.le_refl _) HBB.out.size⟩
      have HF4 := Lib.hid (HF2.out.below HO4.out.2)
      clear hown4 hg4 hb4
      refine hK.out _ _ (⟨HF4.out.cells.1, HF4.out.cells.2.1⟩) (fun hHeld => ?_)
      clear hK K
      try simp only [Act.put, List.setIfInBounds_toArray, List.set_cons_zero, List.set_cons_succ]
      refine wpAnyH_take (i := 12) (oi := ⟨some 5, _, _, _, _, _⟩) (v := ?_) rfl (by kernel_rfl) (by kernel_rfl) (by kernel_rfl) (fun _ _ _ h => h) (Or.inl ⟨by kernel_rfl, ?_⟩) hHeld ?_
      rotate_left
      · intro w hSw
        obtain ⟨h0, h1⟩ := hSw
        go_simp
        all_goals with_reducible rfl
      try simp only [Act.put, List.setIfInBounds_toArray, List.set_cons_zero, List.set_cons_succ]
      refine wpAnyH_done (by kernel_rfl) ?_ _
      go_wp2_with fail
      go_meet
      exact HO4.out
    · go_simp
      have HF4 := Lib.hid (HFD.out.below ((Below.refl _ _).alloc (Nat.le_refl _) (.cells #[.int .u8 (ty : Int), .int .u8 (fl : Int)] 5)))
      have HBA : Hid (Below w2.heap.size w2 (w2.drew.alloc (.cells #[.int .u8 (ty : Int), .int .u8 (fl : Int)] 5))) := Lib.hid (hbd.out.alloc (Nat.le_refl _) _)
      have HRA := Lib.hid (Rd.lit2 w2.drew #[.int .u8 (ty : Int), .int .u8 (fl : Int)] 5 2 (k := w2.heap.size) rfl rfl)
      have hsa : (w2.drew.alloc (.cells #[.int .u8 (ty : Int), .int .u8 (fl : Int)] 5)).heap.size = w2.heap.size + 1 := by simp [hwd]
      refine hK.out _ _ (⟨HF4.out.cells.1, HF4.out.cells.2.1⟩) (fun hHeld => ?_)
      clear hK K HF4
      try simp only [Act.put, List.setIfInBounds_toArray, List.set_cons_zero, List.set_cons_succ]
      refine wpAnyH_ready (rs := [3]) (by kernel_rfl) (by simp) ?_
      refine AllReadyH.cons (o := ⟨some 17, _, _, _, _, _⟩) rfl (fun K hK => ?_) AllReadyH.nil
      go_simp
      refine (HPU.out _).mono ?_
      rintro ev w3 ⟨v3, rfl, ho3, hb3⟩
      have hsa2 : (w2.alloc (.cells #[.int .u8 (ty : Int), .int .u8 (fl : Int)] 5)).drew.heap.size = w2.heap.size + 1 := hsa
      rw [hsa2] at hb3 ho3
      have HBB : Hid (Below w2.heap.size w2 w3) := Lib.hid (HBA.out.trans (hb3.mono (by omega)))
      have HF3 := Lib.hid (HF2.out.below HBB.out)
      have HRS := Lib.hid (HRA.out.below hb3 (Nat.le_refl _))
      obtain ⟨A3, c3', rfl, hr3⟩ := ho3.rd
      have HOW : Hid (w3.ownsRow w2.heap.size 5 1 (.slice A3 3 c3') 3 (bvs (be 3 P.length))) := Lib.hid (by unfold OwnB at ho3; rw [be_length] at ho3; exact own_base ho3 (by omega))
      rw [be_length]
      clear ho3 hb3 hr3
      refine hK.out _ _ (⟨HF3.out.cells.1, HF3.out.cells.2.1⟩) (fun hHeld => ?_)
      clear hK K
      try simp only [Act.put, List.setIfInBounds_toArray, List.set_cons_zero, List.set_cons_succ]
      refine wpAnyH_ready (rs := [11]) (by kernel_rfl) (by simp) ?_
      refine AllReadyH.cons (o := ⟨some 25, _, _, _, _, _⟩) rfl (fun K hK => ?_) AllReadyH.nil
      refine step_app (.tmp 17) (.tmp 24) tBytes rfl rfl HOW.out rfl HRS.out rfl (by simp [Value.oneCell']) (le_maxLen (by omega)) (by omega) HBB.out.size ?_
      intro v4 w4 hown4 hg4 hb4
      have HO4 : Hid (OwnB w4 w2.heap.size v4 (be 3 P.length ++ [UInt8.ofNat ty, UInt8.ofNat fl]) ∧ Below w2.heap.size w2 w4) := Lib.hid ⟨by
          have h4 := hown4
          rw [← HTW.out, ← bvs_append] at h4
          exact own_of h4, Below.app HBB.out HOW.out hg4 (Nat.le_refl _) HBB.out.size⟩
      have HF4 := Lib.hid (HF2.out.below HO4.out.2)
      clear hown4 hg4 hb4
      refine hK.out _ _ (⟨HF4.out.cells.1, HF4.out.cells.2.1⟩) (fun hHeld => ?_)
      clear hK K
      try simp only [Act.put, List.setIfInBounds_toArray, List.set_cons_zero, List.set_cons_succ]
      refine wpAnyH_take (i := 12) (oi := ⟨some 5, _, _, _, _, _⟩) (v := ?_) rfl (by kernel_rfl) (by kernel_rfl) (by kernel_rfl) (fun _ _ _ h => h) (Or.inl ⟨by kernel_rfl, ?_⟩) hHeld ?_
      rotate_left
      · intro w hSw
        obtain ⟨h0, h1⟩ := hSw
        go_simp
        all_goals with_reducible rfl
      try simp only [Act.put, List.setIfInBounds_toArray, List.set_cons_zero, List.set_cons_succ]
      refine wpAnyH_done (by kernel_rfl) ?_ _
      go_wp2_with fail
      go_meet
      exact HO4.out
  case rest =>
    obtain ⟨ho5, hb5⟩ := hcut
    have HF5 := Lib.hid (HF2.out.below hb5)
    have HB5 := Lib.hid (HB2.out.trans (hb5.mono HB2.out.size))
    have HR5 := Lib.hid (HR2.out.below hb5 (Nat.le_refl _))
    have hsz5 : w2.heap.size ≤ wc.heap.size := hb5.size
    have hL3 : (be 3 P.length ++ [UInt8.ofNat ty, UInt8.ofNat fl]).length = 5 := by rw [List.length_append, be_length]; rfl
    have HO5 : Hid (wc.ownsRow w2.heap.size 5 1 u5 5 (bvs (be 3 P.length ++ [UInt8.ofNat ty, UInt8.ofNat fl]))) := Lib.hid (by unfold OwnB at ho5; rwa [hL3] at ho5)
    clear hb5 ho5 hL3
    obtain ⟨c0, c1, c2, c3, c4, c5, c6, c7, c8, c9, c10, c11⟩ := HF5.out.cells
    simp only at c0 c1 c2 c5 c6 c7 c8
    go_wp2_with fail
    refine (HFO.out _).mono ?_
    rintro e6 w6 ⟨v6, rfl, ho6, hb6⟩
    have HO6 : Hid (w6.ownsRow w2.heap.size 5 1 u5 5 (bvs (be 3 P.length ++ [UInt8.ofNat ty, UInt8.ofNat fl]))) := Lib.hid (own_kept4 HO5.out (Kept.of_below (F := fun _ => False) hb6) (fun _ _ h => h))
    have HR6 := Lib.hid (HR5.out.below (hb6.mono hsz5) (Nat.le_refl _))
    have HB6 := Lib.hid (HB5.out.trans (hb6.mono HB5.out.size))
    have hsz6 : wc.heap.size ≤ w6.heap.size := hb6.size
    obtain ⟨A6, c6', rfl, hr6⟩ := ho6.rd
    have hr6' : Rd w6 w6.heap.size 1 A6 4 (bvs (be 4 st)) := by rw [be_length] at hr6; exact hr6
    have HS6 := Lib.hid hr6'
    rw [be_length]
    clear hb6 ho6 hr6 hr6' c0 c1 c2 c3 c4 c5 c6 c7 c8 c9 c10 c11
    go_wp2_with (at_builtin; refine of_stop ?_)
    unfold Stop
    refine wpList_app (.tmp 26) (.tmp 29) tBytes rfl rfl HO6.out rfl HS6.out rfl (bvs_one _) (le_maxLen (by omega)) (by omega) (by omega) ?_
    intro v7 w7 hown7 hg7 _
    have HO7 := Lib.hid (And.intro hown7 hg7)
    have HR7 := Lib.hid (HR6.out.grown hg7 (by omega) (fun g hg => (World.ownsRow.lt HO6.out g hg).1))
    have hs7 := hg7.size
    obtain ⟨A7, c7', hv7, -, -, -, -⟩ := own_slice hown7
    rw [hv7] at HO7
    subst hv7
    clear hown7 hg7
    go_wp2_with (at_builtin; refine of_stop ?_)
    unfold Stop
    refine wpList_app (.tmp 30) (.tmp 31) tBytes rfl rfl HO7.out.1 rfl HR7.out rfl (bvs_one _) (le_maxLen (by have := HPL.out; omega)) (by have := HPL.out; omega) (by omega) ?_
    intro v8 w8 hown8 hg8 _
    have HE : Hid (RetSE w (M + 9) (.returned (.tuple #[v8, .int .i64 0])) w8) := Lib.hid (by
      have h8 := hown8
      rw [← bvs_append, ← bvs_append] at h8
      refine ⟨_, v8, rfl, ?_, (own_of h8).base hs2w, Below.app (Below.app HB6.out HO6.out HO7.out.2 hs2w (by omega)) HO7.out.1 hg8 hs2w (by omega)⟩
      have := HPL.out
      simp only [List.length_append, be_length, List.length_cons, List.length_nil]
      omega)
    obtain ⟨A8, c8', hv8, -, -, -, -⟩ := own_slice hown8
    subst hv8
    clear hown8 hg8
    go_wp2
    go_ret2
    exact HE.out
end Go.Proofs.YtpkmciohehaboaaGreatDoor

/- A connection in memory; the walks of write, tell, rest, Over. -/
namespace Go.Proofs.YtpkmciohehaboaaGreatDoor
open Go.RowKit Go.Maps

/-- A connection's fields. -/
structure Cv where
  l0 : Int
  l1 : Int
  l2 : Int
  l3 : Int
  feed : Value
  dec : Value
  enc : Value
  book : Value
  frames : Int
  live : Nat
  closed : Value
  how : Nat
  last : Int
  block : Value
  of_ : Int
  endOf : Bool
  greeted : Bool
  drained : Bool
  floor : Int
  over : Bool
  bytes : Value
  news : Value
def Cv.cells (c : Cv) : Array Value := #[.int .i64 c.l0, .int .i64 c.l1, .int .i64 c.l2, .int .i64 c.l3, c.feed, c.dec, c.enc, c.book, .int .i64 c.frames, .map (some c.live), c.closed, .map (some c.how), .int .i64 c.last, c.block, .int .i64 c.of_, .bool c.endOf, .bool c.greeted, .bool c.drained, .int .i64 c.floor, .bool c.over, c.bytes, c.news]
def cConn (p : Nat) (c : Cv) : Comp := cBlk p c.cells 100
section
variable {B p : Nat} {w : World} {c : Cv} {cs : List Comp}
theorem All.conn (h : All B w (cConn p c :: cs)) : w.heap[p]? = some (.cells c.cells 100 (0, 0)) := h.head
theorem All.cc (h : All B w (cConn p c :: cs)) (o : Nat) (v : Value) (hv : c.cells[o]? = some v) : w.cell? ⟨p, o, none⟩ = some v := by
  unfold World.cell?
  rw [h.conn]
  exact hv
theorem All.cf (h : All B w (cConn p c :: cs)) (o : Nat) : w.frozen? ⟨p, o, none⟩ = false := by
  unfold World.frozen?
  rw [h.conn]
  rfl
end
/-- What a call leaves that hands nothing back. -/
def Left (B : Nat) (w : World) (R : World → Prop) (e : Ending) (w' : World) : Prop := e = .returned (.tuple #[]) ∧ Below B w w' ∧ R w'
set_option maxRecDepth 100000 in
set_option maxHeartbeats 8000000 in
theorem write_any {M B p n : Nat} {c : Cv} {xs : List Value} {cs : List Comp} (f : Ct) (ss : List (Nat × Nat)) (w : World) (h : All B w (cConn p c :: cRow 5 1 c.bytes n xs :: cs)) (hf : CtOk f ss) (hr : Rd w w.heap.size 2 f.A f.n (setsL ss)) (hM : M ≤ 1000)
    (hpay : ∀ w', Below w.heap.size w w' → Calls Tryz.prog 124 #[ctV f] w' (RetS w' M)) (hn : n ≤ 1000000) :
    Calls Tryz.prog 49 #[.pointer (some ⟨p, 0, none⟩), ctV f] w (Left B w fun w' => ∃ v n' xs', n' ≤ n + M + 9 ∧ All B w' (cConn p { c with bytes := v } :: cRow 5 1 v n' xs' :: cs)) := by
  obtain ⟨W0, hW0⟩ : ∃ W0, w.alloc (.cells f.cells 52) = W0 := ⟨_, rfl⟩
  have b0 : Below w.heap.size w W0 := by rw [← hW0]; exact (Below.refl _ _).alloc (Nat.le_refl _) _
  have HP := Lib.hid (fput_ct f ss W0 hf ((hr.below b0 (Nat.le_refl _)).more b0.size) hM (fun w' hb => hpay w' (b0.trans (hb.mono b0.size))))
  have HA := Lib.hid (h.below b0)
  have HF : Hid (CtAt W0 w.heap.size f) := Lib.hid ⟨by rw [← hW0]; exact heapNew _ _⟩
  have hsz := h.sz
  have HB0 := Lib.hid (b0.mono h.sz)
  clear h hpay hf hr b0
  obtain ⟨ty, fl, st, A, n0, c0, code, last, inc⟩ := f
  unfold ctV at HP ⊢
  simp only [Ct.cells] at hW0 HP ⊢
  have HW0 := Lib.hid hW0
  clear hW0
  go_enter Tryz.func49, Tryz.ntmps49
  go_upto_region 1 with fail
  refine wp_named ?_
  intro W3 hW3
  obtain rfl : W3 = W0 := hW3.trans HW0.out
  clear hW3
  obtain ⟨k0, k1, k2, k3, k4, k5, k6, k7, k8, k9, k10, k11⟩ := HF.out.cells
  simp only at k0 k1 k2 k5 k6 k7 k8
  go_wp2_with fail
  refine HP.out.mono ?_
  rintro e1 w1 ⟨l, v1, rfl, hl, ho1, hb1⟩
  have HA1 := Lib.hid (HA.out.below hb1)
  have HB1 := Lib.hid (HB0.out.trans (hb1.mono HA.out.sz))
  obtain ⟨A1, c1, rfl, hr1⟩ := ho1.rd
  have q20 := HA1.out.cc 20 c.bytes rfl
  clear ho1 hb1 k0 k1 k2 k3 k4 k5 k6 k7 k8 k9 k10 k11 HP HF
  have hrow := (HA1.out.pick [cConn p c]).head
  obtain ⟨A0, cp0, hv0, -, -, -, -⟩ := own_slice hrow
  have HROW := Lib.hid hrow
  rw [hv0] at q20
  have HV0 := Lib.hid hv0
  clear hrow hv0
  go_wp2_with (at_builtin; refine of_stop ?_)
  unfold Stop
  have hrow2 := HROW.out
  rw [HV0.out] at hrow2
  refine wpList_app (.tmp 15) (.tmp 16) tBytes rfl rfl hrow2 rfl hr1 rfl (bvs_one _) (le_maxLen (by omega)) (by omega) (Nat.zero_le _) ?_
  intro v3 w3 hown3 hg3 hb3
  rw [← HV0.out] at hg3 hb3
  obtain ⟨hA3, hB3⟩ := (HA1.out.pick [cConn p c]).app hown3 hg3 hb3
  have HA3 := Lib.hid (hA3.pick [_])
  have HB3 := Lib.hid (HB1.out.trans hB3)
  obtain ⟨A3, c3, hv3, -, -, -, -⟩ := own_slice hown3
  subst hv3
  have q20 := HA3.out.cc 20 c.bytes rfl
  have f20 := HA3.out.cf 20
  clear hown3 hg3 hb3 hA3 hB3 hrow2
  go_wp2_with fail
  go_end0
  obtain ⟨h1, h2⟩ := HA3.out.set 20 (.slice A3 (n + l.length) c3)
  exact ⟨rfl, HB3.out.trans h2, .slice A3 (n + l.length) c3, n + l.length, xs ++ bvs l, by omega, h1⟩
end Go.Proofs.YtpkmciohehaboaaGreatDoor

/- The feed's beginning: the greeting comes whole. -/
namespace Go.Proofs.YtpkmciohehaboaaGreatDoor
open Go.RowKit

/-- The preface's bytes. -/
def prefL : List UInt8 := [80, 82, 73, 32, 42, 32, 72, 84, 84, 80, 47, 50, 46, 48, 13, 10, 13, 10, 83, 77, 13, 10, 13, 10]
/-- A feed that was given k bytes of the preface. -/
def FeedPre (w : World) (x : Nat) (most : Int) (k : Nat) : Prop := w.heap[x]? = some (.cells #[.int .i64 most, .int .i64 (k : Int), .slice none 0 0, .bool false] 163 (0, 0))
theorem overp_any {x k : Nat} {most : Int} (w : World) (h : FeedPre w x most k) :
    Calls Tryz.prog 94 #[.pointer (some ⟨x, 0, none⟩)] w fun e w' => e = .returned (.bool false) ∧ w = w' := by
  have c3 : w.cell? ⟨x, 3, none⟩ = some (.bool false) := by unfold World.cell?; rw [h]; rfl
  clear h
  go_enter Tryz.func94, Tryz.ntmps94
  go_wp2
  go_ret
  exact ⟨rfl, rfl⟩
/-- The state of greet's loop. -/
def GrRel (w : World) (x g o n cap : Nat) (most : Int) (v : Value) (wr : World) : Prop := ∃ k, k ≤ 24 ∧ v = .slice (some ⟨g, o + k, none⟩) (n - k) (cap - k) ∧ FeedPre wr x most k ∧ Kept (fun b => b = x) w wr
def GrMeas (x : Nat) (w : World) : Nat := match w.cell? ⟨x, 1, none⟩ with
  | some (.int _ n) => 24 - n.toNat
  | _ => 0
set_option maxRecDepth 100000 in
set_option maxHeartbeats 8000000 in
theorem greet_pre {x g o n cap : Nat} {most : Int} {l : List UInt8} (w : World) (h : FeedPre w x most 0) (hr : Rd w w.heap.size 1 (some ⟨g, o, none⟩) n (bvs l)) (hgx : g ≠ x) (hp : l.take 24 = prefL) (hn : 25 ≤ n) (hc : n ≤ cap) (hm : cap ≤ maxLen) :
    Calls Tryz.prog 95 #[.pointer (some ⟨x, 0, none⟩), .slice (some ⟨g, o, none⟩) n cap] w fun e w' => e = .returned (.tuple #[.slice (some ⟨g, o + 24, none⟩) (n - 24) (cap - 24), .bool true]) ∧ FeedPre w' x most 24 ∧ Kept (fun b => b = x) w w' := by
  obtain ⟨hl, b, o', hA, hb, hcc⟩ := hr.bas (by omega)
  injection hA with hA
  injection hA with h1 h2
  subst h1 h2
  have HC : Hid (∀ wr, Kept (fun b => b = x) w wr → ∀ k, k < 24 → wr.cell? ⟨g, o + k, none⟩ = some (.int .u8 (ba prefL k : Nat))) := Lib.hid (fun wr hk k h24 => by
    rw [World.cell?_of_block (a := ⟨g, o + k, none⟩) (hk.block g hb (by simpa using hgx)), hcc k (by omega)]
    have : ba l k = ba prefL k := by rw [← hp]; unfold ba; simp [List.getD_eq_getElem?_getD, h24]
    rw [this])
  have H0 := Lib.hid h
  have hcm : cap ≤ 9223372036854775807 := by unfold maxLen at hm; exact hm
  clear h hr hcc hp hm hl
  go_enter Tryz.func95, Tryz.ntmps95
  go_wp2_with fail
  go_loopw [1] (fun v wr => GrRel w x g o n cap most v wr) (fun _ wr => GrMeas x wr)
  case atStart => exact ⟨0, Nat.zero_le _, rfl, H0.out, Kept.refl _ _⟩
  case round =>
    obtain ⟨k, hk, rfl, hf, hkp⟩ := hrel
    have c0 : wr.cell? ⟨x, 1, none⟩ = some (.int .i64 (k : Int)) := by unfold World.cell?; rw [hf]; rfl
    have hfz : wr.frozen? ⟨x, 1, none⟩ = false := by unfold World.frozen?; rw [hf]; rfl
    have HF := Lib.hid (And.intro hf hkp)
    clear hf
    by_cases hlt : k < 24
    · have z0 := HC.out wr hkp k hlt
      have k1 : (k : Int) < 24 := by omega
      have k2 : ((n - k : Nat) : Int) > 0 := by omega
      clear hkp
      have hgk := get_ba ⟨#[80, 82, 73, 32, 42, 32, 72, 84, 84, 80, 47, 50, 46, 48, 13, 10, 13, 10, 83, 77, 13, 10, 13, 10]⟩ k (by show k < 24; exact hlt)
      have hgk2 : ba (⟨#[80, 82, 73, 32, 42, 32, 72, 84, 84, 80, 47, 50, 46, 48, 13, 10, 13, 10, 83, 77, 13, 10, 13, 10]⟩ : ByteArray).data.toList k = ba prefL k := rfl
      rw [hgk2] at hgk
      clear hgk2
      go_wp2_with fail
      go_region
      all_goals go_wp2_with fail
      have hw : (wr.setCell ⟨x, 1, none⟩ (.int .i64 ((k : Int) + 1))).drew.heap[x]? = some (.cells #[.int .i64 most, .int .i64 ((k + 1 : Nat) : Int), .slice none 0 0, .bool false] 163 (0, 0)) := by
        show (wr.setCell _ _).heap[x]? = _
        rw [set_b7 _ HF.out.1]
        rfl
      refine ⟨⟨k + 1, hlt, ?_, hw, (HF.out.2.setCell rfl 1 _).drew⟩, ?_⟩
      · rw [Nat.sub_sub, Nat.sub_sub, Nat.add_assoc]
      · have h1 : (wr.setCell ⟨x, 1, none⟩ (.int .i64 ((k : Int) + 1))).drew.cell? ⟨x, 1, none⟩ = some (.int .i64 ((k + 1 : Nat) : Int)) := by unfold World.cell?; rw [hw]; rfl
        unfold GrMeas
        rw [h1, c0]
        dsimp only
        omega
    · have h24 : k = 24 := by omega
      subst h24
      go_wp2_with fail
      go_ret2
      exact ⟨rfl, HF.out.1, HF.out.2⟩
end Go.Proofs.YtpkmciohehaboaaGreatDoor

/- The walks of conn.tell, conn.rest, chop.New with a preface (tell's region printed by gen_cn2.py). -/
namespace Go.Proofs.YtpkmciohehaboaaGreatDoor
open Go.RowKit Go.Maps

set_option maxRecDepth 100000 in
theorem newfeed_pre (most : Int) (w : World) (h0 : 0 ≤ most) (h1 : most ≤ 16777215) :
    Calls Tryz.prog 45 #[.int .i64 most, .bool true] w fun e w' => e = .returned (.pointer (some ⟨w.heap.size, 0, none⟩)) ∧ FeedPre w' w.heap.size most 0 ∧ Below w.heap.size w w' := by
  have hk := heapNew w (.cells #[.int .i64 most, .int .i64 0, .slice none 0 0, .bool false] 163)
  have HS := Lib.hid hk
  have hm : max most 0 = most := by omega
  clear hk
  go_enter Tryz.func45, Tryz.ntmps45
  go_wp2_with fail
  go_ret
  exact ⟨rfl, HS.out, (Below.refl _ _).alloc (Nat.le_refl _) _⟩
/-- What happened, as cells. -/
structure Hp where
  kind : Int
  st : Int
  meth : ByteArray
  sch : ByteArray
  auth : ByteArray
  path : ByteArray
  fields : Value
  data : ByteArray
  fin : Bool
  code : Int
def Hp.l (h : Hp) : List Value := [.int .i64 h.kind, .int .i64 h.st, .string h.meth, .string h.sch, .string h.auth, .string h.path, h.fields, .string h.data, .bool h.fin, .int .i64 h.code]
theorem tHaps : SlT Tryz.prog 56 64 (.agg #[.int .i64 0, .int .i64 0, .string ByteArray.empty, .string ByteArray.empty, .string ByteArray.empty, .string ByteArray.empty, .slice none 0 0, .string ByteArray.empty, .bool false, .int .i64 0]) 10 136 := ⟨Tryz.underlying56, by kernel_rfl, rfl, by decide⟩
theorem rd_lit (w : World) (cs : Array Value) (t : TypeId) (size : Nat) (hs : cs.size = size) : Rd (w.alloc (.cells cs t)) (w.heap.size + 1) size (some ⟨w.heap.size, 0, none⟩) 1 cs.toList := by
  refine ⟨by simp [hs], fun _ => ⟨_, _, rfl, by omega, fun j hj => ?_⟩⟩
  rw [World.cell?_alloc_at _ _ _ _ rfl]
  simp
set_option maxRecDepth 100000 in
set_option maxHeartbeats 8000000 in
theorem tell_any {B p n : Nat} {c : Cv} {xs : List Value} {cs : List Comp} (hp : Hp) (w : World) (h : All B w (cConn p c :: cRow 64 10 c.news n xs :: cs)) (hfs : hp.fields.oneCell' = true) (hn : n ≤ 1000000) :
    Calls Tryz.prog 132 #[.pointer (some ⟨p, 0, none⟩), .agg hp.l.toArray] w (Left B w fun w' => ∃ v, All B w' (cConn p { c with news := v } :: cRow 64 10 v (n + 1) (xs ++ hp.l) :: cs)) := by
  obtain ⟨W0, hW0⟩ : ∃ W0, w.alloc (.cells hp.l.toArray 64) = W0 := ⟨_, rfl⟩
  have b0 : Below w.heap.size w W0 := by rw [← hW0]; exact (Below.refl _ _).alloc (Nat.le_refl _) _
  have kx : W0.heap[w.heap.size]? = some (.cells hp.l.toArray 64 (0, 0)) := by rw [← hW0]; exact heapNew _ _
  have HA := Lib.hid (h.below b0)
  have HB0 := Lib.hid (b0.mono h.sz)
  have hlt0 : ∀ b, c.news.ownBlock = some b → b < w.heap.size := fun b hb => (World.ownsRow.lt ((h.pick [cConn p c]).head) b hb).2
  have hpx0 : p ≠ w.heap.size := fun e => by have := (Array.getElem?_eq_some_iff.1 h.conn).1; omega
  have hxl := (Array.getElem?_eq_some_iff.1 kx).1
  obtain ⟨x, hx⟩ : ∃ x, w.heap.size = x := ⟨_, rfl⟩
  rw [hx] at kx hxl hlt0 hpx0
  have HLT0 := Lib.hid hlt0
  have HPX := Lib.hid hpx0
  have HX := Lib.hid hx
  have HK := Lib.hid kx
  have HON := Lib.hid hfs
  obtain ⟨kind, st, meth, sch, auth, path, fields, data, fin, code⟩ := hp
  simp only [Hp.l] at hW0 ⊢
  have HW0 := Lib.hid hW0
  clear hW0 h b0 kx hx hfs hlt0 hpx0
  obtain ⟨k0, k1, k2, k3, k4, k5, k6, k7, k8, k9⟩ : W0.cell? ⟨x, 0, none⟩ = some (.int .i64 kind) ∧ W0.cell? ⟨x, 1, none⟩ = some (.int .i64 st) ∧ W0.cell? ⟨x, 2, none⟩ = some (.string meth) ∧ W0.cell? ⟨x, 3, none⟩ = some (.string sch) ∧ W0.cell? ⟨x, 4, none⟩ = some (.string auth) ∧ W0.cell? ⟨x, 5, none⟩ = some (.string path) ∧ W0.cell? ⟨x, 6, none⟩ = some fields ∧ W0.cell? ⟨x, 7, none⟩ = some (.string data) ∧ W0.cell? ⟨x, 8, none⟩ = some (.bool fin) ∧ W0.cell? ⟨x, 9, none⟩ = some (.int .i64 code) := by
    refine ⟨?_, ?_, ?_, ?_, ?_, ?_, ?_, ?_, ?_, ?_⟩ <;> (unfold World.cell?; rw [HK.out]; rfl)
  have HKK := Lib.hid (And.intro k0 (And.intro k1 (And.intro k2 (And.intro k3 (And.intro k4 (And.intro k5 (And.intro k6 (And.intro k7 (And.intro k8 k9)))))))))
  have hrow := (HA.out.pick [cConn p c]).head
  obtain ⟨A0, cp0, hv0, -, -, -, -⟩ := own_slice hrow
  have HROW := Lib.hid hrow
  have HV0 := Lib.hid hv0
  have q21 := HA.out.cc 21 c.news rfl
  rw [hv0] at q21
  have HQ21 := Lib.hid q21
  clear hrow hv0 q21 k0 k1 k2 k3 k4 k5 k6 k7 k8 k9
  go_enter Tryz.func132, Tryz.ntmps132
  go_upto_region 1 with fail
  refine wp_named ?_
  intro W3 hW3
  obtain rfl : W3 = W0 := hW3.trans HW0.out
  rw [HX.out]
  clear hW3
  --REGION1
  refine wp_region_held_drew (S := fun w' => w'.cell? ⟨x, 0, none⟩ = some (.int .i64 kind) ∧ w'.cell? ⟨x, 1, none⟩ = some (.int .i64 st) ∧ w'.cell? ⟨x, 2, none⟩ = some (.string meth) ∧ w'.cell? ⟨x, 3, none⟩ = some (.string sch) ∧ w'.cell? ⟨x, 4, none⟩ = some (.string auth) ∧ w'.cell? ⟨x, 5, none⟩ = some (.string path) ∧ w'.cell? ⟨x, 6, none⟩ = some fields ∧ w'.cell? ⟨x, 7, none⟩ = some (.string data) ∧ w'.cell? ⟨x, 8, none⟩ = some (.bool fin) ∧ w'.cell? ⟨x, 9, none⟩ = some (.int .i64 code)) (by kernel_rfl) (HKK.out) (fun hHeld => ?_)
  refine wpAnyH_take (i := 0) (oi := ⟨some 4, _, _, _, _, _⟩) (v := ?_) rfl (by kernel_rfl) (by kernel_rfl) (by kernel_rfl) (fun _ _ _ h => h) (Or.inl ⟨by kernel_rfl, ?_⟩) hHeld ?_
  rotate_left
  · intro w hSw
    obtain ⟨h1, h2, h3, h4, h5, h6, h7, h8, h9, h10⟩ := hSw
    go_simp
    all_goals with_reducible rfl
  try simp only [Act.put, List.setIfInBounds_toArray, List.set_cons_zero, List.set_cons_succ]
  refine wpAnyH_take (i := 1) (oi := ⟨some 5, _, _, _, _, _⟩) (v := ?_) rfl (by kernel_rfl) (by kernel_rfl) (by kernel_rfl) (fun _ _ _ h => h) (Or.inl ⟨by kernel_rfl, ?_⟩) hHeld ?_
  rotate_left
  · intro w hSw
    obtain ⟨h1, h2, h3, h4, h5, h6, h7, h8, h9, h10⟩ := hSw
    go_simp
    all_goals with_reducible rfl
  try simp only [Act.put, List.setIfInBounds_toArray, List.set_cons_zero, List.set_cons_succ]
  refine wpAnyH_take (i := 2) (oi := ⟨some 6, _, _, _, _, _⟩) (v := ?_) rfl (by kernel_rfl) (by kernel_rfl) (by kernel_rfl) (fun _ _ _ h => h) (Or.inl ⟨by kernel_rfl, ?_⟩) hHeld ?_
  rotate_left
  · intro w hSw
    obtain ⟨h1, h2, h3, h4, h5, h6, h7, h8, h9, h10⟩ := hSw
    go_simp
    all_goals with_reducible rfl
  try simp only [Act.put, List.setIfInBounds_toArray, List.set_cons_zero, List.set_cons_succ]
  refine wpAnyH_take (i := 3) (oi := ⟨some 7, _, _, _, _, _⟩) (v := ?_) rfl (by kernel_rfl) (by kernel_rfl) (by kernel_rfl) (fun _ _ _ h => h) (Or.inl ⟨by kernel_rfl, ?_⟩) hHeld ?_
  rotate_left
  · intro w hSw
    obtain ⟨h1, h2, h3, h4, h5, h6, h7, h8, h9, h10⟩ := hSw
    go_simp
    all_goals with_reducible rfl
  try simp only [Act.put, List.setIfInBounds_toArray, List.set_cons_zero, List.set_cons_succ]
  refine wpAnyH_take (i := 5) (oi := ⟨some 9, _, _, _, _, _⟩) (v := ?_) rfl (by kernel_rfl) (by kernel_rfl) (by kernel_rfl) (fun _ _ _ h => h) (Or.inl ⟨by kernel_rfl, ?_⟩) hHeld ?_
  rotate_left
  · intro w hSw
    obtain ⟨h1, h2, h3, h4, h5, h6, h7, h8, h9, h10⟩ := hSw
    go_simp
    all_goals with_reducible rfl
  try simp only [Act.put, List.setIfInBounds_toArray, List.set_cons_zero, List.set_cons_succ]
  have HBD : Hid (Below W3.heap.size W3 (W3.drew.alloc (.cells #[.int .i64 kind, .int .i64 st, .string meth, .string sch, .string auth, .string path, fields, .string data, .bool fin, .int .i64 code] 64))) := Lib.hid (Below.trans (by exact ⟨rfl, rfl, rfl, Nat.le_refl _, fun _ _ => rfl⟩) ((Below.refl _ W3.drew).alloc (Nat.le_refl _) _))
  have HA4 : Hid (All B (W3.alloc (.cells #[.int .i64 kind, .int .i64 st, .string meth, .string sch, .string auth, .string path, fields, .string data, .bool fin, .int .i64 code] 64)).drew (cConn p c :: cRow 64 10 c.news n xs :: cs)) := Lib.hid (HA.out.below HBD.out)
  have HRD : Hid (Rd (W3.alloc (.cells #[.int .i64 kind, .int .i64 st, .string meth, .string sch, .string auth, .string path, fields, .string data, .bool fin, .int .i64 code] 64)).drew (W3.heap.size + 1) 10 (some ⟨W3.heap.size, 0, none⟩) 1 [.int .i64 kind, .int .i64 st, .string meth, .string sch, .string auth, .string path, fields, .string data, .bool fin, .int .i64 code]) := Lib.hid (rd_lit W3.drew #[.int .i64 kind, .int .i64 st, .string meth, .string sch, .string auth, .string path, fields, .string data, .bool fin, .int .i64 code] 64 10 rfl)
  have hq1 : ∀ o, (W3.alloc (.cells #[.int .i64 kind, .int .i64 st, .string meth, .string sch, .string auth, .string path, fields, .string data, .bool fin, .int .i64 code] 64)).drew.cell? ⟨x, o, none⟩ = W3.cell? ⟨x, o, none⟩ := fun o => World.cell?_alloc_lt W3 _ ⟨x, o, none⟩ hxl
  have hq2 : (W3.alloc (.cells #[.int .i64 kind, .int .i64 st, .string meth, .string sch, .string auth, .string path, fields, .string data, .bool fin, .int .i64 code] 64)).drew.cell? ⟨p, 21, none⟩ = some (.slice A0 n cp0) := by have h := HA4.out.cc 21 c.news rfl; rwa [HV0.out] at h
  refine wpAnyH_ready (rs := [4, 6]) (by kernel_rfl) (by simp) ?_
  refine AllReadyH.cons (o := ⟨some 8, _, _, _, _, _⟩) rfl (fun K hK => ?_) (AllReadyH.cons (o := ⟨some 10, _, _, _, _, _⟩) rfl (fun K hK => ?_) AllReadyH.nil)
  · have q21 := HQ21.out
    go_simp
    refine hK.out _ _ (HKK.out) (fun hHeld => ?_)
    clear hK K
    try simp only [Act.put, List.setIfInBounds_toArray, List.set_cons_zero, List.set_cons_succ]
    refine wpAnyH_ready (rs := [6]) (by kernel_rfl) (by simp) ?_
    refine AllReadyH.cons (o := ⟨some 10, _, _, _, _, _⟩) rfl (fun K hK => ?_) AllReadyH.nil
    go_simp
    refine hK.out _ _ (⟨(hq1 0).trans HKK.out.1, (hq1 1).trans HKK.out.2.1, (hq1 2).trans HKK.out.2.2.1, (hq1 3).trans HKK.out.2.2.2.1, (hq1 4).trans HKK.out.2.2.2.2.1, (hq1 5).trans HKK.out.2.2.2.2.2.1, (hq1 6).trans HKK.out.2.2.2.2.2.2.1, (hq1 7).trans HKK.out.2.2.2.2.2.2.2.1, (hq1 8).trans HKK.out.2.2.2.2.2.2.2.2.1, (hq1 9).trans HKK.out.2.2.2.2.2.2.2.2.2⟩) (fun hHeld => ?_)
    clear hK K
    try simp only [Act.put, List.setIfInBounds_toArray, List.set_cons_zero, List.set_cons_succ]
    refine wpAnyH_ready (rs := [7]) (by kernel_rfl) (by simp) ?_
    refine AllReadyH.cons (o := ⟨some 11, _, _, _, _, _⟩) rfl (fun K hK => ?_) AllReadyH.nil
    have hrow2 : (W3.alloc (.cells #[.int .i64 kind, .int .i64 st, .string meth, .string sch, .string auth, .string path, fields, .string data, .bool fin, .int .i64 code] 64)).drew.ownsRow 0 64 10 (.slice A0 n cp0) n xs := by have h := (HA4.out.pick [cConn p c]).head; rwa [show cRow 64 10 c.news n xs = cRow 64 10 (.slice A0 n cp0) n xs by rw [HV0.out]] at h
    have hone : ∀ u ∈ [Value.int .i64 kind, .int .i64 st, .string meth, .string sch, .string auth, .string path, fields, .string data, .bool fin, .int .i64 code], u.oneCell' = true := by
      have h1 : fields.oneCell' = true := HON.out
      intro u hu
      simp only [List.mem_cons, List.not_mem_nil, or_false] at hu
      rcases hu with rfl | rfl | rfl | rfl | rfl | rfl | rfl | rfl | rfl | rfl <;> first | rfl | exact h1
    refine step_app (.tmp 8) (.tmp 10) tHaps rfl rfl hrow2 rfl HRD.out rfl hone (le_maxLen (by omega)) (by omega) (Nat.zero_le _) ?_
    intro v3 w3 hown3 hg3 hb3
    rw [← HV0.out] at hg3 hb3
    obtain ⟨hA3, hB3⟩ := (HA4.out.pick [cConn p c]).app hown3 hg3 hb3
    have HA5 := Lib.hid (hA3.pick [_])
    have HB5 : Hid (Below B w w3) := Lib.hid (HB0.out.trans (Below.trans (HBD.out.mono HA.out.sz) hB3))
    obtain ⟨A5, c5, hv5, -, -, -, -⟩ := own_slice hown3
    subst hv5
    have hq3 : w3.cell? ⟨p, 21, none⟩ = some (.slice A0 n cp0) := by have h := HA5.out.cc 21 c.news rfl; rwa [HV0.out] at h
    have f21 := HA5.out.cf 21
    have hkx : ∀ o, w3.cell? ⟨x, o, none⟩ = W3.cell? ⟨x, o, none⟩ := fun o => by
      rw [← hq1 o]
      exact hg3.cell_far _ (Nat.lt_of_lt_of_le hxl HBD.out.size) (fun e1 => Nat.lt_irrefl _ (HLT0.out x e1.symm))
    clear hown3 hg3 hb3 hA3 hB3 hrow2
    refine hK.out _ _ (⟨(hkx 0).trans HKK.out.1, (hkx 1).trans HKK.out.2.1, (hkx 2).trans HKK.out.2.2.1, (hkx 3).trans HKK.out.2.2.2.1, (hkx 4).trans HKK.out.2.2.2.2.1, (hkx 5).trans HKK.out.2.2.2.2.2.1, (hkx 6).trans HKK.out.2.2.2.2.2.2.1, (hkx 7).trans HKK.out.2.2.2.2.2.2.2.1, (hkx 8).trans HKK.out.2.2.2.2.2.2.2.2.1, (hkx 9).trans HKK.out.2.2.2.2.2.2.2.2.2⟩) (fun hHeld => ?_)
    clear hK K
    try simp only [Act.put, List.setIfInBounds_toArray, List.set_cons_zero, List.set_cons_succ]
    refine wpAnyH_take (i := 8) (oi := ⟨some 12, _, _, _, _, _⟩) (v := ?_) rfl (by kernel_rfl) (by kernel_rfl) (by kernel_rfl) (fun _ _ _ h => h) (Or.inl ⟨by kernel_rfl, ?_⟩) hHeld ?_
    rotate_left
    · intro w hSw
      obtain ⟨h1, h2, h3, h4, h5, h6, h7, h8, h9, h10⟩ := hSw
      go_simp
      all_goals with_reducible rfl
    try simp only [Act.put, List.setIfInBounds_toArray, List.set_cons_zero, List.set_cons_succ]
    refine wpAnyH_take (i := 9) (oi := ⟨some 13, _, _, _, _, _⟩) (v := ?_) rfl (by kernel_rfl) (by kernel_rfl) (by kernel_rfl) (fun _ _ _ h => h) (Or.inl ⟨by kernel_rfl, ?_⟩) hHeld ?_
    rotate_left
    · intro w hSw
      obtain ⟨h1, h2, h3, h4, h5, h6, h7, h8, h9, h10⟩ := hSw
      go_simp
      all_goals with_reducible rfl
    try simp only [Act.put, List.setIfInBounds_toArray, List.set_cons_zero, List.set_cons_succ]
    refine wpAnyH_ready (rs := [10]) (by kernel_rfl) (by simp) ?_
    refine AllReadyH.cons (o := ⟨none, _, _, _, _, _⟩) rfl (fun K hK => ?_) AllReadyH.nil
    go_simp
    obtain ⟨h1, h2⟩ := HA5.out.set 21 (.slice A5 (n + 1) c5)
    have HE := Lib.hid (And.intro h1 (HB5.out.trans h2))
    have hpx : ∀ o, (w3.setCell ⟨p, 21, none⟩ (.slice A5 (n + 1) c5)).cell? ⟨x, o, none⟩ = W3.cell? ⟨x, o, none⟩ := fun o => (World.cell?_setCell_far w3 ⟨p, 21, none⟩ ⟨x, o, none⟩ _ HPX.out).trans (hkx o)
    clear h1 h2
    refine hK.out _ _ (⟨(hpx 0).trans HKK.out.1, (hpx 1).trans HKK.out.2.1, (hpx 2).trans HKK.out.2.2.1, (hpx 3).trans HKK.out.2.2.2.1, (hpx 4).trans HKK.out.2.2.2.2.1, (hpx 5).trans HKK.out.2.2.2.2.2.1, (hpx 6).trans HKK.out.2.2.2.2.2.2.1, (hpx 7).trans HKK.out.2.2.2.2.2.2.2.1, (hpx 8).trans HKK.out.2.2.2.2.2.2.2.2.1, (hpx 9).trans HKK.out.2.2.2.2.2.2.2.2.2⟩) (fun hHeld => ?_)
    clear hK K
    try simp only [Act.put, List.setIfInBounds_toArray, List.set_cons_zero, List.set_cons_succ]
    refine wpAnyH_done (by kernel_rfl) ?_ _
    go_wp2_with fail
    go_end0
    exact ⟨rfl, HE.out.2, .slice A5 (n + 1) c5, HE.out.1⟩
  · go_simp
    refine hK.out _ _ (⟨(hq1 0).trans HKK.out.1, (hq1 1).trans HKK.out.2.1, (hq1 2).trans HKK.out.2.2.1, (hq1 3).trans HKK.out.2.2.2.1, (hq1 4).trans HKK.out.2.2.2.2.1, (hq1 5).trans HKK.out.2.2.2.2.2.1, (hq1 6).trans HKK.out.2.2.2.2.2.2.1, (hq1 7).trans HKK.out.2.2.2.2.2.2.2.1, (hq1 8).trans HKK.out.2.2.2.2.2.2.2.2.1, (hq1 9).trans HKK.out.2.2.2.2.2.2.2.2.2⟩) (fun hHeld => ?_)
    clear hK K
    try simp only [Act.put, List.setIfInBounds_toArray, List.set_cons_zero, List.set_cons_succ]
    refine wpAnyH_ready (rs := [4]) (by kernel_rfl) (by simp) ?_
    refine AllReadyH.cons (o := ⟨some 8, _, _, _, _, _⟩) rfl (fun K hK => ?_) AllReadyH.nil
    have q21 : (W3.alloc (.cells #[.int .i64 kind, .int .i64 st, .string meth, .string sch, .string auth, .string path, fields, .string data, .bool fin, .int .i64 code] 64)).cell? ⟨p, 21, none⟩ = some (.slice A0 n cp0) := hq2
    go_simp
    refine hK.out _ _ (⟨(hq1 0).trans HKK.out.1, (hq1 1).trans HKK.out.2.1, (hq1 2).trans HKK.out.2.2.1, (hq1 3).trans HKK.out.2.2.2.1, (hq1 4).trans HKK.out.2.2.2.2.1, (hq1 5).trans HKK.out.2.2.2.2.2.1, (hq1 6).trans HKK.out.2.2.2.2.2.2.1, (hq1 7).trans HKK.out.2.2.2.2.2.2.2.1, (hq1 8).trans HKK.out.2.2.2.2.2.2.2.2.1, (hq1 9).trans HKK.out.2.2.2.2.2.2.2.2.2⟩) (fun hHeld => ?_)
    clear hK K
    try simp only [Act.put, List.setIfInBounds_toArray, List.set_cons_zero, List.set_cons_succ]
    refine wpAnyH_ready (rs := [7]) (by kernel_rfl) (by simp) ?_
    refine AllReadyH.cons (o := ⟨some 11, _, _, _, _, _⟩) rfl (fun K hK => ?_) AllReadyH.nil
    have hrow2 : (W3.alloc (.cells #[.int .i64 kind, .int .i64 st, .string meth, .string sch, .string auth, .string path, fields, .string data, .bool fin, .int .i64 code] 64)).drew.ownsRow 0 64 10 (.slice A0 n cp0) n xs := by have h := (HA4.out.pick [cConn p c]).head; rwa [show cRow 64 10 c.news n xs = cRow 64 10 (.slice A0 n cp0) n xs by rw [HV0.out]] at h
    have hone : ∀ u ∈ [Value.int .i64 kind, .int .i64 st, .string meth, .string sch, .string auth, .string path, fields, .string data, .bool fin, .int .i64 code], u.oneCell' = true := by
      have h1 : fields.oneCell' = true := HON.out
      intro u hu
      simp only [List.mem_cons, List.not_mem_nil, or_false] at hu
      rcases hu with rfl | rfl | rfl | rfl | rfl | rfl | rfl | rfl | rfl | rfl <;> first | rfl | exact h1
    refine step_app (.tmp 8) (.tmp 10) tHaps rfl rfl hrow2 rfl HRD.out rfl hone (le_maxLen (by omega)) (by omega) (Nat.zero_le _) ?_
    intro v3 w3 hown3 hg3 hb3
    rw [← HV0.out] at hg3 hb3
    obtain ⟨hA3, hB3⟩ := (HA4.out.pick [cConn p c]).app hown3 hg3 hb3
    have HA5 := Lib.hid (hA3.pick [_])
    have HB5 : Hid (Below B w w3) := Lib.hid (HB0.out.trans (Below.trans (HBD.out.mono HA.out.sz) hB3))
    obtain ⟨A5, c5, hv5, -, -, -, -⟩ := own_slice hown3
    subst hv5
    have hq3 : w3.cell? ⟨p, 21, none⟩ = some (.slice A0 n cp0) := by have h := HA5.out.cc 21 c.news rfl; rwa [HV0.out] at h
    have f21 := HA5.out.cf 21
    have hkx : ∀ o, w3.cell? ⟨x, o, none⟩ = W3.cell? ⟨x, o, none⟩ := fun o => by
      rw [← hq1 o]
      exact hg3.cell_far _ (Nat.lt_of_lt_of_le hxl HBD.out.size) (fun e1 => Nat.lt_irrefl _ (HLT0.out x e1.symm))
    clear hown3 hg3 hb3 hA3 hB3 hrow2
    refine hK.out _ _ (⟨(hkx 0).trans HKK.out.1, (hkx 1).trans HKK.out.2.1, (hkx 2).trans HKK.out.2.2.1, (hkx 3).trans HKK.out.2.2.2.1, (hkx 4).trans HKK.out.2.2.2.2.1, (hkx 5).trans HKK.out.2.2.2.2.2.1, (hkx 6).trans HKK.out.2.2.2.2.2.2.1, (hkx 7).trans HKK.out.2.2.2.2.2.2.2.1, (hkx 8).trans HKK.out.2.2.2.2.2.2.2.2.1, (hkx 9).trans HKK.out.2.2.2.2.2.2.2.2.2⟩) (fun hHeld => ?_)
    clear hK K
    try simp only [Act.put, List.setIfInBounds_toArray, List.set_cons_zero, List.set_cons_succ]
    refine wpAnyH_take (i := 8) (oi := ⟨some 12, _, _, _, _, _⟩) (v := ?_) rfl (by kernel_rfl) (by kernel_rfl) (by kernel_rfl) (fun _ _ _ h => h) (Or.inl ⟨by kernel_rfl, ?_⟩) hHeld ?_
    rotate_left
    · intro w hSw
      obtain ⟨h1, h2, h3, h4, h5, h6, h7, h8, h9, h10⟩ := hSw
      go_simp
      all_goals with_reducible rfl
    try simp only [Act.put, List.setIfInBounds_toArray, List.set_cons_zero, List.set_cons_succ]
    refine wpAnyH_take (i := 9) (oi := ⟨some 13, _, _, _, _, _⟩) (v := ?_) rfl (by kernel_rfl) (by kernel_rfl) (by kernel_rfl) (fun _ _ _ h => h) (Or.inl ⟨by kernel_rfl, ?_⟩) hHeld ?_
    rotate_left
    · intro w hSw
      obtain ⟨h1, h2, h3, h4, h5, h6, h7, h8, h9, h10⟩ := hSw
      go_simp
      all_goals with_reducible rfl
    try simp only [Act.put, List.setIfInBounds_toArray, List.set_cons_zero, List.set_cons_succ]
    refine wpAnyH_ready (rs := [10]) (by kernel_rfl) (by simp) ?_
    refine AllReadyH.cons (o := ⟨none, _, _, _, _, _⟩) rfl (fun K hK => ?_) AllReadyH.nil
    go_simp
    obtain ⟨h1, h2⟩ := HA5.out.set 21 (.slice A5 (n + 1) c5)
    have HE := Lib.hid (And.intro h1 (HB5.out.trans h2))
    have hpx : ∀ o, (w3.setCell ⟨p, 21, none⟩ (.slice A5 (n + 1) c5)).cell? ⟨x, o, none⟩ = W3.cell? ⟨x, o, none⟩ := fun o => (World.cell?_setCell_far w3 ⟨p, 21, none⟩ ⟨x, o, none⟩ _ HPX.out).trans (hkx o)
    clear h1 h2
    refine hK.out _ _ (⟨(hpx 0).trans HKK.out.1, (hpx 1).trans HKK.out.2.1, (hpx 2).trans HKK.out.2.2.1, (hpx 3).trans HKK.out.2.2.2.1, (hpx 4).trans HKK.out.2.2.2.2.1, (hpx 5).trans HKK.out.2.2.2.2.2.1, (hpx 6).trans HKK.out.2.2.2.2.2.2.1, (hpx 7).trans HKK.out.2.2.2.2.2.2.2.1, (hpx 8).trans HKK.out.2.2.2.2.2.2.2.2.1, (hpx 9).trans HKK.out.2.2.2.2.2.2.2.2.2⟩) (fun hHeld => ?_)
    clear hK K
    try simp only [Act.put, List.setIfInBounds_toArray, List.set_cons_zero, List.set_cons_succ]
    refine wpAnyH_done (by kernel_rfl) ?_ _
    go_wp2_with fail
    go_end0
    exact ⟨rfl, HE.out.2, .slice A5 (n + 1) c5, HE.out.1⟩
end Go.Proofs.YtpkmciohehaboaaGreatDoor
