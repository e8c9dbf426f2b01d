/- 7 texts in one: Fr8, Ch0, Ch1, Ch2, Rf, Ch3, HAwakePlain. -/
import Derived.Test.YtfpcamkimjecdaaM10
import Derived.StillTailTactics
import Derived.Great.BuildSlice
import Derived.RangeFuncNested
import Derived.RangeFuncBound
import Derived.RangeFuncCalls
import Derived.RangeFuncLeaves
import Derived.Shelf.Abstract
import Derived.Shelf.RegionOpen
import Derived.WalkKit
import Derived.OwnWalkIn
import Derived.TacticsInMore
import Derived.LoopNIn
import Derived.LoopIn
/- The walk of frame.Take, of frames of blocks and of data. -/
namespace Go.Proofs.Ytfpcamkimjecdaa
open Go.RowKit

theorem open_all {A : Option Addr} {n cap x : Nat} (f : Fr) (pd : Bool) (w : World) (hf : FrOk f pd) (h1 : pd = true → 1 ≤ f.pad) (kx : w.heap[x]? = some (.cells f.bare.cells 49 (0, 0))) (hr : Rd w w.heap.size 1 A n (bvs (payL f pd))) (hc : n ≤ cap) (hm : cap ≤ maxLen) (hx : ∀ a, A = some a → a.block ≠ x) :
    Calls Try.prog 63 #[.pointer (some ⟨x, 0, none⟩), .slice A n cap] w (OpenPost w x f) := by
  by_cases h9 : f.ty = 9
  · exact open_nine f pd w hf h9 kx hr
  · have h01 : f.ty = 0 ∨ f.ty = 1 := by have := hf.ty; omega
    cases pd with
    | false => exact open_plain f w hf h01 kx hr hc hm
    | true => exact open_padded f w hf (h1 rfl) h01 kx hr hc hm hx
theorem results_take {tmps : Array Value} {w : World} {g h : Nat} {cs cs2 : Array Value} (hp : tmps.getD 4 undef = .pointer (some ⟨g, 0, none⟩)) (hp2 : tmps.getD 6 undef = .pointer (some ⟨h, 0, none⟩)) (hg : w.heap[g]? = some (.cells cs 49 (0, 0))) (hh : w.heap[h]? = some (.cells cs2 55 (0, 0))) (hs : cs.size = 12) (hs2 : cs2.size = 3) :
    (results Try.f47 tmps).run Try.prog w = .ok (.tuple #[.agg cs, tmps.getD 5 undef, .agg cs2]) w := by
  have h1 := run_loadVar_row (P := Try.prog) w g 49 49 cs (0, 0) _ hg Try.underlying49 rfl (by rw [infoFrame, hs])
  have h2 := run_loadVar_row (P := Try.prog) w h 55 55 cs2 (0, 0) _ hh Try.underlying55 rfl (by rw [infoFault, hs2])
  have hp' : tmps[4]?.getD undef = .pointer (some ⟨g, 0, none⟩) := by simpa using hp
  have hp2' : tmps[6]?.getD undef = .pointer (some ⟨h, 0, none⟩) := by simpa using hp2
  simp [results, Try.results47, hp', hp2', asAddr, h1, h2]
theorem two_first (w : World) (a b : Obj) : ((w.alloc a).alloc b).heap[w.heap.size]? = some a := (Below.heap_alloc _ _ _ (by simp)).trans (heapNew _ _)
def zeroFr : Fr := ⟨0, 0, 0, ⟨#[]⟩, 0⟩
def TakePost (w : World) (f : Fr) (n : Nat) (e : Ending) (w' : World) : Prop := e = .returned (.tuple #[frV f, .int .i64 n, faultV false 0 0]) ∧ Below w.heap.size w w'
set_option maxRecDepth 100000 in
set_option maxHeartbeats 4000000 in
theorem ftake_short {A : Option Addr} {n cap : Nat} (most : Int) (w : World) (hn : n < 9) :
    Calls Try.prog 47 #[.slice A n cap, .int .i64 most] w (TakePost w zeroFr 0) := by
  go_enter Try.func47, Try.ntmps47
  go_wp2_with fail
  refine bodyPost_ret (results_take rfl rfl (two_first _ _ _) (heapNew2 _ _ _) rfl rfl) rfl ?_
  exact ⟨rfl, ((Below.refl _ _).alloc (Nat.le_refl _) _).alloc (by simp) _⟩
/-- What the head says: the payload's length is m. -/
structure Head (l : List UInt8) (f : Fr) (pd : Bool) (m : Nat) : Prop where
  ok : FrOk f pd
  p1 : pd = true → 1 ≤ f.pad
  st1 : 0 < f.st
  len : (payL f pd).length = m
  sz : beN ((l.drop 0).take 3) = m
  ty : ba l 3 = f.ty
  fl : ba l 4 = f.fl
  st : beN ((l.drop 5).take 4) = f.st
set_option maxRecDepth 100000 in
set_option maxHeartbeats 4000000 in
theorem ftake_part {A : Option Addr} {n cap m most : Nat} {l : List UInt8} {f : Fr} {pd : Bool} (w : World) (hr : Rd w w.heap.size 1 A n (bvs l)) (hc : n ≤ cap) (hm : cap ≤ maxLen) (h9 : 9 ≤ n) (hh : Head l f pd m) (hmm : m ≤ most) (hlt : n < 9 + m) (hmost : most ≤ 16777215) :
    Calls Try.prog 47 #[.slice A n cap, .int .i64 most] w (TakePost w zeroFr 0) := by
  have HOT : Hid (∀ w', Below w.heap.size w w' → Calls Try.prog 58 #[.slice A n cap, .int .i64 0, .int .i64 3] w' fun e w2 => e = .returned (.tuple #[.int .u32 (m : Nat), .int .i64 0]) ∧ w' = w2) := Lib.hid fun w' hb => by
    have := otake_any 0 3 w' ((hr.below hb (Nat.le_refl _)).more hb.size) hc hm (by omega) (by omega) (by omega)
    rw [hh.sz] at this
    exact this
  clear hr hm hh
  go_enter Try.func47, Try.ntmps47
  go_wp2_with fail
  refine (HOT.out _ (((Below.refl _ _).alloc (Nat.le_refl _) _).alloc (by simp) _)).mono ?_
  rintro e1 w1 ⟨rfl, rfl⟩
  go_wp2_with fail
  refine bodyPost_ret (results_take rfl rfl (two_first _ _ _) (heapNew2 _ _ _) rfl rfl) rfl ?_
  exact ⟨rfl, ((Below.refl _ _).alloc (Nat.le_refl _) _).alloc (by simp) _⟩
theorem and31 {st : Nat} (h : st ≤ 2147483647) : Go.bits .and .i64 (st : Int) 2147483647 = st := by
  have key : (BitVec.ofInt 64 (st : Int) &&& BitVec.ofInt 64 (2147483647 : Int)).toNat = st := by
    rw [BitVec.toNat_and, BitVec.toNat_ofInt, BitVec.toNat_ofInt]
    rw [show ((st : Int) % ((2 ^ 64 : Nat) : Int)).toNat = st by omega, show ((2147483647 : Int) % ((2 ^ 64 : Nat) : Int)).toNat = 2 ^ 31 - 1 by decide, Nat.and_two_pow_sub_one_eq_mod]
    omega
  show IntKind.i64.wrap ((BitVec.ofInt 64 (st : Int) &&& BitVec.ofInt 64 (2147483647 : Int)).toNat : Nat) = _
  rw [key]
  exact IntWalk.i64_in _ ⟨by omega, by omega⟩
set_option maxRecDepth 100000 in
set_option maxHeartbeats 8000000 in
theorem ftake_full {A : Option Addr} {n cap m most : Nat} {l : List UInt8} {f : Fr} {pd : Bool} (w : World) (hr : Rd w w.heap.size 1 A n (bvs l)) (hc : n ≤ cap) (hm : cap ≤ maxLen) (hh : Head l f pd m) (hmm : m ≤ most) (hge : 9 + m ≤ n) (hmost : most ≤ 16777215) (hpl : (l.drop 9).take m = payL f pd) :
    Calls Try.prog 47 #[.slice A n cap, .int .i64 most] w (TakePost w f (9 + m)) := by
  have hcm : cap ≤ 9223372036854775807 := by unfold maxLen at hm; exact hm
  obtain ⟨hl, b, o, rfl, hb, hcc⟩ := hr.bas (by omega)
  have HOT : Hid (∀ w', Below w.heap.size w w' → Calls Try.prog 58 #[.slice (some ⟨b, o, none⟩) n cap, .int .i64 0, .int .i64 3] w' fun e w2 => e = .returned (.tuple #[.int .u32 (m : Nat), .int .i64 0]) ∧ w' = w2) := Lib.hid fun w' hb => by
    have := otake_any 0 3 w' ((hr.below hb (Nat.le_refl _)).more hb.size) hc hm (by omega) (by omega) (by omega)
    rw [hh.sz] at this
    exact this
  have HNU : Hid (∀ w', Below w.heap.size w w' → Calls Try.prog 60 #[.slice (some ⟨b, o, none⟩) n cap, .int .i64 5] w' fun e w2 => e = .returned (.int .i64 (f.st : Nat)) ∧ w' = w2) := Lib.hid fun w' hb => by
    have := fnum_any 5 w' ((hr.below hb (Nat.le_refl _)).more hb.size) hc hm (by omega)
    rw [hh.st] at this
    exact this
  have hr2 := hr.lh (lo := 9) (hi := 9 + m) (by omega) hge hc
  rw [show 9 + m - 9 = m by omega, hpl] at hr2
  have b3 := hcc 3 (by omega)
  have b4 := hcc 4 (by omega)
  rw [hh.ty] at b3
  rw [hh.fl] at b4
  have ha31 := and31 hh.ok.st
  have HR2 := Lib.hid hr2
  have HH := Lib.hid hh
  obtain ⟨ty, hty⟩ : ∃ ty, f.ty = ty := ⟨_, rfl⟩
  obtain ⟨fl, hfl⟩ : ∃ fl, f.fl = fl := ⟨_, rfl⟩
  obtain ⟨st, hst⟩ : ∃ st, f.st = st := ⟨_, rfl⟩
  rw [hty] at b3
  rw [hfl] at b4
  rw [hst] at ha31 HNU
  have HE := Lib.hid (And.intro hty (And.intro hfl hst))
  have hty2 : ty < 256 := by have := hh.ok.ty; omega
  have hfl2 : fl < 256 := by have := hh.ok.fl; omega
  clear hr hm hh hcc hr2 hty hfl hst hpl
  go_enter Try.func47, Try.ntmps47
  go_upto_region 1 with fail
  refine wp_named ?_
  intro W2 hW2
  have bw2 : Below w.heap.size w W2 := by rw [hW2]; exact ((Below.refl _ _).alloc (Nat.le_refl _) _).alloc (by simp) _
  have k4 : W2.heap[w.heap.size]? = some (.cells zeroFr.cells 49 (0, 0)) := by rw [hW2]; exact two_first _ _ _
  have k6 : W2.heap[w.heap.size + 1]? = some (.cells #[.bool false, .int .i64 0, .int .i64 0] 55 (0, 0)) := by rw [hW2]; exact heapNew2 _ _ _
  have hs2 : W2.heap.size = w.heap.size + 2 := by rw [hW2]; simp
  have HK := Lib.hid (And.intro bw2 (And.intro k4 k6))
  have c3 : W2.cell? ⟨b, o + 3, none⟩ = some (.int .u8 ty) := (bw2.cell (p := ⟨b, o + 3, none⟩) hb).trans b3
  have c4 : W2.cell? ⟨b, o + 4, none⟩ = some (.int .u8 fl) := (bw2.cell (p := ⟨b, o + 4, none⟩) hb).trans b4
  clear hW2 bw2 k4 k6 b3 b4
  go_wp2_with fail
  refine (HOT.out _ HK.out.1).mono ?_
  rintro e1 w1 ⟨rfl, rfl⟩
  have i3 : (3 : Int) < n := by omega
  have i4 : (4 : Int) < n := by omega
  have hbw : b < W2.heap.size := by omega
  have HS2 := Lib.hid hs2
  have hal : w.heap.size ≤ W2.heap.size := by omega
  clear hs2
  have ew1 : IntKind.i64.wrap (ty : Int) = ty := IntWalk.i64_in _ ⟨by omega, by omega⟩
  have ew2 : IntKind.i64.wrap (fl : Int) = fl := IntWalk.i64_in _ ⟨by omega, by omega⟩
  go_upto_region 10 with fail
  go_cut [11] (fun y wx => y = .pointer (some ⟨W2.heap.size, 0, none⟩) ∧ wx.heap[W2.heap.size]? = some (.cells #[.int .i64 ty, .int .i64 fl, .int .i64 st, .string ⟨#[]⟩, .int .i64 0, .slice none 0 0, .int .i64 0, .int .i64 0, .int .i64 0, .int .i64 0, .int .i64 0, .bool false] 49 (0, 0)) ∧ Below W2.heap.size W2 wx)
  case first =>
    go_region_held3 (fun w' => w'.cell? ⟨b, o + 3, none⟩ = some (.int .u8 ty) ∧ w'.cell? ⟨b, o + 4, none⟩ = some (.int .u8 fl))
      (first | go_keep | exact ⟨k0, k1⟩)
      (first
        | (go_at_call 60; refine (HNU.out _ (by first | exact HK.out.1.drew | exact (HK.out.1.alloc hal _).drew)).mono ?_; rintro e3 w3 ⟨rfl, rfl⟩; have k0 := (by first | exact c3 | exact (World.cell?_alloc_lt W2 _ ⟨b, o + 3, none⟩ hbw).trans c3); have k1 := (by first | exact c4 | exact (World.cell?_alloc_lt W2 _ ⟨b, o + 4, none⟩ hbw).trans c4)))
    all_goals
      go_wp2_with fail
      go_meet
      first
        | exact ⟨rfl, heapNew W2 _, (Below.refl _ W2).alloc (Nat.le_refl _) _⟩
        | exact ⟨rfl, heapNew W2 _, ((Below.refl _ W2).alloc (Nat.le_refl _) _).drew⟩
  case rest =>
  obtain ⟨rfl, hkx, hbc⟩ := hcut
  have hs2 := HS2.out
  obtain ⟨x, hx⟩ : ∃ x, W2.heap.size = x := ⟨_, rfl⟩
  rw [hx] at hkx ⊢
  have hfx : FrAt wc x ⟨ty, fl, st, ⟨#[]⟩, 0⟩ := FrAt.of hkx
  have HB := Lib.hid (And.intro (HK.out.1.trans (hbc.mono (by omega))) (And.intro ((hbc.block _ (by omega)).trans HK.out.2.1) ((hbc.block _ (by omega)).trans HK.out.2.2)))
  have HX := Lib.hid (And.intro hkx (show w.heap.size + 1 < x by omega))
  have HFX := Lib.hid hfx
  have hst0 : 0 < st := by have := HH.out.st1; have := HE.out.2.2; omega
  obtain ⟨d0, d1, d2, d3, d4, d5, d6, d7, d8, d9, d10, d11, dl⟩ := HFX.out
  simp only at d0 d1 d2 d3 d4
  have hok := HH.out.ok
  have hty3 := hok.ty
  have hf8 := hok.f8
  have hf32 := hok.f32
  rw [HE.out.1] at hty3 hf32
  rw [HE.out.2.1] at hf8 hf32
  have hn9 : ty ≠ 9 → pd = true → 1 ≤ m := fun h1 h2 => by
    have := HH.out.len
    rw [← this]
    unfold payL
    rw [if_pos ⟨by rw [HE.out.1]; exact h1, h2⟩]
    simp
  have HMP := Lib.hid (fun w => misplaced_any ty st w hty3 hst0)
  have HMS := Lib.hid (fun w => missized_any ty fl m pd w hty3 hf8 hf32 hn9)
  clear hkx hbc hx hfx c3 c4 ew1 ew2 hok hf8 hf32 hn9 hs2 hbw
  go_wp2_with fail
  refine (HMP.out _).mono ?_
  rintro e4 w4 ⟨rfl, rfl⟩
  go_wp2_with fail
  refine (HMS.out _).mono ?_
  rintro e5 w5 ⟨rfl, hb5⟩
  have hf5 := HFX.out.below hb5
  have HB5 := Lib.hid hb5
  have HF5 := Lib.hid hf5
  clear d0 d1 d2 d3 d4 d5 d6 d7 d8 d9 d10 d11 hb5 hf5
  obtain ⟨d0, d1, d2, d3, d4, d5, d6, d7, d8, d9, d10, d11, dl5⟩ := HF5.out
  simp only at d0 d1 d2 d3 d4
  go_wp2_with fail
  refine (HMS.out _).mono ?_
  rintro e6 w6 ⟨rfl, hb6⟩
  have hf6 := HF5.out.below hb6
  have HB6 := Lib.hid (HB5.out.trans (hb6.mono HB5.out.size))
  have HF6 := Lib.hid hf6
  clear d0 d1 d2 d3 d4 d5 d6 d7 d8 d9 d10 d11 hb6 hf6 HMP HMS hty3
  have hs6 := HB6.out.size
  have hk6 : w6.heap[x]? = some (.cells f.bare.cells 49 (0, 0)) := (HB6.out.block x dl).trans (by
    rw [HX.out.1]
    unfold Fr.bare Fr.cells
    rw [HE.out.1, HE.out.2.1, HE.out.2.2]
    rfl)
  have hbw6 : Below w.heap.size w w6 := HB.out.1.trans (HB6.out.mono HB.out.1.size)
  have hr6 := (HR2.out.below hbw6 (Nat.le_refl _)).more hbw6.size
  have HK6 := Lib.hid (And.intro hk6 hbw6)
  have hbx : b ≠ x := by have := HX.out.2; omega
  have HOP : Hid (∀ A', (if cap = 9 then some ⟨b, o, none⟩ else Option.map (fun x => x.add 9) (some (⟨b, o, none⟩ : Addr))) = A' → Calls Try.prog 63 #[.pointer (some ⟨x, 0, none⟩), .slice A' m (cap - 9)] w6 (OpenPost w6 x f)) := Lib.hid fun A' hA => by
    refine open_all f pd w6 HH.out.ok HH.out.p1 hk6 (by rw [← hA]; exact hr6) (by omega) (le_maxLen (by omega)) (fun a ha => ?_)
    rw [← hA] at ha
    split at ha
    · injection ha with ha; subst ha; exact hbx
    · injection ha with ha; subst ha; simp [Addr.add_lit]; exact hbx
  clear hk6 hbw6 hr6 HR2 i3 i4
  go_upto_region 17 with fail
  go_cut [84] (fun y wx => y = .bool false ∧ wx.heap[x]? = some (.cells f.cells 49 (0, 0)) ∧ Kept (fun k => k = x) w6 wx)
  case first =>
    by_cases h9 : cap = 9
    · have hm0 : m = 0 := by omega
      subst h9
      have HO2 := Lib.hid (HOP.out _ (if_pos rfl))
      subst hm0
      go_wp2_with fail
      refine HO2.out.mono ?_
      rintro e7 w7 ⟨rfl, hk7, hkp7⟩
      have H7 := Lib.hid (And.intro hk7 hkp7)
      clear hk7 hkp7
      go_wp2_with fail
      go_meet
      exact ⟨rfl, H7.out⟩
    · have HO2 := Lib.hid (HOP.out _ (if_neg h9))
      go_wp2_with fail
      refine HO2.out.mono ?_
      rintro e7 w7 ⟨rfl, hk7, hkp7⟩
      have H7 := Lib.hid (And.intro hk7 hkp7)
      clear hk7 hkp7
      go_wp2_with fail
      go_meet
      exact ⟨rfl, H7.out⟩
  case rest =>
  obtain ⟨rfl, hk7, hkp7⟩ := hcut
  have hf7 : FrAt wc x f := FrAt.of hk7
  have hb7 : Below w.heap.size w wc := HK6.out.2.trans (hkp7.below (fun k hk => by subst hk; have := HX.out.2; omega) HK6.out.2.size)
  have hx2 := HX.out.2
  have k4 := (hkp7.block _ (by omega) (by omega)).trans ((HB6.out.block w.heap.size (by omega)).trans HB.out.2.1)
  have k6 := (hkp7.block _ (by omega) (by omega)).trans ((HB6.out.block (w.heap.size + 1) (by omega)).trans HB.out.2.2)
  have H7 := Lib.hid (And.intro hb7 (And.intro k4 k6))
  have HF7 := Lib.hid hf7
  clear hk7 hkp7 hf7 hb7 k4 k6
  obtain ⟨d0, d1, d2, d3, d4, d5, d6, d7, d8, d9, d10, d11, dl7⟩ := HF7.out
  have b8 : ((f.ty : Int) == 8) = false := by rw [beq_eq_false_iff_ne]; have := HH.out.ok.ty; omega
  go_wp2_with fail
  refine (unfit_nil _).mono ?_
  rintro e8 w8 ⟨rfl, hb8⟩
  have HF8 := Lib.hid (HF7.out.below hb8)
  have hs78 := hb8.size
  have hs7 := H7.out.1.size
  have hs67 : w.heap.size + 1 < wc.heap.size := by omega
  have H8 : Hid (Below w.heap.size w w8 ∧ w8.heap[w.heap.size]? = some (.cells zeroFr.cells 49 (0, 0)) ∧ w8.heap[w.heap.size + 1]? = some (.cells #[.bool false, .int .i64 0, .int .i64 0] 55 (0, 0))) := Lib.hid ⟨H7.out.1.trans (hb8.mono H7.out.1.size), (hb8.block _ (by omega)).trans H7.out.2.1, (hb8.block _ (by omega)).trans H7.out.2.2⟩
  clear hb8 d0 d1 d2 d3 d4 d5 d6 d7 d8 d9 d10 d11
  simp only [faultV]
  go_upto_region 26 with fail
  refine wp_named ?_
  intro W9 hW9
  have b9 : Below w8.heap.size w8 W9 := by rw [hW9]; exact (Below.refl _ _).alloc (Nat.le_refl _) _
  have HF9 := Lib.hid (HF8.out.below b9)
  have k4 := (b9.block w.heap.size (by omega)).trans H8.out.2.1
  have k6 := (b9.block (w.heap.size + 1) (by omega)).trans H8.out.2.2
  have H9 := Lib.hid (And.intro (H8.out.1.trans (b9.mono H8.out.1.size)) (And.intro k4 k6))
  clear hW9 b9 k4 k6
  obtain ⟨d0, d1, d2, d3, d4, d5, d6, d7, d8, d9, d10, d11, dl9⟩ := HF9.out
  go_wp2_with (first
    | (refine wpList_store_rowTo rfl 49 (.tmp 4) (.tmp 129) rfl rfl w.heap.size f.cells rfl rfl 49 _ H9.out.2.1 infoFrame rfl (by simp [Value.oneCell', Fr.cells]) ?_)
    | (refine wpList_store_rowTo rfl 55 (.tmp 6) (.tmp 131) rfl rfl (w.heap.size + 1) #[.bool false, .int .i64 0, .int .i64 0] rfl rfl 55 _ ((setRow_other _ _ _ _ (by omega)).trans H9.out.2.2) infoFault rfl (by simp [Value.oneCell']) ?_))
  refine bodyPost_ret (results_take rfl rfl ((setRow_other _ _ _ _ (by omega)).trans (setRow_heap _ _ _ _ _ _ H9.out.2.1)) (setRow_heap _ _ _ _ _ _ ((setRow_other _ _ _ _ (by omega)).trans H9.out.2.2)) rfl rfl) rfl ?_
  exact ⟨rfl, H9.out.1.trans ⟨rfl, rfl, rfl, by simp, fun k hk => (setRow_other _ _ _ _ (by omega)).trans (setRow_other _ _ _ _ (by omega))⟩⟩
end Go.Proofs.Ytfpcamkimjecdaa

/- The head of a frame, read off a prefix of frames' bytes. -/
namespace Go.Proofs.Ytfpcamkimjecdaa
open Go.RowKit

theorem be_foldl : ∀ (k n a : Nat), (be k n).foldl (fun s c => s * 256 + c.toNat) a = a * 256 ^ k + n % 256 ^ k := by
  intro k
  induction k with
  | zero => intro n a; simp [be, Nat.mod_one]
  | succ k ih =>
    intro n a
    have hd : (UInt8.ofNat (n / 256 ^ k % 256)).toNat = n / 256 ^ k % 256 := by
      rw [UInt8.toNat_ofNat']; omega
    simp only [be, List.foldl_cons, hd, ih]
    rw [Nat.pow_succ, Nat.mod_mul, Nat.add_mul, Nat.mul_assoc, Nat.mul_comm 256 (256 ^ k), Nat.mul_comm (n / 256 ^ k % 256)]
    omega
theorem beN_be {k n : Nat} (h : n < 256 ^ k) : beN (be k n) = n := by
  unfold beN
  rw [be_foldl, Nat.mod_eq_of_lt h]; omega
/-- A frame that may come: a frame of data or of a block; at most 'most' bytes. -/
structure Good (most : Nat) (p : Fr × Bool) : Prop where
  ok : FrOk p.1 p.2
  p1 : p.2 = true → 1 ≤ p.1.pad
  st1 : 0 < p.1.st
  len : (payL p.1 p.2).length ≤ most
def strm (fs : List (Fr × Bool)) : List UInt8 := fs.flatMap fun p => frB p.1 p.2
theorem strm_cons (p : Fr × Bool) (fs : List (Fr × Bool)) : strm (p :: fs) = frB p.1 p.2 ++ strm fs := by simp [strm]
theorem strm_append (fs gs : List (Fr × Bool)) : strm (fs ++ gs) = strm fs ++ strm gs := by simp [strm]
theorem frB_length (f : Fr) (pd : Bool) : (frB f pd).length = 9 + (payL f pd).length := by
  simp [frB, be_length]; omega
/-- The head's nine bytes. -/
def hd9 (f : Fr) (pd : Bool) : List UInt8 := be 3 (payL f pd).length ++ [UInt8.ofNat f.ty, UInt8.ofNat f.fl] ++ be 4 f.st
theorem hd9_length (f : Fr) (pd : Bool) : (hd9 f pd).length = 9 := by simp [hd9, be_length]
theorem frB_hd (f : Fr) (pd : Bool) : frB f pd = hd9 f pd ++ payL f pd := by simp [frB, hd9]
theorem be3 (n : Nat) : be 3 n = [UInt8.ofNat (n / 65536 % 256), UInt8.ofNat (n / 256 % 256), UInt8.ofNat (n % 256)] := by simp [be]
theorem be4 (n : Nat) : be 4 n = [UInt8.ofNat (n / 16777216 % 256), UInt8.ofNat (n / 65536 % 256), UInt8.ofNat (n / 256 % 256), UInt8.ofNat (n % 256)] := by simp [be]
theorem head_of {most : Nat} {p : Fr × Bool} {t : List UInt8} (hg : Good most p) (hm : most ≤ 16777215) : Head (hd9 p.1 p.2 ++ t) p.1 p.2 (payL p.1 p.2).length := by
  have hl := hg.len
  refine ⟨hg.ok, hg.p1, hg.st1, rfl, ?_, ?_, ?_, ?_⟩
  · rw [show ((hd9 p.1 p.2 ++ t).drop 0).take 3 = be 3 (payL p.1 p.2).length by simp [hd9, be3]]
    exact beN_be (by omega)
  · have h1 := hg.ok.ty
    simp [ba, hd9, be3]
    omega
  · have h1 := hg.ok.fl
    simp [ba, hd9, be3]
    omega
  · rw [show ((hd9 p.1 p.2 ++ t).drop 5).take 4 = be 4 p.1.st by simp [hd9, be3, be4]]
    exact beN_be (by have := hg.ok.st; omega)
theorem pre_nine {most : Nat} {p : Fr × Bool} {gs : List (Fr × Bool)} {r : List UInt8} (hg : Good most p) (hm : most ≤ 16777215) (hr : r <+: strm (p :: gs)) (h9 : 9 ≤ r.length) : Head r p.1 p.2 (payL p.1 p.2).length := by
  obtain ⟨u, hu⟩ := hr
  rw [strm_cons, frB_hd, List.append_assoc] at hu
  have h1 : r = hd9 p.1 p.2 ++ r.drop 9 := by
    have h2 : (r ++ u).take 9 = (hd9 p.1 p.2 ++ (payL p.1 p.2 ++ strm gs)).take 9 := by rw [hu]
    rw [List.take_append_of_le_length h9, List.take_left' (hd9_length _ _)] at h2
    rw [← h2, List.take_append_drop]
  rw [h1]
  exact head_of hg hm
/-- A whole frame's bytes at the start: its payload, and what is behind. -/
theorem pre_whole {p : Fr × Bool} {gs : List (Fr × Bool)} {r : List UInt8} (hr : r <+: strm (p :: gs)) (h9 : 9 + (payL p.1 p.2).length ≤ r.length) :
    (r.drop 9).take (payL p.1 p.2).length = payL p.1 p.2 ∧ r = frB p.1 p.2 ++ r.drop (9 + (payL p.1 p.2).length) ∧ r.drop (9 + (payL p.1 p.2).length) <+: strm gs := by
  obtain ⟨u, hu⟩ := hr
  rw [strm_cons] at hu
  have hl := frB_length p.1 p.2
  have h1 : r = frB p.1 p.2 ++ r.drop (9 + (payL p.1 p.2).length) := by
    have h2 : (r ++ u).take (9 + (payL p.1 p.2).length) = (frB p.1 p.2 ++ strm gs).take (9 + (payL p.1 p.2).length) := by rw [hu]
    rw [List.take_append_of_le_length h9, List.take_left' hl] at h2
    rw [← h2, List.take_append_drop]
  obtain ⟨r2, hr2⟩ : ∃ r2, r.drop (9 + (payL p.1 p.2).length) = r2 := ⟨_, rfl⟩
  rw [hr2] at h1 ⊢
  subst h1
  refine ⟨?_, rfl, ⟨u, ?_⟩⟩
  · rw [frB_hd, List.append_assoc, List.drop_left' (hd9_length _ _), List.take_left]
  · rw [List.append_assoc] at hu
    exact List.append_cancel_left hu
end Go.Proofs.Ytfpcamkimjecdaa

/- The walks of chop.New, Feed.Left, Feed.greet, Feed.items. -/
namespace Go.Proofs.Ytfpcamkimjecdaa
open Go.RowKit

/-- The feed's cells. -/
def fdC (most : Int) (v : Value) (ov : Bool) : Array Value := #[.int .i64 most, .int .i64 24, v, .bool ov]
def FeedAt (w : World) (x : Nat) (most : Int) (v : Value) : Prop := w.heap[x]? = some (.cells (fdC most v false) 78 (0, 0))
theorem FeedAt.c0 {w : World} {x : Nat} {most : Int} {v : Value} (h : FeedAt w x most v) : w.cell? ⟨x, 0, none⟩ = some (.int .i64 most) := by unfold World.cell?; rw [h]; rfl
theorem FeedAt.c1 {w : World} {x : Nat} {most : Int} {v : Value} (h : FeedAt w x most v) : w.cell? ⟨x, 1, none⟩ = some (.int .i64 24) := by unfold World.cell?; rw [h]; rfl
theorem FeedAt.c2 {w : World} {x : Nat} {most : Int} {v : Value} (h : FeedAt w x most v) : w.cell? ⟨x, 2, none⟩ = some v := by unfold World.cell?; rw [h]; rfl
theorem FeedAt.c3 {w : World} {x : Nat} {most : Int} {v : Value} (h : FeedAt w x most v) : w.cell? ⟨x, 3, none⟩ = some (.bool false) := by unfold World.cell?; rw [h]; rfl
theorem FeedAt.lt {w : World} {x : Nat} {most : Int} {v : Value} (h : FeedAt w x most v) : x < w.heap.size := (Array.getElem?_eq_some_iff.1 h).1
theorem FeedAt.fz {w : World} {x : Nat} {most : Int} {v : Value} (h : FeedAt w x most v) (o : Nat) : w.frozen? ⟨x, o, none⟩ = false := by unfold World.frozen?; rw [h]; rfl
theorem FeedAt.keep {w w' : World} {x : Nat} {most : Int} {v : Value} (h : FeedAt w x most v) (hk : w'.heap[x]? = w.heap[x]?) : FeedAt w' x most v := hk.trans h
theorem FeedAt.set2 {w : World} {x : Nat} {most : Int} {v : Value} (h : FeedAt w x most v) (u : Value) : FeedAt (w.setCell ⟨x, 2, none⟩ u) x most u := set_b7 u h
theorem FeedAt.set3 {w : World} {x : Nat} {most : Int} {v : Value} (h : FeedAt w x most v) : FeedAt (w.setCell ⟨x, 3, none⟩ (.bool false)) x most v := set_b7 _ h
def NewFeedPost (most : Int) (w : World) (e : Ending) (w' : World) : Prop := e = .returned (.pointer (some ⟨w.heap.size, 0, none⟩)) ∧ FeedAt w' w.heap.size most (.slice none 0 0) ∧ Below w.heap.size w w'
set_option maxRecDepth 100000 in
theorem newfeed_any (most : Int) (w : World) (h0 : 0 ≤ most) (h1 : most ≤ 16777215) :
    Calls Try.prog 16 #[.int .i64 most, .bool false] w (NewFeedPost most w) := by
  go_enter Try.func16, Try.ntmps16
  go_wp2
  go_ret
  refine ⟨rfl, ?_, (Below.refl _ _).alloc (Nat.le_refl _) _⟩
  unfold FeedAt fdC
  rw [heapNew, show max most 0 = most by omega]
set_option maxRecDepth 100000 in
theorem left_any {x n cap : Nat} {A : Option Addr} {most : Int} (w : World) (h : FeedAt w x most (.slice A n cap)) :
    Calls Try.prog 22 #[.pointer (some ⟨x, 0, none⟩)] w fun e w' => e = .returned (.int .i64 (n : Nat)) ∧ w = w' := by
  have c1 := h.c1
  have c2 := h.c2
  have c3 := h.c3
  clear h
  go_enter Try.func22, Try.ntmps22
  go_wp2
  go_ret
  exact ⟨rfl, rfl⟩
set_option maxRecDepth 100000 in
theorem over_any {x : Nat} {v : Value} {most : Int} (w : World) (h : FeedAt w x most v) :
    Calls Try.prog 28 #[.pointer (some ⟨x, 0, none⟩)] w fun e w' => e = .returned (.bool false) ∧ w = w' := by
  have c3 := h.c3
  clear h
  go_enter Try.func28, Try.ntmps28
  go_wp2
  go_ret
  exact ⟨rfl, rfl⟩
set_option maxRecDepth 100000 in
theorem greet_any {x n cap : Nat} {A : Option Addr} {v : Value} {most : Int} (w : World) (h : FeedAt w x most v) :
    Calls Try.prog 29 #[.pointer (some ⟨x, 0, none⟩), .slice A n cap] w fun e w' => e = .returned (.tuple #[.slice A n cap, .bool true]) ∧ w = w' := by
  have c1 := h.c1
  clear h
  go_enter Try.func29, Try.ntmps29
  go_wp2_with fail
  go_loopw [1] (fun v wr => v = .slice A n cap ∧ w = wr) (fun _ _ => 0)
  case atStart => exact ⟨rfl, rfl⟩
  case round =>
    obtain ⟨rfl, rfl⟩ := hrel
    go_wp2
    go_ret2
    exact ⟨rfl, rfl⟩
set_option maxRecDepth 100000 in
theorem items_any {p : Option Addr} (w : World) :
    Calls Try.prog 30 #[.pointer p] w fun e w' => e = .returned (.func (.func 46) #[] #[.pointer (some ⟨w.heap.size, 0, none⟩)]) ∧ w' = w.alloc (.cells #[.pointer p] 51) := by
  go_enter Try.func30, Try.ntmps30
  go_wp2
  go_ret
  exact ⟨rfl, rfl⟩
end Go.Proofs.Ytfpcamkimjecdaa

/- The walk of the feed's iterator. -/
namespace Go.Proofs.Ytfpcamkimjecdaa
open Go.RowKit

/-- What the feed holds when k frames have come: r is left. -/
structure ItAt (w : World) (x : Nat) (most : Nat) (S : Nat → Prop) (fs : List (Fr × Bool)) (L : List UInt8) (J : Nat → World → Prop) (k : Nat) (r : List UInt8) (A : Option Addr) (n cap : Nat) : Prop where
  feed : FeedAt w x most (.slice A n cap)
  rd : Rd w w.heap.size 1 A n (bvs r)
  blk : 0 < n → ∀ a, A = some a → a.block ≠ x ∧ ¬ S a.block
  nc : n ≤ cap
  cm : cap ≤ maxLen
  kl : k ≤ fs.length
  pre : r <+: strm (fs.drop k)
  all : L = strm (fs.take k) ++ r
  j : J k w
def ItRel (x Bb : Nat) (most : Nat) (S : Nat → Prop) (fs : List (Fr × Bool)) (L : List UInt8) (J : Nat → World → Prop) (w : World) : Prop := w.cell? ⟨Bb, 0, none⟩ = some (.pointer (some ⟨x, 0, none⟩)) ∧ Bb < w.heap.size ∧ ∃ k r A n cap, ItAt w x most S fs L J k r A n cap
def ItMeas (x : Nat) (w : World) : Nat := match w.cell? ⟨x, 2, none⟩ with
  | some (.slice _ n _) => n
  | _ => 0
def ItEnd (x : Nat) (most : Nat) (S : Nat → Prop) (fs : List (Fr × Bool)) (L : List UInt8) (J : Nat → World → Prop) (e : Ending) (w : World) : Prop := (∃ v, e = .returned v) ∧ ∃ k r A n cap, ItAt w x most S fs L J k r A n cap ∧ ∀ p, fs[k]? = some p → n < 9 + (payL p.1 p.2).length
set_option maxRecDepth 100000 in
theorem slice_from7 (A : Option Addr) (nb cap a : Nat) (ha : a ≤ nb) : ∃ A', A' = (if cap = a then A else A.map (·.add a)) ∧ ∀ w, (Instr.slice 23 (.slice A nb cap) (some (.int .i64 (a : Int))) none none).run Try.prog w = .ok (.slice A' (nb - a) (cap - a)) w := by
  refine ⟨_, rfl, fun w => ?_⟩
  rw [run_slice_l (P := Try.prog) (w := w) 23 A nb cap Try.underlying23 .i64 (a : Int) (by omega) (by omega)]
  simp only [Int.toNat_natCast]
  have hs : ∀ w, (sizeOf (Try.prog.elem 23)).run Try.prog w = .ok 1 w := fun _ => by kernel_rfl
  rw [hs]
  simp [Result.andThen, sliced]
theorem Rd.from7 {w : World} {B nb cap a : Nat} {A A' : Option Addr} {b : List UInt8} (h : Rd w B 1 A nb (bvs b)) (ha : a ≤ nb) (hc : nb ≤ cap) (hA' : A' = (if cap = a then A else A.map (·.add a))) : Rd w B 1 A' (nb - a) (bvs (b.drop a)) := by
  have hb := h.blen
  have h1 := h.lh (lo := a) (hi := nb) ha (Nat.le_refl _) hc
  rw [List.take_of_length_le (by simp; omega)] at h1
  rw [hA']
  exact h1
theorem upon_of_wp {P : Program} {o : Oper} {a : Act} {w : World} {K : Act → World → Prop} {Q : Exit → Act → World → Prop} {R : Result Next} (e : (execOp a.eval o).run P w = R) (h : o.wp P a w K Q) : o.upon P a K Q R := by subst e; exact h
theorem far_row {w : World} {g b o : Nat} {cs : Array Value} (h : b ≠ g) : (w.setRow g cs).cell? ⟨b, o, none⟩ = w.cell? ⟨b, o, none⟩ := World.cell?_of_block (a := ⟨b, o, none⟩) (setRow_other _ _ _ _ h)
theorem far_alloc {w : World} {b o : Nat} {ob : Obj} (h : b < w.heap.size) : (w.alloc ob).cell? ⟨b, o, none⟩ = w.cell? ⟨b, o, none⟩ := World.cell?_alloc_lt w ob ⟨b, o, none⟩ h
theorem below_row {B : Nat} {w w' : World} {g : Nat} {cs : Array Value} (h : Below B w w') (hg : B ≤ g) : Below B w (w'.setRow g cs) := ⟨h.os, h.tape, h.output, by have := h.size; simpa [World.setRow] using this, fun k hk => (setRow_other _ _ _ _ (by omega)).trans (h.block k hk)⟩
theorem fz_of {w : World} {x : Nat} {cs : Array Value} {t : TypeId} (h : w.heap[x]? = some (.cells cs t (0, 0))) (o : Nat) : w.frozen? ⟨x, o, none⟩ = false := by unfold World.frozen?; rw [h]; rfl
theorem flt_of {w : World} {x : Nat} {t : TypeId} (h : w.heap[x]? = some (.cells #[.bool false, .int .i64 0, .int .i64 0] t (0, 0))) : w.cell? ⟨x, 0, none⟩ = some (.bool false) ∧ w.cell? ⟨x, 1, none⟩ = some (.int .i64 0) ∧ w.cell? ⟨x, 2, none⟩ = some (.int .i64 0) := by refine ⟨?_, ?_, ?_⟩ <;> (unfold World.cell?; rw [h]; rfl)
set_option maxRecDepth 100000 in
set_option maxHeartbeats 8000000 in
theorem iter_any {x Bb most l m : Nat} (S : Nat → Prop) (fs : List (Fr × Bool)) (L : List UInt8) (J : Nat → World → Prop) (hm : most ≤ 16777215) (hg : ∀ p ∈ fs, Good most p)
    (hJ : ∀ k W W', J k W → Kept (fun b => b = x) W W' → J k W')
    (hY : ∀ k p W, J k W → fs[k]? = some p → YieldAt Fence.wide m Try.prog l #[.agg #[.int .i64 p.1.ty, .int .i64 p.1.fl, .int .i64 p.1.st, .string p.1.data, .int .i64 p.1.pad, .slice none 0 0, .int .i64 0, .int .i64 0, .int .i64 0, .int .i64 0, .int .i64 0, .bool false, .bool false, .int .i64 0, .int .i64 0]] W fun e W' => e = .returned (.bool true) ∧ J (k + 1) W' ∧ Kept S W W')
    (hSx : ¬ S x) (hSb : ¬ S Bb) (hBx : Bb ≠ x) (w : World) (h0 : ItRel x Bb most S fs L J w) :
    Calls Try.prog 46 #[.func (.yield l) #[] #[], .pointer (some ⟨Bb, 0, none⟩)] w (ItEnd x most S fs L J) := by
  have H0 := Lib.hid h0
  have HG := Lib.hid hg
  have HJ := Lib.hid hJ
  have HY := Lib.hid hY
  have HS := Lib.hid (And.intro hSx hSb)
  clear h0 hg hJ hY hSx hSb
  go_enter Try.func46, Try.ntmps46
  go_wp2_with fail
  go_loopw [] (fun wr => ItRel x Bb most S fs L J wr) (fun wr => ItMeas x wr)
  case atStart => exact H0.out
  case round =>
    obtain ⟨hbb, hbl, k, r, A, n, cap, hit⟩ := hrel
    have hlr := hit.rd.blen
    have c0 := hit.feed.c0
    have c2 := hit.feed.c2
    have hxl := hit.feed.lt
    obtain ⟨f0, nn, HT, hcase⟩ : ∃ (f0 : Fr) (nn : Nat), Hid (∀ w', Below wr.heap.size wr w' → Calls Try.prog 47 #[.slice A n cap, .int .i64 most] w' (TakePost w' f0 nn)) ∧ Hid ((nn = 0 ∧ ∀ p, fs[k]? = some p → n < 9 + (payL p.1 p.2).length) ∨ (∃ p, fs[k]? = some p ∧ f0 = p.1 ∧ nn = 9 + (payL p.1 p.2).length ∧ nn ≤ n)) := by
      have hrd : ∀ w', Below wr.heap.size wr w' → Rd w' w'.heap.size 1 A n (bvs r) := fun w' hb => (hit.rd.below hb (Nat.le_refl _)).more hb.size
      by_cases h9 : n < 9
      · exact ⟨zeroFr, 0, Lib.hid (fun w' hb => ftake_short most w' h9), Lib.hid (.inl ⟨rfl, fun p _ => by omega⟩)⟩
      · obtain ⟨p, gs, hgs⟩ : ∃ p gs, fs.drop k = p :: gs := by
          cases hd : fs.drop k with
          | nil =>
            have h1 := hit.pre.length_le
            rw [hd] at h1
            simp [strm] at h1
            rw [h1] at hlr
            simp at hlr
            omega
          | cons p gs => exact ⟨p, gs, rfl⟩
        have hpk : fs[k]? = some p := by
          have h1 := List.getElem?_drop (xs := fs) (i := k) (j := 0)
          rw [hgs] at h1
          simpa using h1.symm
        have hgd := HG.out p (List.mem_of_getElem? hpk)
        have hpre := hit.pre
        rw [hgs] at hpre
        have hhd := pre_nine hgd hm hpre (by omega)
        by_cases hlt : n < 9 + (payL p.1 p.2).length
        · exact ⟨zeroFr, 0, Lib.hid (fun w' hb => ftake_part w' (hrd w' hb) hit.nc hit.cm (by omega) hhd hgd.len hlt hm), Lib.hid (.inl ⟨rfl, fun p2 hp2 => by rw [hpk] at hp2; injection hp2 with hp2; subst hp2; exact hlt⟩)⟩
        · exact ⟨p.1, 9 + (payL p.1 p.2).length, Lib.hid (fun w' hb => ftake_full w' (hrd w' hb) hit.nc hit.cm hhd hgd.len (by omega) hm (pre_whole hpre (by omega)).1), Lib.hid (.inr ⟨p, hpk, rfl, rfl, by omega⟩)⟩
    have HI := Lib.hid hit
    clear hit
    obtain ⟨ty, fl, st, data, pad⟩ := f0
    go_upto_region 0 with fail
    go_cut [3, 4, 5] (fun y3 y4 y5 wx => ∃ b3 b5, y3 = .pointer (some ⟨b3, 0, none⟩) ∧ y5 = .pointer (some ⟨b5, 0, none⟩) ∧ y4 = .int .i64 nn ∧ wx.heap[b3]? = some (.cells (Fr.cells ⟨ty, fl, st, data, pad⟩) 49 (0, 0)) ∧ wx.heap[b5]? = some (.cells #[.bool false, .int .i64 0, .int .i64 0] 55 (0, 0)) ∧ wr.heap.size ≤ b3 ∧ wr.heap.size ≤ b5 ∧ Below wr.heap.size wr wx)
    case first =>
      go_region_held3 (fun w' => w'.cell? ⟨Bb, 0, none⟩ = some (.pointer (some ⟨x, 0, none⟩)) ∧ w'.cell? ⟨x, 0, none⟩ = some (.int .i64 most) ∧ w'.cell? ⟨x, 2, none⟩ = some (.slice A n cap))
        (first | exact ⟨hbb, c0, c2⟩ | exact ⟨k0, k1, k2⟩ | (refine ⟨?_, ?_, ?_⟩ <;> (repeat (first | refine (far_row (by omega)).trans ?_ | refine (far_alloc (by first | omega | (simp only [World.size_alloc]; omega))).trans ?_)) <;> (first | exact k0 | exact k1 | exact k2 | exact hbb | exact c0 | exact c2)))
        (first
          | (go_at_call 47; refine calls_named ?_; intro W2 hW2; have hbw : Below wr.heap.size wr W2 := (by rw [hW2]; repeat (first | exact Below.refl _ _ | apply Below.drew | refine Below.alloc ?_ (by simp) _)); refine (HT.out _ hbw).mono ?_; rintro e3 w3 ⟨rfl, hb3⟩; have hbw3 := hbw.trans (hb3.mono hbw.size); have hs3 := hbw3.size; have k0 := (hbw3.cell (p := ⟨Bb, 0, none⟩) hbl).trans hbb; have k1 := (hbw3.cell (p := ⟨x, 0, none⟩) hxl).trans c0; have k2 := (hbw3.cell (p := ⟨x, 2, none⟩) hxl).trans c2; (try (have hz := ((hb3.block wr.heap.size (by rw [hW2]; simp <;> omega)).trans (by rw [hW2]; first | exact heapNew wr _ | exact two_first wr _ _) : w3.heap[wr.heap.size]? = some (.cells zeroFr.cells 49 (0, 0))))); (try (have hz := ((hb3.block (wr.heap.size + 1) (by rw [hW2]; simp <;> omega)).trans (by rw [hW2]; exact heapNew2 wr _ _) : w3.heap[wr.heap.size + 1]? = some (.cells zeroFr.cells 49 (0, 0))))); (try (have hy := ((hb3.block wr.heap.size (by rw [hW2]; simp <;> omega)).trans (by rw [hW2]; first | exact heapNew wr _ | exact two_first wr _ _) : w3.heap[wr.heap.size]? = some (.cells #[.bool false, .int .i64 0, .int .i64 0] 55 (0, 0))))); (try (have hy := ((hb3.block (wr.heap.size + 1) (by rw [hW2]; simp <;> omega)).trans (by rw [hW2]; exact heapNew2 wr _ _) : w3.heap[wr.heap.size + 1]? = some (.cells #[.bool false, .int .i64 0, .int .i64 0] 55 (0, 0))))); (try (have hl0 : wr.heap.size < w3.heap.size := (by have := hb3.size; rw [hW2] at this; simp at this; omega))); (try (have hl1 : wr.heap.size + 1 < w3.heap.size := (by have := hb3.size; rw [hW2] at this; simp at this; omega))); simp only [frV, Fr.cells, faultV])
          | (refine upon_of_wp (w := w3.alloc (.cells #[.bool false, .int .i64 0, .int .i64 0] 55)) ?_ (wp_store_row 49 (.tmp 3) (.tmp 16) rfl wr.heap.size _ rfl rfl 49 zeroFr.cells ((Below.heap_alloc _ _ _ hl0).trans hz) infoFrame rfl (by simp [Value.oneCell']) ?_); focus (go_simp; done))
          | (refine upon_of_wp (w := w3) ?_ (wp_store_row 49 (.tmp 3) (.tmp 16) rfl wr.heap.size _ rfl rfl 49 zeroFr.cells hz infoFrame rfl (by simp [Value.oneCell']) ?_); focus (go_simp; done))
          | (refine upon_of_wp (w := w3) ?_ (wp_store_row 49 (.tmp 3) (.tmp 16) rfl (wr.heap.size + 1) _ rfl rfl 49 zeroFr.cells hz infoFrame rfl (by simp [Value.oneCell']) ?_); focus (go_simp; done))
          | (refine upon_of_wp (w := (w3.alloc (.cells #[.bool false, .int .i64 0, .int .i64 0] 55)).setRow wr.heap.size #[.int .i64 ty, .int .i64 fl, .int .i64 st, .string data, .int .i64 pad, .slice none 0 0, .int .i64 0, .int .i64 0, .int .i64 0, .int .i64 0, .int .i64 0, .bool false]) ?_ (wp_store_row 55 (.tmp 5) (.tmp 18) rfl w3.heap.size _ rfl rfl 55 #[.bool false, .int .i64 0, .int .i64 0] ((setRow_other _ _ _ _ (Nat.ne_of_gt hl0)).trans (heapNew _ _)) infoFault rfl (by simp [Value.oneCell']) ?_); focus (go_simp; done))
          | (refine upon_of_wp (w := w3.setRow wr.heap.size #[.int .i64 ty, .int .i64 fl, .int .i64 st, .string data, .int .i64 pad, .slice none 0 0, .int .i64 0, .int .i64 0, .int .i64 0, .int .i64 0, .int .i64 0, .bool false]) ?_ (wp_store_row 55 (.tmp 5) (.tmp 18) rfl (wr.heap.size + 1) _ rfl rfl 55 #[.bool false, .int .i64 0, .int .i64 0] ((setRow_other _ _ _ _ (Nat.succ_ne_self _)).trans hy) infoFault rfl (by simp [Value.oneCell']) ?_); focus (go_simp; done))
          | (refine upon_of_wp (w := w3.setRow (wr.heap.size + 1) #[.int .i64 ty, .int .i64 fl, .int .i64 st, .string data, .int .i64 pad, .slice none 0 0, .int .i64 0, .int .i64 0, .int .i64 0, .int .i64 0, .int .i64 0, .bool false]) ?_ (wp_store_row 55 (.tmp 5) (.tmp 18) rfl wr.heap.size _ rfl rfl 55 #[.bool false, .int .i64 0, .int .i64 0] ((setRow_other _ _ _ _ (Nat.ne_of_lt (Nat.lt_succ_self _))).trans hy) infoFault rfl (by simp [Value.oneCell']) ?_); focus (go_simp; done))
          | (refine upon_of_wp (w := w3.alloc (.cells #[.int .i64 ty, .int .i64 fl, .int .i64 st, .string data, .int .i64 pad, .slice none 0 0, .int .i64 0, .int .i64 0, .int .i64 0, .int .i64 0, .int .i64 0, .bool false] 49)) ?_ (wp_store_row 55 (.tmp 5) (.tmp 18) rfl wr.heap.size _ rfl rfl 55 #[.bool false, .int .i64 0, .int .i64 0] ((Below.heap_alloc _ _ _ hl0).trans hy) infoFault rfl (by simp [Value.oneCell']) ?_); focus (go_simp; done)))
      all_goals
        go_wp2_with fail
        go_meet
        refine ⟨_, _, rfl, rfl, rfl, ?_, ?_, ?_, ?_, ?_⟩
        · first
          | exact two_first _ _ _
          | exact heapNew2 _ _ _
          | exact (setRow_other _ _ _ _ (Nat.ne_of_lt hl0)).trans (setRow_heap _ _ _ _ _ _ ((Below.heap_alloc _ _ _ hl0).trans hz))
          | exact (setRow_other _ _ _ _ (Nat.ne_of_lt (Nat.lt_succ_self _))).trans (setRow_heap _ _ _ _ _ _ hz)
          | exact (setRow_other _ _ _ _ (Nat.ne_of_gt hl0)).trans (heapNew _ _)
          | exact (setRow_other _ _ _ _ (Nat.succ_ne_self _)).trans (setRow_heap _ _ _ _ _ _ hz)
        · first
          | exact two_first _ _ _
          | exact heapNew2 _ _ _
          | exact setRow_heap _ _ _ _ _ _ ((setRow_other _ _ _ _ (Nat.ne_of_gt hl0)).trans (heapNew _ _))
          | exact setRow_heap _ _ _ _ _ _ ((setRow_other _ _ _ _ (Nat.succ_ne_self _)).trans hy)
          | exact setRow_heap _ _ _ _ _ _ ((Below.heap_alloc _ _ _ hl0).trans hy)
          | exact setRow_heap _ _ _ _ _ _ ((setRow_other _ _ _ _ (Nat.ne_of_lt (Nat.lt_succ_self _))).trans hy)
        · omega
        · omega
        · repeat' (first | exact hbw3 | refine below_row ?_ ?_ | refine Below.alloc ?_ ?_ _)
          all_goals ((try simp only [World.size_alloc]); omega)
    case rest =>
      rename World => W1
      obtain ⟨b3, b5, rfl, rfl, rfl, hk3, hk5, hb3, hb5, hbw⟩ := hcut
      have hfw := HI.out.feed.keep (hbw.block x hxl)
      have hbbw := (hbw.cell (p := ⟨Bb, 0, none⟩) hbl).trans hbb
      have HW := Lib.hid (And.intro hbw (And.intro hk3 hk5))
      obtain ⟨y0, y1, y2⟩ := flt_of hk5
      have hfz := fz_of hfw
      have hc2 := hfw.c2
      clear hk3 hk5 hbb c0 c2
      rcases hcase.out with ⟨hn0, hend⟩ | ⟨⟨⟨ty', fl', st', data', pad'⟩, pd⟩, hp, hfp, hnn, hle⟩
      · subst hn0
        have HE := Lib.hid hend
        clear hend hcase HT
        go_wp2_with fail
        refine bodyPost_ret (results_none rfl _ _ _) rfl ?_
        have hi := HI.out
        have hkp : Kept (fun b => b = x) wr W1 := Kept.of_below HW.out.1
        exact ⟨⟨_, rfl⟩, k, r, A, n, cap, ⟨hfw, (hi.rd.below HW.out.1 (Nat.le_refl _)).more HW.out.1.size, hi.blk, hi.nc, hi.cm, hi.kl, hi.pre, hi.all, HJ.out _ _ _ hi.j hkp⟩, HE.out⟩
      · simp only [Fr.mk.injEq] at hfp
        obtain ⟨rfl, rfl, rfl, rfl, rfl⟩ := hfp
        have hn1 : ((nn : Int) == 0) = false := by rw [beq_eq_false_iff_ne]; omega
        obtain ⟨A', hA', hsl⟩ := slice_from7 A n cap nn hle
        have HA := Lib.hid (And.intro hp (And.intro hnn (And.intro hle hA')))
        clear hp hnn hle hA' hcase HT
        go_upto_region 2 with fail
        go_cut [0] (fun y wx => y = .func (.yield l) #[] #[] ∧ wx = (W1.drew).setCell ⟨x, 2, none⟩ (.slice A' (n - nn) (cap - nn)))
        case first =>
          go_region
          all_goals go_wp2_with fail
          all_goals go_meet
          all_goals exact ⟨rfl, rfl⟩
        case rest =>
        obtain ⟨rfl, hcut⟩ := hcut
        have hfw2 : FeedAt wc x most (.slice A' (n - nn) (cap - nn)) := by rw [hcut]; exact FeedAt.set2 (w := W1.drew) hfw _
        have hbk : ∀ b, b ≠ x → wc.heap[b]? = W1.heap[b]? := fun b hb => by rw [hcut]; exact Below.heap_setCell _ _ _ _ hb
        have hkp2 : Kept (fun b => b = x) wr wc := by rw [hcut]; exact ((Kept.of_below (F := fun b => b = x) HW.out.1).drew).setCell rfl 2 _
        have hk3 := (hbk b3 (by omega)).trans HW.out.2.1
        have hk5 := (hbk b5 (by omega)).trans HW.out.2.2
        have hbbw2 : wc.cell? ⟨Bb, 0, none⟩ = some (.pointer (some ⟨x, 0, none⟩)) := (World.cell?_of_block (a := ⟨Bb, 0, none⟩) (hbk Bb hBx)).trans hbbw
        have H2 := Lib.hid (And.intro hfw2 (And.intro hkp2 (And.intro hk3 hk5)))
        clear hcut hbk hkp2 hk3 hfz hc2 hbbw hfw hsl y0 y1 y2 hn1
        have hfz := fz_of hfw2
        have hc3 := hfw2.c3
        obtain ⟨y0, y1, y2⟩ := flt_of hk5
        clear hk5 hfw2
        go_upto_region 4 with fail
        refine wp_named ?_
        intro W4 hW4
        have hfw4 : FeedAt W4 x most (.slice A' (n - nn) (cap - nn)) := by rw [hW4]; exact H2.out.1.set3
        have hbk4 : ∀ b, b ≠ x → W4.heap[b]? = wc.heap[b]? := fun b hb => by rw [hW4]; exact Below.heap_setCell _ _ _ _ hb
        have hkp4 : Kept (fun b => b = x) wr W4 := by rw [hW4]; exact H2.out.2.1.setCell rfl 3 _
        have hk3 := (hbk4 b3 (by omega)).trans H2.out.2.2.1
        have hk5 := (hbk4 b5 (by omega)).trans H2.out.2.2.2
        have hbb4 : W4.cell? ⟨Bb, 0, none⟩ = some (.pointer (some ⟨x, 0, none⟩)) := (World.cell?_of_block (a := ⟨Bb, 0, none⟩) (hbk4 Bb hBx)).trans hbbw2
        obtain ⟨fn, tmps, assign, body, hy, hR⟩ := HY.out k _ W4 (HJ.out _ _ _ HI.out.j hkp4) HA.out.1
        dsimp only at hy
        have H4 := Lib.hid (And.intro hfw4 (And.intro hkp4 hbb4))
        have HR := Lib.hid hR
        clear hW4 hbk4 hkp4 hfw4 hR hbbw2 y0 y1 y2 hfz hc3
        obtain ⟨z0, z1, z2, z3, z4, z5, z6, z7, z8, z9, z10, z11, -⟩ := FrAt.of hk3
        obtain ⟨y0, y1, y2⟩ := flt_of hk5
        simp only at z0 z1 z2 z3 z4
        refine (wpIn_wide (n := m + 1)).1 ?_
        gi_wp2_with fail
        refine HR.out.mono ?_
        rintro e W5 ⟨rfl, hJ5, hkS⟩
        have hfw5 : FeedAt W5 x most (.slice A' (n - nn) (cap - nn)) := H4.out.1.keep (hkS.block x H4.out.1.lt HS.out.1)
        have hs4 := H4.out.2.1.size
        have hs5 := hkS.size
        have hbb5 : W5.cell? ⟨Bb, 0, none⟩ = some (.pointer (some ⟨x, 0, none⟩)) := (hkS.cell (by omega) HS.out.2 0).trans H4.out.2.2
        have hend : ItRel x Bb most S fs L J W5 ∧ ItMeas x W5 < ItMeas x wr := by
          obtain ⟨hp, hnn, hle, hA'⟩ := HA.out
          have hi := HI.out
          have hdr : fs.drop k = (⟨ty, fl, st, data, pad⟩, pd) :: fs.drop (k + 1) := by
            obtain ⟨hk1, hk2⟩ := List.getElem?_eq_some_iff.1 hp
            rw [List.drop_eq_getElem_cons hk1, hk2]
          have hpre := hi.pre
          rw [hdr] at hpre
          have hw := pre_whole hpre (by show 9 + (payL ⟨ty, fl, st, data, pad⟩ pd).length ≤ r.length; omega)
          dsimp only at hw
          rw [← hnn] at hw
          have hrd5 := ((hi.rd.kept H4.out.2.1 (fun h0 a ha => (hi.blk h0 a ha).1)).kept hkS (fun h0 a ha => (hi.blk h0 a ha).2)).from7 hle hi.nc hA'
          refine ⟨⟨hbb5, by omega, k + 1, r.drop nn, A', n - nn, cap - nn, ⟨hfw5, hrd5, ?_, by have := hi.nc; omega, by have := hi.cm; omega, ?_, hw.2.2, ?_, hJ5⟩⟩, ?_⟩
          · intro h0 a ha
            have hnc := hi.nc
            rw [if_neg (by omega)] at hA'
            rw [hA'] at ha
            obtain ⟨b0, o0, rfl, -, -⟩ := hi.rd.at_ (by omega)
            simp only [Option.map_some, Option.some.injEq, Addr.add_lit] at ha
            subst ha
            have h5 := hi.blk (by omega) _ rfl
            exact h5
          · exact (List.getElem?_eq_some_iff.1 hp).1
          · rw [List.take_add_one, hp, Option.toList_some, strm_append, List.append_assoc, strm_cons, hi.all]
            congr 1
            rw [show strm ([] : List (Fr × Bool)) = [] from rfl, List.append_nil]
            exact hw.2.1
          · unfold ItMeas
            rw [hfw5.c2, hi.feed.c2]
            show n - nn < n
            omega
        have HE := Lib.hid hend
        have hc5 := hfw5.c3
        clear hend hfw5 hJ5 hkS hs4 hs5 z0 z1 z2 z3 z4 z5 z6 z7 z8 z9 z10 z11 y0 y1 y2 hk3 hk5 hbb4 HR
        gi_wp2
        change Code.wp _ (Code.cond (Operand.tmp 56) Code.ret Code.skip) _ _ _
        go_wp2
        go_roundw
        case rel => exact HE.out.1
        case measure => exact HE.out.2
end Go.Proofs.Ytfpcamkimjecdaa

/- A range over a function whose rounds all go on: two laws over the kit's base law, with the loop's record in sight. -/
namespace Go.Proofs.Ytfpcamkimjecdaa
open Go.RowKit

/-- The loop's record. -/
def recOf (fn : FuncId) (tmps : Array Value) (ps : Array Tmp) (assign body : Code) (D : Nat) (st : LoopState) (pe : Option Code) : Loop := { state := st, pending := pe, fn := fn, tmps := tmps, params := ps, assign := assign, body := body, defers := D }
def RangeEnd (Q : Exit → Act → World → Prop) (a : Act) (D : Nat) (rec : LoopState → Option Code → Loop) (e : Ending) (W : World) : Prop :=
  (∃ v, e = .returned v) ∧ W.heap[D + 1]? = some (.loop (rec .ready none)) ∧ Q .normal { a with defers := { target := .collected D, args := #[] } :: a.defers } (W.putObj (D + 1) (.loop (rec .exhausted none)))
theorem rng_end {P : Program} {W : World} {l : Nat} {fn : FuncId} {tmps : Array Value} {ps : Array Tmp} {assign body : Code} {D : Nat} (hl : W.heap[l]? = some (.loop (recOf fn tmps ps assign body D .ready none))) : (Instr.endLoop l).run P W = .ok none (W.putObj l (.loop (recOf fn tmps ps assign body D .exhausted none))) := run_endLoop (P := P) hl (by simp [recOf])
theorem rng_post {P : Program} {Q : Exit → Act → World → Prop} {a : Act} {W : World} {l : Nat} {fn : FuncId} {tmps : Array Value} {ps : Array Tmp} {assign body : Code} {D : Nat} (v : Value) (hl : W.heap[l]? = some (.loop (recOf fn tmps ps assign body D .ready none))) (hq : Q .normal a (W.putObj l (.loop (recOf fn tmps ps assign body D .exhausted none)))) : rangePost Fence.wide 1 P l Q a (.returned v) W := ⟨none, _, rng_end hl, hq⟩
set_option maxHeartbeats 400000 in
theorem range_wp {P : Program} {g : Operand} {ps : Array Tmp} {assign body : Code} {Q : Exit → Act → World → Prop} {a : Act} {w : World} {gf : Nat} {lb : Array Value} (hg : a.eval g = .func (.func gf) #[] lb)
    (eg : ∀ args w, (callFunc gf args).run P w = .ok (.enter gf args) w)
    (h : ∀ fn rec, rec = recOf fn a.tmps ps assign body w.heap.size → Calls P gf (#[.func (.yield (w.heap.size + 1)) #[] #[]] ++ lb) ((w.alloc (.deferred (some []))).alloc (.loop (rec .ready none))) (RangeEnd Q a w.heap.size rec)) :
    (Code.rangeFunc g ps assign body).wp P Q a w := by
  refine (wpIn_wide (n := 1)).1 (wpIn_rangeFunc ?_)
  intro fn _
  obtain ⟨W1, hW1⟩ : ∃ W1, (w.alloc (.deferred (some []))).alloc (.loop (recOf fn a.tmps ps assign body w.heap.size .ready none)) = W1 := ⟨_, rfl⟩
  have h2 := h fn _ rfl
  rw [hW1] at h2
  have e1 : (Instr.enterLoop fn a.tmps ps assign body none).run P w = .ok (w.heap.size + 1, [{ target := .collected w.heap.size, args := #[] }]) W1 := by rw [← hW1]; exact run_enterLoop_outer _ _ _ _ _
  have e2 : (resolve a.eval (rangeCall g (w.heap.size + 1)) 0).run P W1 = .ok { target := .fn (.func gf) lb, args := #[.func (.yield (w.heap.size + 1)) #[] #[]] } W1 := by
    simp only [resolve, hg]
    simp [go_sem]
  have e3 : (invoke (.fn (.func gf) lb) #[.func (.yield (w.heap.size + 1)) #[] #[]]).run P W1 = .ok (.enter gf (#[.func (.yield (w.heap.size + 1)) #[] #[]] ++ lb)) W1 := by
    simp [invoke, go_sem, eg]
  have e4 : CallsIn Fence.wide (1 - 1) P gf (#[.func (.yield (w.heap.size + 1)) #[] #[]] ++ lb) W1 (rangePost Fence.wide 1 P (w.heap.size + 1) Q { a with defers := [{ target := .collected w.heap.size, args := #[] }] ++ a.defers }) := by
    refine (callsIn_wide (n := 1 - 1)).2 (h2.mono ?_)
    rintro e W ⟨⟨v, rfl⟩, hl, hq⟩
    exact rng_post v hl hq
  have hro : Fence.wide.round = none := rfl
  rw [hro]
  refine ⟨w.heap.size + 1, [{ target := .collected w.heap.size, args := #[] }], W1, { target := .fn (.func gf) lb, args := #[.func (.yield (w.heap.size + 1)) #[] #[]] }, W1, gf, #[.func (.yield (w.heap.size + 1)) #[] #[]] ++ lb, W1, e1, ?_⟩
  refine ⟨e2, ?_⟩
  refine ⟨fun f' _ => trivial, ?_⟩
  refine ⟨e3, ?_⟩
  refine ⟨fun _ => Nat.le_refl _, ?_⟩
  exact e4
/-- Block l holds the loop's record. -/
def LoopIs (W : World) (l : Nat) (r : Loop) : Prop := W.heap[l]? = some (.loop r)
/-- One round that goes on. -/
theorem yield_at {P : Program} {l m : Nat} {args : Array Value} {W : World} {R : Ending → World → Prop} {fn : FuncId} {tmps : Array Value} {ps : Array Tmp} {assign body : Code} {D : Nat} (hl : W.heap[l]? = some (.loop (recOf fn tmps ps assign body D .ready none))) (hs : args.size = ps.size)
    (h : assign.wpIn (Fence.wide.inRound l) m P (Exit.then (fun a₁ w₁ => LoopIs w₁ l (recOf fn tmps ps assign body D .ready none) ∧ body.wpIn (Fence.wide.inRound l) m P (Exit.then (fun _ w₃ => LoopIs w₃ l (recOf fn tmps ps assign body D .busy none) ∧ R (.returned (.bool true)) (w₃.putObj l (.loop (recOf fn tmps ps assign body D .ready none)))) (fun _ _ _ => False)) a₁ (w₁.putObj l (.loop (recOf fn tmps ps assign body D .busy none)))) (fun _ _ _ => False))
      { tmps := (ps.zip args).foldl (fun t (p, v) => t.setIfInBounds p v) tmps, defers := [] } W) : YieldAt Fence.wide m P l args W R := by
  refine ⟨fn, _, assign, body, run_yield hl hs, roundIn_of_wpIn trivial (wpIn_mono h ?_)⟩
  rintro e a1 w1 h1
  cases e with
  | normal =>
    obtain ⟨hl1, hb⟩ := h1
    refine ⟨_, run_beginRound hl1 rfl, wpIn_mono hb ?_⟩
    rintro e3 a3 w3 h3
    cases e3 with
    | normal => exact ⟨_, _, run_endRound none h3.1, h3.2⟩
    | ret => exact h3.elim
    | exit id => exact h3.elim
    | goto t => exact h3.elim
    | panic c => exact h3.elim
    | outgrown => exact h3.elim
  | ret => exact h1.elim
  | exit id => exact h1.elim
  | goto t => exact h1.elim
  | panic c => exact h1.elim
  | outgrown => exact h1.elim
end Go.Proofs.Ytfpcamkimjecdaa

/- The walk of Feed.Take. -/
namespace Go.Proofs.Ytfpcamkimjecdaa
open Go.RowKit
attribute [local go_sem] Oper.semAt_some

def frL (f : Fr) : List Value := [.int .i64 f.ty, .int .i64 f.fl, .int .i64 f.st, .string f.data, .int .i64 f.pad, .slice none 0 0, .int .i64 0, .int .i64 0, .int .i64 0, .int .i64 0, .int .i64 0, .bool false]
def itL (f : Fr) : List Value := [.int .i64 f.ty, .int .i64 f.fl, .int .i64 f.st, .string f.data, .int .i64 f.pad, .slice none 0 0, .int .i64 0, .int .i64 0, .int .i64 0, .int .i64 0, .int .i64 0, .bool false, .bool false, .int .i64 0, .int .i64 0]
def itsL (fs : List (Fr × Bool)) : List Value := fs.flatMap fun p => itL p.1
theorem tItems : SlT Try.prog 50 57 (.agg (itL zeroFr).toArray) 15 144 :=
  ⟨Try.underlying50, by kernel_rfl, rfl, by decide⟩
theorem wpIn_named {F : Fence} {n : Nat} {P : Program} {c : Code} {Q : Exit → Act → World → Prop} {a : Act} {W : World} (h : ∀ W3, W3 = W → c.wpIn F n P Q a W3) : c.wpIn F n P Q a W := h W rfl
theorem cell_at15 {w : World} {b : Nat} {cs : List Value} {t : TypeId} (h : w.heap[b]? = some (.cells cs.toArray t (0, 0))) : ∀ j u, cs[j]? = some u → w.cell? ⟨b, j, none⟩ = some u := by
  intro j u hu
  unfold World.cell?
  rw [h]
  simpa using hu
theorem Kept.put {F : Nat → Prop} {w w' : World} (h : Kept F w w') {l : Nat} (hl : F l) (o : Obj) : Kept F w (w'.putObj l o) :=
  ⟨h.os, h.tape, h.output, by have := h.size; simpa using this, fun k hk hn => (World.putObj_heap_other (fun e => hn (by rw [e]; exact hl))).trans (h.block k hk hn)⟩
theorem itsL_snoc {fs : List (Fr × Bool)} {k : Nat} {p : Fr × Bool} (h : fs[k]? = some p) : itsL (fs.take (k + 1)) = itsL (fs.take k) ++ itL p.1 := by
  rw [List.take_add_one, h]
  simp [itsL]
theorem own_base {w : World} {B B' n size : Nat} {e : TypeId} {v : Value} {xs : List Value} (h : w.ownsRow B e size v n xs) (hb : B' ≤ B) : w.ownsRow B' e size v n xs :=
  ⟨h.1, h.2.imp id fun ⟨g, cap, cur, h1, h2, h3⟩ => ⟨g, cap, cur, h1, Nat.le_trans hb h2, h3⟩⟩
theorem leaves_mark {F : Fence} {m : Nat} {P : Program} {fn : Func} {R : Ending → World → Prop} {a : Act} {W : World} {D : Nat} {v : Value} (hd : a.defers = [{ target := .collected D, args := #[] }]) (hD : W.heap[D]? = some (.deferred (some []))) (hr : ∀ W, (results fn a.tmps).run P W = .ok v W)
    (h : R (.returned v) (W.putObj D (.deferred none))) : bodyPostM F m P fn R .ret a W := by
  show LeavesInM F m P fn a.tmps R a.defers .returning W
  rw [hd]
  exact ⟨by simp, .inl ⟨D, _, rfl, run_takeDeferred hD, v, hr _, h⟩⟩
def Stop (p : Prop) : Prop := p
theorem of_stop {p : Prop} (h : Stop p) : p := h
theorem wpListIn_app {F : Fence} {m : Nat} {P : Program} {w : World} {ops : Array Oper} {rest : List Oper} {o : Oper} {a : Act} {Q : Exit → Act → World → Prop} (s x : Operand) {t e : TypeId} {z : Value} {size bytes : Nat} (hT : SlT P t e z size bytes)
    (hgd : o.guard = none) (ho : o.op = .call { callee := .builtin .append, args := #[s, x], argTypes := #[t, t] })
    {base : Nat} {v : Value} {k : Nat} {xs : List Value} (hown : w.ownsRow base e size v k xs) (hs : a.eval s = v)
    {g n c : Nat} {news : List Value} (hb : w.heap[g]? = some (.cells news.toArray e (0, 0))) (hx : a.eval x = .slice (some ⟨g, 0, none⟩) n c) (hn : news.length = n * size) (h1 : ∀ u ∈ news, u.oneCell' = true)
    (h63 : k + n ≤ maxLen) (hbytes : (k + n) * bytes ≤ 140737488355328) (hbase : base ≤ w.heap.size)
    (h : ∀ v' w', w'.ownsRow base e size v' (k + n) (xs ++ news) → w.grownBy w' v.ownBlock → wpListIn F m P ops Q rest (a.put o.dst v') w') : wpListIn F m P ops Q (o :: rest) a w := by
  obtain ⟨i, hi, e1⟩ := Option.map_eq_some_iff.1 hT.info
  injection e1 with e1 e2
  injection e2 with e2 e3
  exact wpListIn_append_own w hgd s x t ho base e i z size bytes hT.ht hi e1 e2 e3 hT.hz hT.pos v k xs hs hown ⟨g, 0, none⟩ n c news hx hn (fun j u hu => by
    rw [Addr.add_lit, Nat.zero_add]
    exact cell_at15 hb j u hu) h1 h63 hbytes hbase (fun v' w' h2 h3 _ => h v' w' h2 h3)
/-- What Take hands back. -/
def TkPost (w : World) (x : Nat) (most : Int) (v : Value) (fs : List (Fr × Bool)) (L : List UInt8) (e : Ending) (w' : World) : Prop :=
  ∃ k r V v', e = .returned V ∧ k ≤ fs.length ∧ L = strm (fs.take k) ++ r ∧ r <+: strm (fs.drop k) ∧ (∀ p, fs[k]? = some p → r.length < 9 + (payL p.1 p.2).length) ∧ w'.ownsRow w.heap.size 57 15 V k (itsL (fs.take k)) ∧ OwnB w' w.heap.size v' r ∧ FeedAt w' x most v' ∧ Kept (fun b => b = x ∨ v.ownBlock = some b) w w'
/-- What lies beside the feed while the frames come: k items have come. -/
structure TkJ (P : Program) (w : World) (x ob : Nat) (own : Nat → Prop) (fs : List (Fr × Bool)) (rec : Loop) (k : Nat) (W : World) : Prop where
  lp : W.heap[ob + 3]? = some (.loop rec)
  df : W.heap[ob + 2]? = some (.deferred (some []))
  row : ∃ V, W.heap[ob]? = some (.cells #[V] 50 (0, 0)) ∧ W.ownsRow (ob + 4) 57 15 V k (itsL (fs.take k))
  kp : Kept (fun b => b = x ∨ own b) w W
theorem TkJ.keep {P : Program} {w W W' : World} {x ob : Nat} {own : Nat → Prop} {fs : List (Fr × Bool)} {rec : Loop} {k : Nat} (h : TkJ P w x ob own fs rec k W) (hx : x < ob) (hk : Kept (fun b => b = x) W W') : TkJ P w x ob own fs rec k W' := by
  have h3 := (Array.getElem?_eq_some_iff.1 h.lp).1
  obtain ⟨V, hV, hrow⟩ := h.row
  exact ⟨(hk.block _ h3 (by omega)).trans h.lp, (hk.block _ (by omega) (by omega)).trans h.df, ⟨V, (hk.block _ (by omega) (by omega)).trans hV, own_kept4 hrow hk (fun q hq e => by have := (World.ownsRow.lt hrow q hq).1; omega)⟩, h.kp.same (hk.mono (fun k e => .inl e))⟩
set_option maxRecDepth 100000 in
set_option maxHeartbeats 8000000 in
theorem fdtake_any {x most n cap base : Nat} {A : Option Addr} {v : Value} {left b : List UInt8} (fs : List (Fr × Bool)) (w : World) (hm : most ≤ 16777215) (hg : ∀ p ∈ fs, Good most p)
    (hf : FeedAt w x most v) (hown : OwnB w base v left) (hxb : x < base) (hbase : base ≤ w.heap.size) (hr : Rd w w.heap.size 1 A n (bvs b)) (hdj : 0 < n → ∀ a, A = some a → a.block ≠ x ∧ v.ownBlock ≠ some a.block)
    (hpre : left ++ b <+: strm fs) (hlen : left.length + b.length ≤ 1099511627776) (hfl : fs.length ≤ 1048576) :
    Calls Try.prog 17 #[.pointer (some ⟨x, 0, none⟩), .slice A n cap] w (TkPost w x most v fs (left ++ b)) := by
  have hbl := hr.blen
  have HOV := Lib.hid (over_any w hf)
  have HGR := Lib.hid (greet_any (n := n) (cap := cap) (A := A) w hf)
  have HIT := Lib.hid (fun w => items_any (p := some ⟨x, 0, none⟩) w)
  have c2 := hf.c2
  have hxl := hf.lt
  obtain ⟨A0, n0, hv, hn0⟩ : ∃ A0 c0, v = .slice A0 left.length c0 ∧ True := by
    obtain ⟨A0, c0, h, -⟩ := hown.rd
    exact ⟨A0, c0, h, trivial⟩
  subst hv
  have HF := Lib.hid hf
  have HO := Lib.hid hown
  have HR := Lib.hid (And.intro hr hdj)
  have HG := Lib.hid hg
  have hfz := fz_of hf
  clear hf hown hr hdj hg hn0
  refine (callsIn_wide (n := 100)).1 ?_
  refine callsIn_of_wp_marks Try.func17 rfl trivial ?_ rfl
  refine wpIn_wide.2 ?_
  simp only [Try.ntmps17, List.size_toArray, List.length_cons, List.length_nil, Nat.reduceAdd, Nat.reduceSub, Array.replicate_succ, Array.replicate_zero, List.push_toArray, List.append_toArray, List.nil_append, List.cons_append]
  go_wp2_with fail
  refine HOV.out.mono ?_
  rintro e1 w1 ⟨rfl, rfl⟩
  go_wp2_with fail
  refine HGR.out.mono ?_
  rintro e1 w1 ⟨rfl, rfl⟩
  go_wp2_with (at_builtin; refine wpList_app (.tmp 28) (.tmp 29) tBytes rfl rfl HO.out rfl HR.out.1 rfl (bvs_one _) (le_maxLen (by omega)) (by omega) hbase ?_; intro v2 w2 hown2 hg2 _; have hx2 : w2.heap[x]? = w.heap[x]? := hg2.block x hxl (fun e => by have := (World.ownsRow.lt HO.out x e.symm).1; omega); have hf2 : FeedAt w2 x most (.slice A0 left.length n0) := HF.out.keep hx2; have hc22 := hf2.c2; have hfz2 := fz_of hf2; obtain ⟨A2, cap2, rfl, hnc2, hcm2, -⟩ := own_slice hown2; have H2 := Lib.hid (And.intro hown2 (And.intro hg2 hf2)); clear hown2 hg2 hx2 hf2 hfz c2)
  obtain ⟨ob, hob⟩ : ∃ ob, w2.heap.size = ob := ⟨_, rfl⟩
  refine (HIT.out _).mono ?_
  rintro e4 w4 ⟨rfl, hw4⟩
  have hb4 : (((w2.setCell ⟨x, 2, none⟩ (.slice A2 (left.length + n) cap2)).alloc (.cells #[.slice none 0 0] 50)).heap.size = ob + 1) := by rw [← hob]; simp
  rw [hb4, hob]
  have hs2 : w.heap.size ≤ ob := by have := H2.out.2.1.size; omega
  have hf4 : FeedAt w4 x most (.slice A2 (left.length + n) cap2) := by
    rw [hw4]
    exact ((Below.heap_alloc _ _ _ (by simp; omega)).trans (Below.heap_alloc _ _ _ (by simp; omega))).trans (H2.out.2.2.set2 _)
  have hk6 : w4.heap[ob]? = some (.cells #[.slice none 0 0] 50 (0, 0)) := by
    rw [hw4, ← hob]
    have := two_first (w2.setCell ⟨x, 2, none⟩ (.slice A2 (left.length + n) cap2)) (.cells #[.slice none 0 0] 50) (.cells #[.pointer (some ⟨x, 0, none⟩)] 51)
    simpa [World.setCell] using this
  have hk7 : w4.heap[ob + 1]? = some (.cells #[.pointer (some ⟨x, 0, none⟩)] 51 (0, 0)) := by
    rw [hw4, ← hob]
    have := heapNew2 (w2.setCell ⟨x, 2, none⟩ (.slice A2 (left.length + n) cap2)) (.cells #[.slice none 0 0] 50) (.cells #[.pointer (some ⟨x, 0, none⟩)] 51)
    simpa [World.setCell] using this
  have hs4 : w4.heap.size = ob + 2 := by rw [hw4]; simp [hb4, ← hob]
  have hkp4 : Kept (fun b => b = x ∨ (Value.slice A0 left.length n0).ownBlock = some b) w w4 := by
    rw [hw4]
    exact (((Kept.refl _ w).grown H2.out.2.1 (fun k e => .inl (.inr e))).setCell (.inl rfl) 2 _).alloc _ |>.alloc _
  have hlb : (left ++ b).length = left.length + n := by rw [List.length_append, hbl]
  have ho2 : OwnB w2 base (.slice A2 (left.length + n) cap2) (left ++ b) := by
    unfold OwnB
    rw [hlb, bvs_append]
    exact H2.out.1
  have hkp24 : Kept (fun b => b = x) w2 w4 := by
    rw [hw4]
    exact (((Kept.refl (fun b => b = x) w2).setCell rfl 2 _).alloc _).alloc _
  have ho4 : OwnB w4 base (.slice A2 (left.length + n) cap2) (left ++ b) := own_kept4 ho2 hkp24 (fun k hk h => by have := (World.ownsRow.lt ho2 k hk).1; omega)
  have hr4 : Rd w4 w4.heap.size 1 A2 (left.length + n) (bvs (left ++ b)) := by
    obtain ⟨A', c', he, hrd⟩ := ho4.rd
    injection he with h1 h2 h3
    subst h1
    rw [hlb] at hrd
    exact hrd
  have hA2 : ∀ a, A2 = some a → x < a.block ∧ a.block < ob := by
    intro a ha
    subst ha
    have := World.ownsRow.lt ho2 a.block rfl
    omega
  have H4 := Lib.hid (And.intro hf4 (And.intro hk6 (And.intro hk7 (And.intro hkp4 (And.intro hr4 hA2)))))
  clear ho2 ho4 hkp24 hf4 hk6 hk7 hkp4 hr4 hA2 hw4 hb4 hob hc22 hfz2
  go_wp2_with fail
  refine range_wp rfl (enters_of Try.func46 (by kernel_rfl) rfl) ?_
  intro fn rec hrec
  rw [hs4] at hrec
  obtain ⟨W5, hW5⟩ : ∃ W5, (w4.alloc (.deferred (some []))).alloc (.loop (rec .ready none)) = W5 := ⟨_, rfl⟩
  have hb5 : Below w4.heap.size w4 W5 := by rw [← hW5]; exact ((Below.refl _ _).alloc (Nat.le_refl _) _).alloc (by simp) _
  have hl5 : W5.heap[ob + 3]? = some (.loop (rec .ready none)) := by rw [← hW5, show ob + 3 = w4.heap.size + 1 by omega]; exact heapNew2 _ _ _
  have hd5 : W5.heap[ob + 2]? = some (.deferred (some [])) := by rw [← hW5, ← hs4]; exact two_first _ _ _
  have hs5 : W5.heap.size = ob + 4 := by rw [← hW5]; simp [hs4]
  rw [hW5, hs4]
  obtain ⟨own, hownd⟩ : ∃ own : Nat → Prop, (fun b => (Value.slice A0 left.length n0).ownBlock = some b) = own := ⟨_, rfl⟩
  refine (iter_any (x := x) (Bb := ob + 1) (most := most) (l := ob + 3) (m := 0) (fun b => b = ob ∨ ob + 2 ≤ b) fs (left ++ b) (TkJ Try.prog w x ob own fs (rec .ready none)) hm HG.out (fun k W W' h hk => h.keep (by omega) hk) ?hY (by omega) (by omega) (by omega) W5 ?h0).mono ?hend
  case hY =>
    intro k p W hj hp
    have hlp := hj.lp
    rw [hrec] at hlp
    refine yield_at hlp rfl ?_
    obtain ⟨V, hV, hrow⟩ := hj.row
    have hlt := (Array.getElem?_eq_some_iff.1 hlp).1
    have HJJ := Lib.hid (And.intro hj (And.intro hV hrow))
    have HL := Lib.hid hlp
    clear hj hV hrow hlp
    gi_wp2_with fail
    refine ⟨(Below.heap_alloc _ _ _ hlt).trans HL.out, ?_⟩
    refine wpIn_named ?_
    intro W1 hW1
    have hne : ∀ b, b ≠ ob + 3 → b < W.heap.size → W1.heap[b]? = W.heap[b]? := fun b h1 h2 => by rw [hW1, World.putObj_heap_other h1]; exact Below.heap_alloc _ _ _ h2
    have hsz : W1.heap.size = W.heap.size + 1 := by rw [hW1]; simp
    have hnw : W1.heap[W.heap.size]? = some (.cells (itL p.1).toArray 57 (0, 0)) := by rw [hW1, World.putObj_heap_other (by omega)]; exact heapNew _ _
    have hlp1 : W1.heap[ob + 3]? = some (.loop (rec .busy none)) := by rw [hW1, World.putObj_heap_same (by simp; omega), hrec]
    have hkp1 : Kept (fun b => b = ob + 3) W W1 := ⟨by rw [hW1]; rfl, by rw [hW1]; rfl, by rw [hW1]; rfl, by omega, fun b h1 h2 => hne b h2 h1⟩
    have hob1 := (hne ob (by omega) (by omega)).trans HJJ.out.2.1
    have hrow1 := own_kept4 HJJ.out.2.2 hkp1 (fun q hq e => by have := (World.ownsRow.lt HJJ.out.2.2 q hq).1; omega)
    have hd := cell_at15 hnw
    have d0 := hd 0 _ rfl
    have d1 := hd 1 _ rfl
    have d2 := hd 2 _ rfl
    have d3 := hd 3 _ rfl
    have d4 := hd 4 _ rfl
    have d5 := hd 5 _ rfl
    have d6 := hd 6 _ rfl
    have d7 := hd 7 _ rfl
    have d8 := hd 8 _ rfl
    have d9 := hd 9 _ rfl
    have d10 := hd 10 _ rfl
    have d11 := hd 11 _ rfl
    have d12 := hd 12 _ rfl
    have d13 := hd 13 _ rfl
    have d14 := hd 14 _ rfl
    have e0 : W1.cell? ⟨ob, 0, none⟩ = some V := by unfold World.cell?; rw [hob1]; rfl
    have hobz := fz_of hob1
    have hkl : k < fs.length := (List.getElem?_eq_some_iff.1 hp).1
    have HW1 := Lib.hid (And.intro hne (And.intro hlp1 (And.intro hkp1 (And.intro hob1 (And.intro hrow1 hnw)))))
    have HS1 := Lib.hid hsz
    have hylt : W.heap.size < W1.heap.size := by omega
    have hoblt : ob < W1.heap.size := by omega
    have hob4 : ob + 4 ≤ W1.heap.size := by omega
    have HP := Lib.hid hp
    clear hne hlp1 hkp1 hob1 hrow1 hnw hd hW1 HL hsz hlt hp hl5 hd5 hb5 hW5
    have hk152 : (k + 1) * 144 ≤ 140737488355328 := by omega
    have HROW : Hid (∀ o, (W1.alloc o).ownsRow (ob + 4) 57 15 V k (itsL (fs.take k))) := Lib.hid (fun o => own_kept4 HW1.out.2.2.2.2.1 ((Kept.refl (fun _ => False) W1).alloc o) (fun _ _ h => h))
    gi_wp2_with (gi_at_builtin; refine of_stop ?_)
    unfold Stop
    refine wpListIn_app (.tmp 36) (.tmp 38) tItems rfl rfl (HROW.out _) rfl (heapNew _ _) rfl rfl (by simp [Value.oneCell']) (le_maxLen (by omega)) hk152 (by simp; omega) ?_
    intro v6 w6 hown6 hg6
    obtain ⟨A6, n6, rfl, -, -, -, -⟩ := own_slice hown6
    obtain ⟨v6, hv6⟩ : ∃ v6, Value.slice A6 (k + 1) n6 = v6 := ⟨_, rfl⟩
    rw [hv6] at hown6
    have hb6 : w6.heap[ob]? = W1.heap[ob]? := by
      refine (hg6.block ob (by simp; omega) (fun e => by have := (World.ownsRow.lt HW1.out.2.2.2.2.1 _ e.symm).1; omega)).trans ?_
      exact Below.heap_alloc _ _ _ hoblt
    have hl6 : w6.heap[ob + 3]? = W1.heap[ob + 3]? := by
      refine (hg6.block (ob + 3) (by simp; omega) (fun e => by have := (World.ownsRow.lt HW1.out.2.2.2.2.1 _ e.symm).1; omega)).trans ?_
      exact Below.heap_alloc _ _ _ (by omega)
    have hz6 := fz_of (hb6.trans HW1.out.2.2.2.1)
    have c6 : w6.cell? ⟨ob, 0, none⟩ = some V := by unfold World.cell?; rw [hb6.trans HW1.out.2.2.2.1]; rfl
    have hkp6 : Kept (fun b => b = ob ∨ ob + 2 ≤ b) W w6 := (((HW1.out.2.2.1.mono (fun b e => .inr (by omega))).alloc _).grown hg6 (fun q e => .inl (.inr (by have := (World.ownsRow.lt HW1.out.2.2.2.2.1 _ e).1; omega))))
    have hend : LoopIs (w6.setCell ⟨ob, 0, none⟩ v6) (ob + 3) (rec .busy none) ∧ TkJ Try.prog w x ob own fs (rec .ready none) (k + 1) ((w6.setCell ⟨ob, 0, none⟩ v6).putObj (ob + 3) (.loop (rec .ready none))) ∧ Kept (fun b => b = ob ∨ ob + 2 ≤ b) W ((w6.setCell ⟨ob, 0, none⟩ v6).putObj (ob + 3) (.loop (rec .ready none))) := by
      have hls : (w6.setCell ⟨ob, 0, none⟩ v6).heap[ob + 3]? = some (.loop (rec .busy none)) := (Below.heap_setCell _ _ _ _ (show ob + 3 ≠ ob by omega)).trans (hl6.trans HW1.out.2.1)
      have hkS : Kept (fun b => b = ob ∨ ob + 2 ≤ b) W ((w6.setCell ⟨ob, 0, none⟩ v6).putObj (ob + 3) (.loop (rec .ready none))) := (hkp6.setCell (.inl rfl) 0 v6).put (.inr (by omega)) _
      have hj := HJJ.out.1
      refine ⟨hls, ⟨World.putObj_heap_same (Array.getElem?_eq_some_iff.1 hls).1, ?_, ⟨v6, ?_, ?_⟩, hj.kp.trans hkS (fun b hb => .inr (by omega))⟩, hkS⟩
      · rw [World.putObj_heap_other (by omega)]
        refine (Below.heap_setCell _ _ _ _ (show ob + 2 ≠ ob by omega)).trans ?_
        refine (hg6.block (ob + 2) (by simp; omega) (fun e => by have := (World.ownsRow.lt HW1.out.2.2.2.2.1 _ e.symm).1; omega)).trans ?_
        refine (Below.heap_alloc _ _ _ (by omega)).trans ?_
        exact (HW1.out.1 (ob + 2) (by omega) (by have := HS1.out; omega)).trans hj.df
      · rw [World.putObj_heap_other (by omega)]
        exact set_b7 v6 (hb6.trans HW1.out.2.2.2.1)
      · rw [itsL_snoc HP.out]
        refine own_kept4 hown6 (((Kept.refl (fun b => b = ob ∨ b = ob + 3) w6).setCell (.inl rfl) 0 v6).put (.inr rfl) _) (fun q hq e => ?_)
        have := (World.ownsRow.lt hown6 q hq).1
        omega
    rw [← hv6] at hend
    have HE := Lib.hid hend
    clear hend hv6 hkp6 hb6 hl6 hg6 hown6 HROW hk152 d0 d1 d2 d3 d4 d5 d6 d7 d8 d9 d10 d11 d12 d13 d14 e0 hobz
    gi_wp2_with fail
    have h := HE.out
    simp only [hrec] at h ⊢
    exact ⟨h.1, h.2⟩
  case h0 =>
    obtain ⟨hf4, hk6, hk7, hkp4, hr4, hA2⟩ := H4.out
    have hnil : W5.ownsRow (ob + 4) 57 15 (.slice none 0 0) 0 (itsL (fs.take 0)) := ⟨rfl, .inl ⟨rfl, rfl⟩⟩
    refine ⟨?_, by omega, 0, left ++ b, A2, left.length + n, cap2, ⟨hf4.keep (hb5.block x (by omega)), (hr4.below hb5 (Nat.le_refl _)).more hb5.size, ?_, hnc2, hcm2, Nat.zero_le _, by simpa using hpre, by simp [strm], hl5, hd5, ⟨_, (hb5.block ob (by omega)).trans hk6, hnil⟩, ?_⟩⟩
    · unfold World.cell?; rw [hb5.block (ob + 1) (by omega), hk7]; rfl
    · intro _ a ha
      have := hA2 a ha
      omega
    · rw [← hownd]
      exact hkp4.same (Kept.of_below hb5)
  case hend =>
    rintro e W6 ⟨⟨v, rfl⟩, k, r, A7, n7, cap7, hit, hlast⟩
    refine ⟨⟨v, rfl⟩, hit.j.lp, ?_⟩
    rename_i a1 K1 hK1
    show K1 _ _
    refine hK1 _ _ ?_
    clear hK1 a1 K1
    refine wp_named ?_
    intro W7 hW7
    obtain ⟨V, hV, hrow⟩ := hit.j.row
    have hl6 := (Array.getElem?_eq_some_iff.1 hit.j.lp).1
    have hne : ∀ b, b ≠ ob + 3 → W7.heap[b]? = W6.heap[b]? := fun b h1 => by rw [hW7, World.putObj_heap_other (by omega)]
    have hkp7 : Kept (fun b => b = ob + 3) W6 W7 := ⟨by rw [hW7]; rfl, by rw [hW7]; rfl, by rw [hW7]; rfl, by rw [hW7]; simp, fun b _ h2 => hne b h2⟩
    have hf7 : FeedAt W7 x most (.slice A7 n7 cap7) := hit.feed.keep (hne x (by omega))
    have hr7 : Rd W7 W7.heap.size 1 A7 n7 (bvs r) := hit.rd.kept hkp7 (fun h0 a ha => by have := (hit.blk h0 a ha).2; omega)
    have hrow7 : W7.ownsRow (ob + 4) 57 15 V k (itsL (fs.take k)) := own_kept4 hrow hkp7 (fun q hq e => by have := (World.ownsRow.lt hrow q hq).1; omega)
    have hd7 := (hne (ob + 2) (by omega)).trans hit.j.df
    have hk7 : Kept (fun b => b = x ∨ (Value.slice A0 left.length n0).ownBlock = some b) w W7 := by
      have h1 := hit.j.kp.trans hkp7 (fun b e => .inr (by omega))
      rw [← hownd] at h1
      exact h1
    have hrl := hr7.blen
    have hs7 : ob + 4 ≤ W7.heap.size := by have := hkp7.size; omega
    obtain ⟨V1, V2, rfl, -, -, -, -⟩ := own_slice hrow7
    have e0 : W7.cell? ⟨ob, 0, none⟩ = some (.slice V1 k V2) := by unfold World.cell?; rw [hne ob (by omega), hV]; rfl
    have hfz := fz_of hf7
    have c2 := hf7.c2
    have c3 := hf7.c3
    have hx7 := hf7.lt
    have H7 := Lib.hid (And.intro hf7 (And.intro hr7 (And.intro hrow7 (And.intro hd7 (And.intro hk7 (And.intro hit hlast))))))
    have hrn : 0 + n7 ≤ maxLen := le_maxLen (by have := congrArg List.length hit.all; rw [List.length_append, List.length_append] at this; omega)
    have hrb : (0 + n7) * 1 ≤ 140737488355328 := by have := congrArg List.length hit.all; rw [List.length_append, List.length_append] at this; omega
    have hwb : w.heap.size ≤ W7.heap.size := by omega
    have hobl : ob < W7.heap.size := by omega
    have HOB := Lib.hid hV
    clear hV hrow hl6 hne hkp7 hf7 hr7 hrow7 hd7 hk7 hit hlast hW7 hl5 hd5 hb5 hW5 hs5 hownd hlb hrl
    go_wp2_with (at_builtin; refine of_stop ?_)
    unfold Stop
    refine wpList_app (.const (.slice none 0 0)) (.tmp 51) tBytes rfl rfl (World.ownsRow_nil W7 w.heap.size 5 1) rfl H7.out.2.1 rfl (bvs_one _) hrn hrb hwb ?_
    intro v8 w8 hown8 hg8 ho8
    obtain ⟨V3, V4, rfl, -, -, -, -⟩ := own_slice hown8
    have hb8 : ∀ b, b < W7.heap.size → w8.heap[b]? = W7.heap[b]? := fun b h => hg8.block b h (by simp [Value.ownBlock])
    have hf8 : FeedAt w8 x most (.slice A7 n7 cap7) := H7.out.1.keep (hb8 x hx7)
    have hfz8 := fz_of hf8
    have c28 := hf8.c2
    have e08 : w8.cell? ⟨ob, 0, none⟩ = some (.slice V1 k V2) := (World.cell?_of_block (a := ⟨ob, 0, none⟩) (hb8 ob hobl)).trans e0
    have H8 := Lib.hid (And.intro hown8 (And.intro hg8 (And.intro hb8 (And.intro hf8 ho8))))
    clear hown8 hg8 hb8 hf8 ho8 e0 hfz c2 c3 hrb hrn
    go_wp2_with fail
    refine leaves_mark (v := .slice V1 k V2) rfl (show (w8.setCell ⟨x, 2, none⟩ (.slice V3 n7 V4)).heap[ob + 2]? = some (.deferred (some [])) from (Below.heap_setCell _ _ _ _ (show ob + 2 ≠ x by omega)).trans ((H8.out.2.2.1 (ob + 2) (by omega)).trans H7.out.2.2.2.1)) (fun W => by simp [results, Try.results17, go_sem]) ?_
    obtain ⟨-, -, hrow7, hd7, hk7, hit, hlast⟩ := H7.out
    obtain ⟨hown8, hg8, hb8, hf8, ho8⟩ := H8.out
    have hrl : r.length = n7 := hit.rd.blen
    have hkS : Kept (fun b => b = x ∨ b = ob + 2) w8 ((w8.setCell ⟨x, 2, none⟩ (.slice V3 n7 V4)).putObj (ob + 2) (.deferred none)) := ((Kept.refl _ w8).setCell (.inl rfl) 2 _).put (.inr rfl) _
    have hkA : Kept (fun b => b = x ∨ b = ob + 2) W7 ((w8.setCell ⟨x, 2, none⟩ (.slice V3 n7 V4)).putObj (ob + 2) (.deferred none)) := ((Kept.refl (fun b => b = x ∨ b = ob + 2) W7).grown hg8 (fun q e => by simp [Value.ownBlock] at e)).same hkS
    refine ⟨k, r, _, .slice V3 n7 V4, rfl, hit.kl, hit.all, hit.pre, fun p hp => by rw [hrl]; exact hlast p hp, ?_, ?_, ?_, ?_⟩
    · have h1 := own_kept4 hrow7 hkA (fun q hq e => by have := (World.ownsRow.lt hrow7 q hq).1; omega)
      exact own_base h1 (by omega)
    · have h1 := own_kept4 hown8 hkS (fun q hq e => ?_)
      · unfold OwnB
        rw [hrl]
        simpa using h1
      · rw [hq] at ho8
        rcases ho8 with h | h
        · simp [Value.ownBlock] at h
        · injection h with h; omega
    · exact FeedAt.keep (FeedAt.set2 hf8 _) (World.putObj_heap_other (by omega))
    · exact hk7.trans hkA (fun b e => by omega)
end Go.Proofs.Ytfpcamkimjecdaa

/- What law05.awake asks, plain. -/
namespace Go.Proofs.Ytfpcamkimjecdaa
open Go.RowKit

def awakeL : List Fd := [((⟨#[58, 109, 101, 116, 104, 111, 100]⟩, ⟨#[71, 69, 84]⟩), false), ((⟨#[97]⟩, ⟨#[98]⟩), false)]
def encNew (own : Int) : Enc := ⟨own, 4096, min own 4096, ⟨min own 4096, 0, []⟩⟩
set_option maxRecDepth 100000 in
theorem awake_enc : ((encNew 4096).run awakeL).1 = [130, 64, 1, 97, 1, 98] := by decide +kernel
set_option maxRecDepth 100000 in
theorem awake_dec : (outD 4096 1000 ⟨4096, 0, []⟩ [130, 64, 1, 97, 1, 98]).1 = awakeL ∧ (outD 4096 1000 ⟨4096, 0, []⟩ [130, 64, 1, 97, 1, 98]).2.1 = 0 := by decide +kernel
end Go.Proofs.Ytfpcamkimjecdaa
