/- 8 texts in one: Rp2, Rp3, Rp4, Rp5, Ak, Mt1, Dh2, Dh3. -/
import Derived.Test.YtpkmciohehaboaaGreatDoorM17
import Derived.Test.YtpkmciohehaboaaGreatDoorM13
import Derived.Test.YtpkmciohehaboaaGreatDoorM14
import Derived.Test.YtpkmciohehaboaaGreatDoorM8
import Derived.Lib.SlBytesConst
import Derived.ArgAppend
import Derived.Test.YtpkmciohehaboaaGreatDoorM15
import Derived.RangeFuncNested
import Derived.RangeFuncBound
import Derived.RangeFuncCalls
import Derived.RangeFuncLeaves
import Derived.Shelf.Abstract
import Derived.Shelf.RegionOpen
import Derived.WalkKit
import Derived.OwnWalkIn
import Derived.TacticsInMore
import Derived.LoopNIn
import Derived.LoopIn
/- The walks of ref06.ranges, has, Has, May, for the frames that clients send here. -/
namespace Go.Proofs.YtpkmciohehaboaaGreatDoor
open Go.RowKit

/-- The kinds of frames that are sent: blocks, data, empty settings; without padding. -/
def KnT (ty fl : Nat) : Prop := (ty = 1 ∧ fl = 5) ∨ (ty = 1 ∧ fl = 0) ∨ (ty = 9 ∧ fl = 4) ∨ (ty = 0 ∧ fl = 1) ∨ (ty = 4 ∧ fl = 0)
structure Kn (f : Fr) : Prop where
  k : KnT f.ty f.fl
  st : f.st ≤ 1
  pad : f.pad = 0
  d4 : f.ty = 4 → f.data = ⟨#[]⟩
  data : f.data.size ≤ 1048576
set_option maxRecDepth 100000 in
set_option maxHeartbeats 4000000 in
theorem has_kn (ty fl : Nat) (of fg : Int) (w : World) (h : KnT ty fl) (hof : (of = 0 ∧ fg = 8) ∨ (of = 1 ∧ fg = 8) ∨ (of = 1 ∧ fg = 32)) :
    Calls Tryz.prog 92 #[.int .i64 ty, .int .i64 fl, .int .i64 of, .int .i64 fg] w fun e w' => e = .returned (.bool false) ∧ w = w' := by
  rcases h with ⟨rfl, rfl⟩ | ⟨rfl, rfl⟩ | ⟨rfl, rfl⟩ | ⟨rfl, rfl⟩ | ⟨rfl, rfl⟩
  all_goals
    rcases hof with ⟨rfl, rfl⟩ | ⟨rfl, rfl⟩ | ⟨rfl, rfl⟩
    all_goals
      go_enter Tryz.func92, Tryz.ntmps92
      go_wp2_with fail
      go_ret
      exact ⟨rfl, rfl⟩
set_option maxRecDepth 100000 in
set_option maxHeartbeats 4000000 in
theorem hasf_kn (f : Fr) (fg : Int) (w : World) (h : KnT f.ty f.fl) (hof : fg = 8 ∨ fg = 32) :
    Calls Tryz.prog 93 #[frV f, .int .i64 fg] w fun e w' => e = .returned (.bool false) ∧ Below w.heap.size w w' := by
  obtain ⟨ty, fl, st, data, pad⟩ := f
  unfold frV Fr.cells
  dsimp only at h ⊢
  rcases h with ⟨rfl, rfl⟩ | ⟨rfl, rfl⟩ | ⟨rfl, rfl⟩ | ⟨rfl, rfl⟩ | ⟨rfl, rfl⟩
  all_goals
    rcases hof with rfl | rfl
    all_goals
      go_enter Tryz.func93, Tryz.ntmps93
      go_wp2_with fail
      go_ret
      exact ⟨rfl, (Below.refl _ _).alloc (Nat.le_refl _) _⟩
def RgRel (W : World) (iv : Value) (wr : World) : Prop := iv = .int .i64 0 ∧ wr = W
set_option maxRecDepth 100000 in
set_option maxHeartbeats 8000000 in
theorem ranges_kn (f : Fr) (w : World) (h : Kn f) :
    Calls Tryz.prog 91 #[frV f] w fun e w' => e = .returned (.bool true) ∧ Below w.heap.size w w' := by
  obtain ⟨hk, hst, hpad, -, -⟩ := h
  obtain ⟨ty, fl, st, data, pad⟩ := f
  unfold frV Fr.cells
  dsimp only at hk hst hpad ⊢
  subst hpad
  have hst2 : st = 0 ∨ st = 1 := by omega
  clear hst
  have HB : Hid (∀ o, Below w.heap.size w (w.alloc o)) := Lib.hid (fun o => (Below.refl _ _).alloc (Nat.le_refl _) o)
  rcases hk with ⟨rfl, rfl⟩ | ⟨rfl, rfl⟩ | ⟨rfl, rfl⟩ | ⟨rfl, rfl⟩ | ⟨rfl, rfl⟩
  all_goals
    rcases hst2 with rfl | rfl
    all_goals
      go_enter Tryz.func91, Tryz.ntmps91
      go_wp2_with fail
      go_loopw [3] (fun iv wr => RgRel (w.alloc (.cells _ 52)) iv wr) (fun _ _ => 0)
      case atStart => exact ⟨rfl, rfl⟩
      case round =>
        obtain ⟨rfl, rfl⟩ := hrel
        go_wp2_with fail
        go_ret
        exact ⟨rfl, HB.out _⟩
end Go.Proofs.YtpkmciohehaboaaGreatDoor

/- The walk of ref06.May. -/
namespace Go.Proofs.YtpkmciohehaboaaGreatDoor
open Go.RowKit

set_option maxRecDepth 100000 in
set_option maxHeartbeats 8000000 in
theorem rmay_kn (f : Fr) (w : World) (h : Kn f) :
    Calls Tryz.prog 55 #[frV f] w fun e w' => e = .returned (.bool true) ∧ Below w.heap.size w w' := by
  have hb0 : Below w.heap.size w (w.alloc (.cells f.cells 52)) := (Below.refl _ _).alloc (Nat.le_refl _) _
  have hnew := heapNew w (.cells f.cells 52)
  have hsz : (w.alloc (.cells f.cells 52)).heap.size = w.heap.size + 1 := by simp
  have HRG := Lib.hid (ranges_kn f (w.alloc (.cells f.cells 52)) h)
  obtain ⟨hk, hst, hpad, hd4, -⟩ := h
  obtain ⟨ty, fl, st, data, pad⟩ := f
  have HH := Lib.hid (fun of fg w h => has_kn ty fl of fg w hk h)
  unfold frV at HRG ⊢
  unfold Fr.cells at HRG hb0 hnew hsz ⊢
  dsimp only at hk hst hpad hd4 HRG HH hb0 hnew hsz ⊢
  subst hpad
  have HB0 := Lib.hid hb0
  have HNEW := Lib.hid hnew
  have HSZ := Lib.hid hsz
  have hde : ty = 4 ∨ data = ⟨#[]⟩ ∨ (data.toList == []) = false := by
    by_cases hd : data = ⟨#[]⟩
    · exact .inr (.inl hd)
    · right; right
      have h1 := (Lib.bytes_beq_false_iff data ⟨#[]⟩).2 hd
      rwa [show (⟨#[]⟩ : ByteArray).toList = [] from by decide +kernel] at h1
  clear hb0 hnew hsz hst
  rcases hk with ⟨rfl, rfl⟩ | ⟨rfl, rfl⟩ | ⟨rfl, rfl⟩ | ⟨rfl, rfl⟩ | ⟨rfl, rfl⟩
  all_goals
    rcases hde with h4 | rfl | e1
    all_goals
      first
      | (exfalso; omega)
      | skip
  all_goals
    first
    | (have hd := hd4 rfl; subst hd)
    | skip
  all_goals
    clear hd4
    go_enter Tryz.func55, Tryz.ntmps55
    go_wp2_with fail
    refine HRG.out.mono ?_
    rintro e w1 ⟨rfl, hb1⟩
    have hq := (hb1.block w.heap.size (by have := HSZ.out; omega)).trans HNEW.out
    have HB1 := Lib.hid (HB0.out.trans (hb1.mono (by have := HSZ.out; omega)))
    obtain ⟨c0, c1, c2, c3, c4, c5, c6, c7, c8, c9, c10, c11, hxl⟩ := FrAt.of (f := ⟨_, _, _, _, _⟩) hq
    simp only at c0 c1 c2 c3 c4
    clear hb1 hq
    go_wp2_with fail
    refine (HH.out 0 8 _ (.inl ⟨rfl, rfl⟩)).mono ?_
    rintro e w2 ⟨rfl, rfl⟩
    go_wp2_with fail
    refine (HH.out 1 8 _ (.inr (.inl ⟨rfl, rfl⟩))).mono ?_
    rintro e w2 ⟨rfl, rfl⟩
    go_wp2_with fail
    refine (HH.out 1 32 _ (.inr (.inr ⟨rfl, rfl⟩))).mono ?_
    rintro e w2 ⟨rfl, rfl⟩
    go_wp2_with fail
    go_ret
    exact ⟨rfl, HB1.out⟩
end Go.Proofs.YtpkmciohehaboaaGreatDoor

/- The walk of ref06.Payload. -/
namespace Go.Proofs.YtpkmciohehaboaaGreatDoor
open Go.RowKit

def PyRel (W : World) (V iv : Value) (wr : World) : Prop := iv = V ∧ wr = W
set_option maxRecDepth 100000 in
set_option maxHeartbeats 8000000 in
theorem rpay_kn (f : Fr) (w : World) (h : Kn f) :
    Calls Tryz.prog 56 #[frV f] w (RetB w f.data.data.toList) := by
  have hb0 : Below w.heap.size w (w.alloc (.cells f.cells 52)) := (Below.refl _ _).alloc (Nat.le_refl _) _
  have hnew := heapNew w (.cells f.cells 52)
  have hsz : (w.alloc (.cells f.cells 52)).heap.size = w.heap.size + 1 := by simp
  obtain ⟨hk, hst, hpad, hd4, hda⟩ := h
  have HH := Lib.hid (fun fg w h => hasf_kn f fg w hk h)
  obtain ⟨ty, fl, st, data, pad⟩ := f
  unfold frV at HH ⊢
  unfold Fr.cells at HH hb0 hnew hsz ⊢
  dsimp only at hk hst hpad hd4 hda HH hb0 hnew hsz ⊢
  subst hpad
  have HNEW := Lib.hid hnew
  clear hst hd4
  rcases hk with ⟨rfl, rfl⟩ | ⟨rfl, rfl⟩ | ⟨rfl, rfl⟩ | ⟨rfl, rfl⟩ | ⟨rfl, rfl⟩
  · have HX := Lib.hid (And.intro hb0 (And.intro hnew (show w.heap.size < (w.alloc (.cells _ 52)).heap.size by rw [hsz]; exact Nat.lt_succ_self _)))
    clear hb0 hnew hsz
    go_enter Tryz.func56, Tryz.ntmps56
    go_wp2_with fail
    refine (HH.out 8 _ (by simp)).mono ?_
    rintro e w1 ⟨rfl, hb1⟩
    have HX := Lib.hid (And.intro (HX.out.1.trans (hb1.mono HX.out.1.size)) ((hb1.block w.heap.size HX.out.2.2).trans HX.out.2.1))
    have HX := Lib.hid (And.intro HX.out.1 (And.intro HX.out.2 (Nat.lt_of_lt_of_le (Array.getElem?_eq_some_iff.1 HX.out.2).1 (Nat.le_refl _))))
    clear hb1
    obtain ⟨c0, c1, c2, c3, c4, c5, c6, c7, c8, c9, c10, c11, hxl⟩ := FrAt.of (f := ⟨_, _, _, _, _⟩) HX.out.2.1
    simp only at c0 c1 c2 c3 c4
    go_wp2_with fail
    refine (HH.out 32 _ (by simp)).mono ?_
    rintro e w1 ⟨rfl, hb1⟩
    have HX := Lib.hid (And.intro (HX.out.1.trans (hb1.mono HX.out.1.size)) ((hb1.block w.heap.size HX.out.2.2).trans HX.out.2.1))
    have HX := Lib.hid (And.intro HX.out.1 (And.intro HX.out.2 (Nat.lt_of_lt_of_le (Array.getElem?_eq_some_iff.1 HX.out.2).1 (Nat.le_refl _))))
    clear hb1
    obtain ⟨c0, c1, c2, c3, c4, c5, c6, c7, c8, c9, c10, c11, hxl⟩ := FrAt.of (f := ⟨_, _, _, _, _⟩) HX.out.2.1
    simp only at c0 c1 c2 c3 c4
    go_wp2_with fail
    go_loopw [3, 5] (fun bv iv wr => bv = .slice none 0 0 ∧ PyRel _ (.int .i64 0) iv wr) (fun _ _ _ => 0)
    case atStart => exact ⟨rfl, rfl, rfl⟩
    case round =>
      obtain ⟨rfl, rfl, rfl⟩ := hrel
      go_wp2_with (at_builtin; refine of_stop ?_)
      unfold Stop
      refine wpList_app_str (.tmp 102) (.tmp 104) rfl rfl (World.ownsRow_nil _ w.heap.size 5 1) rfl data rfl (by omega) HX.out.1.size ?_
      intro v5 w5 hown5 hg5
      rw [Nat.zero_add, List.nil_append] at hown5
      have hb5 := Below.app HX.out.1 (World.ownsRow_nil _ w.heap.size 5 1) hg5 (Nat.le_refl _) HX.out.1.size
      have HE : Hid (RetB w data.data.toList (.returned v5) w5) := Lib.hid ⟨v5, rfl, (by
        unfold OwnB
        rw [str_len data]
        exact hown5), hb5⟩
      obtain ⟨A5, c5, hv5, -, -, -, -⟩ := own_slice hown5
      have h5 := (hg5.block w.heap.size HX.out.2.2 (by simp [Value.ownBlock])).trans HX.out.2.1
      have c4 : w5.cell? ⟨w.heap.size, 4, none⟩ = some (.int .i64 0) := by unfold World.cell?; rw [h5]; rfl
      rw [hv5] at HE ⊢
      clear hown5 hg5 hv5 hb5 h5 HX HNEW HH
      go_wp2_with fail
      go_loopw [3, 6] (fun bv iv wr => bv = .slice A5 data.size c5 ∧ PyRel w5 (.int .i64 0) iv wr) (fun _ _ _ => 0)
      case atStart => exact ⟨rfl, rfl, rfl⟩
      case round =>
        obtain ⟨rfl, rfl, rfl⟩ := hrel
        go_wp2_with fail
        go_ret
        exact HE.out
  · have HX := Lib.hid (And.intro hb0 (And.intro hnew (show w.heap.size < (w.alloc (.cells _ 52)).heap.size by rw [hsz]; exact Nat.lt_succ_self _)))
    clear hb0 hnew hsz
    go_enter Tryz.func56, Tryz.ntmps56
    go_wp2_with fail
    refine (HH.out 8 _ (by simp)).mono ?_
    rintro e w1 ⟨rfl, hb1⟩
    have HX := Lib.hid (And.intro (HX.out.1.trans (hb1.mono HX.out.1.size)) ((hb1.block w.heap.size HX.out.2.2).trans HX.out.2.1))
    have HX := Lib.hid (And.intro HX.out.1 (And.intro HX.out.2 (Nat.lt_of_lt_of_le (Array.getElem?_eq_some_iff.1 HX.out.2).1 (Nat.le_refl _))))
    clear hb1
    obtain ⟨c0, c1, c2, c3, c4, c5, c6, c7, c8, c9, c10, c11, hxl⟩ := FrAt.of (f := ⟨_, _, _, _, _⟩) HX.out.2.1
    simp only at c0 c1 c2 c3 c4
    go_wp2_with fail
    refine (HH.out 32 _ (by simp)).mono ?_
    rintro e w1 ⟨rfl, hb1⟩
    have HX := Lib.hid (And.intro (HX.out.1.trans (hb1.mono HX.out.1.size)) ((hb1.block w.heap.size HX.out.2.2).trans HX.out.2.1))
    have HX := Lib.hid (And.intro HX.out.1 (And.intro HX.out.2 (Nat.lt_of_lt_of_le (Array.getElem?_eq_some_iff.1 HX.out.2).1 (Nat.le_refl _))))
    clear hb1
    obtain ⟨c0, c1, c2, c3, c4, c5, c6, c7, c8, c9, c10, c11, hxl⟩ := FrAt.of (f := ⟨_, _, _, _, _⟩) HX.out.2.1
    simp only at c0 c1 c2 c3 c4
    go_wp2_with fail
    go_loopw [3, 5] (fun bv iv wr => bv = .slice none 0 0 ∧ PyRel _ (.int .i64 0) iv wr) (fun _ _ _ => 0)
    case atStart => exact ⟨rfl, rfl, rfl⟩
    case round =>
      obtain ⟨rfl, rfl, rfl⟩ := hrel
      go_wp2_with (at_builtin; refine of_stop ?_)
      unfold Stop
      refine wpList_app_str (.tmp 102) (.tmp 104) rfl rfl (World.ownsRow_nil _ w.heap.size 5 1) rfl data rfl (by omega) HX.out.1.size ?_
      intro v5 w5 hown5 hg5
      rw [Nat.zero_add, List.nil_append] at hown5
      have hb5 := Below.app HX.out.1 (World.ownsRow_nil _ w.heap.size 5 1) hg5 (Nat.le_refl _) HX.out.1.size
      have HE : Hid (RetB w data.data.toList (.returned v5) w5) := Lib.hid ⟨v5, rfl, (by
        unfold OwnB
        rw [str_len data]
        exact hown5), hb5⟩
      obtain ⟨A5, c5, hv5, -, -, -, -⟩ := own_slice hown5
      have h5 := (hg5.block w.heap.size HX.out.2.2 (by simp [Value.ownBlock])).trans HX.out.2.1
      have c4 : w5.cell? ⟨w.heap.size, 4, none⟩ = some (.int .i64 0) := by unfold World.cell?; rw [h5]; rfl
      rw [hv5] at HE ⊢
      clear hown5 hg5 hv5 hb5 h5 HX HNEW HH
      go_wp2_with fail
      go_loopw [3, 6] (fun bv iv wr => bv = .slice A5 data.size c5 ∧ PyRel w5 (.int .i64 0) iv wr) (fun _ _ _ => 0)
      case atStart => exact ⟨rfl, rfl, rfl⟩
      case round =>
        obtain ⟨rfl, rfl, rfl⟩ := hrel
        go_wp2_with fail
        go_ret
        exact HE.out
  · have HX := Lib.hid (And.intro hb0 (And.intro hnew (show w.heap.size < (w.alloc (.cells _ 52)).heap.size by rw [hsz]; exact Nat.lt_succ_self _)))
    clear hb0 hnew hsz
    go_enter Tryz.func56, Tryz.ntmps56
    go_wp2_with fail
    go_loopw [3, 5] (fun bv iv wr => bv = .slice none 0 0 ∧ PyRel _ (.int .i64 0) iv wr) (fun _ _ _ => 0)
    case atStart => exact ⟨rfl, rfl, rfl⟩
    case round =>
      obtain ⟨rfl, rfl, rfl⟩ := hrel
      go_wp2_with (at_builtin; refine of_stop ?_)
      unfold Stop
      refine wpList_app_str (.tmp 102) (.tmp 104) rfl rfl (World.ownsRow_nil _ w.heap.size 5 1) rfl data rfl (by omega) HX.out.1.size ?_
      intro v5 w5 hown5 hg5
      rw [Nat.zero_add, List.nil_append] at hown5
      have hb5 := Below.app HX.out.1 (World.ownsRow_nil _ w.heap.size 5 1) hg5 (Nat.le_refl _) HX.out.1.size
      have HE : Hid (RetB w data.data.toList (.returned v5) w5) := Lib.hid ⟨v5, rfl, (by
        unfold OwnB
        rw [str_len data]
        exact hown5), hb5⟩
      obtain ⟨A5, c5, hv5, -, -, -, -⟩ := own_slice hown5
      have h5 := (hg5.block w.heap.size HX.out.2.2 (by simp [Value.ownBlock])).trans HX.out.2.1
      have c4 : w5.cell? ⟨w.heap.size, 4, none⟩ = some (.int .i64 0) := by unfold World.cell?; rw [h5]; rfl
      rw [hv5] at HE ⊢
      clear hown5 hg5 hv5 hb5 h5 HX HNEW HH
      go_wp2_with fail
      go_loopw [3, 6] (fun bv iv wr => bv = .slice A5 data.size c5 ∧ PyRel w5 (.int .i64 0) iv wr) (fun _ _ _ => 0)
      case atStart => exact ⟨rfl, rfl, rfl⟩
      case round =>
        obtain ⟨rfl, rfl, rfl⟩ := hrel
        go_wp2_with fail
        go_ret
        exact HE.out
  · have HX := Lib.hid (And.intro hb0 (And.intro hnew (show w.heap.size < (w.alloc (.cells _ 52)).heap.size by rw [hsz]; exact Nat.lt_succ_self _)))
    clear hb0 hnew hsz
    go_enter Tryz.func56, Tryz.ntmps56
    go_wp2_with fail
    refine (HH.out 8 _ (by simp)).mono ?_
    rintro e w1 ⟨rfl, hb1⟩
    have HX := Lib.hid (And.intro (HX.out.1.trans (hb1.mono HX.out.1.size)) ((hb1.block w.heap.size HX.out.2.2).trans HX.out.2.1))
    have HX := Lib.hid (And.intro HX.out.1 (And.intro HX.out.2 (Nat.lt_of_lt_of_le (Array.getElem?_eq_some_iff.1 HX.out.2).1 (Nat.le_refl _))))
    clear hb1
    obtain ⟨c0, c1, c2, c3, c4, c5, c6, c7, c8, c9, c10, c11, hxl⟩ := FrAt.of (f := ⟨_, _, _, _, _⟩) HX.out.2.1
    simp only at c0 c1 c2 c3 c4
    go_wp2_with fail
    go_loopw [3, 5] (fun bv iv wr => bv = .slice none 0 0 ∧ PyRel _ (.int .i64 0) iv wr) (fun _ _ _ => 0)
    case atStart => exact ⟨rfl, rfl, rfl⟩
    case round =>
      obtain ⟨rfl, rfl, rfl⟩ := hrel
      go_wp2_with (at_builtin; refine of_stop ?_)
      unfold Stop
      refine wpList_app_str (.tmp 102) (.tmp 104) rfl rfl (World.ownsRow_nil _ w.heap.size 5 1) rfl data rfl (by omega) HX.out.1.size ?_
      intro v5 w5 hown5 hg5
      rw [Nat.zero_add, List.nil_append] at hown5
      have hb5 := Below.app HX.out.1 (World.ownsRow_nil _ w.heap.size 5 1) hg5 (Nat.le_refl _) HX.out.1.size
      have HE : Hid (RetB w data.data.toList (.returned v5) w5) := Lib.hid ⟨v5, rfl, (by
        unfold OwnB
        rw [str_len data]
        exact hown5), hb5⟩
      obtain ⟨A5, c5, hv5, -, -, -, -⟩ := own_slice hown5
      have h5 := (hg5.block w.heap.size HX.out.2.2 (by simp [Value.ownBlock])).trans HX.out.2.1
      have c4 : w5.cell? ⟨w.heap.size, 4, none⟩ = some (.int .i64 0) := by unfold World.cell?; rw [h5]; rfl
      rw [hv5] at HE ⊢
      clear hown5 hg5 hv5 hb5 h5 HX HNEW HH
      go_wp2_with fail
      go_loopw [3, 6] (fun bv iv wr => bv = .slice A5 data.size c5 ∧ PyRel w5 (.int .i64 0) iv wr) (fun _ _ _ => 0)
      case atStart => exact ⟨rfl, rfl, rfl⟩
      case round =>
        obtain ⟨rfl, rfl, rfl⟩ := hrel
        go_wp2_with fail
        go_ret
        exact HE.out
  · have HX := Lib.hid (And.intro hb0 (And.intro hnew (show w.heap.size < (w.alloc (.cells _ 52)).heap.size by rw [hsz]; exact Nat.lt_succ_self _)))
    clear hb0 hnew hsz
    go_enter Tryz.func56, Tryz.ntmps56
    go_wp2_with fail
    go_loopw [3, 5] (fun bv iv wr => bv = .slice none 0 0 ∧ PyRel _ (.int .i64 0) iv wr) (fun _ _ _ => 0)
    case atStart => exact ⟨rfl, rfl, rfl⟩
    case round =>
      obtain ⟨rfl, rfl, rfl⟩ := hrel
      go_wp2_with (at_builtin; refine of_stop ?_)
      unfold Stop
      refine wpList_app_str (.tmp 102) (.tmp 104) rfl rfl (World.ownsRow_nil _ w.heap.size 5 1) rfl data rfl (by omega) HX.out.1.size ?_
      intro v5 w5 hown5 hg5
      rw [Nat.zero_add, List.nil_append] at hown5
      have hb5 := Below.app HX.out.1 (World.ownsRow_nil _ w.heap.size 5 1) hg5 (Nat.le_refl _) HX.out.1.size
      have HE : Hid (RetB w data.data.toList (.returned v5) w5) := Lib.hid ⟨v5, rfl, (by
        unfold OwnB
        rw [str_len data]
        exact hown5), hb5⟩
      obtain ⟨A5, c5, hv5, -, -, -, -⟩ := own_slice hown5
      have h5 := (hg5.block w.heap.size HX.out.2.2 (by simp [Value.ownBlock])).trans HX.out.2.1
      have c4 : w5.cell? ⟨w.heap.size, 4, none⟩ = some (.int .i64 0) := by unfold World.cell?; rw [h5]; rfl
      rw [hv5] at HE ⊢
      clear hown5 hg5 hv5 hb5 h5 HX HNEW HH
      go_wp2_with fail
      go_loopw [3, 6] (fun bv iv wr => bv = .slice A5 data.size c5 ∧ PyRel w5 (.int .i64 0) iv wr) (fun _ _ _ => 0)
      case atStart => exact ⟨rfl, rfl, rfl⟩
      case round =>
        obtain ⟨rfl, rfl, rfl⟩ := hrel
        go_wp2_with fail
        go_ret
        exact HE.out
end Go.Proofs.YtpkmciohehaboaaGreatDoor

/- The walk of ref06.Put. -/
namespace Go.Proofs.YtpkmciohehaboaaGreatDoor
open Go.RowKit

theorem kn_pay (f : Fr) (h : Kn f) : payL f false = f.data.data.toList := by
  unfold payL
  rw [h.pad]
  simp
set_option maxRecDepth 100000 in
set_option maxHeartbeats 8000000 in
theorem rput_kn (f : Fr) (w : World) (h : Kn f) : Calls Tryz.prog 18 #[frV f] w (RetBE w (frB f false) 0) := by
  obtain ⟨W0, hW0⟩ : ∃ W0, w.alloc (.cells f.cells 52) = W0 := ⟨_, rfl⟩
  obtain ⟨x, hx⟩ : ∃ x, w.heap.size = x := ⟨_, rfl⟩
  have b0 : Below w.heap.size w W0 := by rw [← hW0]; exact (Below.refl _ _).alloc (Nat.le_refl _) _
  have kx : W0.heap[x]? = some (.cells f.cells 52 (0, 0)) := by rw [← hW0, ← hx]; exact heapNew _ _
  have HF := Lib.hid (FrAt.of kx)
  have HMA := Lib.hid (rmay_kn f W0 h)
  have HPA := Lib.hid (fun w => rpay_kn f w h)
  have hkt := h.k
  have hst := h.st
  have hpl : f.data.data.toList.length = f.data.size := str_len f.data
  have hda := h.data
  rw [← hpl] at hda
  have hpy := kn_pay f h
  obtain ⟨P, hP⟩ : ∃ P, f.data.data.toList = P := ⟨_, rfl⟩
  have HFB : Hid (frB f false = be 3 P.length ++ [UInt8.ofNat f.ty, UInt8.ofNat f.fl] ++ be 4 f.st ++ P) := Lib.hid (by unfold frB; rw [hpy, hP])
  rw [hP] at HPA hda
  obtain ⟨R, hR⟩ : ∃ R, frB f false = R := ⟨_, rfl⟩
  rw [hR] at HFB ⊢
  clear hP hR hpy hpl h
  obtain ⟨ty, fl, st, data, pad⟩ := f
  dsimp only at hkt hst HFB
  have hty2 : ty < 256 := by unfold KnT at hkt; omega
  have hfl : fl < 256 := by unfold KnT at hkt; omega
  unfold frV at HMA HPA ⊢
  simp only [Fr.cells] at hW0 HMA HPA ⊢
  have HB := Lib.hid b0
  have HW0 := Lib.hid hW0
  have HX := Lib.hid hx
  clear hW0 hx b0 kx hkt
  have hs0 := HB.out.size
  have HPU : Hid (∀ w, Calls Tryz.prog 57 #[.int .u32 (P.length : Int), .int .i64 3] w (RetB w (be 3 P.length))) := Lib.hid fun w => r1put_any P.length 3 w (by omega) (.inl rfl)
  have HR4 : Hid (∀ w, Calls Tryz.prog 58 #[.int .i64 st] w (RetB w (be 4 st))) := Lib.hid fun w => r4_any st w (by omega)
  have ew : IntKind.u32.wrap (P.length : Int) = P.length := by rw [IntKind.wrap_u32]; omega
  have ew1 : IntKind.u8.wrap (ty : Int) = ty := by rw [IntKind.wrap_u8]; omega
  have ew2 : IntKind.u8.wrap (fl : Int) = fl := by rw [IntKind.wrap_u8]; omega
  have HTW := Lib.hid (bvs_two hty2 hfl)
  go_enter Tryz.func18, Tryz.ntmps18
  go_upto_region 1 with fail
  refine wp_named ?_
  intro W3 hW3
  obtain rfl : W3 = W0 := hW3.trans HW0.out
  rw [HX.out]
  clear hW3
  obtain ⟨c0, c1, c2, c3, c4, c5, c6, c7, c8, c9, c10, c11, hxl⟩ := HF.out
  simp only at c0 c1 c2 c3 c4
  go_wp2_with fail
  refine HMA.out.mono ?_
  rintro e1 w1 ⟨rfl, hb1⟩
  have HF1 := Lib.hid (HF.out.below hb1)
  have HB1 := Lib.hid (HB.out.trans (hb1.mono hs0))
  clear hb1 c0 c1 c2 c3 c4 c5 c6 c7 c8 c9 c10 c11 HMA
  obtain ⟨c0, c1, c2, c3, c4, c5, c6, c7, c8, c9, c10, c11, dl⟩ := HF1.out
  simp only at c0 c1 c2 c3 c4
  go_wp2_with fail
  refine (HPA.out _).mono ?_
  rintro e2 w2 ⟨v2, rfl, ho2, hb2⟩
  have HF2 := Lib.hid (HF1.out.below hb2)
  have HB2 := Lib.hid (HB1.out.trans (hb2.mono HB1.out.size))
  obtain ⟨A2, c2', rfl, hr2⟩ := ho2.rd
  have HR2 := Lib.hid hr2
  clear hb2 ho2 hr2 c0 c1 c2 c3 c4 c5 c6 c7 c8 c9 c10 c11 HPA
  go_wp2_with fail
  refine (HPU.out w2).mono ?_
  rintro e3 w3 ⟨v3, rfl, ho3, hb3⟩
  have HF3 := Lib.hid (HF2.out.below hb3)
  have HB3 := Lib.hid (HB2.out.trans (hb3.mono HB2.out.size))
  have HR3 := Lib.hid (HR2.out.below hb3 (Nat.le_refl _))
  have HS3 := Lib.hid (And.intro hb3.size HB2.out.size)
  unfold OwnB at ho3
  rw [be_length] at ho3
  have HO3 := Lib.hid ho3
  have HB23 := Lib.hid hb3
  clear hb3 ho3
  obtain ⟨c0, c1, c2, c3, c4, c5, c6, c7, c8, c9, c10, c11, dl3⟩ := HF3.out
  simp only at c0 c1 c2 c3 c4
  go_wp2_with (at_builtin; refine of_stop ?_)
  unfold Stop
  refine wpList_app (.tmp 18) (.tmp 25) tBytes rfl rfl (World.ownsRow.alloc HO3.out _) rfl (Rd.lit2 w3 #[.int .u8 (ty : Int), .int .u8 (fl : Int)] 5 2 (k := w3.heap.size) rfl rfl) rfl (by simp [Value.oneCell']) (le_maxLen (by omega)) (by omega) (by have := HS3.out.1; simp; omega) ?_
  intro v4 w4 hown4 hg4 _
  have HO4 : Hid (w4.ownsRow w2.heap.size 5 1 v4 5 (bvs (be 3 P.length ++ [UInt8.ofNat ty, UInt8.ofNat fl]))) := Lib.hid (by rw [bvs_append, HTW.out]; exact hown4)
  have HB34 := Lib.hid (Below.app ((Below.refl w2.heap.size w3).alloc HS3.out.1 _) (World.ownsRow.alloc HO3.out _) hg4 (Nat.le_refl _) (by have := HS3.out.1; simp; omega))
  have HB24 := Lib.hid (HB23.out.trans HB34.out)
  have HF4 := Lib.hid (HF2.out.keep HB24.out.size (HB24.out.block x HF2.out.lt))
  have HRP := Lib.hid (HR2.out.below HB24.out (Nat.le_refl _))
  obtain ⟨A4, c4', hv4, -, -, -, -⟩ := own_slice hown4
  rw [hv4] at HO4
  subst hv4
  clear hown4 hg4 HB34 HO3 HB3 HR3 c0 c1 c2 c3 c4 c5 c6 c7 c8 c9 c10 c11
  have hs24 := HB24.out.size
  obtain ⟨c0, c1, c2, c3, c4, c5, c6, c7, c8, c9, c10, c11, dl4⟩ := HF4.out
  simp only at c0 c1 c2 c3 c4
  go_wp2_with fail
  refine (HR4.out _).mono ?_
  rintro e6 w6 ⟨v6, rfl, ho6, hb6⟩
  have HO6 : Hid (w6.ownsRow w2.heap.size 5 1 (.slice A4 (3 + 2) c4') 5 (bvs (be 3 P.length ++ [UInt8.ofNat ty, UInt8.ofNat fl]))) := Lib.hid (own_kept4 HO4.out (Kept.of_below (F := fun _ => False) hb6) (fun _ _ h => h))
  have HR6 := Lib.hid (HRP.out.below (hb6.mono hs24) (Nat.le_refl _))
  have HB26 := Lib.hid (HB24.out.trans (hb6.mono hs24))
  have hs26 := HB26.out.size
  obtain ⟨A6, c6', rfl, hr6⟩ := ho6.rd
  have hr6' : Rd w6 w6.heap.size 1 A6 4 (bvs (be 4 st)) := by rw [be_length] at hr6; exact hr6
  have HS6 := Lib.hid hr6'
  rw [be_length]
  have hs2w := HS3.out.2
  clear hb6 ho6 hr6 hr6' c0 c1 c2 c3 c4 c5 c6 c7 c8 c9 c10 c11
  go_wp2_with (at_builtin; refine of_stop ?_)
  unfold Stop
  refine wpList_app (.tmp 27) (.tmp 30) tBytes rfl rfl HO6.out rfl HS6.out rfl (bvs_one _) (le_maxLen (by omega)) (by omega) (by omega) ?_
  intro v7 w7 hown7 hg7 _
  have HO7 := Lib.hid (And.intro hown7 hg7)
  have HR7 := Lib.hid (HR6.out.grown hg7 (by omega) (fun g hg => (World.ownsRow.lt HO6.out g hg).1))
  have hs7 := hg7.size
  obtain ⟨A7, c7', hv7, -, -, -, -⟩ := own_slice hown7
  rw [hv7] at HO7
  subst hv7
  clear hown7 hg7
  go_wp2_with (at_builtin; refine of_stop ?_)
  unfold Stop
  refine wpList_app (.tmp 32) (.tmp 33) tBytes rfl rfl HO7.out.1 rfl HR7.out rfl (bvs_one _) (le_maxLen (by omega)) (by omega) (by omega) ?_
  intro v8 w8 hown8 hg8 _
  have HE : Hid (RetBE w R 0 (.returned (.tuple #[v8, .int .i64 0])) w8) := Lib.hid (by
    refine ⟨v8, rfl, ?_, Below.app (Below.app (HB2.out.trans (HB26.out.mono hs2w)) HO6.out HO7.out.2 hs2w (by omega)) HO7.out.1 hg8 hs2w (by omega)⟩
    have h8 := hown8
    rw [← bvs_append, ← bvs_append] at h8
    rw [HFB.out]
    exact (own_of h8).base hs2w)
  obtain ⟨A8, c8', hv8, -, -, -, -⟩ := own_slice hown8
  subst hv8
  clear hown8 hg8
  go_wp2
  go_ret2
  exact HE.out
end Go.Proofs.YtpkmciohehaboaaGreatDoor

/- The walks of law23.Hello, law23.Ask (as meets asks). -/
namespace Go.Proofs.YtpkmciohehaboaaGreatDoor
open Go.RowKit

/-- A new row, written out. -/
theorem own_lit (w : World) (B : Nat) (cs : Array Value) (t : TypeId) (size n : Nat) (hs : cs.size = n * size) (hB : B ≤ w.heap.size) (hn : n ≤ 1000000) : (w.alloc (.cells cs t)).ownsRow B t size (.slice (some ⟨w.heap.size, 0, none⟩) n n) n cs.toList :=
  ⟨by simp [hs], .inr ⟨_, n, cs, rfl, hB, heapNew _ _, Nat.le_refl _, by unfold maxLen; omega, hs, by rw [List.take_of_length_le (by simp [hs])]⟩⟩
theorem kn_set : Kn setF := ⟨by unfold KnT setF; simp, by decide, rfl, fun _ => rfl, by decide⟩
/-- A client's first bytes. -/
def helloL : List UInt8 := prefL ++ frB setF false
theorem pref_conv (w : World) : (convert 48 48 (.slice (some ⟨w.heap.size, 0, none⟩) 24 24)).run Tryz.prog (w.alloc (.cells #[.int .u8 80, .int .u8 82, .int .u8 73, .int .u8 32, .int .u8 42, .int .u8 32, .int .u8 72, .int .u8 84, .int .u8 84, .int .u8 80, .int .u8 47, .int .u8 50, .int .u8 46, .int .u8 48, .int .u8 13, .int .u8 10, .int .u8 13, .int .u8 10, .int .u8 83, .int .u8 77, .int .u8 13, .int .u8 10, .int .u8 13, .int .u8 10] 5)) = .ok (.slice (some ⟨w.heap.size, 0, none⟩) 24 24) (w.alloc (.cells #[.int .u8 80, .int .u8 82, .int .u8 73, .int .u8 32, .int .u8 42, .int .u8 32, .int .u8 72, .int .u8 84, .int .u8 84, .int .u8 80, .int .u8 47, .int .u8 50, .int .u8 46, .int .u8 48, .int .u8 13, .int .u8 10, .int .u8 13, .int .u8 10, .int .u8 83, .int .u8 77, .int .u8 13, .int .u8 10, .int .u8 13, .int .u8 10] 5 (24, 25))) :=
  Lib.run_convert_bytes_const w 48 5 #[.int .u8 80, .int .u8 82, .int .u8 73, .int .u8 32, .int .u8 42, .int .u8 32, .int .u8 72, .int .u8 84, .int .u8 84, .int .u8 80, .int .u8 47, .int .u8 50, .int .u8 46, .int .u8 48, .int .u8 13, .int .u8 10, .int .u8 13, .int .u8 10, .int .u8 83, .int .u8 77, .int .u8 13, .int .u8 10, .int .u8 13, .int .u8 10] 24 24 Tryz.underlying48 Tryz.underlying5
theorem pref_cells (w : World) (fz : Nat × Nat) : ∀ j u, (bvs prefL)[j]? = some u → (w.alloc (.cells #[.int .u8 80, .int .u8 82, .int .u8 73, .int .u8 32, .int .u8 42, .int .u8 32, .int .u8 72, .int .u8 84, .int .u8 84, .int .u8 80, .int .u8 47, .int .u8 50, .int .u8 46, .int .u8 48, .int .u8 13, .int .u8 10, .int .u8 13, .int .u8 10, .int .u8 83, .int .u8 77, .int .u8 13, .int .u8 10, .int .u8 13, .int .u8 10] 5 fz)).cell? ((⟨w.heap.size, 0, none⟩ : Addr).add j) = some u := by
  intro j u hu
  rw [Addr.add_lit, Nat.zero_add]
  have h := heapNew w (.cells #[.int .u8 80, .int .u8 82, .int .u8 73, .int .u8 32, .int .u8 42, .int .u8 32, .int .u8 72, .int .u8 84, .int .u8 84, .int .u8 80, .int .u8 47, .int .u8 50, .int .u8 46, .int .u8 48, .int .u8 13, .int .u8 10, .int .u8 13, .int .u8 10, .int .u8 83, .int .u8 77, .int .u8 13, .int .u8 10, .int .u8 13, .int .u8 10] 5 fz)
  unfold World.cell?
  rw [h]
  dsimp only
  have e : (#[.int .u8 80, .int .u8 82, .int .u8 73, .int .u8 32, .int .u8 42, .int .u8 32, .int .u8 72, .int .u8 84, .int .u8 84, .int .u8 80, .int .u8 47, .int .u8 50, .int .u8 46, .int .u8 48, .int .u8 13, .int .u8 10, .int .u8 13, .int .u8 10, .int .u8 83, .int .u8 77, .int .u8 13, .int .u8 10, .int .u8 13, .int .u8 10] : Array Value) = (bvs prefL).toArray := rfl
  rw [e]
  simpa using hu
set_option maxRecDepth 100000 in
set_option maxHeartbeats 4000000 in
theorem hello_any (w : World) : Calls Tryz.prog 20 #[] w (RetB w helloL) := by
  have HP := Lib.hid (rput_kn setF w kn_set)
  have HFL := Lib.hid (show (frB setF false).length = 9 from by decide +kernel)
  obtain ⟨S, hS⟩ : ∃ S, frB setF false = S := ⟨_, rfl⟩
  have HS := Lib.hid hS
  rw [hS] at HP HFL
  unfold helloL
  rw [hS]
  unfold frV Fr.cells setF at HP
  dsimp only at HP
  clear hS
  go_enter Tryz.func20, Tryz.ntmps20
  go_wp2_with fail
  refine HP.out.mono ?_
  rintro e w1 ⟨v1, rfl, ho1, hb1⟩
  obtain ⟨A1, c1, rfl, hr1⟩ := ho1.rd
  have hs1 := hb1.size
  have hcv := pref_conv w1
  obtain ⟨-, b, o, rfl, hbl, hcc⟩ := hr1.bas (by have := HFL.out; omega)
  have HC : Hid (∀ (j : Nat) (u : Value), (bvs S)[j]? = some u → w1.cell? ⟨b, o + j, none⟩ = some u) := Lib.hid (fun j u hu => by
    have hj : j < S.length := by have := (List.getElem?_eq_some_iff.1 hu).1; rwa [bvs_length] at this
    obtain ⟨b', o', hA, -, h2⟩ := hr1.at_ (by have := HFL.out; omega)
    injection hA with hA
    injection hA with h3 h4
    subst h3 h4
    rw [h2 j (by omega)]
    exact hu)
  have HB1 := Lib.hid hb1
  clear ho1 hr1 hcc hb1
  go_wp2_with (at_builtin; refine of_stop ?_)
  unfold Stop
  obtain ⟨i, hi, hz, hsz, hby⟩ := info_parts tBytes.info
  refine wpList_append_grows _ rfl (.tmp 9) (.tmp 10) 48 rfl 5 i _ 1 1 Tryz.underlying48 hi hz hsz hby rfl (by decide) (some ⟨w1.heap.size, 0, none⟩) 24 24 (bvs prefL) rfl (fun h => by cases h) (by decide +kernel) (fun b hb j u hu => by
    injection hb with hb
    subst hb
    exact pref_cells w1 _ j u hu) ⟨b, o, none⟩ S.length c1 (bvs S) rfl (by rw [bvs_length, Nat.mul_one]) (fun j u hu => by
    rw [Addr.add_lit]
    exact Lib.cell?_alloc_marked _ (HC.out j u hu)) (bvs_one _) (by have := HFL.out; omega) (le_maxLen (by have := HFL.out; omega)) (by have := HFL.out; omega) ?_
  intro v2 w2 hown2 hg2
  have HE : Hid (RetB w (prefL ++ S) (.returned v2) w2) := Lib.hid ⟨v2, rfl, (by
    have h2 := own_base hown2 (show w.heap.size ≤ (w1.alloc _).heap.size by simp; omega)
    unfold OwnB
    rw [List.length_append, bvs_append]
    exact h2), (HB1.out.alloc hs1 _).grown hg2 (by simp; omega) (fun k hk => by cases hk)⟩
  obtain ⟨A2, c2, hv2, -, -, -, -⟩ := own_slice hown2
  subst hv2
  clear hown2 hg2
  go_wp2
  go_ret
  exact HE.out
/-- What meets asks. -/
def fMeth : Fd := ((⟨#[58, 109, 101, 116, 104, 111, 100]⟩, ⟨#[71, 69, 84]⟩), false)
def fSch : Fd := ((⟨#[58, 115, 99, 104, 101, 109, 101]⟩, ⟨#[104, 116, 116, 112]⟩), false)
def fAuth : Fd := ((⟨#[58, 97, 117, 116, 104, 111, 114, 105, 116, 121]⟩, ⟨#[104]⟩), false)
def fPath : Fd := ((⟨#[58, 112, 97, 116, 104]⟩, ⟨#[47]⟩), false)
def askL : List Fd := [fMeth, fSch, fAuth, fPath]
def blkL : List UInt8 := (E0.run askL).1
def askF : Fr := ⟨1, 5, 1, mkS blkL, 0⟩
theorem blkL_len : blkL.length ≤ 1000 := by decide +kernel
theorem kn_ask : Kn askF := ⟨by unfold KnT askF; simp, by decide, rfl, (fun h => absurd h (by decide)), (by
  show (mkS blkL).size ≤ _
  rw [mkS_size]
  have := blkL_len
  omega)⟩
set_option maxRecDepth 100000 in
set_option maxHeartbeats 8000000 in
theorem ask23_any (w : World) : Calls Tryz.prog 30 #[.int .i64 1, .string ⟨#[71, 69, 84]⟩, .string ⟨#[104]⟩, .string ⟨#[47]⟩, .slice none 0 0] w (RetB w (frB askF false)) := by
  have HN := Lib.hid (renew_any w)
  have HP := Lib.hid (fun w => rput_kn askF w kn_ask)
  have HFL := Lib.hid (show (frB askF false).length ≤ 2000 from by decide +kernel)
  obtain ⟨S, hS⟩ : ∃ S, frB askF false = S := ⟨_, rfl⟩
  rw [hS] at HP HFL ⊢
  unfold frV Fr.cells askF at HP
  dsimp only at HP
  clear hS
  have HOW := Lib.hid (fun (w0 w1 : World) (hB : w0.heap.size ≤ w1.heap.size) => own_lit w1 w0.heap.size (fds askL).toArray 26 3 4 (by decide +kernel) hB (by omega))
  go_enter Tryz.func30, Tryz.ntmps30
  go_wp2_with fail
  refine HN.out.mono ?_
  rintro e w1 ⟨rfl, henc, hb1⟩
  have hs1 := hb1.size
  have hel : w.heap.size < w1.heap.size := (Array.getElem?_eq_some_iff.1 henc).1
  go_wp2_with (at_builtin; refine of_stop ?_)
  unfold Stop
  refine wpList_app (.tmp 27) (.tmp 28) tFields rfl rfl (HOW.out w1 w1 (Nat.le_refl _)) rfl (show Rd _ 0 3 none 0 [] from ⟨rfl, fun h => absurd h (Nat.lt_irrefl 0)⟩) rfl (by simp) (le_maxLen (by omega)) (by omega) (by simp) ?_
  intro v2 w2 hown2 hg2 _
  rw [List.append_nil] at hown2
  have hb2 := Below.app ((Below.refl w1.heap.size w1).alloc (Nat.le_refl _) _) (HOW.out w1 w1 (Nat.le_refl _)) hg2 (Nat.le_refl _) (by simp)
  obtain ⟨A2, c2, rfl, -, -, hrd2, hbas2⟩ := own_slice hown2
  have henc2 : REnc w2 w.heap.size 4096 := (hb2.block _ hel).trans henc
  have HEN := Lib.hid (rencode_any (c := c2) askL w2 henc2 hrd2 (fun _ a ha e1 => by have := hbas2 a ha; omega) (by omega) (by decide +kernel))
  have HB2 := Lib.hid (hb1.trans (hb2.mono hs1))
  have hs2 := hb2.size
  clear hown2 hg2 hb2 hrd2 hbas2 henc2 henc hb1 HN HOW
  go_wp2_with fail
  refine HEN.out.mono ?_
  rintro e w3 ⟨v3, rfl, ho3, hk3⟩
  obtain ⟨A3, c3, rfl, hrd3⟩ := ho3.rd
  have e3 := run_str Tryz.underlying48 Tryz.underlying5 Tryz.underlying9 hrd3 c3
  rw [show (⟨((E0.run askL).1).toArray⟩ : ByteArray) = mkS blkL from rfl] at e3
  have HB3 : Hid (Below w.heap.size w w3) := Lib.hid (HB2.out.trans (hk3.below (fun k hk => by omega) (by omega)))
  obtain ⟨nb, hnb⟩ : ∃ nb, ((E0.run askL).1).length = nb := ⟨_, rfl⟩
  rw [hnb] at e3 ⊢
  clear hrd3 ho3 hk3 HEN hnb
  go_wp2_with fail
  refine (HP.out _).mono ?_
  rintro e w4 ⟨v4, rfl, ho4, hb4⟩
  have HE : Hid (RetB w S (.returned v4) w4) := Lib.hid ⟨v4, rfl, ho4.base HB3.out.size, HB3.out.trans (hb4.mono HB3.out.size)⟩
  obtain ⟨A4, c4, hv4, -, -, -, -⟩ := own_slice ho4
  subst hv4
  clear ho4 hb4 HP
  go_wp2
  go_ret
  exact HE.out
end Go.Proofs.YtpkmciohehaboaaGreatDoor

/- What meets asks: the plain facts. -/
namespace Go.Proofs.YtpkmciohehaboaaGreatDoor
open Go.RowKit Go.Maps

def tb0 : Tb := ⟨0, 0, []⟩
theorem ask_out : outD 0 1000 tb0 (mkS blkL).data.toList = (askL, 0, some tb0) := by kernel_rfl
theorem ask_gath : (restH (gathF fourK Gt.none askL).1.2) = [] := by decide +kernel
theorem ask_read : (readF askL).2 = 0 := by decide +kernel
theorem ask_auth : (readF askL).1.auth = ⟨#[104]⟩ := by decide +kernel
theorem ask_fields : (readF askL).1.fields = [] := by decide +kernel
end Go.Proofs.YtpkmciohehaboaaGreatDoor

/- The walk of the feed's iterator, with frames of settings (printed by gen_dh.py out of XCh2). -/
namespace Go.Proofs.YtpkmciohehaboaaGreatDoor
open Go.RowKit

set_option maxRecDepth 100000 in
set_option maxHeartbeats 8000000 in
theorem iter9 {x Bb most l m : Nat} (S : Nat → Prop) (fs : List (Fr × Bool)) (L : List UInt8) (J : Nat → World → Prop) (hm : most ≤ 16777215) (hg : ∀ p ∈ fs, Good9 most p)
    (hJ : ∀ k W W', J k W → Kept (fun b => b = x) W W' → J k W')
    (hY : ∀ k p W, J k W → fs[k]? = some p → YieldAt Fence.wide m Tryz.prog l #[.agg #[.int .i64 p.1.ty, .int .i64 p.1.fl, .int .i64 p.1.st, .string p.1.data, .int .i64 p.1.pad, .slice none 0 0, .int .i64 0, .int .i64 0, .int .i64 0, .int .i64 0, .int .i64 0, .bool false, .bool false, .int .i64 0, .int .i64 0]] W fun e W' => e = .returned (.bool true) ∧ J (k + 1) W' ∧ Kept S W W')
    (hSx : ¬ S x) (hSb : ¬ S Bb) (hBx : Bb ≠ x) (w : World) (h0 : ItRel x Bb most S fs L J w) :
    Calls Tryz.prog 129 #[.func (.yield l) #[] #[], .pointer (some ⟨Bb, 0, none⟩)] w (ItEnd x most S fs L J) := by
  have H0 := Lib.hid h0
  have HG := Lib.hid hg
  have HJ := Lib.hid hJ
  have HY := Lib.hid hY
  have HS := Lib.hid (And.intro hSx hSb)
  clear h0 hg hJ hY hSx hSb
  go_enter Tryz.func129, Tryz.ntmps129
  go_wp2_with fail
  go_loopw [] (fun wr => ItRel x Bb most S fs L J wr) (fun wr => ItMeas x wr)
  case atStart => exact H0.out
  case round =>
    obtain ⟨hbb, hbl, k, r, A, n, cap, hit⟩ := hrel
    have hlr := hit.rd.blen
    have c0 := hit.feed.c0
    have c2 := hit.feed.c2
    have hxl := hit.feed.lt
    obtain ⟨f0, nn, HT, hcase⟩ : ∃ (f0 : Fr) (nn : Nat), Hid (∀ w', Below wr.heap.size wr w' → Calls Tryz.prog 130 #[.slice A n cap, .int .i64 most] w' (TakePost w' f0 nn)) ∧ Hid ((nn = 0 ∧ ∀ p, fs[k]? = some p → n < 9 + (payL p.1 p.2).length) ∨ (∃ p, fs[k]? = some p ∧ f0 = p.1 ∧ nn = 9 + (payL p.1 p.2).length ∧ nn ≤ n)) := by
      have hrd : ∀ w', Below wr.heap.size wr w' → Rd w' w'.heap.size 1 A n (bvs r) := fun w' hb => (hit.rd.below hb (Nat.le_refl _)).more hb.size
      by_cases h9 : n < 9
      · exact ⟨zeroFr, 0, Lib.hid (fun w' hb => ftake_short most w' h9), Lib.hid (.inl ⟨rfl, fun p _ => by omega⟩)⟩
      · obtain ⟨p, gs, hgs⟩ : ∃ p gs, fs.drop k = p :: gs := by
          cases hd : fs.drop k with
          | nil =>
            have h1 := hit.pre.length_le
            rw [hd] at h1
            simp [strm] at h1
            rw [h1] at hlr
            simp at hlr
            omega
          | cons p gs => exact ⟨p, gs, rfl⟩
        have hpk : fs[k]? = some p := by
          have h1 := List.getElem?_drop (xs := fs) (i := k) (j := 0)
          rw [hgs] at h1
          simpa using h1.symm
        have hgd := HG.out p (List.mem_of_getElem? hpk)
        have hpre := hit.pre
        rw [hgs] at hpre
        have hhd := pre9 hgd hm hpre (by omega)
        by_cases hlt : n < 9 + (payL p.1 p.2).length
        · exact ⟨zeroFr, 0, Lib.hid (fun w' hb => ftake_part9 w' (hrd w' hb) hit.nc hit.cm (by omega) hhd hgd.len hlt hm), Lib.hid (.inl ⟨rfl, fun p2 hp2 => by rw [hpk] at hp2; injection hp2 with hp2; subst hp2; exact hlt⟩)⟩
        · exact ⟨p.1, 9 + (payL p.1 p.2).length, Lib.hid (fun w' hb => ftake9 w' (hrd w' hb) hit.nc hit.cm hgd hhd (by omega) hm (pre_whole hpre (by omega)).1), Lib.hid (.inr ⟨p, hpk, rfl, rfl, by omega⟩)⟩
    have HI := Lib.hid hit
    clear hit
    obtain ⟨ty, fl, st, data, pad⟩ := f0
    go_upto_region 0 with fail
    go_cut [3, 4, 5] (fun y3 y4 y5 wx => ∃ b3 b5, y3 = .pointer (some ⟨b3, 0, none⟩) ∧ y5 = .pointer (some ⟨b5, 0, none⟩) ∧ y4 = .int .i64 nn ∧ wx.heap[b3]? = some (.cells (Fr.cells ⟨ty, fl, st, data, pad⟩) 52 (0, 0)) ∧ wx.heap[b5]? = some (.cells #[.bool false, .int .i64 0, .int .i64 0] 128 (0, 0)) ∧ wr.heap.size ≤ b3 ∧ wr.heap.size ≤ b5 ∧ Below wr.heap.size wr wx)
    case first =>
      go_region_held3 (fun w' => w'.cell? ⟨Bb, 0, none⟩ = some (.pointer (some ⟨x, 0, none⟩)) ∧ w'.cell? ⟨x, 0, none⟩ = some (.int .i64 most) ∧ w'.cell? ⟨x, 2, none⟩ = some (.slice A n cap))
        (first | exact ⟨hbb, c0, c2⟩ | exact ⟨k0, k1, k2⟩ | (refine ⟨?_, ?_, ?_⟩ <;> (repeat (first | refine (far_row (by omega)).trans ?_ | refine (far_alloc (by first | omega | (simp only [World.size_alloc]; omega))).trans ?_)) <;> (first | exact k0 | exact k1 | exact k2 | exact hbb | exact c0 | exact c2)))
        (first
          | (go_at_call 130; refine calls_named ?_; intro W2 hW2; have hbw : Below wr.heap.size wr W2 := (by rw [hW2]; repeat (first | exact Below.refl _ _ | apply Below.drew | refine Below.alloc ?_ (by simp) _)); refine (HT.out _ hbw).mono ?_; rintro e3 w3 ⟨rfl, hb3⟩; have hbw3 := hbw.trans (hb3.mono hbw.size); have hs3 := hbw3.size; have k0 := (hbw3.cell (p := ⟨Bb, 0, none⟩) hbl).trans hbb; have k1 := (hbw3.cell (p := ⟨x, 0, none⟩) hxl).trans c0; have k2 := (hbw3.cell (p := ⟨x, 2, none⟩) hxl).trans c2; (try (have hz := ((hb3.block wr.heap.size (by rw [hW2]; simp <;> omega)).trans (by rw [hW2]; first | exact heapNew wr _ | exact two_first wr _ _) : w3.heap[wr.heap.size]? = some (.cells zeroFr.cells 52 (0, 0))))); (try (have hz := ((hb3.block (wr.heap.size + 1) (by rw [hW2]; simp <;> omega)).trans (by rw [hW2]; exact heapNew2 wr _ _) : w3.heap[wr.heap.size + 1]? = some (.cells zeroFr.cells 52 (0, 0))))); (try (have hy := ((hb3.block wr.heap.size (by rw [hW2]; simp <;> omega)).trans (by rw [hW2]; first | exact heapNew wr _ | exact two_first wr _ _) : w3.heap[wr.heap.size]? = some (.cells #[.bool false, .int .i64 0, .int .i64 0] 128 (0, 0))))); (try (have hy := ((hb3.block (wr.heap.size + 1) (by rw [hW2]; simp <;> omega)).trans (by rw [hW2]; exact heapNew2 wr _ _) : w3.heap[wr.heap.size + 1]? = some (.cells #[.bool false, .int .i64 0, .int .i64 0] 128 (0, 0))))); (try (have hl0 : wr.heap.size < w3.heap.size := (by have := hb3.size; rw [hW2] at this; simp at this; omega))); (try (have hl1 : wr.heap.size + 1 < w3.heap.size := (by have := hb3.size; rw [hW2] at this; simp at this; omega))); simp only [frV, Fr.cells, faultV])
          | (refine upon_of_wp (w := w3.alloc (.cells #[.bool false, .int .i64 0, .int .i64 0] 128)) ?_ (wp_store_row 52 (.tmp 3) (.tmp 16) rfl wr.heap.size _ rfl rfl 52 zeroFr.cells ((Below.heap_alloc _ _ _ hl0).trans hz) infoFrame rfl (by simp [Value.oneCell']) ?_); focus (go_simp; done))
          | (refine upon_of_wp (w := w3) ?_ (wp_store_row 52 (.tmp 3) (.tmp 16) rfl wr.heap.size _ rfl rfl 52 zeroFr.cells hz infoFrame rfl (by simp [Value.oneCell']) ?_); focus (go_simp; done))
          | (refine upon_of_wp (w := w3) ?_ (wp_store_row 52 (.tmp 3) (.tmp 16) rfl (wr.heap.size + 1) _ rfl rfl 52 zeroFr.cells hz infoFrame rfl (by simp [Value.oneCell']) ?_); focus (go_simp; done))
          | (refine upon_of_wp (w := (w3.alloc (.cells #[.bool false, .int .i64 0, .int .i64 0] 128)).setRow wr.heap.size #[.int .i64 ty, .int .i64 fl, .int .i64 st, .string data, .int .i64 pad, .slice none 0 0, .int .i64 0, .int .i64 0, .int .i64 0, .int .i64 0, .int .i64 0, .bool false]) ?_ (wp_store_row 128 (.tmp 5) (.tmp 18) rfl w3.heap.size _ rfl rfl 128 #[.bool false, .int .i64 0, .int .i64 0] ((setRow_other _ _ _ _ (Nat.ne_of_gt hl0)).trans (heapNew _ _)) infoFault rfl (by simp [Value.oneCell']) ?_); focus (go_simp; done))
          | (refine upon_of_wp (w := w3.setRow wr.heap.size #[.int .i64 ty, .int .i64 fl, .int .i64 st, .string data, .int .i64 pad, .slice none 0 0, .int .i64 0, .int .i64 0, .int .i64 0, .int .i64 0, .int .i64 0, .bool false]) ?_ (wp_store_row 128 (.tmp 5) (.tmp 18) rfl (wr.heap.size + 1) _ rfl rfl 128 #[.bool false, .int .i64 0, .int .i64 0] ((setRow_other _ _ _ _ (Nat.succ_ne_self _)).trans hy) infoFault rfl (by simp [Value.oneCell']) ?_); focus (go_simp; done))
          | (refine upon_of_wp (w := w3.setRow (wr.heap.size + 1) #[.int .i64 ty, .int .i64 fl, .int .i64 st, .string data, .int .i64 pad, .slice none 0 0, .int .i64 0, .int .i64 0, .int .i64 0, .int .i64 0, .int .i64 0, .bool false]) ?_ (wp_store_row 128 (.tmp 5) (.tmp 18) rfl wr.heap.size _ rfl rfl 128 #[.bool false, .int .i64 0, .int .i64 0] ((setRow_other _ _ _ _ (Nat.ne_of_lt (Nat.lt_succ_self _))).trans hy) infoFault rfl (by simp [Value.oneCell']) ?_); focus (go_simp; done))
          | (refine upon_of_wp (w := w3.alloc (.cells #[.int .i64 ty, .int .i64 fl, .int .i64 st, .string data, .int .i64 pad, .slice none 0 0, .int .i64 0, .int .i64 0, .int .i64 0, .int .i64 0, .int .i64 0, .bool false] 52)) ?_ (wp_store_row 128 (.tmp 5) (.tmp 18) rfl wr.heap.size _ rfl rfl 128 #[.bool false, .int .i64 0, .int .i64 0] ((Below.heap_alloc _ _ _ hl0).trans hy) infoFault rfl (by simp [Value.oneCell']) ?_); focus (go_simp; done)))
      all_goals
        go_wp2_with fail
        go_meet
        refine ⟨_, _, rfl, rfl, rfl, ?_, ?_, ?_, ?_, ?_⟩
        · first
          | exact two_first _ _ _
          | exact heapNew2 _ _ _
          | exact (setRow_other _ _ _ _ (Nat.ne_of_lt hl0)).trans (setRow_heap _ _ _ _ _ _ ((Below.heap_alloc _ _ _ hl0).trans hz))
          | exact (setRow_other _ _ _ _ (Nat.ne_of_lt (Nat.lt_succ_self _))).trans (setRow_heap _ _ _ _ _ _ hz)
          | exact (setRow_other _ _ _ _ (Nat.ne_of_gt hl0)).trans (heapNew _ _)
          | exact (setRow_other _ _ _ _ (Nat.succ_ne_self _)).trans (setRow_heap _ _ _ _ _ _ hz)
        · first
          | exact two_first _ _ _
          | exact heapNew2 _ _ _
          | exact setRow_heap _ _ _ _ _ _ ((setRow_other _ _ _ _ (Nat.ne_of_gt hl0)).trans (heapNew _ _))
          | exact setRow_heap _ _ _ _ _ _ ((setRow_other _ _ _ _ (Nat.succ_ne_self _)).trans hy)
          | exact setRow_heap _ _ _ _ _ _ ((Below.heap_alloc _ _ _ hl0).trans hy)
          | exact setRow_heap _ _ _ _ _ _ ((setRow_other _ _ _ _ (Nat.ne_of_lt (Nat.lt_succ_self _))).trans hy)
        · omega
        · omega
        · repeat' (first | exact hbw3 | refine below_row ?_ ?_ | refine Below.alloc ?_ ?_ _)
          all_goals ((try simp only [World.size_alloc]); omega)
    case rest =>
      rename World => W1
      obtain ⟨b3, b5, rfl, rfl, rfl, hk3, hk5, hb3, hb5, hbw⟩ := hcut
      have hfw := HI.out.feed.keep (hbw.block x hxl)
      have hbbw := (hbw.cell (p := ⟨Bb, 0, none⟩) hbl).trans hbb
      have HW := Lib.hid (And.intro hbw (And.intro hk3 hk5))
      obtain ⟨y0, y1, y2⟩ := flt_of hk5
      have hfz := fz_of hfw
      have hc2 := hfw.c2
      clear hk3 hk5 hbb c0 c2
      rcases hcase.out with ⟨hn0, hend⟩ | ⟨⟨⟨ty', fl', st', data', pad'⟩, pd⟩, hp, hfp, hnn, hle⟩
      · subst hn0
        have HE := Lib.hid hend
        clear hend hcase HT
        go_wp2_with fail
        refine bodyPost_ret (results_none rfl _ _ _) rfl ?_
        have hi := HI.out
        have hkp : Kept (fun b => b = x) wr W1 := Kept.of_below HW.out.1
        exact ⟨⟨_, rfl⟩, k, r, A, n, cap, ⟨hfw, (hi.rd.below HW.out.1 (Nat.le_refl _)).more HW.out.1.size, hi.blk, hi.nc, hi.cm, hi.kl, hi.pre, hi.all, HJ.out _ _ _ hi.j hkp⟩, HE.out⟩
      · simp only [Fr.mk.injEq] at hfp
        obtain ⟨rfl, rfl, rfl, rfl, rfl⟩ := hfp
        have hn1 : ((nn : Int) == 0) = false := by rw [beq_eq_false_iff_ne]; omega
        obtain ⟨A', hA', hsl⟩ := slice_from7 A n cap nn hle
        have HA := Lib.hid (And.intro hp (And.intro hnn (And.intro hle hA')))
        clear hp hnn hle hA' hcase HT
        go_upto_region 2 with fail
        go_cut [0] (fun y wx => y = .func (.yield l) #[] #[] ∧ wx = (W1.drew).setCell ⟨x, 2, none⟩ (.slice A' (n - nn) (cap - nn)))
        case first =>
          go_region
          all_goals go_wp2_with fail
          all_goals go_meet
          all_goals exact ⟨rfl, rfl⟩
        case rest =>
        obtain ⟨rfl, hcut⟩ := hcut
        have hfw2 : FeedAt wc x most (.slice A' (n - nn) (cap - nn)) := by rw [hcut]; exact FeedAt.set2 (w := W1.drew) hfw _
        have hbk : ∀ b, b ≠ x → wc.heap[b]? = W1.heap[b]? := fun b hb => by rw [hcut]; exact Below.heap_setCell _ _ _ _ hb
        have hkp2 : Kept (fun b => b = x) wr wc := by rw [hcut]; exact ((Kept.of_below (F := fun b => b = x) HW.out.1).drew).setCell rfl 2 _
        have hk3 := (hbk b3 (by omega)).trans HW.out.2.1
        have hk5 := (hbk b5 (by omega)).trans HW.out.2.2
        have hbbw2 : wc.cell? ⟨Bb, 0, none⟩ = some (.pointer (some ⟨x, 0, none⟩)) := (World.cell?_of_block (a := ⟨Bb, 0, none⟩) (hbk Bb hBx)).trans hbbw
        have H2 := Lib.hid (And.intro hfw2 (And.intro hkp2 (And.intro hk3 hk5)))
        clear hcut hbk hkp2 hk3 hfz hc2 hbbw hfw hsl y0 y1 y2 hn1
        have hfz := fz_of hfw2
        have hc3 := hfw2.c3
        obtain ⟨y0, y1, y2⟩ := flt_of hk5
        clear hk5 hfw2
        go_upto_region 4 with fail
        refine wp_named ?_
        intro W4 hW4
        have hfw4 : FeedAt W4 x most (.slice A' (n - nn) (cap - nn)) := by rw [hW4]; exact H2.out.1.set3
        have hbk4 : ∀ b, b ≠ x → W4.heap[b]? = wc.heap[b]? := fun b hb => by rw [hW4]; exact Below.heap_setCell _ _ _ _ hb
        have hkp4 : Kept (fun b => b = x) wr W4 := by rw [hW4]; exact H2.out.2.1.setCell rfl 3 _
        have hk3 := (hbk4 b3 (by omega)).trans H2.out.2.2.1
        have hk5 := (hbk4 b5 (by omega)).trans H2.out.2.2.2
        have hbb4 : W4.cell? ⟨Bb, 0, none⟩ = some (.pointer (some ⟨x, 0, none⟩)) := (World.cell?_of_block (a := ⟨Bb, 0, none⟩) (hbk4 Bb hBx)).trans hbbw2
        obtain ⟨fn, tmps, assign, body, hy, hR⟩ := HY.out k _ W4 (HJ.out _ _ _ HI.out.j hkp4) HA.out.1
        dsimp only at hy
        have H4 := Lib.hid (And.intro hfw4 (And.intro hkp4 hbb4))
        have HR := Lib.hid hR
        clear hW4 hbk4 hkp4 hfw4 hR hbbw2 y0 y1 y2 hfz hc3
        obtain ⟨z0, z1, z2, z3, z4, z5, z6, z7, z8, z9, z10, z11, -⟩ := FrAt.of hk3
        obtain ⟨y0, y1, y2⟩ := flt_of hk5
        simp only at z0 z1 z2 z3 z4
        refine (wpIn_wide (n := m + 1)).1 ?_
        gi_wp2_with fail
        refine HR.out.mono ?_
        rintro e W5 ⟨rfl, hJ5, hkS⟩
        have hfw5 : FeedAt W5 x most (.slice A' (n - nn) (cap - nn)) := H4.out.1.keep (hkS.block x H4.out.1.lt HS.out.1)
        have hs4 := H4.out.2.1.size
        have hs5 := hkS.size
        have hbb5 : W5.cell? ⟨Bb, 0, none⟩ = some (.pointer (some ⟨x, 0, none⟩)) := (hkS.cell (by omega) HS.out.2 0).trans H4.out.2.2
        have hend : ItRel x Bb most S fs L J W5 ∧ ItMeas x W5 < ItMeas x wr := by
          obtain ⟨hp, hnn, hle, hA'⟩ := HA.out
          have hi := HI.out
          have hdr : fs.drop k = (⟨ty, fl, st, data, pad⟩, pd) :: fs.drop (k + 1) := by
            obtain ⟨hk1, hk2⟩ := List.getElem?_eq_some_iff.1 hp
            rw [List.drop_eq_getElem_cons hk1, hk2]
          have hpre := hi.pre
          rw [hdr] at hpre
          have hw := pre_whole hpre (by show 9 + (payL ⟨ty, fl, st, data, pad⟩ pd).length ≤ r.length; omega)
          dsimp only at hw
          rw [← hnn] at hw
          have hrd5 := ((hi.rd.kept H4.out.2.1 (fun h0 a ha => (hi.blk h0 a ha).1)).kept hkS (fun h0 a ha => (hi.blk h0 a ha).2)).from7 hle hi.nc hA'
          refine ⟨⟨hbb5, by omega, k + 1, r.drop nn, A', n - nn, cap - nn, ⟨hfw5, hrd5, ?_, by have := hi.nc; omega, by have := hi.cm; omega, ?_, hw.2.2, ?_, hJ5⟩⟩, ?_⟩
          · intro h0 a ha
            have hnc := hi.nc
            rw [if_neg (by omega)] at hA'
            rw [hA'] at ha
            obtain ⟨b0, o0, rfl, -, -⟩ := hi.rd.at_ (by omega)
            simp only [Option.map_some, Option.some.injEq, Addr.add_lit] at ha
            subst ha
            have h5 := hi.blk (by omega) _ rfl
            exact h5
          · exact (List.getElem?_eq_some_iff.1 hp).1
          · rw [List.take_add_one, hp, Option.toList_some, strm_append, List.append_assoc, strm_cons, hi.all]
            congr 1
            rw [show strm ([] : List (Fr × Bool)) = [] from rfl, List.append_nil]
            exact hw.2.1
          · unfold ItMeas
            rw [hfw5.c2, hi.feed.c2]
            show n - nn < n
            omega
        have HE := Lib.hid hend
        have hc5 := hfw5.c3
        clear hend hfw5 hJ5 hkS hs4 hs5 z0 z1 z2 z3 z4 z5 z6 z7 z8 z9 z10 z11 y0 y1 y2 hk3 hk5 hbb4 HR
        gi_wp2
        change Code.wp _ (Code.cond (Operand.tmp 56) Code.ret Code.skip) _ _ _
        go_wp2
        go_roundw
        case rel => exact HE.out.1
        case measure => exact HE.out.2
end Go.Proofs.YtpkmciohehaboaaGreatDoor

/- The walk of Feed.Take, with frames of settings, behind any greeting (printed by gen_dh.py out of XCh3). -/

namespace Go.Proofs.YtpkmciohehaboaaGreatDoor
open Go.RowKit Go.Maps
attribute [local go_sem] Oper.semAt_some

set_option maxRecDepth 100000 in
set_option maxHeartbeats 8000000 in
theorem fdtake9 {x most n cap base m0 cap0 : Nat} {A A00 : Option Addr} {w0 : World} {v : Value} {left b : List UInt8} (fs : List (Fr × Bool)) (G : World → Prop) (Q : Ending → World → Prop) (hm : most ≤ 16777215) (hg : ∀ p ∈ fs, Good9 most p)
    (hover : Calls Tryz.prog 94 #[.pointer (some ⟨x, 0, none⟩)] w0 fun e w' => e = .returned (.bool false) ∧ w0 = w')
    (hgreet : Calls Tryz.prog 95 #[.pointer (some ⟨x, 0, none⟩), .slice A00 m0 cap0] w0 fun e w' => e = .returned (.tuple #[.slice A n cap, .bool true]) ∧ G w')
    (hall : ∀ w, G w → FeedAt w x most v ∧ OwnB w base v left ∧ base ≤ w.heap.size ∧ Rd w w.heap.size 1 A n (bvs b)) (hdj : 0 < n → ∀ a, A = some a → a.block ≠ x ∧ v.ownBlock ≠ some a.block) (hxb : x < base)
    (hpre : left ++ b <+: strm fs) (hlen : left.length + b.length ≤ 1099511627776) (hfl : fs.length ≤ 1048576)
    (hQ : ∀ w, G w → ∀ e w', TkPost w x most v fs (left ++ b) e w' → Q e w') :
    Calls Tryz.prog 59 #[.pointer (some ⟨x, 0, none⟩), .slice A00 m0 cap0] w0 Q := by
  have HOV := Lib.hid hover
  have HGR := Lib.hid hgreet
  have HALL := Lib.hid hall
  have HG := Lib.hid hg
  have HQ := Lib.hid hQ
  clear hover hgreet hall hg hQ
  refine (callsIn_wide (n := 100)).1 ?_
  refine callsIn_of_wp_marks Tryz.func59 rfl trivial ?_ rfl
  refine wpIn_wide.2 ?_
  simp only [Tryz.ntmps59, List.size_toArray, List.length_cons, List.length_nil, Nat.reduceAdd, Nat.reduceSub, Array.replicate_succ, Array.replicate_zero, List.push_toArray, List.append_toArray, List.nil_append, List.cons_append]
  go_wp2_with fail
  refine HOV.out.mono ?_
  rintro e1 w1 ⟨rfl, rfl⟩
  go_wp2_with fail
  refine HGR.out.mono ?_
  rintro e1 w ⟨rfl, hGw⟩
  obtain ⟨hf, hown, hbase, hr⟩ := HALL.out w hGw
  clear HGR HOV HALL
  have hbl := hr.blen
  have HIT := Lib.hid (fun w => items_any (p := some ⟨x, 0, none⟩) w)
  have c2 := hf.c2
  have hxl := hf.lt
  obtain ⟨A0, n0, hv, hn0⟩ : ∃ A0 c0, v = .slice A0 left.length c0 ∧ True := by
    obtain ⟨A0, c0, h, -⟩ := hown.rd
    exact ⟨A0, c0, h, trivial⟩
  subst hv
  have HF := Lib.hid hf
  have HO := Lib.hid hown
  have HR := Lib.hid (And.intro hr hdj)
  have hfz := fz_of hf
  clear hf hown hr hdj hn0
  go_wp2_with (at_builtin; refine wpList_app (.tmp 28) (.tmp 29) tBytes rfl rfl HO.out rfl HR.out.1 rfl (bvs_one _) (le_maxLen (by omega)) (by omega) hbase ?_; intro v2 w2 hown2 hg2 _; have hx2 : w2.heap[x]? = w.heap[x]? := hg2.block x hxl (fun e => by have := (World.ownsRow.lt HO.out x e.symm).1; omega); have hf2 : FeedAt w2 x most (.slice A0 left.length n0) := HF.out.keep hx2; have hc22 := hf2.c2; have hfz2 := fz_of hf2; obtain ⟨A2, cap2, rfl, hnc2, hcm2, -⟩ := own_slice hown2; have H2 := Lib.hid (And.intro hown2 (And.intro hg2 hf2)); clear hown2 hg2 hx2 hf2 hfz c2)
  obtain ⟨ob, hob⟩ : ∃ ob, w2.heap.size = ob := ⟨_, rfl⟩
  refine (HIT.out _).mono ?_
  rintro e4 w4 ⟨rfl, hw4⟩
  have hb4 : (((w2.setCell ⟨x, 2, none⟩ (.slice A2 (left.length + n) cap2)).alloc (.cells #[.slice none 0 0] 125)).heap.size = ob + 1) := by rw [← hob]; simp
  rw [hb4, hob]
  have hs2 : w.heap.size ≤ ob := by have := H2.out.2.1.size; omega
  have hf4 : FeedAt w4 x most (.slice A2 (left.length + n) cap2) := by
    rw [hw4]
    exact ((Below.heap_alloc _ _ _ (by simp; omega)).trans (Below.heap_alloc _ _ _ (by simp; omega))).trans (H2.out.2.2.set2 _)
  have hk6 : w4.heap[ob]? = some (.cells #[.slice none 0 0] 125 (0, 0)) := by
    rw [hw4, ← hob]
    have := two_first (w2.setCell ⟨x, 2, none⟩ (.slice A2 (left.length + n) cap2)) (.cells #[.slice none 0 0] 125) (.cells #[.pointer (some ⟨x, 0, none⟩)] 91)
    simpa [World.setCell] using this
  have hk7 : w4.heap[ob + 1]? = some (.cells #[.pointer (some ⟨x, 0, none⟩)] 91 (0, 0)) := by
    rw [hw4, ← hob]
    have := heapNew2 (w2.setCell ⟨x, 2, none⟩ (.slice A2 (left.length + n) cap2)) (.cells #[.slice none 0 0] 125) (.cells #[.pointer (some ⟨x, 0, none⟩)] 91)
    simpa [World.setCell] using this
  have hs4 : w4.heap.size = ob + 2 := by rw [hw4]; simp [hb4, ← hob]
  have hkp4 : Kept (fun b => b = x ∨ (Value.slice A0 left.length n0).ownBlock = some b) w w4 := by
    rw [hw4]
    exact (((Kept.refl _ w).grown H2.out.2.1 (fun k e => .inl (.inr e))).setCell (.inl rfl) 2 _).alloc _ |>.alloc _
  have hlb : (left ++ b).length = left.length + n := by rw [List.length_append, hbl]
  have ho2 : OwnB w2 base (.slice A2 (left.length + n) cap2) (left ++ b) := by
    unfold OwnB
    rw [hlb, bvs_append]
    exact H2.out.1
  have hkp24 : Kept (fun b => b = x) w2 w4 := by
    rw [hw4]
    exact (((Kept.refl (fun b => b = x) w2).setCell rfl 2 _).alloc _).alloc _
  have ho4 : OwnB w4 base (.slice A2 (left.length + n) cap2) (left ++ b) := own_kept4 ho2 hkp24 (fun k hk h => by have := (World.ownsRow.lt ho2 k hk).1; omega)
  have hr4 : Rd w4 w4.heap.size 1 A2 (left.length + n) (bvs (left ++ b)) := by
    obtain ⟨A', c', he, hrd⟩ := ho4.rd
    injection he with h1 h2 h3
    subst h1
    rw [hlb] at hrd
    exact hrd
  have hA2 : ∀ a, A2 = some a → x < a.block ∧ a.block < ob := by
    intro a ha
    subst ha
    have := World.ownsRow.lt ho2 a.block rfl
    omega
  have H4 := Lib.hid (And.intro hf4 (And.intro hk6 (And.intro hk7 (And.intro hkp4 (And.intro hr4 hA2)))))
  clear ho2 ho4 hkp24 hf4 hk6 hk7 hkp4 hr4 hA2 hw4 hb4 hob hc22 hfz2
  go_wp2_with fail
  refine range_wp rfl (enters_of Tryz.func129 (by kernel_rfl) rfl) ?_
  intro fn rec hrec
  rw [hs4] at hrec
  obtain ⟨W5, hW5⟩ : ∃ W5, (w4.alloc (.deferred (some []))).alloc (.loop (rec .ready none)) = W5 := ⟨_, rfl⟩
  have hb5 : Below w4.heap.size w4 W5 := by rw [← hW5]; exact ((Below.refl _ _).alloc (Nat.le_refl _) _).alloc (by simp) _
  have hl5 : W5.heap[ob + 3]? = some (.loop (rec .ready none)) := by rw [← hW5, show ob + 3 = w4.heap.size + 1 by omega]; exact heapNew2 _ _ _
  have hd5 : W5.heap[ob + 2]? = some (.deferred (some [])) := by rw [← hW5, ← hs4]; exact two_first _ _ _
  have hs5 : W5.heap.size = ob + 4 := by rw [← hW5]; simp [hs4]
  rw [hW5, hs4]
  obtain ⟨own, hownd⟩ : ∃ own : Nat → Prop, (fun b => (Value.slice A0 left.length n0).ownBlock = some b) = own := ⟨_, rfl⟩
  refine (iter9 (x := x) (Bb := ob + 1) (most := most) (l := ob + 3) (m := 0) (fun b => b = ob ∨ ob + 2 ≤ b) fs (left ++ b) (TkJ Tryz.prog w x ob own fs (rec .ready none)) hm HG.out (fun k W W' h hk => h.keep (by omega) hk) ?hY (by omega) (by omega) (by omega) W5 ?h0).mono ?hend
  case hY =>
    intro k p W hj hp
    have hlp := hj.lp
    rw [hrec] at hlp
    refine yield_at hlp rfl ?_
    obtain ⟨V, hV, hrow⟩ := hj.row
    have hlt := (Array.getElem?_eq_some_iff.1 hlp).1
    have HJJ := Lib.hid (And.intro hj (And.intro hV hrow))
    have HL := Lib.hid hlp
    clear hj hV hrow hlp
    gi_wp2_with fail
    refine ⟨(Below.heap_alloc _ _ _ hlt).trans HL.out, ?_⟩
    refine wpIn_named ?_
    intro W1 hW1
    have hne : ∀ b, b ≠ ob + 3 → b < W.heap.size → W1.heap[b]? = W.heap[b]? := fun b h1 h2 => by rw [hW1, World.putObj_heap_other h1]; exact Below.heap_alloc _ _ _ h2
    have hsz : W1.heap.size = W.heap.size + 1 := by rw [hW1]; simp
    have hnw : W1.heap[W.heap.size]? = some (.cells (itL p.1).toArray 130 (0, 0)) := by rw [hW1, World.putObj_heap_other (by omega)]; exact heapNew _ _
    have hlp1 : W1.heap[ob + 3]? = some (.loop (rec .busy none)) := by rw [hW1, World.putObj_heap_same (by simp; omega), hrec]
    have hkp1 : Kept (fun b => b = ob + 3) W W1 := ⟨by rw [hW1]; rfl, by rw [hW1]; rfl, by rw [hW1]; rfl, by omega, fun b h1 h2 => hne b h2 h1⟩
    have hob1 := (hne ob (by omega) (by omega)).trans HJJ.out.2.1
    have hrow1 := own_kept4 HJJ.out.2.2 hkp1 (fun q hq e => by have := (World.ownsRow.lt HJJ.out.2.2 q hq).1; omega)
    have hd := cell_at15 hnw
    have d0 := hd 0 _ rfl
    have d1 := hd 1 _ rfl
    have d2 := hd 2 _ rfl
    have d3 := hd 3 _ rfl
    have d4 := hd 4 _ rfl
    have d5 := hd 5 _ rfl
    have d6 := hd 6 _ rfl
    have d7 := hd 7 _ rfl
    have d8 := hd 8 _ rfl
    have d9 := hd 9 _ rfl
    have d10 := hd 10 _ rfl
    have d11 := hd 11 _ rfl
    have d12 := hd 12 _ rfl
    have d13 := hd 13 _ rfl
    have d14 := hd 14 _ rfl
    have e0 : W1.cell? ⟨ob, 0, none⟩ = some V := by unfold World.cell?; rw [hob1]; rfl
    have hobz := fz_of hob1
    have hkl : k < fs.length := (List.getElem?_eq_some_iff.1 hp).1
    have HW1 := Lib.hid (And.intro hne (And.intro hlp1 (And.intro hkp1 (And.intro hob1 (And.intro hrow1 hnw)))))
    have HS1 := Lib.hid hsz
    have hylt : W.heap.size < W1.heap.size := by omega
    have hoblt : ob < W1.heap.size := by omega
    have hob4 : ob + 4 ≤ W1.heap.size := by omega
    have HP := Lib.hid hp
    clear hne hlp1 hkp1 hob1 hrow1 hnw hd hW1 HL hsz hlt hp hl5 hd5 hb5 hW5
    have hk152 : (k + 1) * 144 ≤ 140737488355328 := by omega
    have HROW : Hid (∀ o, (W1.alloc o).ownsRow (ob + 4) 130 15 V k (itsL (fs.take k))) := Lib.hid (fun o => own_kept4 HW1.out.2.2.2.2.1 ((Kept.refl (fun _ => False) W1).alloc o) (fun _ _ h => h))
    gi_wp2_with (gi_at_builtin; refine of_stop ?_)
    unfold Stop
    refine wpListIn_app (.tmp 36) (.tmp 38) tItems rfl rfl (HROW.out _) rfl (heapNew _ _) rfl rfl (by simp [Value.oneCell']) (le_maxLen (by omega)) hk152 (by simp; omega) ?_
    intro v6 w6 hown6 hg6
    obtain ⟨A6, n6, rfl, -, -, -, -⟩ := own_slice hown6
    obtain ⟨v6, hv6⟩ : ∃ v6, Value.slice A6 (k + 1) n6 = v6 := ⟨_, rfl⟩
    rw [hv6] at hown6
    have hb6 : w6.heap[ob]? = W1.heap[ob]? := by
      refine (hg6.block ob (by simp; omega) (fun e => by have := (World.ownsRow.lt HW1.out.2.2.2.2.1 _ e.symm).1; omega)).trans ?_
      exact Below.heap_alloc _ _ _ hoblt
    have hl6 : w6.heap[ob + 3]? = W1.heap[ob + 3]? := by
      refine (hg6.block (ob + 3) (by simp; omega) (fun e => by have := (World.ownsRow.lt HW1.out.2.2.2.2.1 _ e.symm).1; omega)).trans ?_
      exact Below.heap_alloc _ _ _ (by omega)
    have hz6 := fz_of (hb6.trans HW1.out.2.2.2.1)
    have c6 : w6.cell? ⟨ob, 0, none⟩ = some V := by unfold World.cell?; rw [hb6.trans HW1.out.2.2.2.1]; rfl
    have hkp6 : Kept (fun b => b = ob ∨ ob + 2 ≤ b) W w6 := (((HW1.out.2.2.1.mono (fun b e => .inr (by omega))).alloc _).grown hg6 (fun q e => .inl (.inr (by have := (World.ownsRow.lt HW1.out.2.2.2.2.1 _ e).1; omega))))
    have hend : LoopIs (w6.setCell ⟨ob, 0, none⟩ v6) (ob + 3) (rec .busy none) ∧ TkJ Tryz.prog w x ob own fs (rec .ready none) (k + 1) ((w6.setCell ⟨ob, 0, none⟩ v6).putObj (ob + 3) (.loop (rec .ready none))) ∧ Kept (fun b => b = ob ∨ ob + 2 ≤ b) W ((w6.setCell ⟨ob, 0, none⟩ v6).putObj (ob + 3) (.loop (rec .ready none))) := by
      have hls : (w6.setCell ⟨ob, 0, none⟩ v6).heap[ob + 3]? = some (.loop (rec .busy none)) := (Below.heap_setCell _ _ _ _ (show ob + 3 ≠ ob by omega)).trans (hl6.trans HW1.out.2.1)
      have hkS : Kept (fun b => b = ob ∨ ob + 2 ≤ b) W ((w6.setCell ⟨ob, 0, none⟩ v6).putObj (ob + 3) (.loop (rec .ready none))) := (hkp6.setCell (.inl rfl) 0 v6).put (.inr (by omega)) _
      have hj := HJJ.out.1
      refine ⟨hls, ⟨World.putObj_heap_same (Array.getElem?_eq_some_iff.1 hls).1, ?_, ⟨v6, ?_, ?_⟩, hj.kp.trans hkS (fun b hb => .inr (by omega))⟩, hkS⟩
      · rw [World.putObj_heap_other (by omega)]
        refine (Below.heap_setCell _ _ _ _ (show ob + 2 ≠ ob by omega)).trans ?_
        refine (hg6.block (ob + 2) (by simp; omega) (fun e => by have := (World.ownsRow.lt HW1.out.2.2.2.2.1 _ e.symm).1; omega)).trans ?_
        refine (Below.heap_alloc _ _ _ (by omega)).trans ?_
        exact (HW1.out.1 (ob + 2) (by omega) (by have := HS1.out; omega)).trans hj.df
      · rw [World.putObj_heap_other (by omega)]
        exact set_b7 v6 (hb6.trans HW1.out.2.2.2.1)
      · rw [itsL_snoc HP.out]
        refine own_kept4 hown6 (((Kept.refl (fun b => b = ob ∨ b = ob + 3) w6).setCell (.inl rfl) 0 v6).put (.inr rfl) _) (fun q hq e => ?_)
        have := (World.ownsRow.lt hown6 q hq).1
        omega
    rw [← hv6] at hend
    have HE := Lib.hid hend
    clear hend hv6 hkp6 hb6 hl6 hg6 hown6 HROW hk152 d0 d1 d2 d3 d4 d5 d6 d7 d8 d9 d10 d11 d12 d13 d14 e0 hobz
    gi_wp2_with fail
    have h := HE.out
    simp only [hrec] at h ⊢
    exact ⟨h.1, h.2⟩
  case h0 =>
    obtain ⟨hf4, hk6, hk7, hkp4, hr4, hA2⟩ := H4.out
    have hnil : W5.ownsRow (ob + 4) 130 15 (.slice none 0 0) 0 (itsL (fs.take 0)) := ⟨rfl, .inl ⟨rfl, rfl⟩⟩
    refine ⟨?_, by omega, 0, left ++ b, A2, left.length + n, cap2, ⟨hf4.keep (hb5.block x (by omega)), (hr4.below hb5 (Nat.le_refl _)).more hb5.size, ?_, hnc2, hcm2, Nat.zero_le _, by simpa using hpre, by simp [strm], hl5, hd5, ⟨_, (hb5.block ob (by omega)).trans hk6, hnil⟩, ?_⟩⟩
    · unfold World.cell?; rw [hb5.block (ob + 1) (by omega), hk7]; rfl
    · intro _ a ha
      have := hA2 a ha
      omega
    · rw [← hownd]
      exact hkp4.same (Kept.of_below hb5)
  case hend =>
    rintro e W6 ⟨⟨v, rfl⟩, k, r, A7, n7, cap7, hit, hlast⟩
    refine ⟨⟨v, rfl⟩, hit.j.lp, ?_⟩
    rename_i a1 K1 hK1
    show K1 _ _
    refine hK1 _ _ ?_
    clear hK1 a1 K1
    refine wp_named ?_
    intro W7 hW7
    obtain ⟨V, hV, hrow⟩ := hit.j.row
    have hl6 := (Array.getElem?_eq_some_iff.1 hit.j.lp).1
    have hne : ∀ b, b ≠ ob + 3 → W7.heap[b]? = W6.heap[b]? := fun b h1 => by rw [hW7, World.putObj_heap_other (by omega)]
    have hkp7 : Kept (fun b => b = ob + 3) W6 W7 := ⟨by rw [hW7]; rfl, by rw [hW7]; rfl, by rw [hW7]; rfl, by rw [hW7]; simp, fun b _ h2 => hne b h2⟩
    have hf7 : FeedAt W7 x most (.slice A7 n7 cap7) := hit.feed.keep (hne x (by omega))
    have hr7 : Rd W7 W7.heap.size 1 A7 n7 (bvs r) := hit.rd.kept hkp7 (fun h0 a ha => by have := (hit.blk h0 a ha).2; omega)
    have hrow7 : W7.ownsRow (ob + 4) 130 15 V k (itsL (fs.take k)) := own_kept4 hrow hkp7 (fun q hq e => by have := (World.ownsRow.lt hrow q hq).1; omega)
    have hd7 := (hne (ob + 2) (by omega)).trans hit.j.df
    have hk7 : Kept (fun b => b = x ∨ (Value.slice A0 left.length n0).ownBlock = some b) w W7 := by
      have h1 := hit.j.kp.trans hkp7 (fun b e => .inr (by omega))
      rw [← hownd] at h1
      exact h1
    have hrl := hr7.blen
    have hs7 : ob + 4 ≤ W7.heap.size := by have := hkp7.size; omega
    obtain ⟨V1, V2, rfl, -, -, -, -⟩ := own_slice hrow7
    have e0 : W7.cell? ⟨ob, 0, none⟩ = some (.slice V1 k V2) := by unfold World.cell?; rw [hne ob (by omega), hV]; rfl
    have hfz := fz_of hf7
    have c2 := hf7.c2
    have c3 := hf7.c3
    have hx7 := hf7.lt
    have H7 := Lib.hid (And.intro hf7 (And.intro hr7 (And.intro hrow7 (And.intro hd7 (And.intro hk7 (And.intro hit hlast))))))
    have hrn : 0 + n7 ≤ maxLen := le_maxLen (by have := congrArg List.length hit.all; rw [List.length_append, List.length_append] at this; omega)
    have hrb : (0 + n7) * 1 ≤ 140737488355328 := by have := congrArg List.length hit.all; rw [List.length_append, List.length_append] at this; omega
    have hwb : w.heap.size ≤ W7.heap.size := by omega
    have hobl : ob < W7.heap.size := by omega
    have HOB := Lib.hid hV
    clear hV hrow hl6 hne hkp7 hf7 hr7 hrow7 hd7 hk7 hit hlast hW7 hl5 hd5 hb5 hW5 hs5 hownd hlb hrl
    go_wp2_with (at_builtin; refine of_stop ?_)
    unfold Stop
    refine wpList_app (.const (.slice none 0 0)) (.tmp 51) tBytes rfl rfl (World.ownsRow_nil W7 w.heap.size 5 1) rfl H7.out.2.1 rfl (bvs_one _) hrn hrb hwb ?_
    intro v8 w8 hown8 hg8 ho8
    obtain ⟨V3, V4, rfl, -, -, -, -⟩ := own_slice hown8
    have hb8 : ∀ b, b < W7.heap.size → w8.heap[b]? = W7.heap[b]? := fun b h => hg8.block b h (by simp [Value.ownBlock])
    have hf8 : FeedAt w8 x most (.slice A7 n7 cap7) := H7.out.1.keep (hb8 x hx7)
    have hfz8 := fz_of hf8
    have c28 := hf8.c2
    have e08 : w8.cell? ⟨ob, 0, none⟩ = some (.slice V1 k V2) := (World.cell?_of_block (a := ⟨ob, 0, none⟩) (hb8 ob hobl)).trans e0
    have H8 := Lib.hid (And.intro hown8 (And.intro hg8 (And.intro hb8 (And.intro hf8 ho8))))
    clear hown8 hg8 hb8 hf8 ho8 e0 hfz c2 c3 hrb hrn
    go_wp2_with fail
    refine leaves_mark (v := .slice V1 k V2) rfl (show (w8.setCell ⟨x, 2, none⟩ (.slice V3 n7 V4)).heap[ob + 2]? = some (.deferred (some [])) from (Below.heap_setCell _ _ _ _ (show ob + 2 ≠ x by omega)).trans ((H8.out.2.2.1 (ob + 2) (by omega)).trans H7.out.2.2.2.1)) (fun W => by simp [results, Tryz.results59, go_sem]) ?_
    obtain ⟨-, -, hrow7, hd7, hk7, hit, hlast⟩ := H7.out
    obtain ⟨hown8, hg8, hb8, hf8, ho8⟩ := H8.out
    have hrl : r.length = n7 := hit.rd.blen
    have hkS : Kept (fun b => b = x ∨ b = ob + 2) w8 ((w8.setCell ⟨x, 2, none⟩ (.slice V3 n7 V4)).putObj (ob + 2) (.deferred none)) := ((Kept.refl _ w8).setCell (.inl rfl) 2 _).put (.inr rfl) _
    have hkA : Kept (fun b => b = x ∨ b = ob + 2) W7 ((w8.setCell ⟨x, 2, none⟩ (.slice V3 n7 V4)).putObj (ob + 2) (.deferred none)) := ((Kept.refl (fun b => b = x ∨ b = ob + 2) W7).grown hg8 (fun q e => by simp [Value.ownBlock] at e)).same hkS
    refine HQ.out w hGw _ _ ⟨k, r, _, .slice V3 n7 V4, rfl, hit.kl, hit.all, hit.pre, fun p hp => by rw [hrl]; exact hlast p hp, ?_, ?_, ?_, ?_⟩
    · have h1 := own_kept4 hrow7 hkA (fun q hq e => by have := (World.ownsRow.lt hrow7 q hq).1; omega)
      exact own_base h1 (by omega)
    · have h1 := own_kept4 hown8 hkS (fun q hq e => ?_)
      · unfold OwnB
        rw [hrl]
        simpa using h1
      · rw [hq] at ho8
        rcases ho8 with h | h
        · simp [Value.ownBlock] at h
        · injection h with h; omega
    · exact FeedAt.keep (FeedAt.set2 hf8 _) (World.putObj_heap_other (by omega))
    · exact hk7.trans hkA (fun b e => by omega)
end Go.Proofs.YtpkmciohehaboaaGreatDoor
