/- The walks of drawbridgelaw08.awake and WindowNone. -/
import Derived.Test.YtoicclgcbemffaaWin6
import Derived.Test.YtoicclgcbemffaaWinNil
import Derived.Test.YtoicclgcbemffaaWinLaws
namespace Go.Proofs.Ytoicclgcbemffaa
open Go.RowKit Go.Maps

theorem bk0 (n : Int) (h0 : 0 ≤ n) (h1 : n ≤ 2147483647) : BkOk ⟨65535, n, []⟩ := ⟨(by decide : (0 : Int) ≤ 65535), (by decide : (65535 : Int) ≤ 2147483647), h0, h1, fun p hp => by cases hp⟩
theorem bk_open : openB ⟨65535, 100, []⟩ 1 = (0, ⟨65535, 100, [(1, 0)]⟩) := rfl
theorem bk_spend : spendB ⟨65535, 100, [(1, 0)]⟩ 1 60 = (0, ⟨65475, 100, [(1, -60)]⟩) := rfl
theorem bk_first : firstB ⟨65475, 100, [(1, -60)]⟩ 10 = (0, ⟨65475, 10, [(1, -60)]⟩) := rfl
theorem bk_grow : growB ⟨65475, 10, [(1, -60)]⟩ 3 1 = (4, ⟨65475, 10, [(1, -60)]⟩) := rfl
theorem bk_at : atF 65475 10 [(1, -60)] 1 = (-50, true) := by decide
theorem bk_room : roomF 65475 10 [(1, -60)] 1 = 0 := by decide
theorem bk1 : BkOk ⟨65535, 100, [(1, 0)]⟩ := ⟨by decide, by decide, by decide, by decide, by decide⟩
theorem bk2 : BkOk ⟨65475, 10, [(1, -60)]⟩ := ⟨by decide, by decide, by decide, by decide, by decide⟩
theorem But.up {g m B : Nat} {w0 w w' : World} (h : But g m w w') (hb : Below B w0 w) (h1 : B ≤ g) (h2 : B ≤ m) (hs : B ≤ w0.heap.size) : Below B w0 w' := hb.trans (h.below h1 h2 (Nat.le_trans hs hb.size))

set_option maxHeartbeats 1000000 in
theorem awake8_any (w : World) : Calls Try.prog 11 #[] w (RetT w) := by
  go_enter Try.func11, Try.ntmps11
  go_wp2_with fail
  refine (wnew_any 100 w (by decide) (by decide)).mono ?_
  rintro e w1 ⟨g, m, rfl, hwb, hg, hm, hb⟩
  have H := Lib.hid (And.intro hwb hb)
  clear hwb hb
  go_wp2_with fail
  refine (open_step (S := ⟨65535, 100, []⟩) H.out.1 (by decide) 1 (by decide)).mono ?_
  rintro e w2 ⟨rfl, hwb, hbut⟩
  rw [bk_open] at hwb ⊢
  have H2 := Lib.hid (And.intro hwb (hbut.up H.out.2 hg hm (Nat.le_refl _)))
  clear hwb hbut H
  go_wp2_with fail
  refine (spend_step (S := ⟨65535, 100, [(1, 0)]⟩) H2.out.1 bk1 (by decide) 1 60 (by decide)).mono ?_
  rintro e w3 ⟨rfl, hwb, hbut⟩
  rw [bk_spend] at hwb ⊢
  have H3 := Lib.hid (And.intro hwb (hbut.up H2.out.2 hg hm (Nat.le_refl _)))
  clear hwb hbut H2
  go_wp2_with fail
  refine (first_step (S := ⟨65475, 100, [(1, -60)]⟩) H3.out.1 10).mono ?_
  rintro e w4 ⟨rfl, hwb, hbut⟩
  rw [bk_first] at hwb ⊢
  have H4 := Lib.hid (And.intro hwb (hbut.up H3.out.2 hg hm (Nat.le_refl _)))
  clear hwb hbut H3
  go_wp2_with fail
  refine (wat_any 1 w4 H4.out.1 bk2.inv (by decide)).mono ?_
  rintro e w5 ⟨rfl, rfl⟩
  rw [bk_at]
  simp only [pairV]
  go_wp2_with fail
  refine (wroom_any 1 w4 H4.out.1 bk2.inv (by decide)).mono ?_
  rintro e w5 ⟨rfl, rfl⟩
  rw [bk_room]
  go_wp2_with fail
  refine (grow_step (S := ⟨65475, 10, [(1, -60)]⟩) H4.out.1 bk2 (by decide) 3 1 (by decide)).mono ?_
  rintro e w6 ⟨rfl, hwb, hbut⟩
  rw [bk_grow] at hwb ⊢
  have H6 := Lib.hid (And.intro hwb (hbut.up H4.out.2 hg hm (Nat.le_refl _)))
  clear hwb hbut H4
  go_wp2
  go_ret
  exact ⟨rfl, H6.out.2⟩

set_option maxHeartbeats 1000000 in
theorem none_any (s n : Int) (w : World) : Calls Try.prog 10 #[.int .i64 s, .int .i64 n] w (RetT w) := by
  go_enter Try.func10, Try.ntmps10
  go_wp2_with (first
    | (go_at_call 11; refine (awake8_any _).mono ?_; rintro e w1 ⟨rfl, hb⟩; have HB := Lib.hid hb; clear hb)
    | (go_at_call 28; refine (nil_Shut _ _).mono ?_; rintro e w9 ⟨rfl, rfl⟩)
    | (go_at_call 14; refine (nil_At _ _).mono ?_; rintro e w9 ⟨rfl, rfl⟩)
    | (go_at_call 15; refine (nil_Room _ _).mono ?_; rintro e w9 ⟨rfl, rfl⟩)
    | (go_at_call 26; refine (nil_Len _).mono ?_; rintro e w9 ⟨rfl, rfl⟩)
    | (go_at_call 29; refine (nil_Open _ _).mono ?_; rintro e w9 ⟨rfl, rfl⟩)
    | (go_at_call 30; refine (nil_Spend _ _ _).mono ?_; rintro e w9 ⟨rfl, rfl⟩)
    | (go_at_call 31; refine (nil_Grow _ _ _).mono ?_; rintro e w9 ⟨rfl, rfl⟩)
    | (go_at_call 27; refine (nil_First _ _).mono ?_; rintro e w9 ⟨rfl, rfl⟩))
  go_ret
  exact ⟨rfl, HB.out⟩
end Go.Proofs.Ytoicclgcbemffaa
