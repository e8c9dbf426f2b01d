/- The walk of drawbridgelaw08.does. -/
import Derived.Test.YtoicclgcbemffaaWin5
namespace Go.Proofs.Ytoicclgcbemffaa
open Go.RowKit Go.Maps

theorem But.alloc (g m : Nat) (w : World) (o : Obj) : But g m w (w.alloc o) := ⟨rfl, rfl, rfl, by simp, fun k hk _ _ => Below.heap_alloc _ _ _ hk⟩
theorem WB.alloc {w : World} {g m : Nat} {all first : Int} {L : List (Int × Int)} (h : WB w g m all first L) (o : Obj) : WB (w.alloc o) g m all first L :=
  h.keep (Below.heap_alloc _ _ _ h.lt.1) (Below.heap_alloc _ _ _ h.lt.2)

set_option maxHeartbeats 1000000 in
theorem does_any {g m : Nat} {S : Bk} (k s n : Int) (w : World) (h : WB w g m S.all S.first S.L) (hi : BkOk S) (hlen : S.L.length < 100000) (hs : (Lit.int .i64 s).wf = true) :
    Calls Try.prog 13 #[.pointer (some ⟨g, 0, none⟩), .agg #[.int .i64 k, .int .i64 s, .int .i64 n]] w (WStep g m w (doB S k s n)) := by
  have HB := Lib.hid (But.alloc g m w (.cells #[.int .i64 k, .int .i64 s, .int .i64 n] 29))
  have HW := Lib.hid (h.alloc (.cells #[.int .i64 k, .int .i64 s, .int .i64 n] 29))
  have HS := Lib.hid hs
  have HI := Lib.hid hi
  clear h hs hi
  by_cases h0 : k = 0
  · subst h0
    rw [show doB S 0 s n = openB S s from rfl]
    go_enter Try.func13, Try.ntmps13
    go_wp2_with fail
    refine (open_step HW.out hlen s HS.out).mono ?_
    rintro e w' ⟨rfl, hwb, hbut⟩
    have H := Lib.hid (And.intro hwb (HB.out.trans hbut))
    clear hwb hbut
    go_wp2
    go_ret
    exact ⟨rfl, H.out.1, H.out.2⟩
  · by_cases h1 : k = 1
    · subst h1
      rw [show doB S 1 s n = shutB S s from rfl]
      clear h0
      go_enter Try.func13, Try.ntmps13
      go_wp2_with fail
      refine (shut_step HW.out s HS.out).mono ?_
      rintro e w' ⟨rfl, hwb, hbut⟩
      have H := Lib.hid (And.intro hwb (HB.out.trans hbut))
      clear hwb hbut
      go_wp2
      go_ret
      exact ⟨rfl, H.out.1, H.out.2⟩
    · by_cases h2 : k = 2
      · subst h2
        rw [show doB S 2 s n = spendB S s n from rfl]
        clear h0 h1
        go_enter Try.func13, Try.ntmps13
        go_wp2_with fail
        refine (spend_step HW.out HI.out hlen s n HS.out).mono ?_
        rintro e w' ⟨rfl, hwb, hbut⟩
        have H := Lib.hid (And.intro hwb (HB.out.trans hbut))
        clear hwb hbut
        go_wp2
        go_ret
        exact ⟨rfl, H.out.1, H.out.2⟩
      · by_cases h3 : k = 3
        · subst h3
          rw [show doB S 3 s n = growB S s n from rfl]
          clear h0 h1 h2
          go_enter Try.func13, Try.ntmps13
          go_wp2_with fail
          refine (grow_step HW.out HI.out hlen s n HS.out).mono ?_
          rintro e w' ⟨rfl, hwb, hbut⟩
          have H := Lib.hid (And.intro hwb (HB.out.trans hbut))
          clear hwb hbut
          go_wp2
          go_ret
          exact ⟨rfl, H.out.1, H.out.2⟩
        · by_cases h4 : k = 4
          · subst h4
            rw [show doB S 4 s n = firstB S n from rfl]
            clear h0 h1 h2 h3
            go_enter Try.func13, Try.ntmps13
            go_wp2_with fail
            refine (first_step HW.out n).mono ?_
            rintro e w' ⟨rfl, hwb, hbut⟩
            have H := Lib.hid (And.intro hwb (HB.out.trans hbut))
            clear hwb hbut
            go_wp2
            go_ret
            exact ⟨rfl, H.out.1, H.out.2⟩
          · have hd : doB S k s n = (0, S) := by unfold doB; rw [if_neg h0, if_neg h1, if_neg h2, if_neg h3, if_neg h4]
            rw [hd]
            have e0 : (k == 0) = false := by simpa using h0
            have e1 : (k == 1) = false := by simpa using h1
            have e2 : (k == 2) = false := by simpa using h2
            have e3 : (k == 3) = false := by simpa using h3
            have e4 : (k == 4) = false := by simpa using h4
            clear hd h0 h1 h2 h3 h4
            go_enter Try.func13, Try.ntmps13
            go_wp2
            go_ret
            exact ⟨rfl, HW.out, HB.out⟩
end Go.Proofs.Ytoicclgcbemffaa
