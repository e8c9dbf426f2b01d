/- The walks of drawbridgeref08.Shut, Spend, Grow. -/
import Derived.Test.YtoicclgcbemffaaWinRef2
import Derived.Test.YtoicclgcbemffaaWinLaws
import Derived.Deep.Onto
namespace Go.Proofs.Ytoicclgcbemffaa
open Go.RowKit Go.Maps

/-- The rows that stay so far. -/
def ShRel (W : World) (S : Bk) (s : Int) (lv iv : Value) (wr : World) : Prop :=
  ∃ k : Nat, iv = .int .i64 k ∧ k ≤ S.L.length ∧ wr.ownsRow W.heap.size 75 2 lv (delL (S.L.take k) s).length (ents S.first (delL (S.L.take k) s)) ∧ Below W.heap.size W wr
theorem del_snoc_ne {L : List (Int × Int)} {k : Nat} {s : Int} {p : Int × Int} (hp : L[k]? = some p) (h : p.1 ≠ s) : delL (L.take (k + 1)) s = delL (L.take k) s ++ [p] := by
  rw [List.take_add_one, hp]
  unfold delL
  simp [h]
theorem del_snoc_eq {L : List (Int × Int)} {k : Nat} {s : Int} {p : Int × Int} (hp : L[k]? = some p) (h : p.1 = s) : delL (L.take (k + 1)) s = delL (L.take k) s := by
  rw [List.take_add_one, hp]
  unfold delL
  simp [h]

set_option maxHeartbeats 2000000 in
theorem rshut_any {B r c : Nat} {S : Bk} {A : Option Addr} (s : Int) (w : World) (h : RS w B r S A c) (hl : S.L.length < 100000) :
    Calls Try.prog 40 #[.pointer (some ⟨r, 0, none⟩), .int .i64 s] w fun e w' => e = .returned (.tuple #[]) ∧ (∃ A c, RS w' B r (shutB S s).2 A c) ∧ Far r A w w' := by
  have H := Lib.hid h
  have hlo := h.lo
  have hrlt := h.lt
  clear h
  go_enter Try.func40, Try.ntmps40
  go_wp2
  go_loopw [4, 5] (ShRel w S s) (fun _ i _ => S.L.length - (intOf i).toNat)
  case atStart => exact ⟨0, rfl, by omega, by rw [List.take_zero]; exact ⟨rfl, .inl ⟨rfl, rfl⟩⟩, Below.refl _ _⟩
  case round =>
    obtain ⟨k, rfl, hk, hown, hbel⟩ := hrel
    have HR0 := H.out.keep (fun j _ hj => hbel.block j hj)
    obtain ⟨c0, c1, c2⟩ := HR0.cells
    have hfr := HR0.free 2
    have HO := Lib.hid hown
    have HB := Lib.hid hbel
    have HR := Lib.hid HR0
    have hs := hbel.size
    clear hown hbel HR0
    by_cases hlt : k < S.L.length
    · obtain ⟨p, hp⟩ : ∃ p, S.L[k]? = some p := ⟨_, List.getElem?_eq_getElem hlt⟩
      obtain ⟨g, rfl, -, -, e0, e1, -⟩ := HR.out.at_ hp
      obtain ⟨p1, p2⟩ := p
      have HP := Lib.hid hp
      have hlen : (delL (S.L.take k) s).length ≤ k := Nat.le_trans (del_len_le _ _) (List.length_take_le _ _)
      simp only at e0 e1
      clear hp c0 c1
      by_cases he : p1 = s
      · have HE := Lib.hid he
        have en : (p1 != s) = false := by simpa using he
        clear he
        go_wp2
        go_roundw
        case rel => exact ⟨k + 1, by go_num, by omega, by rw [del_snoc_eq HP.out HE.out]; exact HO.out, HB.out⟩
        case measure => simp [intOf]; omega
      · have HE := Lib.hid he
        have en : (p1 != s) = true := by simpa using he
        clear he
        go_wp2_with (at_builtin; refine wpList_app (.tmp 25) (.tmp 33) tEnts rfl rfl (HO.out.alloc _) rfl (Rd.two _ _ _ _ _ rfl) rfl (two_one _ _) (le_maxLen (by omega)) (by omega) (by simp; omega) ?_; intro v3 w3 hown3 hg3 _)
        have hb3 := Below.app (HB.out.alloc hs _) (HO.out.alloc _) hg3 (Nat.le_refl _) (by simp; omega)
        go_roundw
        case rel => exact ⟨k + 1, by go_num, by omega, by rw [del_snoc_ne HP.out HE.out, List.length_append, ents_app]; exact hown3, hb3⟩
        case measure => simp [intOf]; omega
    · obtain rfl : k = S.L.length := by omega
      obtain ⟨A4, c4, rfl, -, -, -, hbase⟩ := own_slice HO.out
      rw [List.take_length] at HO
      rw [List.take_length]
      go_wp2
      go_end0
      refine ⟨rfl, HR.out.store (S' := (shutB S s).2) (World.ownsRow.mono HO.out (by omega)) ?_ rfl rfl (once_del HR.out.once s), (Far.of_below HB.out).setR _ _⟩
      intro e
      cases A4 with
      | none => cases e
      | some a => have := hbase a rfl; simp [Value.ownBlock] at e; omega

/-- A number at a place of the row. -/
theorem ents_upd (b : Int) {s x : Int} : ∀ {L : List (Int × Int)} {i : Nat} {y : Int}, Once L → L[i]? = some (s, y) → (ents b L).set (i * 2 + 1) (.int .i64 (b + x)) = ents b (upd L s x) := by
  intro L
  induction L with
  | nil => intro i y _ h; simp at h
  | cons p L ih =>
    intro i y ho h
    have hn := List.nodup_cons.1 (show ((p.1 :: L.map (·.1)).Nodup) from ho)
    cases i with
    | zero =>
      simp only [List.getElem?_cons_zero, Option.some.injEq] at h
      subst h
      have hL : upd L s x = L := by
        unfold upd
        conv => rhs; rw [← List.map_id L]
        apply List.map_congr_left
        intro q hq
        have : q.1 ≠ s := fun e => hn.1 (List.mem_map.2 ⟨q, hq, e⟩)
        simp [this]
      rw [show upd ((s, y) :: L) s x = (if ((s, y) : Int × Int).1 == s then (s, x) else (s, y)) :: upd L s x from rfl, hL]
      simp [ents_cons]
    | succ i =>
      have hi : L[i]? = some (s, y) := by simpa using h
      have hp : p.1 ≠ s := fun e => hn.1 (by rw [e]; exact List.mem_map.2 ⟨(s, y), List.mem_of_getElem? hi, rfl⟩)
      rw [show upd (p :: L) s x = (if p.1 == s then (s, x) else p) :: upd L s x from rfl]
      have e : (p.1 == s) = false := by simpa using hp
      rw [e]
      simp only [Bool.false_eq_true, if_false, ents_cons]
      rw [show (i + 1) * 2 + 1 = (i * 2 + 1) + 1 + 1 by omega]
      simp only [List.set_cons_succ]
      rw [ih hn.2 hi]
theorem put_upd {L : List (Int × Int)} {s y x : Int} (h : look L s = some y) : putL L s x = upd L s x := by unfold putL; rw [h]; rfl
/-- The book behind a store into its row. -/
theorem RS.upd {w : World} {B r c g : Nat} {S : Bk} {i : Nat} {s y x : Int} (h : RS w B r S (some ⟨g, 0, none⟩) c) (hi : S.L[i]? = some (s, y)) (v : Value) (hv : v = .int .i64 (S.first + x)) :
    RS (w.setCell ⟨g, i * 2 + 1, none⟩ v) B r { S with L := Go.Proofs.Ytoicclgcbemffaa.upd S.L s x } (some ⟨g, 0, none⟩) c := by
  subst hv
  have hne := h.ne _ rfl
  have hrow := h.row
  have hlt : i < S.L.length := (List.getElem?_eq_some_iff.1 hi).1
  have hlen := upd_length S.L s x
  refine ⟨?_, ?_, h.ne, h.lo, ?_⟩
  · simp only [hlen]
    rw [Below.heap_setCell _ _ _ _ (by simpa using Ne.symm hne)]
    exact h.book
  · have := (World.ownsRow.stored hrow (i * 2 + 1) (.int .i64 (S.first + x))).1
    rw [ents_upd S.first h.once hi] at this
    simp only [hlen]
    exact this
  · unfold Once
    rw [upd_keys]
    exact h.once
theorem RS.setAll {w : World} {B r c : Nat} {S : Bk} {A : Option Addr} (h : RS w B r S A c) (v : Int) : RS (w.setCell ⟨r, 0, none⟩ (.int .i64 v)) B r { S with all := v } A c := by
  refine ⟨?_, ?_, h.ne, h.lo, h.once⟩
  · simp only [World.setCell, Array.getElem?_modify, if_true]
    rw [h.book]; rfl
  · exact own_keep h.row fun g hg => Below.heap_setCell _ _ _ _ (fun e => by
      cases A with
      | none => cases hg
      | some a => simp only [Value.ownBlock] at hg; injection hg with hg; exact h.ne a rfl (hg.trans e))

set_option maxHeartbeats 2000000 in
theorem rspend_any {B r c : Nat} {S : Bk} {A : Option Addr} (s n : Int) (w : World) (h : RS w B r S A c) (hok : BkOk S) (hl : S.L.length < 100000) :
    Calls Try.prog 41 #[.pointer (some ⟨r, 0, none⟩), .int .i64 s, .int .i64 n] w (WRef B r A w (spendB S s n)) := by
  have H := Lib.hid h
  by_cases h0 : s = 0
  · subst h0
    have HC := Lib.hid (rfind_any 0 w h hl)
    rw [show spendB S 0 n = (4, S) from rfl]
    clear h hok
    go_enter Try.func41, Try.ntmps41
    go_wp2_with fail
    refine HC.out.mono ?_
    rintro e w1 ⟨⟨hlk, rfl⟩ | ⟨i, x, hi, hlk, rfl⟩, rfl⟩
    all_goals clear hlk
    all_goals go_wp2
    all_goals go_ret
    all_goals exact ⟨rfl, ⟨_, _, H.out⟩, Far.refl _ _ _⟩
  have e0 : (s == 0) = false := by simpa using h0
  cases hk : look S.L s with
  | none =>
    have HC := Lib.hid (rfind_none s w h hl hk)
    have hn : spendB S s n = (4, S) := by unfold spendB; rw [if_neg h0, hk]
    rw [hn]
    clear hn h h0 hk hok
    go_enter Try.func41, Try.ntmps41
    go_wp2_with fail
    refine HC.out.mono ?_
    rintro e w1 ⟨rfl, rfl⟩
    go_wp2; go_ret; exact ⟨rfl, ⟨_, _, H.out⟩, Far.refl _ _ _⟩
  | some x =>
    have HC := Lib.hid (rfind_some s x w h hl hk)
    have HR := Lib.hid (rroom_any s w h hl)
    have hro : roomB S s = max 0 (min (S.first + x) S.all) := by unfold roomB; rw [if_neg h0, hk]
    have hn : spendB S s n = if n < 0 ∨ roomB S s < n then (11, S) else (0, { S with all := S.all - n, L := putL S.L s (x - n) }) := by unfold spendB; rw [if_neg h0, hk]
    have a0 := hok.all0
    have a1 := hok.all1
    have f0 := hok.first0
    obtain ⟨x1, x2⟩ := hok.off _ (look_mem hk)
    simp only at x1 x2
    by_cases hneg : n < 0
    · rw [hn, if_pos (.inl hneg)]
      clear hn h h0 hk hok hro HR
      go_enter Try.func41, Try.ntmps41
      go_wp2_with fail
      refine HC.out.mono ?_
      rintro e w1 ⟨i, hi, hlt, rfl, rfl⟩
      clear hi
      go_wp2; go_ret; exact ⟨rfl, ⟨_, _, H.out⟩, Far.refl _ _ _⟩
    by_cases hbig : roomB S s < n
    · rw [hn, if_pos (.inr hbig)]
      have hnn : 0 ≤ n := by omega
      generalize roomB S s = ro at *
      clear hn h h0 hk hok hro hneg
      go_enter Try.func41, Try.ntmps41
      go_wp2_with fail
      refine HC.out.mono ?_
      rintro e w1 ⟨i, hi, hlt, rfl, rfl⟩
      clear hi
      go_wp2_with fail
      refine HR.out.mono ?_
      rintro e w1 ⟨rfl, rfl⟩
      go_wp2; go_ret; exact ⟨rfl, ⟨_, _, H.out⟩, Far.refl _ _ _⟩
    rw [hn, if_neg (by omega), put_upd hk]
    have hnn : 0 ≤ n := by omega
    have hna : n ≤ S.all := by omega
    have hnr : n ≤ roomB S s := by omega
    obtain ⟨c0, c1, c2⟩ := h.cells
    have hfr := h.free 0
    have hlo := h.lo
    generalize roomB S s = ro at *
    clear hn h h0 hk hok hro hneg hbig
    go_enter Try.func41, Try.ntmps41
    go_wp2_with fail
    refine HC.out.mono ?_
    rintro e w1 ⟨i, hi, hlt, rfl, rfl⟩
    obtain ⟨g, rfl, hg, hgB, q0, q1, qf⟩ := H.out.at_ hi
    have qf1 := qf (i * 2 + 1)
    simp only at q0 q1
    have hner : g ≠ r := by have := H.out.ne _ rfl; simpa using this
    have HI := Lib.hid hi
    clear hi qf
    go_wp2_with fail
    refine HR.out.mono ?_
    rintro e w1 ⟨rfl, rfl⟩
    go_wp2
    go_still_tail 17, (by kernel_rfl)
    change wpList _ _ _ _ _ w.drew
    have HD : Hid (RS w.drew B r S (some ⟨g, 0, none⟩) c) := Lib.hid (H.out.keep (fun _ _ _ => rfl))
    go_wp2
    go_ret
    refine ⟨rfl, ⟨_, _, (HD.out.upd HI.out _ (val_eq ?_)).setAll _⟩, ((Far.refl _ _ _).drew.setA _ _).setR _ _⟩
    first | omega | (rw [IntWalk.i64_in _ ⟨by omega, by omega⟩]; omega)

set_option maxHeartbeats 2000000 in
theorem rgrow_any {B r c : Nat} {S : Bk} {A : Option Addr} (s n : Int) (w : World) (h : RS w B r S A c) (hok : BkOk S) (hl : S.L.length < 100000) :
    Calls Try.prog 42 #[.pointer (some ⟨r, 0, none⟩), .int .i64 s, .int .i64 n] w (WRef B r A w (growB S s n)) := by
  have H := Lib.hid h
  by_cases ha : n < 1 ∨ 2147483647 < n
  · have hn : growB S s n = (1, S) := by unfold growB; rw [if_pos ha]
    rw [hn]
    clear h hok
    by_cases h1 : n < 1
    · clear ha
      go_enter Try.func42, Try.ntmps42
      go_wp2; go_ret; exact ⟨rfl, ⟨_, _, H.out⟩, Far.refl _ _ _⟩
    · have h2 : 2147483647 < n := by omega
      clear ha
      go_enter Try.func42, Try.ntmps42
      go_wp2; go_ret; exact ⟨rfl, ⟨_, _, H.out⟩, Far.refl _ _ _⟩
  have n1 : 1 ≤ n := by omega
  have n2 : n ≤ 2147483647 := by omega
  have a0 := hok.all0
  have a1 := hok.all1
  have f0 := hok.first0
  obtain ⟨c0, c1, c2⟩ := h.cells
  have hfr := h.free 0
  have hlo := h.lo
  have HAT := Lib.hid (rat_any s w h hl)
  by_cases h0 : s = 0
  · subst h0
    have HC := Lib.hid (rfind_any 0 w h hl)
    have hn : growB S 0 n = if 2147483647 - n < S.all then (11, S) else (0, { S with all := S.all + n }) := by unfold growB; rw [if_neg ha, if_pos rfl]
    have HP := Lib.hid (show pairV (atB S 0) = .tuple #[.int .i64 S.all, .bool true] from rfl)
    rw [hn]
    clear hn ha h hok
    by_cases hb : 2147483647 - n < S.all
    all_goals
      first | rw [if_pos hb] | rw [if_neg hb]
      go_enter Try.func42, Try.ntmps42
      go_wp2_with fail
      refine HC.out.mono ?_
      rintro e w1 ⟨⟨hlk, rfl⟩ | ⟨i, x, hi, hlk, rfl⟩, rfl⟩
      all_goals
        clear hlk
        go_wp2_with fail
        refine HAT.out.mono ?_
        rintro e w1 ⟨rfl, rfl⟩
        rw [HP.out]
        go_wp2
        go_ret
        first
          | exact ⟨rfl, ⟨_, _, H.out⟩, Far.refl _ _ _⟩
          | exact ⟨rfl, ⟨_, _, H.out.setAll _⟩, (Far.refl _ _ _).setR _ _⟩
  have e0 : (s == 0) = false := by simpa using h0
  have e1 : (s != 0) = true := by simpa using h0
  cases hk : look S.L s with
  | none =>
    have HC := Lib.hid (rfind_none s w h hl hk)
    have hn : growB S s n = (4, S) := by unfold growB; rw [if_neg ha, if_neg h0, hk]
    rw [hn]
    clear hn h h0 hk hok ha HAT
    go_enter Try.func42, Try.ntmps42
    go_wp2_with fail
    refine HC.out.mono ?_
    rintro e w1 ⟨rfl, rfl⟩
    go_wp2; go_ret; exact ⟨rfl, ⟨_, _, H.out⟩, Far.refl _ _ _⟩
  | some x =>
    have HC := Lib.hid (rfind_some s x w h hl hk)
    have HP := Lib.hid (show pairV (atB S s) = .tuple #[.int .i64 (S.first + x), .bool true] by unfold atB; rw [if_neg h0, hk]; rfl)
    obtain ⟨x1, x2⟩ := hok.off _ (look_mem hk)
    simp only at x1 x2
    have hn : growB S s n = if 2147483647 - n < S.first + x then (11, S) else (0, { S with L := putL S.L s (x + n) }) := by unfold growB; rw [if_neg ha, if_neg h0, hk]
    rw [hn]
    by_cases hb : 2147483647 - n < S.first + x
    · rw [if_pos hb]
      clear hn h h0 hk hok ha
      go_enter Try.func42, Try.ntmps42
      go_wp2_with fail
      refine HC.out.mono ?_
      rintro e w1 ⟨i, hi, hlt, rfl, rfl⟩
      clear hi
      go_wp2_with fail
      refine HAT.out.mono ?_
      rintro e w1 ⟨rfl, rfl⟩
      rw [HP.out]
      go_wp2; go_ret; exact ⟨rfl, ⟨_, _, H.out⟩, Far.refl _ _ _⟩
    · rw [if_neg hb, put_upd hk]
      clear hn h h0 hk hok ha
      go_enter Try.func42, Try.ntmps42
      go_wp2_with fail
      refine HC.out.mono ?_
      rintro e w1 ⟨i, hi, hlt, rfl, rfl⟩
      obtain ⟨g, rfl, hg, hgB, q0, q1, qf⟩ := H.out.at_ hi
      have qf1 := qf (i * 2 + 1)
      simp only at q0 q1
      have HI := Lib.hid hi
      clear hi qf
      go_wp2_with fail
      refine HAT.out.mono ?_
      rintro e w1 ⟨rfl, rfl⟩
      rw [HP.out]
      go_wp2
      go_ret
      exact ⟨rfl, ⟨_, _, H.out.upd HI.out _ (val_eq (by omega))⟩, (Far.refl _ _ _).setA _ _⟩
end Go.Proofs.Ytoicclgcbemffaa
