/- 7 texts in one: Mt2, Mt3, Hp4, Hp5, Hp6, Hp7, Fl. -/
import Derived.Test.YtpkmciohehaboaaGreatDoorM16
import Derived.Test.YtpkmciohehaboaaGreatDoorM18
import Derived.Test.YtpkmciohehaboaaGreatDoorM12
import Derived.Test.YtpkmciohehaboaaGreatDoorM14
import Derived.Deep.RegionHeld3
import Derived.BigGuard
import Derived.Test.YtpkmciohehaboaaGreatDoorM11
import Derived.Test.YtpkmciohehaboaaGreatDoorM8
import Derived.Great.BuildSlice
import Derived.Laws.ResultCell
/- The connection's Take at what meets sends. -/
namespace Go.Proofs.YtpkmciohehaboaaGreatDoor
open Go.RowKit Go.Maps

/-- Whole frames: all are taken. -/
theorem tk_whole {w w' : World} {x : Nat} {most : Int} {v : Value} {fs : List (Fr × Bool)} {e : Ending} (h : TkPost w x most v fs (strm fs) e w') :
    ∃ V v', e = .returned V ∧ w'.ownsRow w.heap.size 130 15 V fs.length (itsL fs) ∧ FeedAt w' x most v' ∧ Kept (fun b => b = x ∨ v.ownBlock = some b) w w' := by
  obtain ⟨k, r, V, v', he, hk, hL, -, hlast, hrow, -, hf', hkp⟩ := h
  have hkl : k = fs.length := by
    rcases Nat.lt_or_ge k fs.length with hlt | hge
    · exfalso
      obtain ⟨p, hp⟩ : ∃ p, fs[k]? = some p := ⟨_, List.getElem?_eq_getElem hlt⟩
      have h1 := hlast p hp
      have h2 : strm fs = strm (fs.take k) ++ strm (fs.drop k) := by rw [← strm_append, List.take_append_drop]
      have h3 : r = strm (fs.drop k) := by
        rw [h2] at hL
        exact (List.append_cancel_left hL).symm
      have h4 : fs.drop k = p :: fs.drop (k + 1) := by
        rw [List.drop_eq_getElem_cons hlt]
        congr 1
        rw [List.getElem?_eq_getElem hlt] at hp
        exact Option.some.inj hp
      rw [h3, h4, strm_cons, List.length_append, frB_length] at h1
      omega
    · omega
  subst hkl
  rw [List.take_length] at hrow
  exact ⟨V, v', he, hrow, hf', hkp⟩
/-- What meets sends, as frames. -/
def mtF : List (Fr × Bool) := [(setF, false), (askF, false)]
theorem mt_good : ∀ p ∈ mtF, Good9 16384 p := by
  intro p hp
  simp only [mtF, List.mem_cons, List.not_mem_nil, or_false] at hp
  rcases hp with rfl | rfl
  · exact .inr rfl
  · left
    have hl : (payL askF false).length ≤ 2000 := by
      have h1 := frB_length askF false
      have h2 : (frB askF false).length ≤ 2000 := by decide +kernel
      omega
    have hd : (mkS blkL).size ≤ 1048576 := by rw [mkS_size]; have := blkL_len; omega
    exact ⟨⟨.inr (.inl rfl), by decide, by decide, by decide, fun _ => rfl, fun _ => rfl, by kernel_rfl, fun _ => by kernel_rfl, hd⟩, (fun h => by cases h), by decide, by simp only; omega⟩
theorem mt_strm : strm mtF = frB setF false ++ frB askF false := by simp [strm, mtF]
section
variable (B p d g m : Nat) (c : Cv)
/-- What holds before the items that meets sends. -/
def MtJ (V : Value) : Nat → World → Prop
  | 0 => fun w => ∃ n xs G, n ≤ 1000 ∧ All B w [cConn p { c with news := .slice none 0 0 }, cRow 130 15 V mtF.length (itsL mtF), cRow 5 1 c.bytes n xs, cDec d G 0 0 1000 tb0 false, cBook g m 65535 65535 [], cMap mLive c.live 0 (fun _ => none) 0]
  | 1 => fun w => ∃ v n xs G, All B w [cConn p { c with news := .slice none 0 0, greeted := true, bytes := v }, cRow 130 15 V mtF.length (itsL mtF), cRow 5 1 v n xs, cDec d G 0 0 1000 tb0 false, cBook g m 65535 65535 [], cMap mLive c.live 0 (fun _ => none) 0]
  | 2 => fun w => ∃ c' fv, All B w [cConn p c', cRow 130 15 V mtF.length (itsL mtF), cRow 64 10 c'.news 1 (hpAsk 1 (readF askL).1 fv true).l] ∧ c'.over = false ∧ c'.drained = false
  | _ => fun _ => False
end
theorem mt_item0 {B p d g m : Nat} {c : Cv} {V : Value} (w : World) (hg : c.greeted = false) (hd : c.drained = false) (h : MtJ B p d g m c V 0 w) :
    Calls Tryz.prog 60 #[.pointer (some ⟨p, 0, none⟩), itV setF] w (Left B w (MtJ B p d g m c V 1)) := by
  obtain ⟨n, xs, G, hn, hA⟩ := h
  refine item_any (fn := 137) (Q := MtJ B p d g m c V 1) setF w hA (by decide) rfl (.inr (.inl rfl)) (fun w1 h1 => misplaced_first w1 h1 hg) (fun w1 h1 => ?_) (fun w' hQ => ?_)
  · have h2 := h1.pick [_, _]
    have h3 := h2.pick [_]
    refine (settings_any w1 h3 (by omega)).mono ?_
    rintro e w2 ⟨rfl, hb, v, n', xs', -, hA2⟩
    have h4 := hA2.pick [_, _]
    have h5 := h4.pick [_]
    exact ⟨rfl, hb, v, n', xs', G, h5⟩
  · obtain ⟨v, n', xs', G, h1⟩ := hQ
    exact ⟨_, _, h1, hd⟩
theorem mt_item1 {B p d g m : Nat} {c : Cv} {V : Value} (w : World) (h0 : c.l0 = 1) (hde : c.dec = .pointer (some ⟨d, 0, none⟩)) (hbk : c.book = .pointer (some ⟨g, 0, none⟩)) (hd : c.drained = false) (ho : c.of_ = 0) (hl : c.last = 0) (hov : c.over = false) (h : MtJ B p d g m c V 1 w) :
    Calls Tryz.prog 60 #[.pointer (some ⟨p, 0, none⟩), itV askF] w (Left B w (MtJ B p d g m c V 2)) := by
  obtain ⟨v, n, xs, G, hA⟩ := h
  obtain ⟨c1, hc1⟩ : ∃ c1 : Cv, { c with news := .slice none 0 0, greeted := true, bytes := v } = c1 := ⟨_, rfl⟩
  have a0 : c1.l0 = 1 := by rw [← hc1]; exact h0
  have a1 : c1.dec = .pointer (some ⟨d, 0, none⟩) := by rw [← hc1]; exact hde
  have a2 : c1.book = .pointer (some ⟨g, 0, none⟩) := by rw [← hc1]; exact hbk
  have a3 : c1.drained = false := by rw [← hc1]; exact hd
  have a4 : c1.of_ = 0 := by rw [← hc1]; exact ho
  have a5 : c1.last = 0 := by rw [← hc1]; exact hl
  have a6 : c1.over = false := by rw [← hc1]; exact hov
  have a7 : c1.greeted = true := by rw [← hc1]
  have a8 : c1.news = .slice none 0 0 := by rw [← hc1]
  have a9 : c1.live = c.live := by rw [← hc1]
  rw [hc1] at hA
  rw [← a9] at hA
  clear hc1 a9
  refine item_any (fn := 135) (Q := MtJ B p d g m c V 2) askF w hA (by decide) rfl (.inl rfl) (fun w1 h1 => misplaced_open askF w1 h1 a7 a4 (by decide)) (fun w1 h1 => ?_) (fun w' hQ => ?_)
  · obtain ⟨c2, hc2⟩ : ∃ c2 : Cv, { c1 with greeted := true } = c2 := ⟨_, rfl⟩
    have b0 : (0 : Int) < c2.l0 := by rw [← hc2]; show 0 < c1.l0; omega
    have b1 : c2.dec = .pointer (some ⟨d, 0, none⟩) := by rw [← hc2]; exact a1
    have b2 : c2.book = .pointer (some ⟨g, 0, none⟩) := by rw [← hc2]; exact a2
    have b3 : c2.drained = false := by rw [← hc2]; exact a3
    have b5 : c2.last < 1 := by rw [← hc2]; show c1.last < 1; omega
    have b6 : c2.over = false := by rw [← hc2]; exact a6
    have b8 : c2.news = .slice none 0 0 := by rw [← hc2]; exact a8
    have b9 : c2.live = c1.live := by rw [← hc2]
    rw [hc2, ← b9] at h1
    have h3 := ((h1.pick [_, _]).tail).nilrow 64 10
    rw [← b8] at h3
    have h4 := h3.pick [_, _, _, _, _]
    have h5 := h4.pick [_, _, _, _, _]
    have h6 := h5.pick [_, _, _, _, _]
    have h7 := h6.pick [_, _, _, _]
    have hG := ask_gath
    have hF := ask_fields
    refine (headers_any (l := askL) (T' := tb0) askF w1 h7 rfl rfl b1 b2 b3 b0 b5 (by decide) rfl (by unfold maxLen; omega) (by omega) ?_ (by omega) (by omega) ask_out (by decide) ?_ ?_ ask_read ?_ ?_ ?_).mono ?_
    · show (mkS blkL).size ≤ _
      rw [mkS_size]
      have := blkL_len
      omega
    · intro f hf
      simp only [askL, List.mem_cons, List.not_mem_nil, or_false] at hf
      rcases hf with rfl | rfl | rfl | rfl <;> decide +kernel
    · intro w A n c hr hn
      rw [hG] at hr ⊢
      exact cookies_plain w hr hn (fun f hf => by cases hf)
    · rw [hF]; decide
    · rw [hF]; intro f hf; cases hf
    · rw [hF]; decide +kernel
    · rintro e w2 ⟨rfl, hb, v2, fv, s, N', f', k', G', ND', -, -, hA2⟩
      have g1 := hA2.pick [_, _, _, _, _, _, _]
      have g2 := g1.pick [_, _, _, _]
      have g3 := g2.pick [_, _]
      have g4 := g3.pick [_]
      have g5 := g4.pick [_, _]
      have g6 := g5.pick [_, _]
      exact ⟨rfl, hb, pcC (hdC c2 1) v2, fv, All.init (l := [_, _, _]) g6, b6, b3⟩
  · obtain ⟨c', fv, h1, -, hd'⟩ := hQ
    exact ⟨_, _, h1, hd'⟩
theorem rd_behind {w : World} {B n b o : Nat} {l r : List UInt8} (h : Rd w B 1 (some ⟨b, o, none⟩) n (bvs (l ++ r))) (hr : 0 < r.length) : Rd w B 1 (some ⟨b, o + l.length, none⟩) (n - l.length) (bvs r) := by
  have hl := h.blen
  rw [List.length_append] at hl
  refine ⟨by rw [bvs_length]; omega, fun _ => ?_⟩
  obtain ⟨b', o', e, hb, hc⟩ := h.2 (by omega)
  injection e with e
  injection e with e1 e2
  subst e1 e2
  refine ⟨_, _, rfl, hb, fun j hj => ?_⟩
  rw [Nat.add_assoc, hc (l.length + j) (by omega), bvs_append, List.getElem?_append_right (by rw [bvs_length]; omega), bvs_length, Nat.add_sub_cancel_left]
theorem mt_fl : (frB askF false).length ≤ 2000 := by decide +kernel
theorem mt_sl : (frB setF false).length = 9 := by decide +kernel
theorem mt_take {B p x d g m n nl cap : Nat} {c : Cv} {G : Nat → Prop} {xs : List Value} {A : Option Addr} (w : World)
    (h : All B w [cConn p c, cRow 5 1 c.bytes n xs, cFeed x 16384 0, cDec d G 0 0 1000 tb0 false, cBook g m 65535 65535 [], cMap mLive c.live 0 (fun _ => none) 0, cRow 5 1 (.slice A nl cap) nl (bvs (helloL ++ frB askF false))])
    (hn : n ≤ 1000) (h0 : c.l0 = 1) (hfd : c.feed = .pointer (some ⟨x, 0, none⟩)) (hde : c.dec = .pointer (some ⟨d, 0, none⟩)) (hbk : c.book = .pointer (some ⟨g, 0, none⟩)) (hd : c.drained = false) (ho : c.of_ = 0) (hl : c.last = 0) (hov : c.over = false) (hg : c.greeted = false) :
    Calls Tryz.prog 19 #[.pointer (some ⟨p, 0, none⟩), .slice A nl cap] w (fun e w' => ∃ v fv, e = .returned v ∧ Below B w w' ∧ All B w' [cRow 64 10 v 1 (hpAsk 1 (readF askL).1 fv true).l]) := by
  refine (ctake_any mtF (MtJ B p d g m c) (.slice A nl cap) w h hov hfd (by decide) ?_ ?_).mono ?_
  · intro V k w hJ
    match k, hJ with
    | 0, hJ =>
      obtain ⟨n, xs, G, hn, hA⟩ := id hJ
      refine ⟨_, _, hA, .inl ⟨hov, fun f hf w' hb => ?_⟩⟩
      obtain rfl : (setF, false) = f := by simpa [mtF] using hf
      exact mt_item0 w' hg hd ⟨n, xs, G, hn, hA.below hb⟩
    | 1, hJ =>
      obtain ⟨v, n, xs, G, hA⟩ := id hJ
      refine ⟨_, _, hA, .inl ⟨hov, fun f hf w' hb => ?_⟩⟩
      obtain rfl : (askF, false) = f := by simpa [mtF] using hf
      exact mt_item1 w' h0 hde hbk hd ho hl hov ⟨v, n, xs, G, hA.below hb⟩
    | 2, hJ =>
      obtain ⟨c', fv, hA, hov', -⟩ := hJ
      exact ⟨_, _, hA, .inl ⟨hov', fun f hf => by simp [mtF] at hf⟩⟩
  · intro w1 h1
    have hrow : w1.ownsRow 0 5 1 (.slice A nl cap) nl (bvs (helloL ++ frB askF false)) := (h1.pick [_, _, _, _, _, _]).head
    obtain ⟨A', cap', hv, hcap, hmx, hrd, -⟩ := own_slice hrow
    obtain ⟨rfl, rfl⟩ : A = A' ∧ cap = cap' := by injection hv with e1 e2 e3; exact ⟨e1, e3⟩
    have hfe : FeedPre w1 x 16384 0 := (h1.pick [_, _]).head
    have hlen := hrd.blen
    have hpl : prefL.length = 24 := rfl
    have hsl := mt_sl
    have hfl := mt_fl
    unfold helloL at hrd hlen
    rw [List.length_append, List.length_append, hpl, hsl] at hlen
    obtain ⟨-, gb, o, rfl, hgb, -⟩ := hrd.bas (by omega)
    have hgx : gb ≠ x := fun e => by
      have h2 := (List.pairwise_cons.1 (h1.pick [_, _]).apart).1 _ (List.mem_cons_of_mem _ (List.mem_cons_of_mem _ (List.mem_cons_of_mem _ (List.mem_cons_of_mem _ (List.mem_cons_of_mem _ (List.mem_cons_self ..)))))) x rfl
      exact h2 (by rw [← e]; rfl)
    have hxl : x < w1.heap.size := (Array.getElem?_eq_some_iff.1 hfe).1
    rw [List.append_assoc] at hrd
    have hcut := rd_behind hrd (by rw [List.length_append]; omega)
    rw [hpl] at hcut
    refine fdtake9 (x := x) (most := 16384) (n := nl - 24) (cap := cap - 24) (base := x + 1) (A := some ⟨gb, o + 24, none⟩) (v := .slice none 0 0) (left := []) (b := frB setF false ++ frB askF false) mtF
      (fun w2 => FeedPre w2 x 16384 24 ∧ Kept (fun b => b = x) w1 w2) _ (by omega) mt_good (overp_any w1 hfe) ?_ ?_ ?_ (by omega) ?_ ?_ (by decide) ?_
    · refine (greet_pre w1 hfe hrd hgx (by rfl) (by omega) hcap hmx).mono ?_
      rintro e w2 ⟨rfl, h2, h3⟩
      exact ⟨rfl, h2, h3⟩
    · rintro w2 ⟨h2, h3⟩
      refine ⟨h2, World.ownsRow_nil _ _ _ _, by have := h3.size; omega, ?_⟩
      have hk : Rd w2 w1.heap.size 1 (some ⟨gb, o + 24, none⟩) (nl - 24) (bvs (frB setF false ++ frB askF false)) := by
        refine ⟨hcut.1, fun hn => ?_⟩
        obtain ⟨b', o', e, hb, hc⟩ := hcut.2 hn
        refine ⟨b', o', e, hb, fun j hj => ?_⟩
        injection e with e
        injection e with e1 e2
        subst e1 e2
        rw [World.cell?_of_block (a := ⟨gb, _, none⟩) (h3.block gb hgb (by simpa using hgx))]
        exact hc j hj
      exact hk.more h3.size
    · intro _ a ha
      injection ha with ha
      subst ha
      exact ⟨hgx, by simp [Value.ownBlock]⟩
    · rw [List.nil_append, mt_strm]; exact List.prefix_refl _
    · simp only [List.length_nil, List.length_append]; omega
    · rintro w2 ⟨h2, h3⟩ e w3 hpost
      rw [List.nil_append, ← mt_strm] at hpost
      obtain ⟨V, v', rfl, hown, hf3, hk3⟩ := tk_whole hpost
      have hk4 : Kept (cFeed x 16384 0).F w1 w3 := ⟨hk3.os.trans h3.os, hk3.tape.trans h3.tape, hk3.output.trans h3.output, Nat.le_trans h3.size hk3.size, fun k hk hF => (hk3.block k (Nat.lt_of_lt_of_le hk h3.size) (fun e => by rcases e with e | e; exact hF e; simp [Value.ownBlock] at e)).trans (h3.block k hk hF)⟩
      have h4 := (h1.pick [_, _]).step2 (c' := cBlk x (fdC 16384 v' false) 163) (d := cRow 130 15 V mtF.length (itsL mtF)) hk4 (fun k hk => .inl hk) hf3 (own_low hown (Nat.zero_le _)) (fun b hF => Nat.le_trans h3.size (World.ownsRow.lt hown b hF).1) (fun b hF e => by
        have e2 : b = x := e
        have := (World.ownsRow.lt hown b hF).1
        have := h3.size
        omega)
      have hB := (h1.pick [_, _]).kept hk4
      have h5 := (h4.pick [_]).tail
      have h6 := h5.pick [_]
      have h7 := All.init (l := [_, _, _, _, _, _]) (r := [_]) h6
      exact ⟨V, rfl, ⟨n, xs, G, hn, h7⟩, hB⟩
  · rintro e w' ⟨V, c', cs', hJ, hb, hA, rfl⟩
    obtain ⟨c2, fv, hA2, -, -⟩ := hJ
    have e1 := hA.conn
    rw [hA2.conn] at e1
    have e2 : c2.cells = c'.cells := by injection e1 with e1; injection e1
    have e3 : c2.news = c'.news := by
      have h1 : c2.cells[21]? = c'.cells[21]? := by rw [e2]
      injection h1
    exact ⟨c'.news, fv, rfl, hb, by rw [← e3]; exact (hA2.pick [_, _]).init (l := [_]) (r := [_, _])⟩
end Go.Proofs.YtpkmciohehaboaaGreatDoor

/- The walk of drawbridgetop.meets. -/
namespace Go.Proofs.YtpkmciohehaboaaGreatDoor
open Go.RowKit Go.Maps

set_option maxRecDepth 100000 in
set_option maxHeartbeats 8000000 in
theorem meets_any (w : World) : Calls Tryz.prog 5 #[] w fun e w' => e = .returned (.bool true) ∧ Below w.heap.size w w' := by
  have HN := Lib.hid (new_any 1 10 0 1000 w (by omega) (by omega) (by omega) (by omega) (by omega) (by omega) (by omega) (by omega))
  have HHE := Lib.hid (fun w => hello_any w)
  have HAS := Lib.hid (fun w => ask23_any w)
  go_enter Tryz.func5, Tryz.ntmps5
  go_wp2_with fail
  refine HN.out.mono ?_
  rintro e w1 ⟨p, c, x, d, G, g, m, n, xs, rfl, hb1, hA1, hn, h0, -, hfd, hde, hbk, hl, ho, hg, hd, hov, -⟩
  have HA1 := Lib.hid hA1
  have HB1 := Lib.hid hb1
  have HC := Lib.hid (And.intro h0 (And.intro hfd (And.intro hde (And.intro hbk (And.intro hd (And.intro ho (And.intro hl (And.intro hov (And.intro hg hn)))))))))
  clear hA1 hb1 h0 hfd hde hbk hd ho hl hov hg hn HN
  go_wp2_with fail
  refine (HHE.out _).mono ?_
  rintro e w2 ⟨v2, rfl, ho2, hb2⟩
  obtain ⟨A2, c2, rfl, hr2⟩ := ho2.rd
  have HB2 := Lib.hid (HB1.out.trans (hb2.mono HA1.out.sz))
  have HA2 := Lib.hid (HA1.out.row hb2 ho2)
  clear ho2 hb2 hr2
  go_wp2_with fail
  refine (HAS.out _).mono ?_
  rintro e w3 ⟨v3, rfl, ho3, hb3⟩
  obtain ⟨A3, c3, rfl, hr3⟩ := ho3.rd
  have HB3 := Lib.hid (HB2.out.trans (hb3.mono HA2.out.sz))
  have HA3 := Lib.hid (HA2.out.below hb3)
  have HO3 := Lib.hid hr3
  clear ho3 hb3 hr3
  have hfl := mt_fl
  have hsl : helloL.length = 33 := by decide +kernel
  go_wp2_with (at_builtin; refine of_stop ?_)
  unfold Stop
  have hrow : w3.ownsRow 0 5 1 (.slice A2 helloL.length c2) helloL.length (bvs helloL) := HA3.out.head
  refine wpList_app (.tmp 16) (.tmp 17) tBytes rfl rfl hrow rfl HO3.out rfl (bvs_one _) (le_maxLen (by omega)) (by omega) (Nat.zero_le _) ?_
  intro v4 w4 hown4 hg4 hb4
  obtain ⟨hA4, hB4⟩ := HA3.out.app hown4 hg4 hb4
  obtain ⟨A4, c4, rfl, -, -, -, -⟩ := own_slice hown4
  rw [← bvs_append, ← List.length_append] at hA4
  have r1 := hA4.pick [_, _, _, _, _, _]
  have r2 := r1.pick [_, _, _, _, _, _]
  have r3 := r2.pick [_, _, _, _, _, _]
  have r4 := r3.pick [_, _, _, _, _, _]
  have r5 := r4.pick [_, _, _, _, _, _]
  have r6 := r5.pick [_, _, _, _, _, _]
  have r7 := All.init (l := [_, _, _, _, _, _, _]) (r := [_]) r6
  have HTK := Lib.hid (mt_take w4 r7 HC.out.2.2.2.2.2.2.2.2.2 HC.out.1 HC.out.2.1 HC.out.2.2.1 HC.out.2.2.2.1 HC.out.2.2.2.2.1 HC.out.2.2.2.2.2.1 HC.out.2.2.2.2.2.2.1 HC.out.2.2.2.2.2.2.2.1 HC.out.2.2.2.2.2.2.2.2.1)
  have HB4 := Lib.hid (HB3.out.trans hB4)
  rw [← List.length_append]
  clear r1 r2 r3 r4 r5 r6 r7 hA4 hB4 hg4 hb4 hown4 hrow
  go_wp2_with fail
  refine HTK.out.mono ?_
  rintro e w5 ⟨v5, fv, rfl, hb5, hA5⟩
  obtain ⟨A5, c5, rfl, -, -, hr5, -⟩ := own_slice hA5.head
  have HB5 := Lib.hid (HB4.out.trans hb5)
  obtain ⟨b, o, rfl, hbl, hc⟩ := hr5.2 (by omega)
  have ha := ask_auth
  have q0 : w5.cell? ⟨b, o, none⟩ = some (.int .i64 1) := hc 0 (by omega)
  have q4 : w5.cell? ⟨b, o + 4, none⟩ = some (.string (readF askL).1.auth) := hc 4 (by omega)
  rw [ha] at q4
  clear hA5 hb5 hr5 hc HTK
  go_wp2_with fail
  go_ret
  exact ⟨rfl, HB5.out⟩
end Go.Proofs.YtpkmciohehaboaaGreatDoor

/- The walks of hop.All, hop.Has. -/
namespace Go.Proofs.YtpkmciohehaboaaGreatDoor
open Go.RowKit Go.Maps

def allV (vs : List ByteArray) : List ByteArray := vs.flatMap fun v => elems v.data.toList
theorem allV_snoc {vs : List ByteArray} {k : Nat} {v : ByteArray} (h : vs[k]? = some v) : allV (vs.take (k + 1)) = allV (vs.take k) ++ elems v.data.toList := by
  unfold allV
  rw [List.take_add_one, h, Option.toList_some, List.flatMap_append]
  simp
theorem allV_le (vs : List ByteArray) (k : Nat) : (allV (vs.take k)).length ≤ (allV vs).length := by
  have h : allV vs = allV (vs.take k) ++ allV (vs.drop k) := by
    unfold allV
    rw [← List.flatMap_append, List.take_append_drop]
  rw [h, List.length_append]
  omega
def AllRel (_w w1 : World) (vs : List ByteArray) (n : Nat) (ov iv : Value) (wr : World) : Prop := ∃ k : Nat, iv = .int .i64 k ∧ k ≤ n ∧ wr.ownsRow w1.heap.size 9 1 ov (allV (vs.take k)).length (strs (allV (vs.take k))) ∧ Below w1.heap.size w1 wr
set_option maxRecDepth 100000 in
set_option maxHeartbeats 8000000 in
theorem all_any {A : Option Addr} {n c : Nat} {l : List Fd} (name : ByteArray) (w : World) (hr : Rd w w.heap.size 3 A n (fds l)) (hn : n ≤ 1048576) (hz : Tx l) (hnm : name.size ≤ 140737488355328)
    (hv : ∀ f ∈ l, f.1.2.size ≤ 1048575) (ht : (allF l name).length ≤ 1048576) :
    Calls Tryz.prog 37 #[.slice A n c, .string name] w (OwnStr w (allF l name)) := by
  have HV := Lib.hid (values_any (c := c) name w hr hn hz hnm)
  have hvm : ∀ s ∈ sameVals l name, s.size ≤ 1048575 := fun s hs => by
    obtain ⟨f, hf, rfl⟩ := sameVals_mem hs
    exact hv f hf
  have hvl := sameVals_le l name
  have hll : l.length = n := by have := hr.1; rw [fds_length] at this; omega
  have hall : allF l name = allV (sameVals l name) := rfl
  rw [hall] at ht ⊢
  obtain ⟨vs, hvs⟩ : ∃ vs, sameVals l name = vs := ⟨_, rfl⟩
  rw [hvs] at HV hvm hvl ht ⊢
  have HM := Lib.hid hvm
  have HT := Lib.hid ht
  clear hr hz hv hvm hvs hall ht
  go_enter Tryz.func37, Tryz.ntmps37
  go_wp2_with fail
  refine HV.out.mono ?_
  rintro e w1 ⟨vv, rfl, hown1, hb1⟩
  obtain ⟨A1, c1, rfl, -, -, hrd1, -⟩ := own_slice hown1
  have HR := Lib.hid hrd1
  have HB1 := Lib.hid hb1
  obtain ⟨m, hm⟩ : ∃ m, vs.length = m := ⟨_, rfl⟩
  have HML := Lib.hid hm
  rw [hm] at hvl HR ⊢
  clear HV hown1 hrd1 hb1 hm
  go_wp2_with fail
  go_loopw [5, 12] (fun ov iv wr => AllRel w w1 vs m ov iv wr) (fun _ iv _ => m - (intOf iv).toNat)
  case atStart => exact ⟨0, rfl, Nat.zero_le _, World.ownsRow_nil _ _ _ _, Below.refl _ _⟩
  case round =>
    obtain ⟨k, rfl, hk, hown, hb⟩ := hrel
    have HO := Lib.hid (And.intro hown hb)
    have hsr := hb.size
    clear hown hb
    by_cases hlt : k < m
    · obtain ⟨hl, b, o, rfl, hbl, hc⟩ := str_at (HR.out.below HO.out.2 (Nat.le_refl _)) (by omega)
      obtain ⟨s, hs⟩ : ∃ s, vs[k]? = some s := ⟨_, List.getElem?_eq_getElem (by omega)⟩
      have z0 := hc k s hs
      have n1 : (k : Int) < m := by omega
      have hsz := HM.out s (List.mem_of_getElem? hs)
      have HE := Lib.hid (elements_any s wr hsz)
      have HS := Lib.hid (allV_snoc hs)
      have hel := elems_len s.data.toList
      have hle : (allV (vs.take (k + 1))).length ≤ 1048576 := Nat.le_trans (allV_le vs (k + 1)) HT.out
      rw [HS.out, List.length_append] at hle
      clear hc hs
      go_wp2_with fail
      refine HE.out.mono ?_
      rintro e w2 ⟨ev, rfl, hown2, hb2⟩
      obtain ⟨A2, c2, rfl, -, -, hrd2, -⟩ := own_slice hown2
      go_wp2_with (at_builtin; refine of_stop ?_)
      unfold Stop
      have hown3 := own_kept4 HO.out.1 (Kept.of_below (F := fun _ => False) hb2) (fun _ _ h => h)
      refine wpList_app (.tmp 16) (.tmp 18) tStrs rfl rfl hown3 rfl hrd2 rfl (by simp [strs, Value.oneCell']) (le_maxLen (by omega)) (by omega) (by have := hb2.size; omega) ?_
      intro v6 w6 hown6 hg6 _
      obtain ⟨A6, c6, hv6, -, -, -, -⟩ := own_slice hown6
      have HN : Hid (AllRel w w1 vs m v6 (.int .i64 (k + 1 : Nat)) w6) := Lib.hid (by
        refine ⟨k + 1, rfl, hlt, ?_, Below.app (HO.out.2.trans (hb2.mono hsr)) hown3 hg6 (Nat.le_refl _) (by have := hb2.size; omega)⟩
        rw [HS.out, List.length_append, show strs (allV (vs.take k) ++ elems s.data.toList) = strs (allV (vs.take k)) ++ strs (elems s.data.toList) by simp [strs]]
        exact hown6)
      rw [hv6] at HN ⊢
      clear hown6 hg6 hv6 hown3 hown2 hrd2 hb2 hle hel
      go_wp2
      go_roundw
      case rel => exact HN.out
      case measure => simp [intOf]; omega
    · have hkn : k = m := by omega
      have HE : Hid (OwnStr w (allV vs) (.returned u5) wr) := Lib.hid (by
        have h1 := HO.out.1
        rw [List.take_of_length_le (by have := HML.out; omega)] at h1
        exact ⟨_, rfl, own_base h1 HB1.out.size, HB1.out.trans (HO.out.2.mono HB1.out.size)⟩)
      subst hkn
      go_wp2
      go_ret
      exact HE.out
def HsRel (w1 : World) (vs : List ByteArray) (e : ByteArray) (n : Nat) (iv : Value) (wr : World) : Prop := ∃ k : Nat, iv = .int .i64 k ∧ k ≤ n ∧ Below w1.heap.size w1 wr ∧ (vs.take k).any (fun x => sameL x.data.toList e.data.toList) = false
theorem any_stop {α : Type} {f : α → Bool} {l : List α} {k : Nat} {x : α} (h : l[k]? = some x) (hx : f x = true) : l.any f = true := List.any_eq_true.2 ⟨x, List.mem_of_getElem? h, hx⟩
theorem any_next {α : Type} {f : α → Bool} {l : List α} {k : Nat} {x : α} (h : l[k]? = some x) (h0 : (l.take k).any f = false) (hx : f x = false) : (l.take (k + 1)).any f = false := by
  rw [List.take_add_one, h, Option.toList_some, List.any_append, h0]
  simp [hx]
set_option maxRecDepth 100000 in
set_option maxHeartbeats 8000000 in
theorem has_any {A : Option Addr} {n c : Nat} {l : List Fd} (name el : ByteArray) (w : World) (hr : Rd w w.heap.size 3 A n (fds l)) (hn : n ≤ 1048576) (hz : Tx l) (hnm : name.size ≤ 140737488355328)
    (hv : ∀ f ∈ l, f.1.2.size ≤ 1048575) (ht : (allF l name).length ≤ 1048576) (hes : ∀ x ∈ allF l name, x.size ≤ 140737488355328) (he : el.size ≤ 140737488355328) :
    Calls Tryz.prog 13 #[.slice A n c, .string name, .string el] w fun e w' => e = .returned (.bool (hasF l name el)) ∧ Below w.heap.size w w' := by
  have HV := Lib.hid (all_any (c := c) name w hr hn hz hnm hv ht)
  obtain ⟨R, hR⟩ : ∃ R, hasF l name el = R := ⟨_, rfl⟩
  rw [hR]
  unfold hasF at hR
  obtain ⟨vs, hvs⟩ : ∃ vs, allF l name = vs := ⟨_, rfl⟩
  rw [hvs] at HV hR ht hes
  have HRR := Lib.hid hR
  have HM := Lib.hid hes
  clear hr hz hv hvs hR hes
  go_enter Tryz.func13, Tryz.ntmps13
  go_wp2_with fail
  refine HV.out.mono ?_
  rintro e w1 ⟨vv, rfl, hown1, hb1⟩
  obtain ⟨A1, c1, rfl, -, -, hrd1, -⟩ := own_slice hown1
  have HR := Lib.hid hrd1
  have HB1 := Lib.hid hb1
  obtain ⟨m, hm⟩ : ∃ m, vs.length = m := ⟨_, rfl⟩
  have HML := Lib.hid hm
  rw [hm] at ht HR ⊢
  clear HV hown1 hrd1 hb1 hm
  go_wp2_with fail
  go_loopw [13] (fun iv wr => HsRel w1 vs el m iv wr) (fun iv _ => m - (intOf iv).toNat)
  case atStart => exact ⟨0, rfl, Nat.zero_le _, Below.refl _ _, by simp⟩
  case round =>
    obtain ⟨k, rfl, hk, hb, hno⟩ := hrel
    have HO := Lib.hid (And.intro hb hno)
    have hsr := hb.size
    clear hb hno
    by_cases hlt : k < m
    · obtain ⟨hl, b, o, rfl, hbl, hc⟩ := str_at (HR.out.below HO.out.1 (Nat.le_refl _)) (by omega)
      obtain ⟨s, hs⟩ : ∃ s, vs[k]? = some s := ⟨_, List.getElem?_eq_getElem (by omega)⟩
      have z0 := hc k s hs
      have n1 : (k : Int) < m := by omega
      have HS := Lib.hid (same_any s el wr (HM.out s (List.mem_of_getElem? hs)) he)
      have HK := Lib.hid hs
      clear hc hs
      go_wp2_with fail
      refine HS.out.mono ?_
      rintro e w2 ⟨rfl, hb2⟩
      have HB2 := Lib.hid (HO.out.1.trans (hb2.mono hsr))
      obtain ⟨S, hS⟩ : ∃ S, sameL s.data.toList el.data.toList = S := ⟨_, rfl⟩
      have HSS := Lib.hid hS
      rw [hS]
      clear hS hb2 HS
      cases S with
      | true =>
        have hr : R = true := by rw [← HRR.out]; exact any_stop HK.out HSS.out
        subst hr
        go_wp2
        go_ret
        exact ⟨rfl, HB1.out.trans (HB2.out.mono HB1.out.size)⟩
      | false =>
        have HN : Hid (HsRel w1 vs el m (.int .i64 (k + 1 : Nat)) w2) := Lib.hid ⟨k + 1, rfl, hlt, HB2.out, any_next HK.out HO.out.2 HSS.out⟩
        go_wp2
        go_roundw
        case rel => exact HN.out
        case measure => simp [intOf]; omega
    · have hr : R = false := by
        rw [← HRR.out]
        have := HO.out.2
        rwa [List.take_of_length_le (by have := HML.out; omega)] at this
      subst hr
      go_wp2
      go_ret
      exact ⟨rfl, HB1.out.trans (HO.out.1.mono HB1.out.size)⟩
end Go.Proofs.YtpkmciohehaboaaGreatDoor

/- The walk of hop.Without's closure 'stays'. -/
namespace Go.Proofs.YtpkmciohehaboaaGreatDoor
open Go.RowKit Go.Maps

theorem low_any (s : ByteArray) (w : World) (hs : s.size ≤ 140737488355328) : Calls Tryz.prog 36 #[.string s] w fun e w' => e = .returned (.string (mkS (lowL s.data.toList))) ∧ Below w.heap.size w w' := lower_any s w hs
set_option maxRecDepth 100000 in
set_option maxHeartbeats 8000000 in
theorem stays_any {b mb N k : Nat} {f : ByteArray → Option Int} (fd : Fd) (w : World) (hb : w.cell? ⟨b, 0, none⟩ = some (.map (some mb))) (hm : GMap mPlaces w mb N f k) (h1 : fd.1.1.size ≤ 140737488351232) :
    Calls Tryz.prog 78 #[fdv fd, .pointer (some ⟨b, 0, none⟩)] w fun e w' => e = .returned (.bool (!(f (mkS (lowL fd.1.1.data.toList))).isSome)) ∧ Below w.heap.size w w' := by
  obtain ⟨⟨nm, vl⟩, nv⟩ := fd
  unfold fdv
  dsimp only at h1 ⊢
  have hblt : b < w.heap.size := World.block_lt_of_cell? w ⟨b, 0, none⟩ hb
  have hmlt := hm.lt
  obtain ⟨O, hO⟩ : ∃ O, f (mkS (lowL nm.data.toList)) = O := ⟨_, rfl⟩
  obtain ⟨X, hX⟩ : ∃ X : Int, O.getD 0 = X := ⟨_, rfl⟩
  obtain ⟨Y, hY⟩ : ∃ Y, O.isSome = Y := ⟨_, rfl⟩
  have HLK : Hid (∀ w2 : World, w2.heap[mb]? = (w.alloc (.cells #[.string nm, .string vl, .bool nv] 26)).heap[mb]? → (Instr.lookup 157 (.map (some mb)) (.string (mkS (lowL nm.data.toList))) true).run Tryz.prog w2 = .ok (.tuple #[.int .i64 X, .bool Y]) w2) := Lib.hid (fun w2 h2 => by
    have h3 := (hm.keep (h2.trans (Below.heap_alloc _ _ _ hmlt))).look okPlaces (i := mkS (lowL nm.data.toList)) (by show (mkS _).size ≤ maxLen; rw [mkS_size, lowL_length]; unfold maxLen; have : nm.data.toList.length = nm.size := str_len nm; omega)
    rw [hO] at h3
    rw [← hX, ← hY]
    exact h3)
  rw [hO, hY]
  have HLO := Lib.hid (fun w => low_any nm w (by omega))
  clear hm hO hX hY
  have hqs : (w.alloc (.cells #[.string nm, .string vl, .bool nv] 26)).heap.size = w.heap.size + 1 := by simp
  have hqb := heap_alloc_new w (.cells #[.string nm, .string vl, .bool nv] 26)
  have hbb : (w.alloc (.cells #[.string nm, .string vl, .bool nv] 26)).cell? ⟨b, 0, none⟩ = some (.map (some mb)) := (World.cell?_alloc_lt _ _ _ hblt).trans hb
  have HW := Lib.hid ((Below.refl w.heap.size w).alloc (Nat.le_refl _) (.cells #[.string nm, .string vl, .bool nv] 26))
  go_enter Tryz.func78, Tryz.ntmps78
  go_wp2_with fail
  generalize hq : w.heap.size = q at *
  generalize (w.alloc (.cells #[.string nm, .string vl, .bool nv] 26)) = wa at *
  have hq0 : wa.cell? ⟨q, 0, none⟩ = some (.string nm) := by unfold World.cell?; rw [hqb]; rfl
  have HS0 : Hid (wa.drew.cell? ⟨b, 0, none⟩ = some (.map (some mb)) ∧ wa.drew.cell? ⟨q, 0, none⟩ = some (.string nm) ∧ (Instr.lookup 157 (.map (some mb)) (.string (mkS (lowL nm.data.toList))) true).run Tryz.prog wa.drew = .ok (.tuple #[.int .i64 X, .bool Y]) wa.drew) := Lib.hid ⟨hbb, hq0, HLK.out _ rfl⟩
  have HLT : Hid (b < wa.drew.heap.size ∧ q < wa.drew.heap.size ∧ mb < wa.drew.heap.size) := Lib.hid ⟨by show b < wa.heap.size; omega, by show q < wa.heap.size; omega, by show mb < wa.heap.size; omega⟩
  have HQ := Lib.hid hq
  clear hb hblt hmlt hqb hbb hq0 hq hqs
  --REGION1
  refine wp_region_held_drew (S := fun w' => w'.cell? ⟨b, 0, none⟩ = some (.map (some mb)) ∧ w'.cell? ⟨q, 0, none⟩ = some (.string nm) ∧ (Instr.lookup 157 (.map (some mb)) (.string (mkS (lowL nm.data.toList))) true).run Tryz.prog w' = .ok (.tuple #[.int .i64 X, .bool Y]) w') (by kernel_rfl) (HS0.out) (fun hHeld => ?_)
  refine wpAnyH_take (i := 0) (oi := ⟨some 7, _, _, _, _, _⟩) (v := ?_) rfl (by kernel_rfl) (by kernel_rfl) (by kernel_rfl) (fun _ _ _ h => h) (Or.inl ⟨by kernel_rfl, ?_⟩) hHeld ?_
  rotate_left
  · intro w hSw
    obtain ⟨h0, h1, h2⟩ := hSw
    go_simp
    all_goals with_reducible rfl
  try simp only [Act.put, List.setIfInBounds_toArray, List.set_cons_zero, List.set_cons_succ]
  refine wpAnyH_take (i := 1) (oi := ⟨some 8, _, _, _, _, _⟩) (v := ?_) rfl (by kernel_rfl) (by kernel_rfl) (by kernel_rfl) (fun _ _ _ h => h) (Or.inl ⟨by kernel_rfl, ?_⟩) hHeld ?_
  rotate_left
  · intro w hSw
    obtain ⟨h0, h1, h2⟩ := hSw
    go_simp
    all_goals with_reducible rfl
  try simp only [Act.put, List.setIfInBounds_toArray, List.set_cons_zero, List.set_cons_succ]
  refine wpAnyH_take (i := 2) (oi := ⟨some 9, _, _, _, _, _⟩) (v := ?_) rfl (by kernel_rfl) (by kernel_rfl) (by kernel_rfl) (fun _ _ _ h => h) (Or.inl ⟨by kernel_rfl, ?_⟩) hHeld ?_
  rotate_left
  · intro w hSw
    obtain ⟨h0, h1, h2⟩ := hSw
    go_simp
    all_goals with_reducible rfl
  try simp only [Act.put, List.setIfInBounds_toArray, List.set_cons_zero, List.set_cons_succ]
  refine wpAnyH_ready (rs := [3]) (by kernel_rfl) (by simp) ?_
  refine AllReadyH.cons (o := ⟨some 10, _, _, _, _, _⟩) rfl (fun K hK => ?_) AllReadyH.nil
  go_simp
  refine (HLO.out _).mono ?_
  rintro e w3 ⟨rfl, hb3⟩
  have HB3 := Lib.hid hb3
  have k0 := (hb3.cell (p := ⟨b, 0, none⟩) HLT.out.1).trans hHeld.1
  have k1 := (hb3.cell (p := ⟨q, 0, none⟩) HLT.out.2.1).trans hHeld.2.1
  have k2 := HLK.out w3 (hb3.block mb HLT.out.2.2)
  clear hb3
  refine hK.out _ _ (⟨k0, k1, k2⟩) (fun hHeld => ?_)
  clear hK K
  try simp only [Act.put, List.setIfInBounds_toArray, List.set_cons_zero, List.set_cons_succ]
  refine wpAnyH_take (i := 4) (oi := ⟨some 11, _, _, _, _, _⟩) (v := ?_) rfl (by kernel_rfl) (by kernel_rfl) (by kernel_rfl) (fun _ _ _ h => h) (Or.inl ⟨by kernel_rfl, ?_⟩) hHeld ?_
  rotate_left
  · intro w hSw
    obtain ⟨h0, h1, h2⟩ := hSw
    go_simp
    all_goals with_reducible rfl
  try simp only [Act.put, List.setIfInBounds_toArray, List.set_cons_zero, List.set_cons_succ]
  refine wpAnyH_take (i := 5) (oi := ⟨some 6, _, _, _, _, _⟩) (v := ?_) rfl (by kernel_rfl) (by kernel_rfl) (by kernel_rfl) (fun _ _ _ h => h) (Or.inl ⟨by kernel_rfl, ?_⟩) hHeld ?_
  rotate_left
  · intro w hSw
    obtain ⟨h0, h1, h2⟩ := hSw
    go_simp
    all_goals with_reducible rfl
  try simp only [Act.put, List.setIfInBounds_toArray, List.set_cons_zero, List.set_cons_succ]
  refine wpAnyH_take (i := 6) (oi := ⟨some 12, _, _, _, _, _⟩) (v := ?_) rfl (by kernel_rfl) (by kernel_rfl) (by kernel_rfl) (fun _ _ _ h => h) (Or.inl ⟨by kernel_rfl, ?_⟩) hHeld ?_
  rotate_left
  · intro w hSw
    obtain ⟨h0, h1, h2⟩ := hSw
    go_simp
    all_goals with_reducible rfl
  try simp only [Act.put, List.setIfInBounds_toArray, List.set_cons_zero, List.set_cons_succ]
  refine wpAnyH_take (i := 7) (oi := ⟨some 13, _, _, _, _, _⟩) (v := ?_) rfl (by kernel_rfl) (by kernel_rfl) (by kernel_rfl) (fun _ _ _ h => h) (Or.inl ⟨by kernel_rfl, ?_⟩) hHeld ?_
  rotate_left
  · intro w hSw
    obtain ⟨h0, h1, h2⟩ := hSw
    go_simp
    all_goals with_reducible rfl
  try simp only [Act.put, List.setIfInBounds_toArray, List.set_cons_zero, List.set_cons_succ]
  refine wpAnyH_take (i := 8) (oi := ⟨some 4, _, _, _, _, _⟩) (v := ?_) rfl (by kernel_rfl) (by kernel_rfl) (by kernel_rfl) (fun _ _ _ h => h) (Or.inl ⟨by kernel_rfl, ?_⟩) hHeld ?_
  rotate_left
  · intro w hSw
    obtain ⟨h0, h1, h2⟩ := hSw
    go_simp
    all_goals with_reducible rfl
  try simp only [Act.put, List.setIfInBounds_toArray, List.set_cons_zero, List.set_cons_succ]
  refine wpAnyH_take (i := 9) (oi := ⟨some 5, _, _, _, _, _⟩) (v := ?_) rfl (by kernel_rfl) (by kernel_rfl) (by kernel_rfl) (fun _ _ _ h => h) (Or.inl ⟨by kernel_rfl, ?_⟩) hHeld ?_
  rotate_left
  · intro w hSw
    obtain ⟨h0, h1, h2⟩ := hSw
    go_simp
    all_goals with_reducible rfl
  try simp only [Act.put, List.setIfInBounds_toArray, List.set_cons_zero, List.set_cons_succ]
  refine wpAnyH_done (by kernel_rfl) ?_ _
  --END1
  go_wp2
  go_ret
  exact ⟨rfl, by rw [HQ.out]; exact HW.out.trans (Below.trans (by exact ⟨rfl, rfl, rfl, Nat.le_refl _, fun _ _ => rfl⟩) (HB3.out.mono (by have := HLT.out.2.1; omega)))⟩
end Go.Proofs.YtpkmciohehaboaaGreatDoor

/- The walk of hop.Without. -/
namespace Go.Proofs.YtpkmciohehaboaaGreatDoor
open Go.RowKit Go.Maps

/-- What is known of the map behind k names. -/
def GoneIs (names : List ByteArray) (f : ByteArray → Option Int) : Prop := ∀ s, (f s).isSome = names.any fun n => decide (mkS (lowL n.data.toList) = s)
theorem gone_nil : GoneIs [] (fun _ => none) := fun _ => rfl
theorem gone_snoc {names : List ByteArray} {f f' : ByteArray → Option Int} {k : Nat} {s : ByteArray} {x : Int} (h : names[k]? = some s) (hf : GoneIs (names.take k) f) (hf' : ∀ j, f' j = if j = mkS (lowL s.data.toList) then some x else f j) : GoneIs (names.take (k + 1)) f' := by
  intro j
  rw [List.take_add_one, h, Option.toList_some, List.any_append, ← hf j, hf' j]
  by_cases e : j = mkS (lowL s.data.toList)
  · subst e; simp
  · have e2 : ¬ mkS (lowL s.data.toList) = j := fun h => e h.symm
    simp [e, e2]
theorem gone_same {names : List ByteArray} {f : ByteArray → Option Int} (h : GoneIs names f) (nm : ByteArray) : (!(f (mkS (lowL nm.data.toList))).isSome) = !(names.any fun n => sameL n.data.toList nm.data.toList) := by
  rw [h]
  congr 1
  congr 1
  funext n
  unfold sameL
  simp only [mkS, bytes_ext]
def Wo1 (w : World) (B n : Nat) (names : List ByteArray) (iv : Value) (wr : World) : Prop :=
  ∃ (k m : Nat) (f : ByteArray → Option Int), iv = .int .i64 (k : Nat) ∧ k ≤ n ∧ GMap mPlaces wr B k f m ∧ wr.heap[B + 1]? = some (.cells #[.map (some B)] 157 (0, 0)) ∧ Below B w wr ∧ GoneIs (names.take k) f
theorem withoutF_snoc {l : List Fd} {k : Nat} {f : Fd} (h : l[k]? = some f) (names : List ByteArray) : withoutF (l.take (k + 1)) names = withoutF (l.take k) names ++ (if (!(names.any fun n => sameL n.data.toList f.1.1.data.toList)) = true then [f] else []) := by
  rw [List.take_add_one, h, Option.toList_some]
  unfold withoutF
  rw [List.filter_append]
  congr 1
  by_cases hn : (!(names.any fun n => sameL n.data.toList f.1.1.data.toList)) = true <;> simp [hn]
theorem withoutF_le (l : List Fd) (names : List ByteArray) : (withoutF l names).length ≤ l.length := by
  unfold withoutF
  exact List.length_filter_le _ _
def Wo2 (w1 : World) (n : Nat) (l : List Fd) (names : List ByteArray) (ov iv : Value) (wr : World) : Prop := ∃ k : Nat, iv = .int .i64 k ∧ k ≤ n ∧ OwnFds w1 (withoutF (l.take k) names) ov wr
set_option maxRecDepth 100000 in
set_option maxHeartbeats 8000000 in
theorem without_any {A A1 : Option Addr} {n c n1 c1 : Nat} {l : List Fd} {names : List ByteArray} (w : World) (hl : Rd w w.heap.size 3 A n (fds l)) (hn : n ≤ 1048576) (hz : Tx l)
    (hr : Rd w w.heap.size 1 A1 n1 (strs names)) (hn1 : n1 ≤ 2097152) (hs : ∀ s ∈ names, s.size ≤ 140737488351232) :
    Calls Tryz.prog 38 #[.slice A n c, .slice A1 n1 c1] w (fun e w' => ∃ v, e = .returned v ∧ OwnFds w (withoutF l names) v w') := by
  have HL := Lib.hid hl
  have HR := Lib.hid hr
  have HZ := Lib.hid hz
  have HS := Lib.hid hs
  clear hl hr hz hs
  have hmm := @run_makeMap Tryz.prog
  have hmf : ∀ fn first cap w, (Instr.makeFunc fn first cap).run Tryz.prog w = .ok (.func fn first cap) w := fun _ _ _ _ => rfl
  obtain ⟨B, hB⟩ : ∃ B, w.heap.size = B := ⟨_, rfl⟩
  have HB0 := Lib.hid hB
  have H0 : Hid (GMap mPlaces ((w.alloc (.map #[] 0)).alloc (.cells #[.map (some B)] 157)) B 0 (fun _ => none) 0 ∧ ((w.alloc (.map #[] 0)).alloc (.cells #[.map (some B)] 157)).heap[B + 1]? = some (.cells #[.map (some B)] 157 (0, 0)) ∧ Below B w ((w.alloc (.map #[] 0)).alloc (.cells #[.map (some B)] 157))) := Lib.hid (by
    have h0 := gmap_made mPlaces w
    have hs : (w.alloc (.map #[] 0)).heap.size = B + 1 := by simp [hB]
    rw [hB] at h0
    refine ⟨h0.keep (Below.heap_alloc _ _ _ (by omega)), ?_, ?_⟩
    · rw [← hs]; exact heap_alloc_new _ _
    · rw [← hB]
      exact ((Below.refl _ _).alloc (Nat.le_refl _) _).alloc (by simp) _)
  go_enter Tryz.func38, Tryz.ntmps38
  go_wp2_with fail
  generalize ((w.alloc (.map #[] 0)).alloc (.cells #[.map (some B)] 157)) = W0 at *
  go_loopw [15] (fun iv wr => Wo1 w B n1 names iv wr) (fun iv _ => n1 - (intOf iv).toNat)
  case atStart => exact ⟨0, 0, _, rfl, Nat.zero_le _, H0.out.1, H0.out.2.1, H0.out.2.2, by rw [List.take_zero]; exact gone_nil⟩
  case round =>
    obtain ⟨k, m, f, rfl, hk, hmap, hbox, hb, hgone⟩ := hrel
    have HO := Lib.hid (And.intro hmap (And.intro hbox (And.intro hb hgone)))
    have hbs : B + 1 < wr.heap.size := (Array.getElem?_eq_some_iff.1 hbox).1
    have hsr := hb.size
    clear hmap hbox hb hgone
    by_cases hlt : k < n1
    · obtain ⟨hll, b, o, rfl, hbl, hc⟩ := str_at (HR.out.below (by rw [hB]; exact HO.out.2.2.1) (Nat.le_refl _)) (by omega)
      obtain ⟨s, hs⟩ : ∃ s, names[k]? = some s := ⟨_, List.getElem?_eq_getElem (by omega)⟩
      have z0 := hc k s hs
      have n0 : (k : Int) < n1 := by omega
      have HK := Lib.hid hs
      have hsz := HS.out s (List.mem_of_getElem? hs)
      have HLO := Lib.hid (fun w => low_any s w (by omega))
      have HS0 : Hid (wr.drew.cell? ⟨B + 1, 0, none⟩ = some (.map (some B))) := Lib.hid (by show wr.cell? _ = _; unfold World.cell?; rw [HO.out.2.1]; rfl)
      have HLT : Hid (B + 1 < wr.drew.heap.size) := Lib.hid hbs
      clear hc hs hll
      go_wp2_with fail
      --REGION1
      refine wp_region_held_drew (S := fun w' => w'.cell? ⟨B + 1, 0, none⟩ = some (.map (some B))) (by kernel_rfl) (HS0.out) (fun hHeld => ?_)
      refine wpAnyH_take (i := 0) (oi := ⟨some 20, _, _, _, _, _⟩) (v := ?_) rfl (by kernel_rfl) (by kernel_rfl) (by kernel_rfl) (fun _ _ _ h => h) (Or.inl ⟨by kernel_rfl, ?_⟩) hHeld ?_
      rotate_left
      · intro w hSw
        have h0 := hSw
        go_simp
        all_goals with_reducible rfl
      try simp only [Act.put, List.setIfInBounds_toArray, List.set_cons_zero, List.set_cons_succ]
      refine wpAnyH_take (i := 1) (oi := ⟨some 21, _, _, _, _, _⟩) (v := ?_) rfl (by kernel_rfl) (by kernel_rfl) (by kernel_rfl) (fun _ _ _ h => h) (Or.inl ⟨by kernel_rfl, ?_⟩) hHeld ?_
      rotate_left
      · intro w hSw
        have h0 := hSw
        go_simp
        all_goals with_reducible rfl
      try simp only [Act.put, List.setIfInBounds_toArray, List.set_cons_zero, List.set_cons_succ]
      refine wpAnyH_take (i := 3) (oi := ⟨some 23, _, _, _, _, _⟩) (v := ?_) rfl (by kernel_rfl) (by kernel_rfl) (by kernel_rfl) (fun _ _ _ h => h) (Or.inl ⟨by kernel_rfl, ?_⟩) hHeld ?_
      rotate_left
      · intro w hSw
        have h0 := hSw
        go_simp
        all_goals with_reducible rfl
      try simp only [Act.put, List.setIfInBounds_toArray, List.set_cons_zero, List.set_cons_succ]
      refine wpAnyH_ready (rs := [2]) (by kernel_rfl) (by simp) ?_
      refine AllReadyH.cons (o := ⟨some 22, _, _, _, _, _⟩) rfl (fun K hK => ?_) AllReadyH.nil
      go_simp
      refine (HLO.out _).mono ?_
      rintro e w3 ⟨rfl, hb3⟩
      have HB3 := Lib.hid hb3
      have k0 := (hb3.cell (p := ⟨B + 1, 0, none⟩) HLT.out).trans hHeld
      clear hb3
      refine hK.out _ _ (k0) (fun hHeld => ?_)
      clear hK K
      try simp only [Act.put, List.setIfInBounds_toArray, List.set_cons_zero, List.set_cons_succ]
      refine wpAnyH_ready (rs := [4]) (by kernel_rfl) (by simp) ?_
      refine AllReadyH.cons (o := ⟨none, _, _, _, _, _⟩) rfl (fun K hK => ?_) AllReadyH.nil
      go_simp
      obtain ⟨w4, hput, hmp, hgr⟩ := GMap.put okPlaces (HO.out.1.keep (w' := w3) (HB3.out.block B (Nat.lt_trans (Nat.lt_succ_self _) HLT.out))) (i := mkS (lowL s.data.toList)) (by show (mkS _).size ≤ maxLen; rw [mkS_size, lowL_length]; unfold maxLen; have : s.data.toList.length = s.size := str_len s; omega) (by unfold maxLen; omega) (k : Int)
      have hput2 : (Instr.mapUpdate 157 (.map (some B)) (.string (mkS (lowL s.data.toList))) (.int .i64 (k : Int))).run Tryz.prog w3 = .ok () w4 := hput
      have HP := Lib.hid (And.intro hmp hgr)
      have k1 := (hgr.cell (a := ⟨B + 1, 0, none⟩) (hHeld) (by show some (B + 1) ≠ some B; simp)) 
      clear hput hmp hgr
      go_simp
      refine hK.out _ _ (k1) (fun hHeld => ?_)
      clear hK K
      try simp only [Act.put, List.setIfInBounds_toArray, List.set_cons_zero, List.set_cons_succ]
      refine wpAnyH_done (by kernel_rfl) ?_ _
      --END1
      have HN : Hid (Wo1 w B n1 names (.int .i64 (k + 1 : Nat)) w4) := Lib.hid (by
        have hd : Below B w wr.drew := HO.out.2.2.1.trans (by exact ⟨rfl, rfl, rfl, Nat.le_refl _, fun _ _ => rfl⟩)
        refine ⟨k + 1, _, _, rfl, hlt, HP.out.1, ?_, ?_, ?_⟩
        · exact (HP.out.2.block (B + 1) (Nat.lt_of_lt_of_le HLT.out HB3.out.size) (by simp)).trans ((HB3.out.block (B + 1) HLT.out).trans HO.out.2.1)
        · exact (hd.trans (HB3.out.mono (Nat.le_of_lt (Nat.lt_trans (Nat.lt_succ_self _) HLT.out)))).grown HP.out.2 (Nat.le_trans (Nat.le_of_lt (Nat.lt_trans (Nat.lt_succ_self _) HLT.out)) HB3.out.size) (fun j hj => by injection hj with hj; omega)
        · exact gone_snoc (x := (k : Int)) HK.out HO.out.2.2.2 (fun j => by by_cases h : j = mkS (lowL s.data.toList) <;> simp [h]))
      clear HP hput2 HO HK
      go_wp2_with fail
      go_roundw
      case rel => exact HN.out
      case measure => simp [intOf]; omega
    · have hkn : k = n1 := by omega
      have hll1 : names.length = n1 := by have := HR.out.1; rw [strs_length] at this; omega
      have HG : Hid (GoneIs names f) := Lib.hid (by
        have := HO.out.2.2.2
        rwa [List.take_of_length_le (by omega)] at this)
      have HW1 := Lib.hid (And.intro HO.out.1 (And.intro HO.out.2.1 HO.out.2.2.1))
      clear HO hll1 H0
      generalize wr = wx at *
      subst hkn
      have HGS := Lib.hid (fun (fd : Fd) (w2 : World) (h2 : Below wx.heap.size wx w2) (h1 : fd.1.1.size ≤ 140737488351232) => stays_any (b := B + 1) fd w2 (by have h3 := (h2.block (B + 1) hbs).trans HW1.out.2.1; unfold World.cell?; rw [h3]; rfl) (HW1.out.1.below h2 (by omega)) h1)
      go_wp2_with fail
      go_loopw [9, 28] (fun ov iv w2 => Wo2 wx n l names ov iv w2) (fun _ iv _ => n - (intOf iv).toNat)
      case atStart => exact ⟨0, rfl, Nat.zero_le _, World.ownsRow_nil _ _ _ _, Below.refl _ _⟩
      case round =>
        obtain ⟨k2, rfl, hk2, hown⟩ := hrel
        have HO := Lib.hid hown
        have hsr2 := hown.2.size
        clear hown
        by_cases hlt2 : k2 < n
        · obtain ⟨hll, b, o, rfl, hbl, hc⟩ := fd_at ((HL.out.below (by rw [hB]; exact HW1.out.2.2) (Nat.le_refl _)).below (HO.out.2.mono hsr) (Nat.le_refl _)) (by omega)
          obtain ⟨f2, hf⟩ : ∃ f, l[k2]? = some f := ⟨_, List.getElem?_eq_getElem (by omega)⟩
          obtain ⟨z0, z1, z2⟩ := hc k2 f2 hf
          have n0 : (k2 : Int) < n := by omega
          have hbw : b < wr.heap.size := by omega
          have HSN := Lib.hid (withoutF_snoc hf names)
          have hlen := withoutF_le (l.take k2) names
          rw [List.length_take] at hlen
          have HST := Lib.hid (HGS.out f2 (wr.alloc (.cells #[.string f2.1.1, .string f2.1.2, .bool f2.2] 26)) (HO.out.2.alloc hsr2 _) (HZ.out f2 (List.mem_of_getElem? hf)).1)
          have HGO := Lib.hid (gone_same HG.out f2.1.1)
          clear hc hf hll
          obtain ⟨⟨nm, vl⟩, nv⟩ := f2
          simp only at z0 z1 z2 HSN HST HGO
          unfold fdv at HST
          dsimp only at HST
          rw [HGO.out] at HST
          obtain ⟨S, hS⟩ : ∃ S, (!(names.any fun n => sameL n.data.toList nm.data.toList)) = S := ⟨_, rfl⟩
          rw [hS] at HST HSN
          clear hS HGO
          go_wp2_with fail
          refine HST.out.mono ?_
          rintro e w2 ⟨rfl, hb2⟩
          have hqs : (wr.alloc (.cells #[.string nm, .string vl, .bool nv] 26)).heap.size = wr.heap.size + 1 := by simp
          have hq := (hb2.block wr.heap.size (by omega)).trans (heap_alloc_new wr _)
          have hb3 : Below wr.heap.size wr w2 := ((Below.refl _ _).alloc (Nat.le_refl _) _).trans (hb2.mono (by omega))
          have c0 : w2.cell? ⟨wr.heap.size, 0, none⟩ = some (.string nm) := by unfold World.cell?; rw [hq]; rfl
          have c1 : w2.cell? ⟨wr.heap.size, 1, none⟩ = some (.string vl) := by unfold World.cell?; rw [hq]; rfl
          have c2 : w2.cell? ⟨wr.heap.size, 2, none⟩ = some (.bool nv) := by unfold World.cell?; rw [hq]; rfl
          have HB3 := Lib.hid hb3
          have hsz3 := hb3.size
          clear hq hb2 hb3 HST hqs
          cases S with
          | true =>
            go_wp2_with (at_builtin; refine of_stop ?_)
            unfold Stop
            refine wpList_app (.tmp 35) (.tmp 37) tFields rfl rfl (own_later HO.out HB3.out _) rfl (Rd.one3 _ _ _ _ _) rfl (by simp [Value.oneCell']) (le_maxLen (by omega)) (by omega) (by simp; omega) ?_
            intro v5 w5 hown5 hg5 _
            have HN : Hid (Wo2 wx n l names v5 (.int .i64 (k2 + 1 : Nat)) w5) := Lib.hid (by
              refine ⟨k2 + 1, rfl, hlt2, ?_⟩
              rw [HSN.out]
              simp only [if_true]
              exact HO.out.app ((nm, vl), nv) HB3.out _ hown5 hg5)
            obtain ⟨A5, c5, hv5, -, -, -, -⟩ := own_slice hown5
            rw [hv5] at HN ⊢
            clear hown5 hg5 hv5 c0 c1 c2
            go_wp2
            go_roundw
            case rel => exact HN.out
            case measure => simp [intOf]; omega
          | false =>
            have HN : Hid (Wo2 wx n l names u9 (.int .i64 (k2 + 1 : Nat)) w2) := Lib.hid (by
              refine ⟨k2 + 1, rfl, hlt2, ?_⟩
              rw [HSN.out, if_neg (by simp), List.append_nil]
              exact ⟨own_kept4 HO.out.1 (Kept.of_below (F := fun _ => False) HB3.out) (fun _ _ h => h), HO.out.2.trans (HB3.out.mono hsr2)⟩)
            clear c0 c1 c2
            go_wp2
            go_roundw
            case rel => exact HN.out
            case measure => simp [intOf]; omega
        · have hkn2 : k2 = n := by omega
          have hll : l.length = n := by have := HL.out.1; rw [fds_length] at this; omega
          have HE : Hid (OwnFds w (withoutF l names) u9 wr) := Lib.hid (by
            have h1 := HO.out
            rw [List.take_of_length_le (by omega)] at h1
            exact ⟨own_base h1.1 hsr, (by rw [hB]; exact HW1.out.2.2.trans (h1.2.mono (by omega)))⟩)
          clear hll
          go_wp2
          go_ret
          exact ⟨_, rfl, HE.out⟩
end Go.Proofs.YtpkmciohehaboaaGreatDoor

/- The walks of hop.Strip, hop.Via. -/
namespace Go.Proofs.YtpkmciohehaboaaGreatDoor
open Go.RowKit Go.Maps

/-- The row of nine names. -/
theorem own_nine (w : World) : (w.alloc (.cells (strs nine).toArray 9)).ownsRow w.heap.size 9 1 (.slice (some ⟨w.heap.size, 0, none⟩) 9 9) 9 (strs nine) :=
  ⟨rfl, .inr ⟨_, 9, (strs nine).toArray, rfl, Nat.le_refl _, heap_alloc_new _ _, Nat.le_refl _, by unfold maxLen; omega, by simp [strs, nine], by simp [strs, nine]⟩⟩
set_option maxRecDepth 100000 in
set_option maxHeartbeats 8000000 in
theorem strip_any {A : Option Addr} {n c : Nat} {l : List Fd} (w : World) (hl : Rd w w.heap.size 3 A n (fds l)) (hn : n ≤ 1048576) (hz : Tx l) (hv : ∀ f ∈ l, f.1.2.size ≤ 1048575) (ht : (allF l con1).length ≤ 1048576) (hes : ∀ x ∈ allF l con1, x.size ≤ 140737488351232) :
    Calls Tryz.prog 10 #[.slice A n c] w (fun e w' => ∃ v, e = .returned v ∧ OwnFds w (stripF l) v w') := by
  have hb0 : Below w.heap.size w (w.alloc (.cells (strs nine).toArray 9)) := (Below.refl _ _).alloc (Nat.le_refl _) _
  have hs0 : (w.alloc (.cells (strs nine).toArray 9)).heap.size = w.heap.size + 1 := by simp
  have HALL := Lib.hid (all_any (c := c) con1 (w.alloc (.cells (strs nine).toArray 9)) ((hl.below hb0 (Nat.le_refl _)).more (by omega)) hn hz (by decide +kernel) hv ht)
  have HOWN := Lib.hid (own_nine w)
  have HL := Lib.hid hl
  have HB0 := Lib.hid hb0
  have HZ := Lib.hid hz
  have HES := Lib.hid hes
  have hst : stripF l = withoutF l (nine ++ allF l con1) := rfl
  rw [hst]
  obtain ⟨al, hal⟩ : ∃ al, allF l con1 = al := ⟨_, rfl⟩
  rw [hal] at HALL ht HES ⊢
  clear hl hb0 hz hes hst hal hs0 hv
  go_enter Tryz.func10, Tryz.ntmps10
  go_wp2_with fail
  refine HALL.out.mono ?_
  rintro e w1 ⟨av, rfl, hown1, hb1⟩
  obtain ⟨A1, c1, rfl, -, -, hrd1, -⟩ := own_slice hown1
  have hown0 := own_kept4 HOWN.out (Kept.of_below (F := fun _ => False) hb1) (fun _ _ h => h)
  go_wp2_with (at_builtin; refine of_stop ?_)
  unfold Stop
  refine wpList_app (.tmp 4) (.tmp 6) tStrs rfl rfl hown0 rfl hrd1 rfl (by simp [strs, Value.oneCell']) (le_maxLen (by omega)) (by omega) (by have := hb1.size; have := HB0.out.size; omega) ?_
  intro v5 w5 hown5 hg5 _
  have hb5 : Below w.heap.size w w5 := Below.app (HB0.out.trans (hb1.mono HB0.out.size)) hown0 hg5 (Nat.le_refl _) (by have := hb1.size; have := HB0.out.size; omega)
  rw [show strs nine ++ strs al = strs (nine ++ al) by simp [strs]] at hown5
  obtain ⟨A5, c5, hv5, -, -, hrd5, -⟩ := own_slice hown5
  have HWO := Lib.hid (without_any (c := c) (c1 := c5) w5 ((HL.out.below hb5 (Nat.le_refl _)).more hb5.size) hn HZ.out hrd5 (by omega) (fun s hs => by
    rcases List.mem_append.1 hs with hs | hs
    · have : ∀ s ∈ nine, s.size ≤ 140737488351232 := by decide +kernel
      exact this s hs
    · exact HES.out s hs))
  have HB5 := Lib.hid hb5
  subst hv5
  clear hown1 hb1 hrd1 hown0 hown5 hg5 hrd5 hb5 HALL
  go_wp2_with fail
  refine HWO.out.mono ?_
  rintro e w6 ⟨v6, rfl, hown6⟩
  have HE : Hid (OwnFds w (withoutF l (nine ++ al)) v6 w6) := Lib.hid ⟨own_base hown6.1 HB5.out.size, HB5.out.trans (hown6.2.mono HB5.out.size)⟩
  obtain ⟨A6, c6, hv6, -, -, -, -⟩ := own_slice hown6.1
  subst hv6
  clear hown6 HWO
  go_wp2
  go_ret
  exact ⟨_, rfl, HE.out⟩
set_option maxRecDepth 100000 in
set_option maxHeartbeats 8000000 in
theorem via_any {A : Option Addr} {n c : Nat} {l : List Fd} (who : ByteArray) (w : World) (hl : Rd w w.heap.size 3 A n (fds l)) (hn : n ≤ 1048576) :
    Calls Tryz.prog 9 #[.slice A n c, .string who] w (fun e w' => ∃ v, e = .returned v ∧ OwnFds w (l ++ [((viaB, who), false)]) v w') := by
  have hll : l.length = n := by have := hl.1; rw [fds_length] at this; omega
  have HL := Lib.hid hl
  clear hl
  go_enter Tryz.func9, Tryz.ntmps9
  go_wp2_with (at_builtin; refine of_stop ?_)
  unfold Stop
  refine wpList_app (.const (.slice none 0 0)) (.tmp 5) tFields rfl rfl (World.ownsRow_nil w w.heap.size 26 3) rfl HL.out rfl (fds_one _) (le_maxLen (by omega)) (by omega) (Nat.le_refl _) ?_
  intro v3 w3 hown3 hg3 _
  have hb3 : Below w.heap.size w w3 := Below.app (Below.refl _ _) (World.ownsRow_nil w w.heap.size 26 3) hg3 (Nat.le_refl _) (Nat.le_refl _)
  rw [Nat.zero_add, List.nil_append] at hown3
  have H3 : Hid (OwnFds w l v3 w3) := Lib.hid ⟨by rw [hll]; exact hown3, hb3⟩
  obtain ⟨A3, c3, hv3, -, -, -, -⟩ := own_slice hown3
  subst hv3
  have hs3 := hb3.size
  clear hown3 hg3 hb3
  go_wp2_with (at_builtin; refine of_stop ?_)
  unfold Stop
  refine wpList_app (.tmp 6) (.tmp 9) tFields rfl rfl (own_later H3.out (Below.refl _ _) _) rfl (Rd.one3 _ _ _ _ _) rfl (by simp [Value.oneCell']) (le_maxLen (by omega)) (by omega) (by simp; omega) ?_
  intro v5 w5 hown5 hg5 _
  have HE : Hid (OwnFds w (l ++ [((viaB, who), false)]) v5 w5) := Lib.hid (H3.out.app ((viaB, who), false) (Below.refl _ _) _ hown5 hg5)
  obtain ⟨A5, c5, hv5, -, -, -, -⟩ := own_slice hown5
  subst hv5
  clear hown5 hg5
  go_wp2
  go_ret
  have h := HE.out
  rw [hll] at h
  exact ⟨_, rfl, h⟩
end Go.Proofs.YtpkmciohehaboaaGreatDoor

/- The walk of ref14.FieldLine. -/
namespace Go.Proofs.YtpkmciohehaboaaGreatDoor
open Go.RowKit

theorem infoField : (Tryz.prog.info? 26).map (·.size) = some 3 := by kernel_rfl
theorem colN_at {l : List UInt8} {k : Nat} (hk : k ≤ l.length) (h : (l.take k).all (fun c => decide (c ≠ 58)) = true) (he : k = l.length ∨ ba l k = 58) : colN l = k := by
  have h1 : ∀ c ∈ l.take k, decide (c ≠ 58) = true := by rw [List.all_eq_true] at h; exact h
  unfold colN
  conv => lhs; rw [← List.take_append_drop k l]
  rw [List.takeWhile_append_of_pos h1]
  have h2 : (l.drop k).takeWhile (fun c => decide (c ≠ 58)) = [] := by
    rcases he with he | he
    · rw [List.drop_of_length_le (by omega)]; rfl
    · by_cases hl : k < l.length
      · rw [List.drop_eq_getElem_cons hl, List.takeWhile_cons_of_neg]
        have : (l[k]).toNat = 58 := by unfold ba at he; rw [List.getD_eq_getElem?_getD, List.getElem?_eq_getElem hl] at he; exact he
        have h3 : l[k] = 58 := UInt8.toNat_inj.1 this
        simp [h3]
      · rw [List.drop_of_length_le (by omega)]; rfl
  rw [h2]
  simp; omega
def FlRel (l : List UInt8) (n : Nat) (iv : Value) : Prop := ∃ k : Nat, iv = .int .i64 k ∧ k ≤ n ∧ (l.take k).all (fun c => decide (c ≠ 58)) = true
/-- A field and a sign, out of the field's block. -/
theorem results_line {tmps : Array Value} {w : World} {g : Nat} {cs : Array Value} (hp : tmps.getD 2 undef = .pointer (some ⟨g, 0, none⟩)) (hg : w.heap[g]? = some (.cells cs 26 (0, 0))) (hs : cs.size = 3) :
    (results Tryz.f7 tmps).run Tryz.prog w = .ok (.tuple #[.agg cs, tmps.getD 3 undef]) w := by
  have h1 := run_loadVar_row (P := Tryz.prog) w g 26 26 cs (0, 0) _ hg Tryz.underlying26 rfl (by rw [infoField, hs])
  have hp' : tmps[2]?.getD undef = .pointer (some ⟨g, 0, none⟩) := by simpa using hp
  simp [results, Tryz.results7, hp', asAddr, h1]
def FlPost (w : World) (R : Fd × Bool) (e : Ending) (w' : World) : Prop := e = .returned (.tuple #[.agg #[.string R.1.1.1, .string R.1.1.2, .bool R.1.2], .bool R.2]) ∧ Below w.heap.size w w'
set_option maxRecDepth 100000 in
set_option maxHeartbeats 8000000 in
theorem fieldline_any (s : ByteArray) (w : World) (hs : s.size ≤ 140737488350000) : Calls Tryz.prog 7 #[.string s] w (FlPost w (lineF s.data.toList)) := by
  have hget := get_ba s
  have hlen := str_len s
  have hfrom := fun k h => sl_from s k h
  have hto := fun k h => sl_to s k h
  obtain ⟨l, hl⟩ : ∃ l, s.data.toList = l := ⟨_, rfl⟩
  rw [hl] at hget hlen hfrom hto ⊢
  obtain ⟨n, hn⟩ : ∃ n, s.size = n := ⟨_, rfl⟩
  have HL := Lib.hid hlen
  have HFT := Lib.hid (And.intro hfrom hto)
  obtain ⟨R, hR⟩ : ∃ R, lineF l = R := ⟨_, rfl⟩
  rw [hR]
  have HR := Lib.hid hR
  have HN := Lib.hid hn
  have hnew := heap_alloc_new w (.cells #[.string ⟨#[]⟩, .string ⟨#[]⟩, .bool false] 26)
  have H0 : Hid (Below w.heap.size w (w.alloc (.cells #[.string ⟨#[]⟩, .string ⟨#[]⟩, .bool false] 26))) := Lib.hid ((Below.refl _ _).alloc (Nat.le_refl _) _)
  have hsz : w.heap.size < (w.alloc (.cells #[.string ⟨#[]⟩, .string ⟨#[]⟩, .bool false] 26)).heap.size := by simp
  clear hlen hl hR hn hfrom hto
  go_enter Tryz.func7, Tryz.ntmps7
  go_wp2_with fail
  generalize hW : (w.alloc (.cells #[.string ⟨#[]⟩, .string ⟨#[]⟩, .bool false] 26)) = W at *
  generalize hq : w.heap.size = q at *
  have HNEW := Lib.hid hnew
  have HSZ := Lib.hid hsz
  have HW := Lib.hid (And.intro hW hq)
  clear hnew hsz hW hq
  go_loop [4] (fun iv => FlRel l n iv) (fun iv => n - (intOf iv).toNat)
  case atStart => exact ⟨0, rfl, Nat.zero_le _, rfl⟩
  case round =>
    obtain ⟨k, rfl, hk, hall⟩ := hrel
    have HALL := Lib.hid hall
    clear hall
    have hkl : k ≤ l.length := by rw [HL.out, HN.out]; exact hk
    by_cases hgo : k < n ∧ ba l k ≠ 58
    · obtain ⟨hlt, hne⟩ := hgo
      have k1 : (k : Int) < s.size := by have := HN.out; omega
      have hgk := hget k (by have := HN.out; omega)
      have e1 : (((ba l k : Nat) : Int) == 58) = false := by simp; omega
      have HE : Hid (FlRel l n (.int .i64 (k + 1 : Nat))) := Lib.hid ⟨k + 1, rfl, hlt, all_take_succ HALL.out (by rw [HL.out, HN.out]; exact hlt) (by
        have : ba l k = (l[k]'(by rw [HL.out, HN.out]; exact hlt)).toNat := (ba_get (by rw [HL.out, HN.out]; exact hlt))
        simp
        intro h
        rw [h] at this
        exact hne this)⟩
      clear hget
      go_wp2_with fail
      go_round
      case rel => exact HE.out
      case measure => have := HN.out; simp [intOf]; omega
    · have hksz : k < n → k < s.size := fun h => by have := HN.out; omega
      have hcol : colN l = k := colN_at hkl HALL.out (by
        by_cases h1 : k < n
        · right
          by_cases h2 : ba l k = 58
          · exact h2
          · exact absurd ⟨h1, h2⟩ hgo
        · left; have := HN.out; have := HL.out; omega)
      have hRR := HR.out
      unfold lineF at hRR
      rw [hcol] at hRR
      have HR2 := Lib.hid hRR
      by_cases hlt : k < n
      · have h58 : ba l k = 58 := by
          by_cases h2 : ba l k = 58
          · exact h2
          · exact absurd ⟨hlt, h2⟩ hgo
        have k1 : (k : Int) < s.size := by have := HN.out; omega
        have hgk := hget k (hksz hlt)
        have e1 : (((ba l k : Nat) : Int) == 58) = true := by rw [h58]; rfl
        have e2 : ((k : Int) == (s.size : Int)) = false := by have := HN.out; simp; omega
        have hto := HFT.out.2 k (by have := HN.out; omega)
        have hfrom := HFT.out.1 (k + 1) (by have := HN.out; omega)
        have hfrom2 : ∀ (w : World), (Instr.slice 9 (.string s) (some (.int .i64 ((k : Int) + 1))) none none).run Tryz.prog w = .ok (.string (mkS (l.drop (k + 1)))) w := hfrom
        have hllen : l.length ≤ 140737488350000 := by rw [HL.out]; exact hs
        have HTK := Lib.hid (rtoken_any (mkS (l.take k)) W (by rw [mkS_size]; simp; omega))
        rw [mkS_list] at HTK
        obtain ⟨T, hT⟩ : ∃ T, tokL (l.take k) = T := ⟨_, rfl⟩
        rw [hT] at HTK HR2
        clear hget hgo hcol hRR hT hfrom
        cases T with
        | false =>
          have HRR : Hid (R = (((mkS [], mkS []), false), false)) := Lib.hid (by rw [← HR2.out, if_pos (.inr rfl)])
          go_wp2_with fail
          refine HTK.out.mono ?_
          rintro e w1 ⟨rfl, rfl⟩
          go_wp2_with (first
            | (refine wpList_store_rowTo rfl 26 (.tmp 2) _ rfl rfl q #[.string ⟨#[]⟩, .string ⟨#[]⟩, .bool false] rfl rfl 26 _ HNEW.out infoField rfl (by simp [Value.oneCell']) ?_))
          refine bodyPost_ret (results_line rfl (setRow_heap _ _ _ _ _ _ HNEW.out) rfl) rfl ?_
          rw [HRR.out]
          refine ⟨rfl, ?_⟩
          rw [HW.out.2]
          exact H0.out.trans ⟨rfl, rfl, rfl, by simp, fun k hk => setRow_other _ _ _ _ (by omega)⟩
        | true =>
          have HRR : Hid (R = (((mkS (lowL (l.take k)), mkS (trimL (l.drop (k + 1)))), false), valL (trimL (l.drop (k + 1))))) := Lib.hid (by
            rw [← HR2.out, if_neg]
            rintro (h | h)
            · have := HL.out; have := HN.out; omega
            · cases h)
          have htl := trimL_le (l.drop (k + 1))
          rw [List.length_drop] at htl
          have HTR := Lib.hid (rtrim_any (mkS (l.drop (k + 1))) W (by rw [mkS_size]; simp; omega))
          rw [mkS_list] at HTR
          obtain ⟨V, hV⟩ : ∃ V, trimL (l.drop (k + 1)) = V := ⟨_, rfl⟩
          rw [hV] at HTR HRR htl
          have HLW := Lib.hid (rlower_any (mkS (l.take k)) W (by rw [mkS_size]; simp; omega))
          rw [mkS_list] at HLW
          have HVL := Lib.hid (fun w => rvalue_any (mkS V) w (by rw [mkS_size]; omega))
          rw [mkS_list] at HVL
          clear hV
          go_wp2_with fail
          refine HTK.out.mono ?_
          rintro e w1 ⟨rfl, rfl⟩
          go_wp2_with fail
          refine HTR.out.mono ?_
          rintro e w1 ⟨rfl, rfl⟩
          go_wp2_with fail
          refine HLW.out.mono ?_
          rintro e w2 ⟨rfl, hb2⟩
          have HN2 := Lib.hid ((hb2.block q HSZ.out).trans HNEW.out)
          have HB2 := Lib.hid (H0.out.trans (hb2.mono (Nat.le_of_lt HSZ.out)))
          clear hb2
          go_wp2_with fail
          refine (HVL.out _).mono ?_
          rintro e w3 ⟨rfl, rfl⟩
          go_wp2_with (first
            | (refine wpList_store_rowTo rfl 26 (.tmp 2) _ rfl rfl q #[.string (mkS (lowL (l.take k))), .string (mkS V), .bool false] rfl rfl 26 _ HN2.out infoField rfl (by simp [Value.oneCell']) ?_))
          refine bodyPost_ret (results_line rfl (setRow_heap _ _ _ _ _ _ HN2.out) rfl) rfl ?_
          rw [HRR.out]
          refine ⟨rfl, ?_⟩
          rw [HW.out.2]
          exact HB2.out.trans ⟨rfl, rfl, rfl, by simp, fun k hk => setRow_other _ _ _ _ (by omega)⟩
      · have hkn : k = s.size := by have := HN.out; omega
        have HRR : Hid (R = (((mkS [], mkS []), false), false)) := Lib.hid (by rw [← HR2.out, if_pos (.inl (by rw [HL.out]; exact hkn))])
        clear hget hgo hcol hRR
        subst hkn
        go_wp2_with (first
          | (refine wpList_store_rowTo rfl 26 (.tmp 2) _ rfl rfl q #[.string ⟨#[]⟩, .string ⟨#[]⟩, .bool false] rfl rfl 26 _ HNEW.out infoField rfl (by simp [Value.oneCell']) ?_))
        refine bodyPost_ret (results_line rfl (setRow_heap _ _ _ _ _ _ HNEW.out) rfl) rfl ?_
        rw [HRR.out]
        refine ⟨rfl, ?_⟩
        rw [HW.out.2]
        exact H0.out.trans ⟨rfl, rfl, rfl, by simp, fun k hk => setRow_other _ _ _ _ (by omega)⟩
end Go.Proofs.YtpkmciohehaboaaGreatDoor
