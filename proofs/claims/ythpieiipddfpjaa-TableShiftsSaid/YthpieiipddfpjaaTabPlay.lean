/- The walk of drawbridgelaw04.play: both tables have the same rows. -/
import Derived.Test.YthpieiipddfpjaaTabFew
import Derived.Test.YthpieiipddfpjaaTab5
import Derived.Test.YthpieiipddfpjaaRTab3
namespace Go.Proofs.Ythpieiipddfpjaa
open Go.RowKit

theorem shrunk_snd (m g g' : Int) (l : List Rw) : (shrunk m g l).2 = (shrunk m g' l).2 := by
  induction l generalizing g g' with
  | nil => rfl
  | cons r l ih =>
    by_cases h : m < sumc (r :: l)
    · rw [shrunk_go h, shrunk_go h]; exact ih _ _
    · rw [shrunk_stop (show sumc (r :: l) ≤ m by omega), shrunk_stop (show sumc (r :: l) ≤ m by omega)]
theorem Tb.resize_rows (T : Tb) (m : Int) : (T.resize m).rows = (shrunk m 0 T.rows).2 := shrunk_snd _ _ _ _
theorem Tb.resize_most (T : Tb) (m : Int) : (T.resize m).most = m := rfl
theorem shrunk_zero {l : List Rw} {g : Int} : (shrunk 0 g l).2 = [] := by
  have h := shrunk_fits (Int.le_refl 0) l g
  cases e : (shrunk 0 g l).2 with
  | nil => rfl
  | cons r k => rw [e, sumc_cons] at h; have := sumc_nonneg k; unfold cost at h; omega
theorem Tb.add_rows (T : Tb) (r : Rw) : (T.add r).rows = raddR T.most T.rows r := by
  unfold Tb.add raddR
  split
  · exact shrunk_zero
  · show (shrunk _ _ _).2 ++ [r] = _
    rw [shrunk_snd _ T.gone 0]
theorem Tb.add_most (T : Tb) (r : Rw) : (T.add r).most = T.most := by
  unfold Tb.add
  split <;> rfl
theorem TM.more {w : World} {g mb mn c N N' : Nat} {A : Option Addr} {T : Tb} (h : TM w g mb mn A c N T) (hn : N ≤ N') (hN : N' ≤ 1099511627776) : TM w g mb mn A c N' T :=
  ⟨h.raw.more hn, h.ok, h.most0, h.most1, h.gone0, by have := h.many; omega, hN, h.fits⟩
theorem TabIs.more {w : World} {g N N' : Nat} {F : Nat → Prop} {T : Tb} (h : TabIs w g F N T) (hn : N ≤ N') (hN : N' ≤ 1099511627776) : TabIs w g F N' T := by
  obtain ⟨mb, mn, A, c, rfl, ht⟩ := h
  exact ⟨mb, mn, A, c, rfl, ht.more hn hN⟩
theorem TabIs.small {w : World} {g N : Nat} {F : Nat → Prop} {T : Tb} (h : TabIs w g F N T) : Small T.rows := by
  obtain ⟨h1, h2, h3, h4, h5, h6, h7⟩ := h.inv
  exact ⟨by omega, h1⟩

/-- Both tables, apart from each other, above B. -/
def Both (B : Nat) (W wr : World) (g q : Nat) (N : Nat) (T : Tb) : Prop :=
  ∃ F G, TabIs wr g F N T ∧ RIs wr q G T.most T.rows ∧ (∀ k, F k → ¬ G k) ∧ (∀ k, F k → B ≤ k) ∧ (∀ k, G k → B ≤ k) ∧ Below B W wr
/-- The table of the program has changed: the other one stands. -/
theorem RIs.beside {B : Nat} {W w w' : World} {q : Nat} {most : Int} {rows : List Rw} {F F' G : Nat → Prop} (hr : RIs w q G most rows) (hd : ∀ k, F k → ¬ G k) (hF : ∀ k, F k → B ≤ k) (hb : Below B W w) (hB : B ≤ w.heap.size)
    (hk : Kept F w w') (hg : Grew w F F') : RIs w' q G most rows ∧ (∀ k, F' k → ¬ G k) ∧ (∀ k, F' k → B ≤ k) ∧ Below B W w' :=
  ⟨hr.kept hk (fun k h1 h2 => hd k h2 h1), fun k h1 h2 => (hg k h1).elim (fun h => hd k h h2) (fun h => by have := hr.lt k h2; omega), fun k h => (hg k h).elim (hF k) (fun h => by omega), hb.trans (hk.below hF hB)⟩
/-- The document's table has changed: the other one stands. -/
theorem TabIs.beside {B : Nat} {W w w' : World} {g N : Nat} {T : Tb} {F G G' : Nat → Prop} (ht : TabIs w g F N T) (hd : ∀ k, F k → ¬ G k) (hG : ∀ k, G k → B ≤ k) (hb : Below B W w) (hB : B ≤ w.heap.size)
    (hk : Kept G w w') (hg : Grew w G G') : TabIs w' g F N T ∧ (∀ k, F k → ¬ G' k) ∧ (∀ k, G' k → B ≤ k) ∧ Below B W w' :=
  ⟨ht.kept hk (fun k h1 h2 => hd k h1 h2), fun k h1 h2 => (hg k h2).elim (fun h => hd k h1 h) (fun h => by have := ht.lt k h1; omega), fun k h => (hg k h).elim (hG k) (fun h => by omega), hb.trans (hk.below hG hB)⟩

def PlayRel (B : Nat) (W : World) (g q n : Nat) (iv : Value) (wr : World) : Prop := ∃ (k : Nat) (T : Tb), iv = .int .i64 k ∧ k ≤ n ∧ k ≤ 120 ∧ Both B W wr g q k T
def PlayPost (B : Nat) (W : World) (g q : Nat) (e : Ending) (w' : World) : Prop := e = .returned (.bool true) ∧ ∃ T, Both B W w' g q 120 T
set_option maxRecDepth 100000 in
set_option maxHeartbeats 4000000 in
theorem play_any {B n c g q : Nat} {A : Option Addr} {D : Nat → St} {T : Tb} (w : World) (h : Script w B A n D) (hB : B ≤ w.heap.size) (hn : n ≤ 140737488351232) (hfew : Few n D) (hb : Both B w w g q 0 T) :
    Calls Try.prog 16 #[.pointer (some ⟨g, 0, none⟩), .pointer (some ⟨q, 0, none⟩), .slice A n c] w (PlayPost B w g q) := by
  have H := Lib.hid h
  have HF := Lib.hid hfew
  have HB0 := Lib.hid hb
  clear h hfew hb
  go_enter Try.func16, Try.ntmps16
  go_wp2
  go_loopw [7] (fun i wr => PlayRel B w g q n i wr) (fun i _ => n - (intOf i).toNat)
  case atStart => exact ⟨0, T, rfl, by omega, by omega, HB0.out⟩
  case round =>
    obtain ⟨k, T1, rfl, hk, hk2, hboth⟩ := hrel
    have HBO := Lib.hid hboth
    clear hboth
    by_cases hlt : k < n
    · by_cases h120 : k < 120
      · obtain ⟨F, G, ht, hr, hd, hF, hG, hb⟩ := HBO.out
        have hBr : B ≤ wr.heap.size := Nat.le_trans hB hb.size
        obtain ⟨b, o, rfl, hbB, hc⟩ := (H.out.below hb).2 (by omega)
        obtain ⟨c0, c1, c2, c3, c4⟩ := hc k hlt
        obtain ⟨z1, z2⟩ := HF.out k hlt h120
        have hok := H.out.1 k hlt
        generalize D k = S at c0 c1 c2 c3 c4 z1 z2 hok
        obtain ⟨sk, ⟨s1, s2⟩, sv, sn⟩ := S
        simp only at c0 c1 c2 c3 c4 z1 z2
        have hw3 := hok.2.2.2
        obtain ⟨W1, hW1⟩ : ∃ W1, wr.alloc (.cells #[.int .i64 sk, .string s1, .string s2, .bool sv, .int .i64 sn] 47) = W1 := ⟨_, rfl⟩
        obtain ⟨x, hx⟩ : ∃ x, wr.heap.size = x := ⟨_, rfl⟩
        have hb1 : Below B w W1 := by rw [← hW1]; exact hb.alloc hBr _
        have ht1 : TabIs W1 g F k T1 := by rw [← hW1]; exact ht.alloc _
        have hr1 : RIs W1 q G T1.most T1.rows := hr.keep fun k hk => by rw [← hW1]; exact Below.heap_alloc _ _ _ (hr.lt k hk)
        have x0 : W1.cell? ⟨x, 0, none⟩ = some (.int .i64 sk) := by rw [← hW1, ← hx]; exact World.cell?_alloc_at _ _ _ _ rfl
        have x1 : W1.cell? ⟨x, 1, none⟩ = some (.string s1) := by rw [← hW1, ← hx]; exact World.cell?_alloc_at _ _ _ _ rfl
        have x2 : W1.cell? ⟨x, 2, none⟩ = some (.string s2) := by rw [← hW1, ← hx]; exact World.cell?_alloc_at _ _ _ _ rfl
        have x3 : W1.cell? ⟨x, 3, none⟩ = some (.bool sv) := by rw [← hW1, ← hx]; exact World.cell?_alloc_at _ _ _ _ rfl
        have x4 : W1.cell? ⟨x, 4, none⟩ = some (.int .i64 sn) := by rw [← hW1, ← hx]; exact World.cell?_alloc_at _ _ _ _ rfl
        have hxs : x < W1.heap.size := by rw [← hW1, ← hx]; simp
        have hxF : ¬ F x := fun h => by have := ht.lt x h; omega
        have hxG : ¬ G x := fun h => by have := hr.lt x h; omega
        have hB1 : B ≤ W1.heap.size := Nat.le_trans hB hb1.size
        have HX := Lib.hid (And.intro ht1 (And.intro hr1 (And.intro hd (And.intro hF (And.intro hG hb1)))))
        have HW1 := Lib.hid hW1
        have HQ := Lib.hid hx
        have HNF := Lib.hid hxF
        have HNG := Lib.hid hxG
        have n1 : (k : Int) < n := by omega
        have n2 : (k : Int) < 120 := by omega
        clear hc hok ht hr hd hF hG hb hW1 hx hb1 ht1 hr1 hxF hxG
        by_cases hk0 : sk = 0
        · subst hk0
          go_wp2_with fail
          rw [HW1.out, HQ.out]
          clear HW1 HQ
          refine (add_any (N := k) (s1, s2) sv W1 HX.out.1 (by simp only; omega) (by simp only; omega) (by omega)).mono ?_
          rintro e w2 ⟨rfl, F2, ht2, hk2', hg2⟩
          obtain ⟨hr2, hd2, hF2, hb2⟩ := RIs.beside (B := B) HX.out.2.1 HX.out.2.2.1 HX.out.2.2.2.1 HX.out.2.2.2.2.2 hB1 hk2' hg2
          have y1 := (hk2'.cell hxs HNF.out 1).trans x1
          have y2 := (hk2'.cell hxs HNF.out 2).trans x2
          have y3 := (hk2'.cell hxs HNF.out 3).trans x3
          have hB2 : B ≤ w2.heap.size := Nat.le_trans hB1 hk2'.size
          obtain ⟨-, hm0, hm1, -⟩ := HX.out.1.inv
          have HY := Lib.hid (And.intro ht2 (And.intro hr2 (And.intro hd2 (And.intro hF2 (And.intro HX.out.2.2.2.2.1 hb2)))))
          have HSM := Lib.hid HX.out.1.small
          clear ht2 hk2' hg2 hr2 hd2 hF2 hb2 x0 x1 x2 x3 x4 HX
          go_wp2_with fail
          refine (radd_any (s1, s2) sv w2 HY.out.2.1 HSM.out (by simp only; omega) (by simp only; omega) hm0 hm1).mono ?_
          rintro e w3 ⟨rfl, G3, hr3, hk3, hg3⟩
          obtain ⟨ht3, hd3, hG3, hb3⟩ := TabIs.beside (B := B) HY.out.1 HY.out.2.2.1 HY.out.2.2.2.2.1 HY.out.2.2.2.2.2 hB2 hk3 hg3
          have HZ := Lib.hid (And.intro ht3 (And.intro hr3 (And.intro hd3 (And.intro HY.out.2.2.2.1 (And.intro hG3 hb3)))))
          clear ht3 hr3 hd3 hG3 hb3 hk3 hg3 y1 y2 y3 HY
          go_wp2
          go_roundw
          case rel =>
            obtain ⟨a1, a2, a3, a4, a5, a6⟩ := HZ.out
            exact ⟨k + 1, T1.add (s1, s2), by go_num, by omega, by omega, F2, G3, a1, by rw [Tb.add_most, Tb.add_rows]; exact a2, a3, a4, a5, a6⟩
          case measure => simp [intOf]; omega
        · by_cases hbad : sn < 0 ∨ 65536 < sn
          · go_wp2_with fail
            rw [HW1.out, HQ.out]
            clear HW1 HQ
            refine (resize_bad sn W1 hbad).mono ?_
            rintro e w2 ⟨rfl, rfl⟩
            by_cases h0 : sn < 0
            · clear hbad
              go_wp2
              go_roundw
              case rel =>
                obtain ⟨a1, a2, a3, a4, a5, a6⟩ := HX.out
                exact ⟨k + 1, T1, by go_num, by omega, by omega, F, G, a1.more (by omega) (by omega), a2, a3, a4, a5, a6⟩
              case measure => simp [intOf]; omega
            · have h1 : 65536 < sn := by omega
              clear hbad
              go_wp2
              go_roundw
              case rel =>
                obtain ⟨a1, a2, a3, a4, a5, a6⟩ := HX.out
                exact ⟨k + 1, T1, by go_num, by omega, by omega, F, G, a1.more (by omega) (by omega), a2, a3, a4, a5, a6⟩
              case measure => simp [intOf]; omega
          · have h0 : 0 ≤ sn := by omega
            have h1 : sn ≤ 65536 := by omega
            clear hbad
            go_wp2_with fail
            rw [HW1.out, HQ.out]
            clear HW1 HQ
            refine (resize_any (N := k) sn W1 HX.out.1 h0 h1).mono ?_
            rintro e w2 ⟨rfl, F2, ht2, hk2', hg2⟩
            obtain ⟨hr2, hd2, hF2, hb2⟩ := RIs.beside (B := B) HX.out.2.1 HX.out.2.2.1 HX.out.2.2.2.1 HX.out.2.2.2.2.2 hB1 hk2' hg2
            have y4 := (hk2'.cell hxs HNF.out 4).trans x4
            have hB2 : B ≤ w2.heap.size := Nat.le_trans hB1 hk2'.size
            have HY := Lib.hid (And.intro ht2 (And.intro hr2 (And.intro hd2 (And.intro hF2 (And.intro HX.out.2.2.2.2.1 hb2)))))
            have HSM := Lib.hid HX.out.1.small
            clear ht2 hk2' hg2 hr2 hd2 hF2 hb2 x0 x1 x2 x3 x4 HX
            go_wp2_with fail
            refine (rresize_any sn w2 HY.out.2.1 HSM.out h0).mono ?_
            rintro e w3 ⟨rfl, G3, hr3, hk3, hg3⟩
            obtain ⟨ht3, hd3, hG3, hb3⟩ := TabIs.beside (B := B) HY.out.1 HY.out.2.2.1 HY.out.2.2.2.2.1 HY.out.2.2.2.2.2 hB2 hk3 hg3
            have HZ := Lib.hid (And.intro ht3 (And.intro hr3 (And.intro hd3 (And.intro HY.out.2.2.2.1 (And.intro hG3 hb3)))))
            clear ht3 hr3 hd3 hG3 hb3 hk3 hg3 y4 HY
            go_wp2
            go_roundw
            case rel =>
              obtain ⟨a1, a2, a3, a4, a5, a6⟩ := HZ.out
              exact ⟨k + 1, T1.resize sn, by go_num, by omega, by omega, F2, G3, a1.more (by omega) (by omega), by rw [Tb.resize_most, Tb.resize_rows]; exact a2, a3, a4, a5, a6⟩
            case measure => simp [intOf]; omega
      · go_wp2
        go_ret
        obtain ⟨F, G, ht, hr, hd, hF, hG, hb⟩ := HBO.out
        exact ⟨rfl, T1, F, G, ht.more hk2 (by omega), hr, hd, hF, hG, hb⟩
    · go_wp2
      go_ret
      obtain ⟨F, G, ht, hr, hd, hF, hG, hb⟩ := HBO.out
      exact ⟨rfl, T1, F, G, ht.more hk2 (by omega), hr, hd, hF, hG, hb⟩
end Go.Proofs.Ythpieiipddfpjaa
