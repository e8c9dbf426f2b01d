/- 4 texts in one: Cn3, Hd8, Dh1, Cn4. -/
import Derived.Test.YtpkmciohehaboaaGreatDoorM13
import Derived.Test.YtpkmciohehaboaaGreatDoorM7
import Derived.Test.YtpkmciohehaboaaGreatDoorM11
import Derived.StillTailTactics
import Derived.Great.BuildSlice
/- The connection's maps; the walk of conn.New (its region printed by gen_cn3.py). -/
namespace Go.Proofs.YtpkmciohehaboaaGreatDoor
open Go.RowKit Go.Maps

def optN : Option Nat → Int
  | none => 0
  | some q => (q : Int) + 1
/-- Live streams: numbers to blocks. -/
def mLive : MK Int (Option Nat) := { t := 93, k := 3, e := 133, kv := fun i => .int .i64 i, kl := fun i => .int .i64 i, okk := fun i => (Lit.int .i64 i).wf = true, ev := fun o => .pointer (o.map fun q => ⟨q, 0, none⟩), el := fun o => .int .i64 (optN o), z := none }
theorem okLive : MKok mLive where
  ht := Tryz.underlying93
  keyed := lawK
  key x h := keyOf_int_mk Tryz.underlying3 h
  kinj x y h := by injection h
  einj x y h := by
    have h1 : (Value.pointer (x.map fun q => (⟨q, 0, none⟩ : Addr))) = .pointer (y.map fun q => ⟨q, 0, none⟩) := h
    injection h1 with h1
    cases x <;> cases y <;> simp at h1 ⊢
    exact h1
  linj x y h := by
    have h1 : (Lit.int .i64 (optN x)) = .int .i64 (optN y) := h
    injection h1 with h1 h2
    cases x <;> cases y <;> simp only [optN] at h2
    · rfl
    · omega
    · omega
    · congr 1; omega
  zero w := by kernel_rfl
/-- How streams that are not live came to be so. -/
def mHow : MK Int Int := { t := 94, k := 3, e := 3, kv := fun i => .int .i64 i, kl := fun i => .int .i64 i, okk := fun i => (Lit.int .i64 i).wf = true, ev := fun i => .int .i64 i, el := fun i => .int .i64 i, z := 0 }
theorem k_named {K : Act → World → Prop} {a : Act} {W : World} (h : ∀ W', W' = W → K a W') : K a W := h W rfl
theorem All.drew {B : Nat} {w : World} {cs : List Comp} (h : All B w cs) : All B w.drew cs := h.below (by exact ⟨rfl, rfl, rfl, Nat.le_refl _, fun _ _ => rfl⟩)
theorem All.nilrow {B : Nat} {w : World} {cs : List Comp} (h : All B w cs) (t : TypeId) (size : Nat) : All B w (cRow t size (.slice none 0 0) 0 [] :: cs) :=
  h.new (Below.refl _ _) (World.ownsRow_nil _ _ _ _) (fun b hb => by cases hb)
def cFeed (x : Nat) (most : Int) (k : Nat) : Comp := cBlk x #[.int .i64 most, .int .i64 (k : Int), .slice none 0 0, .bool false] 163
def cLim (b : Nat) (l0 l1 l2 l3 : Int) : Comp := cBlk b #[.int .i64 l0, .int .i64 l1, .int .i64 l2, .int .i64 l3] 45
/-- A connection as it is made. -/
def newC (l0 l1 l2 l3 : Int) (x lm hm : Nat) : Cv := { l0 := l0, l1 := l1, l2 := l2, l3 := l3, feed := .pointer (some ⟨x, 0, none⟩), dec := .pointer none, enc := .pointer none, book := .pointer none, frames := 16384, live := lm, closed := .slice none 0 0, how := hm, last := 0, block := .slice none 0 0, of_ := 0, endOf := false, greeted := false, drained := false, floor := 0, over := false, bytes := .slice none 0 0, news := .slice none 0 0 }
theorem All.init {B : Nat} {w : World} {l r : List Comp} (h : All B w (l ++ r)) : All B w l := ⟨fun d hd => h.here d (List.mem_append_left _ hd), (List.pairwise_append.1 h.apart).1, fun d hd => h.base d (List.mem_append_left _ hd), h.sz⟩
theorem rd_litn (w : World) (cs : Array Value) (t : TypeId) (size n : Nat) (hs : cs.size = n * size) : Rd (w.alloc (.cells cs t)) (w.heap.size + 1) size (some ⟨w.heap.size, 0, none⟩) n cs.toList := by
  refine ⟨by simp [hs], fun _ => ⟨_, _, rfl, by omega, fun j hj => ?_⟩⟩
  rw [World.cell?_alloc_at _ _ _ _ rfl]
  simp
/-- .. when its parts are there. -/
def newC2 (l0 l1 l2 l3 : Int) (x lm hm d en g : Nat) : Cv := { newC l0 l1 l2 l3 x lm hm with dec := .pointer (some ⟨d, 0, none⟩), enc := .pointer (some ⟨en, 0, none⟩), book := .pointer (some ⟨g, 0, none⟩) }
theorem new_feed {B : Nat} {w w' : World} {cs : List Comp} {x : Nat} (h : All B w cs) (hf : FeedPre w' x 16384 0) (hx : w.heap.size ≤ x) (hb : Below w.heap.size w w') : All B w' (cFeed x 16384 0 :: cs) := h.new hb hf (fun b hb => by subst hb; exact hx)
theorem new_map {κ ε : Type} (M : MK κ ε) {B : Nat} {w : World} {cs : List Comp} (h : All B w cs) : All B (w.alloc (.map #[] 0)) (cMap M w.heap.size 0 (fun _ => none) 0 :: cs) := h.new ((Below.refl _ _).alloc (Nat.le_refl _) _) (gmap_made M w) (fun b hb => by subst hb; exact Nat.le_refl _)
theorem new_blk {B : Nat} {w : World} {cs : List Comp} (h : All B w cs) (c : Array Value) (t : TypeId) : All B (w.alloc (.cells c t)) (cBlk w.heap.size c t :: cs) := h.new ((Below.refl _ _).alloc (Nat.le_refl _) _) (heapNew _ _) (fun b hb => by subst hb; exact Nat.le_refl _)
theorem lim_c {w : World} {B : Nat} {l0 l1 l2 l3 : Int} (h : (cLim B l0 l1 l2 l3).P w) : w.cell? ⟨B, 0, none⟩ = some (.int .i64 l0) ∧ w.cell? ⟨B, 1, none⟩ = some (.int .i64 l1) ∧ w.cell? ⟨B, 2, none⟩ = some (.int .i64 l2) ∧ w.cell? ⟨B, 3, none⟩ = some (.int .i64 l3) := by
  have h1 : w.heap[B]? = some (.cells #[.int .i64 l0, .int .i64 l1, .int .i64 l2, .int .i64 l3] 45 (0, 0)) := h
  refine ⟨?_, ?_, ?_, ?_⟩ <;> (unfold World.cell?; rw [h1]; rfl)
def NewCut (B : Nat) (w : World) (l0 l1 l2 l3 : Int) (y : Value) (wx : World) : Prop :=
  ∃ p x lm hm, y = .pointer (some ⟨p, 0, none⟩) ∧ All B wx [cConn p (newC l0 l1 l2 l3 x lm hm), cLim B l0 l1 l2 l3, cFeed x 16384 0, cMap mLive lm 0 (fun _ => none) 0, cMap mHow hm 0 (fun _ => none) 0] ∧ Below B w wx
set_option maxRecDepth 100000 in
set_option maxHeartbeats 8000000 in
theorem new_any (l0 l1 l2 l3 : Int) (w : World) (h0 : 1 ≤ l0) (h0' : l0 ≤ 8) (h1 : 0 ≤ l1) (h1' : l1 ≤ 2147483647) (h2 : 0 ≤ l2) (h2' : l2 ≤ 65536) (h3 : 0 ≤ l3) (h3' : l3 ≤ 65536) :
    Calls Tryz.prog 15 #[.agg #[.int .i64 l0, .int .i64 l1, .int .i64 l2, .int .i64 l3]] w (fun e w' => ∃ p c x d G g m n xs, e = .returned (.tuple #[.pointer (some ⟨p, 0, none⟩), .int .i64 0]) ∧ Below w.heap.size w w' ∧
      All w.heap.size w' [cConn p c, cRow 5 1 c.bytes n xs, cFeed x 16384 0, cDec d G 0 l2 l3 ⟨min l2 4096, 0, []⟩ false, cBook g m 65535 65535 [], cMap mLive c.live 0 (fun _ => none) 0, cMap mHow c.how 0 (fun _ => none) 0] ∧ n ≤ 1000 ∧
      c.l0 = l0 ∧ c.l1 = l1 ∧ c.feed = .pointer (some ⟨x, 0, none⟩) ∧ c.dec = .pointer (some ⟨d, 0, none⟩) ∧ c.book = .pointer (some ⟨g, 0, none⟩) ∧ c.last = 0 ∧ c.of_ = 0 ∧ c.greeted = false ∧ c.drained = false ∧ c.over = false ∧ c.closed = .slice none 0 0) := by
  obtain ⟨B, hB⟩ : ∃ B, w.heap.size = B := ⟨_, rfl⟩
  have hall : All B (w.alloc (.cells #[.int .i64 l0, .int .i64 l1, .int .i64 l2, .int .i64 l3] 45)) [cLim B l0 l1 l2 l3] := by
    have h := new_blk (All.nil w) #[.int .i64 l0, .int .i64 l1, .int .i64 l2, .int .i64 l3] 45
    rw [hB] at h
    exact h
  have hb0 : Below B w (w.alloc (.cells #[.int .i64 l0, .int .i64 l1, .int .i64 l2, .int .i64 l3] 45)) := by rw [← hB]; exact (Below.refl _ _).alloc (Nat.le_refl _) _
  have HA0 := Lib.hid (And.intro hall hb0)
  have hmm := @run_makeMap Tryz.prog
  have HNF := Lib.hid (fun w => newfeed_pre 16384 w (by omega) (by omega))
  have HND := Lib.hid (fun w => newdec_any l2 l3 w h2 h2' h3)
  have HNE := Lib.hid (fun w => newenc_any 4096 w (by omega) (by omega))
  have HNW := Lib.hid (fun w => wnew_any 65535 w (by omega) (by omega))
  rw [hB]
  clear hall hb0
  go_enter Tryz.func15, Tryz.ntmps15
  go_upto_region 1 with fail
  refine wp_named ?_
  intro W0 hW0
  rw [← hW0] at HA0
  clear hW0
  have hbx := HA0.out.1.head
  have q0 : W0.cell? ⟨B, 0, none⟩ = some (.int .i64 l0) := by unfold World.cell?; rw [hbx]; rfl
  have q1 : W0.cell? ⟨B, 1, none⟩ = some (.int .i64 l1) := by unfold World.cell?; rw [hbx]; rfl
  have q2 : W0.cell? ⟨B, 2, none⟩ = some (.int .i64 l2) := by unfold World.cell?; rw [hbx]; rfl
  have q3 : W0.cell? ⟨B, 3, none⟩ = some (.int .i64 l3) := by unfold World.cell?; rw [hbx]; rfl
  clear hbx
  go_upto_region 3 with fail
  go_cut [4] (fun y wx => NewCut B w l0 l1 l2 l3 y wx)
  case first =>
    --REGION3
    refine wp_region_held_drew (S := fun w' => w'.cell? ⟨B, 0, none⟩ = some (.int .i64 l0) ∧ w'.cell? ⟨B, 1, none⟩ = some (.int .i64 l1) ∧ w'.cell? ⟨B, 2, none⟩ = some (.int .i64 l2) ∧ w'.cell? ⟨B, 3, none⟩ = some (.int .i64 l3)) (by kernel_rfl) (⟨q0, q1, q2, q3⟩) (fun hHeld => ?_)
    refine wpAnyH_take (i := 0) (oi := ⟨some 43, _, _, _, _, _⟩) (v := ?_) rfl (by kernel_rfl) (by kernel_rfl) (by kernel_rfl) (fun _ _ _ h => h) (Or.inl ⟨by kernel_rfl, ?_⟩) hHeld ?_
    rotate_left
    · intro w hSw
      obtain ⟨h0, h1, h2, h3⟩ := hSw
      go_simp
      all_goals with_reducible rfl
    try simp only [Act.put, List.setIfInBounds_toArray, List.set_cons_zero, List.set_cons_succ]
    have HS0 : Hid (All B W0.drew [cLim B l0 l1 l2 l3] ∧ Below B w W0.drew) := Lib.hid ⟨HA0.out.1.drew, HA0.out.2.trans (by exact ⟨rfl, rfl, rfl, Nat.le_refl _, fun _ _ => rfl⟩)⟩
    refine wpAnyH_ready (rs := [1, 2, 3]) (by kernel_rfl) (by simp) ?_
    refine AllReadyH.cons (o := ⟨some 44, _, _, _, _, _⟩) rfl (fun K hK => ?_) (AllReadyH.cons (o := ⟨some 45, _, _, _, _, _⟩) rfl (fun K hK => ?_) (AllReadyH.cons (o := ⟨some 46, _, _, _, _, _⟩) rfl (fun K hK => ?_) AllReadyH.nil))
    · go_simp
      refine (HNF.out _).mono ?_
      rintro ev wf ⟨rfl, hfe, hbf⟩
      have HS1 := Lib.hid (And.intro (new_feed HS0.out.1 hfe (Nat.le_refl _) hbf) (HS0.out.2.trans (hbf.mono HS0.out.1.sz)))
      clear hfe hbf
      have hbx1 := (HS1.out.1.pick [_]).head
      refine hK.out _ _ (lim_c hbx1) (fun hHeld => ?_)
      clear hK K
      try simp only [Act.put, List.setIfInBounds_toArray, List.set_cons_zero, List.set_cons_succ]
      refine wpAnyH_ready (rs := [2, 3]) (by kernel_rfl) (by simp) ?_
      refine AllReadyH.cons (o := ⟨some 45, _, _, _, _, _⟩) rfl (fun K hK => ?_) (AllReadyH.cons (o := ⟨some 46, _, _, _, _, _⟩) rfl (fun K hK => ?_) AllReadyH.nil)
      · go_simp
        refine k_named ?_
        intro W2 hW2
        have HS2 : Hid (All B W2 (cMap mLive wf.heap.size 0 (fun _ => none) 0 :: (cFeed W0.drew.heap.size 16384 0 :: [cLim B l0 l1 l2 l3])) ∧ Below B w W2) := Lib.hid (by rw [hW2]; exact ⟨new_map mLive HS1.out.1, HS1.out.2.alloc HS1.out.1.sz _⟩)
        clear hW2
        have hbx2 := (HS2.out.1.pick [_, _]).head
        refine hK.out _ _ (lim_c hbx2) (fun hHeld => ?_)
        clear hK K
        try simp only [Act.put, List.setIfInBounds_toArray, List.set_cons_zero, List.set_cons_succ]
        refine wpAnyH_ready (rs := [3]) (by kernel_rfl) (by simp) ?_
        refine AllReadyH.cons (o := ⟨some 46, _, _, _, _, _⟩) rfl (fun K hK => ?_) AllReadyH.nil
        go_simp
        refine k_named ?_
        intro W3 hW3
        have HS3 : Hid (All B W3 (cMap mHow W2.heap.size 0 (fun _ => none) 0 :: (cMap mLive wf.heap.size 0 (fun _ => none) 0 :: (cFeed W0.drew.heap.size 16384 0 :: [cLim B l0 l1 l2 l3]))) ∧ Below B w W3) := Lib.hid (by rw [hW3]; exact ⟨new_map mHow HS2.out.1, HS2.out.2.alloc HS2.out.1.sz _⟩)
        clear hW3
        have hbx3 := (HS3.out.1.pick [_, _, _]).head
        refine hK.out _ _ (lim_c hbx3) (fun hHeld => ?_)
        clear hK K
        try simp only [Act.put, List.setIfInBounds_toArray, List.set_cons_zero, List.set_cons_succ]
        refine wpAnyH_take (i := 4) (oi := ⟨some 47, _, _, _, _, _⟩) (v := ?_) rfl (by kernel_rfl) (by kernel_rfl) (by kernel_rfl) (fun _ _ _ h => h) (Or.inl ⟨by kernel_rfl, ?_⟩) hHeld ?_
        rotate_left
        · intro w hSw
          obtain ⟨h0, h1, h2, h3⟩ := hSw
          go_simp
          all_goals with_reducible rfl
        try simp only [Act.put, List.setIfInBounds_toArray, List.set_cons_zero, List.set_cons_succ]
        refine wpAnyH_ready (rs := [5]) (by kernel_rfl) (by simp) ?_
        refine AllReadyH.cons (o := ⟨some 48, _, _, _, _, _⟩) rfl (fun K hK => ?_) AllReadyH.nil
        go_simp
        refine k_named ?_
        intro W9 hW9
        have hA9 : All B W9 (cConn W3.heap.size (newC l0 l1 l2 l3 W0.drew.heap.size wf.heap.size W2.heap.size) :: (cMap mHow W2.heap.size 0 (fun _ => none) 0 :: (cMap mLive wf.heap.size 0 (fun _ => none) 0 :: (cFeed W0.drew.heap.size 16384 0 :: [cLim B l0 l1 l2 l3])))) := by rw [hW9]; exact new_blk HS3.out.1 _ _
        have hB9 : Below B w W9 := by rw [hW9]; exact HS3.out.2.alloc HS3.out.1.sz _
        clear hW9
        have h := hA9
        have h := h.pick [_]
        have h := h.pick [_, _]
        have h := h.pick [_, _, _]
        have h := h.pick [_, _, _, _]
        have h := h.pick [_, _, _, _]
        have HFIN := Lib.hid (And.intro h hB9)
        have hbx := (HFIN.out.1.pick [_]).head
        clear h hA9 hB9
        refine hK.out _ _ (lim_c hbx) (fun hHeld => ?_)
        clear hK K
        try simp only [Act.put, List.setIfInBounds_toArray, List.set_cons_zero, List.set_cons_succ]
        refine wpAnyH_take (i := 6) (oi := ⟨some 4, _, _, _, _, _⟩) (v := ?_) rfl (by kernel_rfl) (by kernel_rfl) (by kernel_rfl) (fun _ _ _ h => h) (Or.inl ⟨by kernel_rfl, ?_⟩) hHeld ?_
        rotate_left
        · intro w hSw
          obtain ⟨h0, h1, h2, h3⟩ := hSw
          go_simp
          all_goals with_reducible rfl
        try simp only [Act.put, List.setIfInBounds_toArray, List.set_cons_zero, List.set_cons_succ]
        refine wpAnyH_done (by kernel_rfl) ?_ _
        go_wp2_with fail
        go_meet
        exact ⟨_, _, _, _, rfl, HFIN.out.1, HFIN.out.2⟩
      · go_simp
        refine k_named ?_
        intro W2 hW2
        have HS2 : Hid (All B W2 (cMap mHow wf.heap.size 0 (fun _ => none) 0 :: (cFeed W0.drew.heap.size 16384 0 :: [cLim B l0 l1 l2 l3])) ∧ Below B w W2) := Lib.hid (by rw [hW2]; exact ⟨new_map mHow HS1.out.1, HS1.out.2.alloc HS1.out.1.sz _⟩)
        clear hW2
        have hbx2 := (HS2.out.1.pick [_, _]).head
        refine hK.out _ _ (lim_c hbx2) (fun hHeld => ?_)
        clear hK K
        try simp only [Act.put, List.setIfInBounds_toArray, List.set_cons_zero, List.set_cons_succ]
        refine wpAnyH_ready (rs := [2]) (by kernel_rfl) (by simp) ?_
        refine AllReadyH.cons (o := ⟨some 45, _, _, _, _, _⟩) rfl (fun K hK => ?_) AllReadyH.nil
        go_simp
        refine k_named ?_
        intro W3 hW3
        have HS3 : Hid (All B W3 (cMap mLive W2.heap.size 0 (fun _ => none) 0 :: (cMap mHow wf.heap.size 0 (fun _ => none) 0 :: (cFeed W0.drew.heap.size 16384 0 :: [cLim B l0 l1 l2 l3]))) ∧ Below B w W3) := Lib.hid (by rw [hW3]; exact ⟨new_map mLive HS2.out.1, HS2.out.2.alloc HS2.out.1.sz _⟩)
        clear hW3
        have hbx3 := (HS3.out.1.pick [_, _, _]).head
        refine hK.out _ _ (lim_c hbx3) (fun hHeld => ?_)
        clear hK K
        try simp only [Act.put, List.setIfInBounds_toArray, List.set_cons_zero, List.set_cons_succ]
        refine wpAnyH_take (i := 4) (oi := ⟨some 47, _, _, _, _, _⟩) (v := ?_) rfl (by kernel_rfl) (by kernel_rfl) (by kernel_rfl) (fun _ _ _ h => h) (Or.inl ⟨by kernel_rfl, ?_⟩) hHeld ?_
        rotate_left
        · intro w hSw
          obtain ⟨h0, h1, h2, h3⟩ := hSw
          go_simp
          all_goals with_reducible rfl
        try simp only [Act.put, List.setIfInBounds_toArray, List.set_cons_zero, List.set_cons_succ]
        refine wpAnyH_ready (rs := [5]) (by kernel_rfl) (by simp) ?_
        refine AllReadyH.cons (o := ⟨some 48, _, _, _, _, _⟩) rfl (fun K hK => ?_) AllReadyH.nil
        go_simp
        refine k_named ?_
        intro W9 hW9
        have hA9 : All B W9 (cConn W3.heap.size (newC l0 l1 l2 l3 W0.drew.heap.size W2.heap.size wf.heap.size) :: (cMap mLive W2.heap.size 0 (fun _ => none) 0 :: (cMap mHow wf.heap.size 0 (fun _ => none) 0 :: (cFeed W0.drew.heap.size 16384 0 :: [cLim B l0 l1 l2 l3])))) := by rw [hW9]; exact new_blk HS3.out.1 _ _
        have hB9 : Below B w W9 := by rw [hW9]; exact HS3.out.2.alloc HS3.out.1.sz _
        clear hW9
        have h := hA9
        have h := h.pick [_, _]
        have h := h.pick [_, _]
        have h := h.pick [_, _, _]
        have h := h.pick [_, _, _, _]
        have h := h.pick [_, _, _, _]
        have HFIN := Lib.hid (And.intro h hB9)
        have hbx := (HFIN.out.1.pick [_]).head
        clear h hA9 hB9
        refine hK.out _ _ (lim_c hbx) (fun hHeld => ?_)
        clear hK K
        try simp only [Act.put, List.setIfInBounds_toArray, List.set_cons_zero, List.set_cons_succ]
        refine wpAnyH_take (i := 6) (oi := ⟨some 4, _, _, _, _, _⟩) (v := ?_) rfl (by kernel_rfl) (by kernel_rfl) (by kernel_rfl) (fun _ _ _ h => h) (Or.inl ⟨by kernel_rfl, ?_⟩) hHeld ?_
        rotate_left
        · intro w hSw
          obtain ⟨h0, h1, h2, h3⟩ := hSw
          go_simp
          all_goals with_reducible rfl
        try simp only [Act.put, List.setIfInBounds_toArray, List.set_cons_zero, List.set_cons_succ]
        refine wpAnyH_done (by kernel_rfl) ?_ _
        go_wp2_with fail
        go_meet
        exact ⟨_, _, _, _, rfl, HFIN.out.1, HFIN.out.2⟩
    · go_simp
      refine k_named ?_
      intro W1 hW1
      have HS1 : Hid (All B W1 (cMap mLive W0.drew.heap.size 0 (fun _ => none) 0 :: [cLim B l0 l1 l2 l3]) ∧ Below B w W1) := Lib.hid (by rw [hW1]; exact ⟨new_map mLive HS0.out.1, HS0.out.2.alloc HS0.out.1.sz _⟩)
      clear hW1
      have hbx1 := (HS1.out.1.pick [_]).head
      refine hK.out _ _ (lim_c hbx1) (fun hHeld => ?_)
      clear hK K
      try simp only [Act.put, List.setIfInBounds_toArray, List.set_cons_zero, List.set_cons_succ]
      refine wpAnyH_ready (rs := [1, 3]) (by kernel_rfl) (by simp) ?_
      refine AllReadyH.cons (o := ⟨some 44, _, _, _, _, _⟩) rfl (fun K hK => ?_) (AllReadyH.cons (o := ⟨some 46, _, _, _, _, _⟩) rfl (fun K hK => ?_) AllReadyH.nil)
      · go_simp
        refine (HNF.out _).mono ?_
        rintro ev wf ⟨rfl, hfe, hbf⟩
        have HS2 := Lib.hid (And.intro (new_feed HS1.out.1 hfe (Nat.le_refl _) hbf) (HS1.out.2.trans (hbf.mono HS1.out.1.sz)))
        clear hfe hbf
        have hbx2 := (HS2.out.1.pick [_, _]).head
        refine hK.out _ _ (lim_c hbx2) (fun hHeld => ?_)
        clear hK K
        try simp only [Act.put, List.setIfInBounds_toArray, List.set_cons_zero, List.set_cons_succ]
        refine wpAnyH_ready (rs := [3]) (by kernel_rfl) (by simp) ?_
        refine AllReadyH.cons (o := ⟨some 46, _, _, _, _, _⟩) rfl (fun K hK => ?_) AllReadyH.nil
        go_simp
        refine k_named ?_
        intro W3 hW3
        have HS3 : Hid (All B W3 (cMap mHow wf.heap.size 0 (fun _ => none) 0 :: (cFeed W1.heap.size 16384 0 :: (cMap mLive W0.drew.heap.size 0 (fun _ => none) 0 :: [cLim B l0 l1 l2 l3]))) ∧ Below B w W3) := Lib.hid (by rw [hW3]; exact ⟨new_map mHow HS2.out.1, HS2.out.2.alloc HS2.out.1.sz _⟩)
        clear hW3
        have hbx3 := (HS3.out.1.pick [_, _, _]).head
        refine hK.out _ _ (lim_c hbx3) (fun hHeld => ?_)
        clear hK K
        try simp only [Act.put, List.setIfInBounds_toArray, List.set_cons_zero, List.set_cons_succ]
        refine wpAnyH_take (i := 4) (oi := ⟨some 47, _, _, _, _, _⟩) (v := ?_) rfl (by kernel_rfl) (by kernel_rfl) (by kernel_rfl) (fun _ _ _ h => h) (Or.inl ⟨by kernel_rfl, ?_⟩) hHeld ?_
        rotate_left
        · intro w hSw
          obtain ⟨h0, h1, h2, h3⟩ := hSw
          go_simp
          all_goals with_reducible rfl
        try simp only [Act.put, List.setIfInBounds_toArray, List.set_cons_zero, List.set_cons_succ]
        refine wpAnyH_ready (rs := [5]) (by kernel_rfl) (by simp) ?_
        refine AllReadyH.cons (o := ⟨some 48, _, _, _, _, _⟩) rfl (fun K hK => ?_) AllReadyH.nil
        go_simp
        refine k_named ?_
        intro W9 hW9
        have hA9 : All B W9 (cConn W3.heap.size (newC l0 l1 l2 l3 W1.heap.size W0.drew.heap.size wf.heap.size) :: (cMap mHow wf.heap.size 0 (fun _ => none) 0 :: (cFeed W1.heap.size 16384 0 :: (cMap mLive W0.drew.heap.size 0 (fun _ => none) 0 :: [cLim B l0 l1 l2 l3])))) := by rw [hW9]; exact new_blk HS3.out.1 _ _
        have hB9 : Below B w W9 := by rw [hW9]; exact HS3.out.2.alloc HS3.out.1.sz _
        clear hW9
        have h := hA9
        have h := h.pick [_]
        have h := h.pick [_, _, _]
        have h := h.pick [_, _, _]
        have h := h.pick [_, _, _, _]
        have h := h.pick [_, _, _, _]
        have HFIN := Lib.hid (And.intro h hB9)
        have hbx := (HFIN.out.1.pick [_]).head
        clear h hA9 hB9
        refine hK.out _ _ (lim_c hbx) (fun hHeld => ?_)
        clear hK K
        try simp only [Act.put, List.setIfInBounds_toArray, List.set_cons_zero, List.set_cons_succ]
        refine wpAnyH_take (i := 6) (oi := ⟨some 4, _, _, _, _, _⟩) (v := ?_) rfl (by kernel_rfl) (by kernel_rfl) (by kernel_rfl) (fun _ _ _ h => h) (Or.inl ⟨by kernel_rfl, ?_⟩) hHeld ?_
        rotate_left
        · intro w hSw
          obtain ⟨h0, h1, h2, h3⟩ := hSw
          go_simp
          all_goals with_reducible rfl
        try simp only [Act.put, List.setIfInBounds_toArray, List.set_cons_zero, List.set_cons_succ]
        refine wpAnyH_done (by kernel_rfl) ?_ _
        go_wp2_with fail
        go_meet
        exact ⟨_, _, _, _, rfl, HFIN.out.1, HFIN.out.2⟩
      · go_simp
        refine k_named ?_
        intro W2 hW2
        have HS2 : Hid (All B W2 (cMap mHow W1.heap.size 0 (fun _ => none) 0 :: (cMap mLive W0.drew.heap.size 0 (fun _ => none) 0 :: [cLim B l0 l1 l2 l3])) ∧ Below B w W2) := Lib.hid (by rw [hW2]; exact ⟨new_map mHow HS1.out.1, HS1.out.2.alloc HS1.out.1.sz _⟩)
        clear hW2
        have hbx2 := (HS2.out.1.pick [_, _]).head
        refine hK.out _ _ (lim_c hbx2) (fun hHeld => ?_)
        clear hK K
        try simp only [Act.put, List.setIfInBounds_toArray, List.set_cons_zero, List.set_cons_succ]
        refine wpAnyH_ready (rs := [1]) (by kernel_rfl) (by simp) ?_
        refine AllReadyH.cons (o := ⟨some 44, _, _, _, _, _⟩) rfl (fun K hK => ?_) AllReadyH.nil
        go_simp
        refine (HNF.out _).mono ?_
        rintro ev wf ⟨rfl, hfe, hbf⟩
        have HS3 := Lib.hid (And.intro (new_feed HS2.out.1 hfe (Nat.le_refl _) hbf) (HS2.out.2.trans (hbf.mono HS2.out.1.sz)))
        clear hfe hbf
        have hbx3 := (HS3.out.1.pick [_, _, _]).head
        refine hK.out _ _ (lim_c hbx3) (fun hHeld => ?_)
        clear hK K
        try simp only [Act.put, List.setIfInBounds_toArray, List.set_cons_zero, List.set_cons_succ]
        refine wpAnyH_take (i := 4) (oi := ⟨some 47, _, _, _, _, _⟩) (v := ?_) rfl (by kernel_rfl) (by kernel_rfl) (by kernel_rfl) (fun _ _ _ h => h) (Or.inl ⟨by kernel_rfl, ?_⟩) hHeld ?_
        rotate_left
        · intro w hSw
          obtain ⟨h0, h1, h2, h3⟩ := hSw
          go_simp
          all_goals with_reducible rfl
        try simp only [Act.put, List.setIfInBounds_toArray, List.set_cons_zero, List.set_cons_succ]
        refine wpAnyH_ready (rs := [5]) (by kernel_rfl) (by simp) ?_
        refine AllReadyH.cons (o := ⟨some 48, _, _, _, _, _⟩) rfl (fun K hK => ?_) AllReadyH.nil
        go_simp
        refine k_named ?_
        intro W9 hW9
        have hA9 : All B W9 (cConn wf.heap.size (newC l0 l1 l2 l3 W2.heap.size W0.drew.heap.size W1.heap.size) :: (cFeed W2.heap.size 16384 0 :: (cMap mHow W1.heap.size 0 (fun _ => none) 0 :: (cMap mLive W0.drew.heap.size 0 (fun _ => none) 0 :: [cLim B l0 l1 l2 l3])))) := by rw [hW9]; exact new_blk HS3.out.1 _ _
        have hB9 : Below B w W9 := by rw [hW9]; exact HS3.out.2.alloc HS3.out.1.sz _
        clear hW9
        have h := hA9
        have h := h.pick [_, _]
        have h := h.pick [_, _, _]
        have h := h.pick [_, _, _]
        have h := h.pick [_, _, _, _]
        have h := h.pick [_, _, _, _]
        have HFIN := Lib.hid (And.intro h hB9)
        have hbx := (HFIN.out.1.pick [_]).head
        clear h hA9 hB9
        refine hK.out _ _ (lim_c hbx) (fun hHeld => ?_)
        clear hK K
        try simp only [Act.put, List.setIfInBounds_toArray, List.set_cons_zero, List.set_cons_succ]
        refine wpAnyH_take (i := 6) (oi := ⟨some 4, _, _, _, _, _⟩) (v := ?_) rfl (by kernel_rfl) (by kernel_rfl) (by kernel_rfl) (fun _ _ _ h => h) (Or.inl ⟨by kernel_rfl, ?_⟩) hHeld ?_
        rotate_left
        · intro w hSw
          obtain ⟨h0, h1, h2, h3⟩ := hSw
          go_simp
          all_goals with_reducible rfl
        try simp only [Act.put, List.setIfInBounds_toArray, List.set_cons_zero, List.set_cons_succ]
        refine wpAnyH_done (by kernel_rfl) ?_ _
        go_wp2_with fail
        go_meet
        exact ⟨_, _, _, _, rfl, HFIN.out.1, HFIN.out.2⟩
    · go_simp
      refine k_named ?_
      intro W1 hW1
      have HS1 : Hid (All B W1 (cMap mHow W0.drew.heap.size 0 (fun _ => none) 0 :: [cLim B l0 l1 l2 l3]) ∧ Below B w W1) := Lib.hid (by rw [hW1]; exact ⟨new_map mHow HS0.out.1, HS0.out.2.alloc HS0.out.1.sz _⟩)
      clear hW1
      have hbx1 := (HS1.out.1.pick [_]).head
      refine hK.out _ _ (lim_c hbx1) (fun hHeld => ?_)
      clear hK K
      try simp only [Act.put, List.setIfInBounds_toArray, List.set_cons_zero, List.set_cons_succ]
      refine wpAnyH_ready (rs := [1, 2]) (by kernel_rfl) (by simp) ?_
      refine AllReadyH.cons (o := ⟨some 44, _, _, _, _, _⟩) rfl (fun K hK => ?_) (AllReadyH.cons (o := ⟨some 45, _, _, _, _, _⟩) rfl (fun K hK => ?_) AllReadyH.nil)
      · go_simp
        refine (HNF.out _).mono ?_
        rintro ev wf ⟨rfl, hfe, hbf⟩
        have HS2 := Lib.hid (And.intro (new_feed HS1.out.1 hfe (Nat.le_refl _) hbf) (HS1.out.2.trans (hbf.mono HS1.out.1.sz)))
        clear hfe hbf
        have hbx2 := (HS2.out.1.pick [_, _]).head
        refine hK.out _ _ (lim_c hbx2) (fun hHeld => ?_)
        clear hK K
        try simp only [Act.put, List.setIfInBounds_toArray, List.set_cons_zero, List.set_cons_succ]
        refine wpAnyH_ready (rs := [2]) (by kernel_rfl) (by simp) ?_
        refine AllReadyH.cons (o := ⟨some 45, _, _, _, _, _⟩) rfl (fun K hK => ?_) AllReadyH.nil
        go_simp
        refine k_named ?_
        intro W3 hW3
        have HS3 : Hid (All B W3 (cMap mLive wf.heap.size 0 (fun _ => none) 0 :: (cFeed W1.heap.size 16384 0 :: (cMap mHow W0.drew.heap.size 0 (fun _ => none) 0 :: [cLim B l0 l1 l2 l3]))) ∧ Below B w W3) := Lib.hid (by rw [hW3]; exact ⟨new_map mLive HS2.out.1, HS2.out.2.alloc HS2.out.1.sz _⟩)
        clear hW3
        have hbx3 := (HS3.out.1.pick [_, _, _]).head
        refine hK.out _ _ (lim_c hbx3) (fun hHeld => ?_)
        clear hK K
        try simp only [Act.put, List.setIfInBounds_toArray, List.set_cons_zero, List.set_cons_succ]
        refine wpAnyH_take (i := 4) (oi := ⟨some 47, _, _, _, _, _⟩) (v := ?_) rfl (by kernel_rfl) (by kernel_rfl) (by kernel_rfl) (fun _ _ _ h => h) (Or.inl ⟨by kernel_rfl, ?_⟩) hHeld ?_
        rotate_left
        · intro w hSw
          obtain ⟨h0, h1, h2, h3⟩ := hSw
          go_simp
          all_goals with_reducible rfl
        try simp only [Act.put, List.setIfInBounds_toArray, List.set_cons_zero, List.set_cons_succ]
        refine wpAnyH_ready (rs := [5]) (by kernel_rfl) (by simp) ?_
        refine AllReadyH.cons (o := ⟨some 48, _, _, _, _, _⟩) rfl (fun K hK => ?_) AllReadyH.nil
        go_simp
        refine k_named ?_
        intro W9 hW9
        have hA9 : All B W9 (cConn W3.heap.size (newC l0 l1 l2 l3 W1.heap.size wf.heap.size W0.drew.heap.size) :: (cMap mLive wf.heap.size 0 (fun _ => none) 0 :: (cFeed W1.heap.size 16384 0 :: (cMap mHow W0.drew.heap.size 0 (fun _ => none) 0 :: [cLim B l0 l1 l2 l3])))) := by rw [hW9]; exact new_blk HS3.out.1 _ _
        have hB9 : Below B w W9 := by rw [hW9]; exact HS3.out.2.alloc HS3.out.1.sz _
        clear hW9
        have h := hA9
        have h := h.pick [_, _, _]
        have h := h.pick [_, _]
        have h := h.pick [_, _, _]
        have h := h.pick [_, _, _, _]
        have h := h.pick [_, _, _, _]
        have HFIN := Lib.hid (And.intro h hB9)
        have hbx := (HFIN.out.1.pick [_]).head
        clear h hA9 hB9
        refine hK.out _ _ (lim_c hbx) (fun hHeld => ?_)
        clear hK K
        try simp only [Act.put, List.setIfInBounds_toArray, List.set_cons_zero, List.set_cons_succ]
        refine wpAnyH_take (i := 6) (oi := ⟨some 4, _, _, _, _, _⟩) (v := ?_) rfl (by kernel_rfl) (by kernel_rfl) (by kernel_rfl) (fun _ _ _ h => h) (Or.inl ⟨by kernel_rfl, ?_⟩) hHeld ?_
        rotate_left
        · intro w hSw
          obtain ⟨h0, h1, h2, h3⟩ := hSw
          go_simp
          all_goals with_reducible rfl
        try simp only [Act.put, List.setIfInBounds_toArray, List.set_cons_zero, List.set_cons_succ]
        refine wpAnyH_done (by kernel_rfl) ?_ _
        go_wp2_with fail
        go_meet
        exact ⟨_, _, _, _, rfl, HFIN.out.1, HFIN.out.2⟩
      · go_simp
        refine k_named ?_
        intro W2 hW2
        have HS2 : Hid (All B W2 (cMap mLive W1.heap.size 0 (fun _ => none) 0 :: (cMap mHow W0.drew.heap.size 0 (fun _ => none) 0 :: [cLim B l0 l1 l2 l3])) ∧ Below B w W2) := Lib.hid (by rw [hW2]; exact ⟨new_map mLive HS1.out.1, HS1.out.2.alloc HS1.out.1.sz _⟩)
        clear hW2
        have hbx2 := (HS2.out.1.pick [_, _]).head
        refine hK.out _ _ (lim_c hbx2) (fun hHeld => ?_)
        clear hK K
        try simp only [Act.put, List.setIfInBounds_toArray, List.set_cons_zero, List.set_cons_succ]
        refine wpAnyH_ready (rs := [1]) (by kernel_rfl) (by simp) ?_
        refine AllReadyH.cons (o := ⟨some 44, _, _, _, _, _⟩) rfl (fun K hK => ?_) AllReadyH.nil
        go_simp
        refine (HNF.out _).mono ?_
        rintro ev wf ⟨rfl, hfe, hbf⟩
        have HS3 := Lib.hid (And.intro (new_feed HS2.out.1 hfe (Nat.le_refl _) hbf) (HS2.out.2.trans (hbf.mono HS2.out.1.sz)))
        clear hfe hbf
        have hbx3 := (HS3.out.1.pick [_, _, _]).head
        refine hK.out _ _ (lim_c hbx3) (fun hHeld => ?_)
        clear hK K
        try simp only [Act.put, List.setIfInBounds_toArray, List.set_cons_zero, List.set_cons_succ]
        refine wpAnyH_take (i := 4) (oi := ⟨some 47, _, _, _, _, _⟩) (v := ?_) rfl (by kernel_rfl) (by kernel_rfl) (by kernel_rfl) (fun _ _ _ h => h) (Or.inl ⟨by kernel_rfl, ?_⟩) hHeld ?_
        rotate_left
        · intro w hSw
          obtain ⟨h0, h1, h2, h3⟩ := hSw
          go_simp
          all_goals with_reducible rfl
        try simp only [Act.put, List.setIfInBounds_toArray, List.set_cons_zero, List.set_cons_succ]
        refine wpAnyH_ready (rs := [5]) (by kernel_rfl) (by simp) ?_
        refine AllReadyH.cons (o := ⟨some 48, _, _, _, _, _⟩) rfl (fun K hK => ?_) AllReadyH.nil
        go_simp
        refine k_named ?_
        intro W9 hW9
        have hA9 : All B W9 (cConn wf.heap.size (newC l0 l1 l2 l3 W2.heap.size W1.heap.size W0.drew.heap.size) :: (cFeed W2.heap.size 16384 0 :: (cMap mLive W1.heap.size 0 (fun _ => none) 0 :: (cMap mHow W0.drew.heap.size 0 (fun _ => none) 0 :: [cLim B l0 l1 l2 l3])))) := by rw [hW9]; exact new_blk HS3.out.1 _ _
        have hB9 : Below B w W9 := by rw [hW9]; exact HS3.out.2.alloc HS3.out.1.sz _
        clear hW9
        have h := hA9
        have h := h.pick [_, _, _]
        have h := h.pick [_, _, _]
        have h := h.pick [_, _, _]
        have h := h.pick [_, _, _, _]
        have h := h.pick [_, _, _, _]
        have HFIN := Lib.hid (And.intro h hB9)
        have hbx := (HFIN.out.1.pick [_]).head
        clear h hA9 hB9
        refine hK.out _ _ (lim_c hbx) (fun hHeld => ?_)
        clear hK K
        try simp only [Act.put, List.setIfInBounds_toArray, List.set_cons_zero, List.set_cons_succ]
        refine wpAnyH_take (i := 6) (oi := ⟨some 4, _, _, _, _, _⟩) (v := ?_) rfl (by kernel_rfl) (by kernel_rfl) (by kernel_rfl) (fun _ _ _ h => h) (Or.inl ⟨by kernel_rfl, ?_⟩) hHeld ?_
        rotate_left
        · intro w hSw
          obtain ⟨h0, h1, h2, h3⟩ := hSw
          go_simp
          all_goals with_reducible rfl
        try simp only [Act.put, List.setIfInBounds_toArray, List.set_cons_zero, List.set_cons_succ]
        refine wpAnyH_done (by kernel_rfl) ?_ _
        go_wp2_with fail
        go_meet
        exact ⟨_, _, _, _, rfl, HFIN.out.1, HFIN.out.2⟩
  case rest =>
    obtain ⟨p, x, lm, hm, rfl, hA, hB1⟩ := hcut
    have HA1 := Lib.hid (And.intro hA hB1)
    clear hmm hA hB1 q0 q1 q2 q3 HA0 HNF
    obtain ⟨q0, q1, q2, q3⟩ := lim_c (HA1.out.1.pick [_]).head
    go_wp2_with fail
    refine (HND.out _).mono ?_
    rintro e w2 ⟨d, G, rfl, hdec, hfr, hb2⟩
    have HA2 := Lib.hid (And.intro ((HA1.out.1.new (c' := cDec d G 0 l2 l3 ⟨min l2 4096, 0, []⟩ false) hb2 hdec hfr).pick [_]) (HA1.out.2.trans (hb2.mono HA1.out.1.sz)))
    have k5 := HA2.out.1.cc 5 (.pointer none) rfl
    have f5 := HA2.out.1.cf 5
    clear hdec hfr hb2 q0 q1 q2 q3 HND
    go_wp2_with fail
    refine (HNE.out _).mono ?_
    rintro e w3 ⟨en, G2, rfl, -, -, hb3⟩
    obtain ⟨hA3, hB3⟩ := HA2.out.1.set 5 (.pointer (some ⟨d, 0, none⟩))
    have hA3' : All B (w2.setCell ⟨p, 5, none⟩ (.pointer (some ⟨d, 0, none⟩))) (cConn p { newC l0 l1 l2 l3 x lm hm with dec := .pointer (some ⟨d, 0, none⟩) } :: _) := hA3
    have HA3 := Lib.hid (And.intro (hA3'.below hb3) (HA2.out.2.trans (hB3.trans (hb3.mono hA3'.sz))))
    have k6 := HA3.out.1.cc 6 (.pointer none) rfl
    have f6 := HA3.out.1.cf 6
    clear hb3 k5 f5 hA3 hA3' hB3 HNE
    go_wp2_with fail
    refine (HNW.out _).mono ?_
    rintro e w4 ⟨g, m, rfl, hwb, hg1, hm1, hb4⟩
    obtain ⟨hA4, hB4⟩ := HA3.out.1.set 6 (.pointer (some ⟨en, 0, none⟩))
    have hA4' : All B (w3.setCell ⟨p, 6, none⟩ (.pointer (some ⟨en, 0, none⟩))) (cConn p { newC l0 l1 l2 l3 x lm hm with dec := .pointer (some ⟨d, 0, none⟩), enc := .pointer (some ⟨en, 0, none⟩) } :: _) := hA4
    have HA4 := Lib.hid (And.intro ((hA4'.new (c' := cBook g m 65535 65535 []) hb4 hwb (fun b hb => by rcases hb with rfl | rfl <;> assumption)).pick [_]) (HA3.out.2.trans (hB4.trans (hb4.mono hA4'.sz))))
    have k7 := HA4.out.1.cc 7 (.pointer none) rfl
    have f7 := HA4.out.1.cf 7
    clear hb4 k6 f6 hA4 hA4' hB4 HNW hwb hg1 hm1
    obtain ⟨q0, q1, q2, q3⟩ := lim_c (HA4.out.1.pick [_, _, _]).head
    have hpB : p ≠ B := fun e1 => by
      have h1 := (List.pairwise_cons.1 HA4.out.1.apart).1 (cLim B l0 l1 l2 l3) (by simp) p rfl
      exact h1 e1
    go_wp2_with fail
    obtain ⟨hA5, hB5⟩ := HA4.out.1.set 7 (.pointer (some ⟨g, 0, none⟩))
    have hs5 : (w4.setCell ⟨p, 7, none⟩ (.pointer (some ⟨g, 0, none⟩))).heap.size = w4.heap.size := by simp
    have hA5' : All B (w4.setCell ⟨p, 7, none⟩ (.pointer (some ⟨g, 0, none⟩))) (cConn p (newC2 l0 l1 l2 l3 x lm hm d en g) :: _) := hA5
    have hA6 := (hA5'.nilrow 5 1).pick [_]
    have hB6 := HA4.out.2.trans hB5
    clear hA5 hA5' hB5 k7 f7 q0 q1 q2 q3
    generalize (w4.setCell ⟨p, 7, none⟩ (.pointer (some ⟨g, 0, none⟩))) = w5 at *
    rw [← hs5]
    have hrd := rd_litn w5 #[.int .i64 1, .int .i64 l2, .int .i64 3, .int .i64 l0, .int .i64 4, .int .i64 l1, .int .i64 6, .int .i64 l3] 109 2 4 rfl
    have hA7 := hA6.below ((Below.refl _ _).alloc (Nat.le_refl _) (.cells #[.int .i64 1, .int .i64 l2, .int .i64 3, .int .i64 l0, .int .i64 4, .int .i64 l1, .int .i64 6, .int .i64 l3] 109))
    have hB7 := hB6.alloc hA6.sz (.cells #[.int .i64 1, .int .i64 l2, .int .i64 3, .int .i64 l0, .int .i64 4, .int .i64 l1, .int .i64 6, .int .i64 l3] 109)
    have hs7 : (w5.alloc (.cells #[.int .i64 1, .int .i64 l2, .int .i64 3, .int .i64 l0, .int .i64 4, .int .i64 l1, .int .i64 6, .int .i64 l3] 109)).heap.size = w5.heap.size + 1 := by simp
    obtain ⟨n0, hn0⟩ : ∃ n : Nat, l0 = n := ⟨l0.toNat, by omega⟩
    obtain ⟨n1, hn1⟩ : ∃ n : Nat, l1 = n := ⟨l1.toNat, by omega⟩
    obtain ⟨n2, hn2⟩ : ∃ n : Nat, l2 = n := ⟨l2.toNat, by omega⟩
    obtain ⟨n3, hn3⟩ : ∃ n : Nat, l3 = n := ⟨l3.toNat, by omega⟩
    have hok : CtOk ⟨4, 0, 0, some ⟨w5.heap.size, 0, none⟩, 4, 4, 0, 0, 0⟩ [(1, n2), (3, n0), (4, n1), (6, n3)] := ⟨.inr (.inl ⟨rfl, rfl, rfl, rfl⟩), .inl rfl, Nat.zero_le _, Nat.zero_le _, Nat.zero_le _, Nat.zero_le _, (by show (4 : Nat) ≤ 100; omega), rfl, by
      intro s hs
      simp only [List.mem_cons, List.not_mem_nil, or_false] at hs
      rcases hs with rfl | rfl | rfl | rfl <;> (dsimp only; omega)⟩
    generalize (w5.alloc (.cells #[.int .i64 1, .int .i64 l2, .int .i64 3, .int .i64 l0, .int .i64 4, .int .i64 l1, .int .i64 6, .int .i64 l3] 109)) = w7 at *
    have hrd7 : Rd w7 w7.heap.size 2 (some ⟨w5.heap.size, 0, none⟩) 4 (setsL [(1, n2), (3, n0), (4, n1), (6, n3)]) := by
      rw [hs7]
      have e : (#[.int .i64 1, .int .i64 l2, .int .i64 3, .int .i64 l0, .int .i64 4, .int .i64 l1, .int .i64 6, .int .i64 l3] : Array Value).toList = setsL [(1, n2), (3, n0), (4, n1), (6, n3)] := by rw [hn0, hn1, hn2, hn3]; rfl
      rw [← e]
      exact hrd
    have HWR := Lib.hid (write_any (M := 24) ⟨4, 0, 0, some ⟨w5.heap.size, 0, none⟩, 4, 4, 0, 0, 0⟩ [(1, n2), (3, n0), (4, n1), (6, n3)] w7 hA7 hok hrd7 (by omega) (fun w' hb => payload_set ⟨4, 0, 0, some ⟨w5.heap.size, 0, none⟩, 4, 4, 0, 0, 0⟩ [(1, n2), (3, n0), (4, n1), (6, n3)] w' hok rfl ((hrd7.below hb (Nat.le_refl _)).more hb.size)) (by omega))
    refine HWR.out.mono ?_
    rintro e w8 ⟨rfl, hB8, v8, n8, xs8, hn8, hA8⟩
    have HB9 := Lib.hid (hB7.trans hB8)
    have h := hA8.pick [_, _, _, _, _, _, _]
    have h := h.pick [_, _, _, _, _, _, _]
    have h := h.pick [_, _, _, _]
    have h := h.pick [_, _, _, _, _]
    have h := h.pick [_, _, _, _, _, _, _]
    have h := h.pick [_, _, _, _, _, _]
    have h := h.pick [_, _, _, _, _, _]
    have hfin := All.init (l := [cConn p { newC2 l0 l1 l2 l3 x lm hm d en g with bytes := v8 }, cRow 5 1 v8 n8 xs8, cFeed x 16384 0, cDec d G 0 l2 l3 ⟨min l2 4096, 0, []⟩ false, cBook g m 65535 65535 [], cMap mLive lm 0 (fun _ => none) 0, cMap mHow hm 0 (fun _ => none) 0]) h
    have HE := Lib.hid hfin
    clear h hfin hA8 hB8 hrd7 hA7 hB7 hA6 hB6 hrd
    go_wp2_with fail
    refine bodyPost_ret (v := .tuple #[.pointer (some ⟨p, 0, none⟩), .int .i64 0]) (by simp [results, Tryz.results15, go_sem]) rfl ?_
    exact ⟨p, { newC2 l0 l1 l2 l3 x lm hm d en g with bytes := v8 }, x, d, G, g, m, n8, xs8, rfl, HB9.out, HE.out, by omega, rfl, rfl, rfl, rfl, rfl, rfl, rfl, rfl, rfl, rfl, rfl⟩
end Go.Proofs.YtpkmciohehaboaaGreatDoor

/- The walk of head.ReadAnswer. -/
namespace Go.Proofs.YtpkmciohehaboaaGreatDoor
open Go.RowKit Go.Maps

section
variable {κ ε : Type} {M : MK κ ε}
/-- A read without 'ok'. -/
theorem GMap.look1 {w : World} {mb N n : Nat} {f : κ → Option ε} (ok : MKok M) (h : GMap M w mb N f n) {i : κ} (hi : M.okk i) : (Instr.lookup M.t (.map (some mb)) (M.kv i) false).run Tryz.prog w = .ok (M.ev ((f i).getD M.z)) w := by
  obtain ⟨D, h1, h2, h3, h4⟩ := h
  obtain ⟨v, ps, hrun, hR⟩ := h1.lookup ok.keyed ok.ht (ok.zero _) (zd := .lit (M.el M.z)) (zp := []) (ok.R_ev _) (ok.key i hi)
  rw [hrun]
  cases hf : f i with
  | some b =>
    rw [h3 i b hi hf] at hR
    rw [ok.R_inv hR]; rfl
  | none =>
    rw [atKey_of_not_has (by rw [h2 i hi, hf]; rfl)] at hR
    rw [ok.R_inv hR]; rfl
end
/-- What is gathered came from the list. -/
theorem gath_inv {names : List ByteArray} {P : ByteArray → Prop} {Q : Fd → Prop} : ∀ (l : List Fd) (G : Gt), (∀ f ∈ l, P f.1.2 ∧ Q f) → (∀ j v, G.1 j = some v → P v) → (∀ f ∈ G.2, Q f) →
    (∀ j v, (gathF names G l).1.1 j = some v → P v) ∧ (∀ f ∈ (gathF names G l).1.2, Q f)
  | [], G, _, h1, h2 => ⟨h1, h2⟩
  | f :: r, G, h, h1, h2 => by
    have hp := h f (List.mem_cons_self ..)
    have ha : (∀ j v, (askG names G f).1.1 j = some v → P v) ∧ (∀ g ∈ (askG names G f).1.2, Q g) := by
      unfold askG
      split
      · split
        · exact ⟨h1, h2⟩
        · refine ⟨fun j v hj => ?_, h2⟩
          dsimp only at hj
          split at hj
          · injection hj with hj; rw [← hj]; exact hp.1
          · exact h1 j v hj
      · split
        · refine ⟨h1, fun g hg => ?_⟩
          rcases List.mem_append.1 hg with hg | hg
          · exact h2 g hg
          · rw [List.mem_singleton.1 hg]; exact hp.2
        · exact ⟨h1, h2⟩
    rw [gathF]
    split
    · exact gath_inv r _ (fun g hg => h g (List.mem_cons_of_mem _ hg)) ha.1 ha.2
    · exact ha
theorem gath_len {names : List ByteArray} : ∀ (l : List Fd) (G : Gt), (gathF names G l).1.2.length ≤ G.2.length + l.length
  | [], G => by simp [gathF]
  | f :: r, G => by
    rw [gathF]
    have := ask_len (names := names) (G := G) (f := f)
    split
    · have := gath_len (names := names) r (askG names G f).1
      simp only [List.length_cons]; omega
    · simp only [List.length_cons]; omega
/-- What ReadAnswer hands back. -/
def RaPost (w : World) (R : Nat × List Fd × Nat) (e : Ending) (w' : World) : Prop := ∃ v, e = .returned (.tuple #[.int .i64 (R.1 : Int), v, .int .i64 (R.2.2 : Int)]) ∧ OwnFds w R.2.1 v w'
theorem ownFds_nil {w w' : World} (h : Below w.heap.size w w') : OwnFds w [] (.slice none 0 0) w' := ⟨World.ownsRow_nil _ _ _ _, h⟩
set_option maxRecDepth 100000 in
set_option maxHeartbeats 8000000 in
theorem readanswer_any {A : Option Addr} {n c : Nat} {l : List Fd} (w : World) (hl : Rd w w.heap.size 3 A n (fds l)) (hn : n ≤ 1048575) (hz : Tx l) :
    Calls Tryz.prog 11 #[.slice A n c] w (RaPost w (readA l)) := by
  have hll : l.length = n := by have := hl.1; rw [fds_length] at this; omega
  have hb0 : Below w.heap.size w (w.alloc (.cells #[.string statB] 9)) := (Below.refl _ _).alloc (Nat.le_refl _) _
  have hs0 : (w.alloc (.cells #[.string statB] 9)).heap.size = w.heap.size + 1 := by simp
  have hrd1 : Rd (w.alloc (.cells #[.string statB] 9)) (w.alloc (.cells #[.string statB] 9)).heap.size 1 (some ⟨w.heap.size, 0, none⟩) 1 (strs [statB]) := by
    rw [hs0]
    exact Rd.one _ _ _
  have HG := Lib.hid (gather_any (c := c) (c1 := 1) (w.alloc (.cells #[.string statB] 9)) ((hl.below hb0 (Nat.le_refl _)).more (by omega)) hn hz hrd1 (by omega))
  have hinv := gath_inv (names := [statB]) (P := fun s => s.size ≤ 140737488351232) (Q := fun f => f.1.1.size ≤ 140737488351232 ∧ f.1.2.size ≤ 140737488351232) l Gt.none (fun f hf => ⟨(hz f hf).2, hz f hf⟩) (fun j v h => by cases h) (fun f hf => by cases hf)
  have hlen := gath_len (names := [statB]) l Gt.none
  have HI := Lib.hid hinv
  obtain ⟨R, hR⟩ : ∃ R, readA l = R := ⟨_, rfl⟩
  rw [hR]
  unfold readA at hR
  dsimp only at hR
  obtain ⟨⟨G, e1⟩, hG⟩ : ∃ G, gathF [statB] Gt.none l = G := ⟨_, rfl⟩
  rw [hG] at HG HI hlen hR
  dsimp only at HI hlen hR
  have HRR := Lib.hid hR
  have HB0 := Lib.hid hb0
  have hlen2 : G.2.length ≤ n := by simp [Gt.none] at hlen; omega
  clear hl hz hb0 hs0 hrd1 hinv hR hG hlen
  unfold statB at HG HB0
  go_enter Tryz.func11, Tryz.ntmps11
  go_wp2_with fail
  refine HG.out.mono ?_
  rintro e w1 ⟨⟨mv, rv, rfl, hok, hno⟩, hb1⟩
  have HB1 := Lib.hid (HB0.out.trans (hb1.mono (by simp)))
  clear hb1 HG
  by_cases h0 : e1 = 0
  · obtain ⟨mb, k, rfl, hmb, hmap, hrow⟩ := hok h0
    obtain ⟨A2, c2, rfl, -, -, hrd2, -⟩ := own_slice hrow
    have hlk := hmap.look1 okWords (i := statB) (by show statB.size ≤ maxLen; decide +kernel)
    obtain ⟨s, hs⟩ : ∃ s : ByteArray, (G.1 statB).getD ⟨#[]⟩ = s := ⟨_, rfl⟩
    have hlk2 : (Instr.lookup 83 (.map (some mb)) (.string ⟨#[58, 115, 116, 97, 116, 117, 115]⟩) false).run Tryz.prog w1 = .ok (.agg #[.string s]) w1 := by
      rw [← hs]; exact hlk
    have hsz : s.size ≤ 140737488351232 := by
      rw [← hs]
      cases hc : G.1 statB with
      | none => simp [ByteArray.size]
      | some x => exact HI.out.1 _ _ hc
    have hfl : ∀ (x : Value) (w : World), (Instr.field 87 (.agg #[x]) 0).run Tryz.prog w = .ok x w := fun _ _ => rfl
    have HD := Lib.hid (decimal_any s w1 (by omega))
    have HLN := Lib.hid (length_any (c := c2) w1 hrd2 (by dsimp only; omega) (fun f hf => HI.out.2 f hf))
    have HROW : Hid (OwnFds w G.2 (.slice A2 G.2.length c2) w1) := Lib.hid ⟨own_base hrow (by simp), HB1.out⟩
    have hRR := HRR.out
    rw [if_neg (by omega), hs] at hRR
    have HR2 := Lib.hid hRR
    have HMB := Lib.hid hmb
    subst h0
    have ee : (((0 : Nat) : Int) == 0) = true := rfl
    clear hok hno hmap hlk hs hrow hrd2 hRR hmb HRR
    obtain ⟨D, E, hDE⟩ : ∃ D E, decRes s.data.toList = (D, E) := ⟨_, _, rfl⟩
    rw [hDE] at HD HR2
    dsimp only at HD HR2
    have hD : D ≤ 1099511627776 := by have := decRes_le s.data.toList; rw [hDE] at this; exact this
    clear hDE
    obtain ⟨L, hL⟩ : ∃ L, lenF G.2 = L := ⟨_, rfl⟩
    rw [hL] at HR2 HLN
    clear hL
    go_wp2_with fail
    refine HD.out.mono ?_
    rintro e w2 ⟨rfl, rfl⟩
    clear HD
    by_cases hE : E = 0
    · subst hE
      by_cases h3 : s.size = 3
      · have n3 : ((s.size : Int) == 3) = true := by rw [h3]; rfl
        by_cases h4 : D < 100
        · have HR : Hid (R = (0, [], 100)) := Lib.hid (by rw [← HR2.out, if_pos (.inr (.inr h4))])
          have n4 : ((D : Int) < 100) := by omega
          go_wp2_with fail
          refine bodyPost_ret (v := .tuple #[.int .i64 0, .slice none 0 0, .int .i64 100]) (by simp [results, Tryz.results11, go_sem]) rfl ?_
          rw [HR.out]
          exact ⟨_, rfl, ownFds_nil HB1.out⟩
        · have n4 : ¬ ((D : Int) < 100) := by omega
          have hRR := HR2.out
          rw [if_neg (by omega)] at hRR
          have HR3 := Lib.hid hRR
          clear hRR HR2
          go_wp2_with fail
          refine HLN.out.mono ?_
          rintro e w3 ⟨rfl, hb3⟩
          have HB3 := Lib.hid (HB1.out.trans (hb3.mono HB1.out.size))
          have HROW3 : Hid (OwnFds w G.2 (.slice A2 G.2.length c2) w3) := Lib.hid ⟨own_kept4 HROW.out.1 (Kept.of_below (F := fun _ => False) hb3) (fun _ _ h => h), HB3.out⟩
          clear hb3
          cases L with
          | none =>
            have HR : Hid (R = (0, [], 102)) := Lib.hid (by rw [← HR3.out, if_pos rfl])
            unfold lenR
            dsimp only
            go_wp2_with fail
            refine bodyPost_ret (v := .tuple #[.int .i64 0, .slice none 0 0, .int .i64 102]) (by simp [results, Tryz.results11, go_sem]) rfl ?_
            rw [HR.out]
            exact ⟨_, rfl, ownFds_nil HB3.out⟩
          | some L =>
            have HR : Hid (R = (D, G.2, 0)) := Lib.hid (by rw [← HR3.out, if_neg (by simp)])
            obtain ⟨x, y, hxy⟩ : ∃ x y, lenR (some L) = (x, y, 0) := by cases L <;> exact ⟨_, _, rfl⟩
            rw [hxy]
            dsimp only
            have ee0 : (((0 : Nat) : Int) == 0) = true := rfl
            go_wp2_with fail
            refine bodyPost_ret (v := .tuple #[.int .i64 D, .slice A2 G.2.length c2, .int .i64 0]) (by simp [results, Tryz.results11, go_sem]) rfl ?_
            rw [HR.out]
            exact ⟨_, rfl, HROW3.out⟩
      · have n3 : ((s.size : Int) == 3) = false := by simp; omega
        have HR : Hid (R = (0, [], 100)) := Lib.hid (by rw [← HR2.out, if_pos (.inr (.inl h3))])
        go_wp2_with fail
        refine bodyPost_ret (v := .tuple #[.int .i64 0, .slice none 0 0, .int .i64 100]) (by simp [results, Tryz.results11, go_sem]) rfl ?_
        rw [HR.out]
        exact ⟨_, rfl, ownFds_nil HB1.out⟩
    · have nE : ((E : Int) == 0) = false := by simp; omega
      have HR : Hid (R = (0, [], 100)) := Lib.hid (by rw [← HR2.out, if_pos (.inl hE)])
      go_wp2_with fail
      refine bodyPost_ret (v := .tuple #[.int .i64 0, .slice none 0 0, .int .i64 100]) (by simp [results, Tryz.results11, go_sem]) rfl ?_
      rw [HR.out]
      exact ⟨_, rfl, ownFds_nil HB1.out⟩
  · have ee : ((e1 : Int) == 0) = false := by simp; omega
    obtain ⟨rfl, rfl⟩ := hno h0
    have HR : Hid (R = (0, [], e1)) := Lib.hid (by rw [← HRR.out, if_pos h0])
    clear hok hno
    go_wp2_with fail
    refine bodyPost_ret (v := .tuple #[.int .i64 0, .slice none 0 0, .int .i64 (e1 : Int)]) (by simp [results, Tryz.results11, go_sem]) rfl ?_
    rw [HR.out]
    exact ⟨_, rfl, ownFds_nil HB1.out⟩
end Go.Proofs.YtpkmciohehaboaaGreatDoor

/- frame.Take, of frames whose kinds are told by contracts; frames of settings (printed by gen_dh.py). -/
namespace Go.Proofs.YtpkmciohehaboaaGreatDoor
open Go.RowKit

/-- A frame's head, as bytes. -/
structure Hd9 (l : List UInt8) (f : Fr) (m : Nat) : Prop where
  sz : beN ((l.drop 0).take 3) = m
  ty : ba l 3 = f.ty
  fl : ba l 4 = f.fl
  st : beN ((l.drop 5).take 4) = f.st
theorem misplaced_set (w : World) : Calls Tryz.prog 157 #[.int .i64 ((4 : Nat) : Int), .int .i64 ((0 : Nat) : Int)] w fun e w' => e = .returned (.bool false) ∧ w = w' := by
  go_enter Tryz.func157, Tryz.ntmps157
  go_wp2_with fail
  go_ret
  exact ⟨rfl, rfl⟩
theorem missized_set (w : World) : Calls Tryz.prog 158 #[.int .i64 ((4 : Nat) : Int), .int .i64 ((0 : Nat) : Int), .int .i64 ((0 : Nat) : Int)] w fun e w' => e = .returned (.bool false) ∧ Below w.heap.size w w' := by
  go_enter Tryz.func158, Tryz.ntmps158
  go_wp2_with fail
  go_ret
  exact ⟨rfl, (Below.refl _ _).alloc (Nat.le_refl _) _⟩
/-- An empty frame of settings. -/
def setF : Fr := ⟨4, 0, 0, ⟨#[]⟩, 0⟩
def SoRel (W : World) (iv : Value) (wr : World) : Prop := iv = .int .i64 0 ∧ wr = W
set_option maxRecDepth 100000 in
set_option maxHeartbeats 4000000 in
theorem open_set {A : Option Addr} {cap x : Nat} (w : World) (kx : w.heap[x]? = some (.cells setF.bare.cells 52 (0, 0))) :
    Calls Tryz.prog 159 #[.pointer (some ⟨x, 0, none⟩), .slice A 0 cap] w (OpenPost w x setF) := by
  have HK := Lib.hid kx
  obtain ⟨c0, c1, c2, c3, c4, c5, c6, c7, c8, c9, c10, c11, hxl⟩ := FrAt.of kx
  simp only [Fr.bare, setF] at c0 c1 c2 c3 c4
  clear kx
  go_enter Tryz.func159, Tryz.ntmps159
  go_wp2_with fail
  go_loopw [5] (fun iv wr => SoRel w iv wr) (fun _ _ => 0)
  case atStart => exact ⟨rfl, rfl⟩
  case round =>
    obtain ⟨rfl, rfl⟩ := hrel
    go_wp2_with fail
    go_ret
    exact ⟨rfl, HK.out, Kept.refl _ _⟩
set_option maxRecDepth 100000 in
set_option maxHeartbeats 4000000 in
theorem ftake_gen {A : Option Addr} {n cap m most : Nat} {l : List UInt8} {f : Fr} {pd : Bool} (w : World) (hr : Rd w w.heap.size 1 A n (bvs l)) (hc : n ≤ cap) (hm : cap ≤ maxLen) (hh : Hd9 l f m)
    (hty2 : f.ty < 256) (hty8 : f.ty ≠ 8) (hfl2 : f.fl < 256) (hst2 : f.st ≤ 2147483647)
    (hmp : ∀ w, Calls Tryz.prog 157 #[.int .i64 f.ty, .int .i64 f.st] w fun e w' => e = .returned (.bool false) ∧ w = w')
    (hms : ∀ w, Calls Tryz.prog 158 #[.int .i64 f.ty, .int .i64 f.fl, .int .i64 m] w fun e w' => e = .returned (.bool false) ∧ Below w.heap.size w w')
    (hop : ∀ (x : Nat) (A' : Option Addr) (c' : Nat) (w6 : World), w6.heap[x]? = some (.cells f.bare.cells 52 (0, 0)) → Rd w6 w6.heap.size 1 A' m (bvs (payL f pd)) → m ≤ c' → c' ≤ maxLen → (∀ a, A' = some a → a.block ≠ x) →
      Calls Tryz.prog 159 #[.pointer (some ⟨x, 0, none⟩), .slice A' m c'] w6 (OpenPost w6 x f))
    (hmm : m ≤ most) (hge : 9 + m ≤ n) (hmost : most ≤ 16777215) (hpl : (l.drop 9).take m = payL f pd) :
    Calls Tryz.prog 130 #[.slice A n cap, .int .i64 most] w (TakePost w f (9 + m)) := by
  have hcm : cap ≤ 9223372036854775807 := by unfold maxLen at hm; exact hm
  obtain ⟨hl, b, o, rfl, hb, hcc⟩ := hr.bas (by omega)
  have HOT : Hid (∀ w', Below w.heap.size w w' → Calls Tryz.prog 154 #[.slice (some ⟨b, o, none⟩) n cap, .int .i64 0, .int .i64 3] w' fun e w2 => e = .returned (.tuple #[.int .u32 (m : Nat), .int .i64 0]) ∧ w' = w2) := Lib.hid fun w' hb => by
    have := otake_any 0 3 w' ((hr.below hb (Nat.le_refl _)).more hb.size) hc hm (by omega) (by omega) (by omega)
    rw [hh.sz] at this
    exact this
  have HNU : Hid (∀ w', Below w.heap.size w w' → Calls Tryz.prog 156 #[.slice (some ⟨b, o, none⟩) n cap, .int .i64 5] w' fun e w2 => e = .returned (.int .i64 (f.st : Nat)) ∧ w' = w2) := Lib.hid fun w' hb => by
    have := fnum_any 5 w' ((hr.below hb (Nat.le_refl _)).more hb.size) hc hm (by omega)
    rw [hh.st] at this
    exact this
  have hr2 := hr.lh (lo := 9) (hi := 9 + m) (by omega) hge hc
  rw [show 9 + m - 9 = m by omega, hpl] at hr2
  have b3 := hcc 3 (by omega)
  have b4 := hcc 4 (by omega)
  rw [hh.ty] at b3
  rw [hh.fl] at b4
  have ha31 := and31 hst2
  have HR2 := Lib.hid hr2
  have HH := Lib.hid hh
  obtain ⟨ty, hty⟩ : ∃ ty, f.ty = ty := ⟨_, rfl⟩
  obtain ⟨fl, hfl⟩ : ∃ fl, f.fl = fl := ⟨_, rfl⟩
  obtain ⟨st, hst⟩ : ∃ st, f.st = st := ⟨_, rfl⟩
  have HMP := Lib.hid hmp
  have HMS := Lib.hid hms
  have HOPN := Lib.hid hop
  clear hmp hms hop
  rw [hty, hfl] at HMS
  rw [hty, hst] at HMP
  rw [hty] at b3
  rw [hfl] at b4
  rw [hst] at ha31 HNU
  have HE := Lib.hid (And.intro hty (And.intro hfl hst))
  have hty2 : ty < 256 := by omega
  have hfl2 : fl < 256 := by omega
  clear hr hm hh hcc hr2 hty hfl hst hpl
  go_enter Tryz.func130, Tryz.ntmps130
  go_upto_region 1 with fail
  refine wp_named ?_
  intro W2 hW2
  have bw2 : Below w.heap.size w W2 := by rw [hW2]; exact ((Below.refl _ _).alloc (Nat.le_refl _) _).alloc (by simp) _
  have k4 : W2.heap[w.heap.size]? = some (.cells zeroFr.cells 52 (0, 0)) := by rw [hW2]; exact two_first _ _ _
  have k6 : W2.heap[w.heap.size + 1]? = some (.cells #[.bool false, .int .i64 0, .int .i64 0] 128 (0, 0)) := by rw [hW2]; exact heapNew2 _ _ _
  have hs2 : W2.heap.size = w.heap.size + 2 := by rw [hW2]; simp
  have HK := Lib.hid (And.intro bw2 (And.intro k4 k6))
  have c3 : W2.cell? ⟨b, o + 3, none⟩ = some (.int .u8 ty) := (bw2.cell (p := ⟨b, o + 3, none⟩) hb).trans b3
  have c4 : W2.cell? ⟨b, o + 4, none⟩ = some (.int .u8 fl) := (bw2.cell (p := ⟨b, o + 4, none⟩) hb).trans b4
  clear hW2 bw2 k4 k6 b3 b4
  go_wp2_with fail
  refine (HOT.out _ HK.out.1).mono ?_
  rintro e1 w1 ⟨rfl, rfl⟩
  have i3 : (3 : Int) < n := by omega
  have i4 : (4 : Int) < n := by omega
  have hbw : b < W2.heap.size := by omega
  have HS2 := Lib.hid hs2
  have hal : w.heap.size ≤ W2.heap.size := by omega
  clear hs2
  have ew1 : IntKind.i64.wrap (ty : Int) = ty := IntWalk.i64_in _ ⟨by omega, by omega⟩
  have ew2 : IntKind.i64.wrap (fl : Int) = fl := IntWalk.i64_in _ ⟨by omega, by omega⟩
  go_upto_region 10 with fail
  go_cut [11] (fun y wx => y = .pointer (some ⟨W2.heap.size, 0, none⟩) ∧ wx.heap[W2.heap.size]? = some (.cells #[.int .i64 ty, .int .i64 fl, .int .i64 st, .string ⟨#[]⟩, .int .i64 0, .slice none 0 0, .int .i64 0, .int .i64 0, .int .i64 0, .int .i64 0, .int .i64 0, .bool false] 52 (0, 0)) ∧ Below W2.heap.size W2 wx)
  case first =>
    go_region_held3 (fun w' => w'.cell? ⟨b, o + 3, none⟩ = some (.int .u8 ty) ∧ w'.cell? ⟨b, o + 4, none⟩ = some (.int .u8 fl))
      (first | go_keep | exact ⟨k0, k1⟩)
      (first
        | (go_at_call 156; refine (HNU.out _ (by first | exact HK.out.1.drew | exact (HK.out.1.alloc hal _).drew)).mono ?_; rintro e3 w3 ⟨rfl, rfl⟩; have k0 := (by first | exact c3 | exact (World.cell?_alloc_lt W2 _ ⟨b, o + 3, none⟩ hbw).trans c3); have k1 := (by first | exact c4 | exact (World.cell?_alloc_lt W2 _ ⟨b, o + 4, none⟩ hbw).trans c4)))
    all_goals
      go_wp2_with fail
      go_meet
      first
        | exact ⟨rfl, heapNew W2 _, (Below.refl _ W2).alloc (Nat.le_refl _) _⟩
        | exact ⟨rfl, heapNew W2 _, ((Below.refl _ W2).alloc (Nat.le_refl _) _).drew⟩
  case rest =>
  obtain ⟨rfl, hkx, hbc⟩ := hcut
  have hs2 := HS2.out
  obtain ⟨x, hx⟩ : ∃ x, W2.heap.size = x := ⟨_, rfl⟩
  rw [hx] at hkx ⊢
  have hfx : FrAt wc x ⟨ty, fl, st, ⟨#[]⟩, 0⟩ := FrAt.of hkx
  have HB := Lib.hid (And.intro (HK.out.1.trans (hbc.mono (by omega))) (And.intro ((hbc.block _ (by omega)).trans HK.out.2.1) ((hbc.block _ (by omega)).trans HK.out.2.2)))
  have HX := Lib.hid (And.intro hkx (show w.heap.size + 1 < x by omega))
  have HFX := Lib.hid hfx
  obtain ⟨d0, d1, d2, d3, d4, d5, d6, d7, d8, d9, d10, d11, dl⟩ := HFX.out
  simp only at d0 d1 d2 d3 d4
  clear hkx hbc hx hfx c3 c4 ew1 ew2 hs2 hbw
  go_wp2_with fail
  refine (HMP.out _).mono ?_
  rintro e4 w4 ⟨rfl, rfl⟩
  go_wp2_with fail
  refine (HMS.out _).mono ?_
  rintro e5 w5 ⟨rfl, hb5⟩
  have hf5 := HFX.out.below hb5
  have HB5 := Lib.hid hb5
  have HF5 := Lib.hid hf5
  clear d0 d1 d2 d3 d4 d5 d6 d7 d8 d9 d10 d11 hb5 hf5
  obtain ⟨d0, d1, d2, d3, d4, d5, d6, d7, d8, d9, d10, d11, dl5⟩ := HF5.out
  simp only at d0 d1 d2 d3 d4
  go_wp2_with fail
  refine (HMS.out _).mono ?_
  rintro e6 w6 ⟨rfl, hb6⟩
  have hf6 := HF5.out.below hb6
  have HB6 := Lib.hid (HB5.out.trans (hb6.mono HB5.out.size))
  have HF6 := Lib.hid hf6
  clear d0 d1 d2 d3 d4 d5 d6 d7 d8 d9 d10 d11 hb6 hf6 HMP HMS
  have hs6 := HB6.out.size
  have hk6 : w6.heap[x]? = some (.cells f.bare.cells 52 (0, 0)) := (HB6.out.block x dl).trans (by
    rw [HX.out.1]
    unfold Fr.bare Fr.cells
    rw [HE.out.1, HE.out.2.1, HE.out.2.2]
    rfl)
  have hbw6 : Below w.heap.size w w6 := HB.out.1.trans (HB6.out.mono HB.out.1.size)
  have hr6 := (HR2.out.below hbw6 (Nat.le_refl _)).more hbw6.size
  have HK6 := Lib.hid (And.intro hk6 hbw6)
  have hbx : b ≠ x := by have := HX.out.2; omega
  have HOP : Hid (∀ A', (if cap = 9 then some ⟨b, o, none⟩ else Option.map (fun x => x.add 9) (some (⟨b, o, none⟩ : Addr))) = A' → Calls Tryz.prog 159 #[.pointer (some ⟨x, 0, none⟩), .slice A' m (cap - 9)] w6 (OpenPost w6 x f)) := Lib.hid fun A' hA => by
    refine HOPN.out x _ (cap - 9) w6 hk6 (by rw [← hA]; exact hr6) (by omega) (le_maxLen (by omega)) (fun a ha => ?_)
    rw [← hA] at ha
    split at ha
    · injection ha with ha; subst ha; exact hbx
    · injection ha with ha; subst ha; simp [Addr.add_lit]; exact hbx
  clear hk6 hbw6 hr6 HR2 i3 i4
  go_upto_region 17 with fail
  go_cut [84] (fun y wx => y = .bool false ∧ wx.heap[x]? = some (.cells f.cells 52 (0, 0)) ∧ Kept (fun k => k = x) w6 wx)
  case first =>
    by_cases h9 : cap = 9
    · have hm0 : m = 0 := by omega
      subst h9
      have HO2 := Lib.hid (HOP.out _ (if_pos rfl))
      subst hm0
      go_wp2_with fail
      refine HO2.out.mono ?_
      rintro e7 w7 ⟨rfl, hk7, hkp7⟩
      have H7 := Lib.hid (And.intro hk7 hkp7)
      clear hk7 hkp7
      go_wp2_with fail
      go_meet
      exact ⟨rfl, H7.out⟩
    · have HO2 := Lib.hid (HOP.out _ (if_neg h9))
      go_wp2_with fail
      refine HO2.out.mono ?_
      rintro e7 w7 ⟨rfl, hk7, hkp7⟩
      have H7 := Lib.hid (And.intro hk7 hkp7)
      clear hk7 hkp7
      go_wp2_with fail
      go_meet
      exact ⟨rfl, H7.out⟩
  case rest =>
  obtain ⟨rfl, hk7, hkp7⟩ := hcut
  have hf7 : FrAt wc x f := FrAt.of hk7
  have hb7 : Below w.heap.size w wc := HK6.out.2.trans (hkp7.below (fun k hk => by subst hk; have := HX.out.2; omega) HK6.out.2.size)
  have hx2 := HX.out.2
  have k4 := (hkp7.block _ (by omega) (by omega)).trans ((HB6.out.block w.heap.size (by omega)).trans HB.out.2.1)
  have k6 := (hkp7.block _ (by omega) (by omega)).trans ((HB6.out.block (w.heap.size + 1) (by omega)).trans HB.out.2.2)
  have H7 := Lib.hid (And.intro hb7 (And.intro k4 k6))
  have HF7 := Lib.hid hf7
  clear hk7 hkp7 hf7 hb7 k4 k6
  obtain ⟨d0, d1, d2, d3, d4, d5, d6, d7, d8, d9, d10, d11, dl7⟩ := HF7.out
  have b8 : ((f.ty : Int) == 8) = false := by rw [beq_eq_false_iff_ne]; omega
  go_wp2_with fail
  refine (unfit_nil _).mono ?_
  rintro e8 w8 ⟨rfl, hb8⟩
  have HF8 := Lib.hid (HF7.out.below hb8)
  have hs78 := hb8.size
  have hs7 := H7.out.1.size
  have hs67 : w.heap.size + 1 < wc.heap.size := by omega
  have H8 : Hid (Below w.heap.size w w8 ∧ w8.heap[w.heap.size]? = some (.cells zeroFr.cells 52 (0, 0)) ∧ w8.heap[w.heap.size + 1]? = some (.cells #[.bool false, .int .i64 0, .int .i64 0] 128 (0, 0))) := Lib.hid ⟨H7.out.1.trans (hb8.mono H7.out.1.size), (hb8.block _ (by omega)).trans H7.out.2.1, (hb8.block _ (by omega)).trans H7.out.2.2⟩
  clear hb8 d0 d1 d2 d3 d4 d5 d6 d7 d8 d9 d10 d11
  simp only [faultV]
  go_upto_region 26 with fail
  refine wp_named ?_
  intro W9 hW9
  have b9 : Below w8.heap.size w8 W9 := by rw [hW9]; exact (Below.refl _ _).alloc (Nat.le_refl _) _
  have HF9 := Lib.hid (HF8.out.below b9)
  have k4 := (b9.block w.heap.size (by omega)).trans H8.out.2.1
  have k6 := (b9.block (w.heap.size + 1) (by omega)).trans H8.out.2.2
  have H9 := Lib.hid (And.intro (H8.out.1.trans (b9.mono H8.out.1.size)) (And.intro k4 k6))
  clear hW9 b9 k4 k6
  obtain ⟨d0, d1, d2, d3, d4, d5, d6, d7, d8, d9, d10, d11, dl9⟩ := HF9.out
  go_wp2_with (first
    | (refine wpList_store_rowTo rfl 52 (.tmp 4) (.tmp 129) rfl rfl w.heap.size f.cells rfl rfl 52 _ H9.out.2.1 infoFrame rfl (by simp [Value.oneCell', Fr.cells]) ?_)
    | (refine wpList_store_rowTo rfl 128 (.tmp 6) (.tmp 131) rfl rfl (w.heap.size + 1) #[.bool false, .int .i64 0, .int .i64 0] rfl rfl 128 _ ((setRow_other _ _ _ _ (by omega)).trans H9.out.2.2) infoFault rfl (by simp [Value.oneCell']) ?_))
  refine bodyPost_ret (results_take rfl rfl ((setRow_other _ _ _ _ (by omega)).trans (setRow_heap _ _ _ _ _ _ H9.out.2.1)) (setRow_heap _ _ _ _ _ _ ((setRow_other _ _ _ _ (by omega)).trans H9.out.2.2)) rfl rfl) rfl ?_
  exact ⟨rfl, H9.out.1.trans ⟨rfl, rfl, rfl, by simp, fun k hk => (setRow_other _ _ _ _ (by omega)).trans (setRow_other _ _ _ _ (by omega))⟩⟩
/-- A frame that may come: of a block, of data, or of empty settings. -/
def Good9 (most : Nat) (p : Fr × Bool) : Prop := Good most p ∨ p = (setF, false)
theorem Good9.len {most : Nat} {p : Fr × Bool} (h : Good9 most p) : (payL p.1 p.2).length ≤ most := by
  rcases h with h | rfl
  · exact h.len
  · simp [payL, setF]
theorem set_hd : hd9 setF false = [0, 0, 0, 4, 0, 0, 0, 0, 0] := by simp [hd9, setF, payL, be3, be4]
theorem pre9 {most : Nat} {p : Fr × Bool} {gs : List (Fr × Bool)} {r : List UInt8} (hg : Good9 most p) (hm : most ≤ 16777215) (hr : r <+: strm (p :: gs)) (h9 : 9 ≤ r.length) : Hd9 r p.1 (payL p.1 p.2).length := by
  rcases hg with hg | rfl
  · have h := pre_nine hg hm hr h9
    exact ⟨h.sz, h.ty, h.fl, h.st⟩
  · obtain ⟨u, hu⟩ := hr
    rw [strm_cons, frB_hd, List.append_assoc, set_hd] at hu
    have h2 : (r ++ u).take 9 = [0, 0, 0, 4, 0, 0, 0, 0, 0] := by rw [hu]; rfl
    rw [List.take_append_of_le_length h9] at h2
    have h1 : r = [0, 0, 0, 4, 0, 0, 0, 0, 0] ++ r.drop 9 := by rw [← h2, List.take_append_drop]
    rw [h1]
    refine ⟨?_, ?_, ?_, ?_⟩
    · simp [setF, payL, beN]
    · simp [ba, setF]
    · simp [ba, setF]
    · simp [setF, beN]
theorem ftake_part9 {A : Option Addr} {n cap m most : Nat} {l : List UInt8} {f : Fr} (w : World) (hr : Rd w w.heap.size 1 A n (bvs l)) (hc : n ≤ cap) (hm : cap ≤ maxLen) (h9 : 9 ≤ n) (hh : Hd9 l f m) (hmm : m ≤ most) (hlt : n < 9 + m) (hmost : most ≤ 16777215) :
    Calls Tryz.prog 130 #[.slice A n cap, .int .i64 most] w (TakePost w zeroFr 0) := by
  have HOT : Hid (∀ w', Below w.heap.size w w' → Calls Tryz.prog 154 #[.slice A n cap, .int .i64 0, .int .i64 3] w' fun e w2 => e = .returned (.tuple #[.int .u32 (m : Nat), .int .i64 0]) ∧ w' = w2) := Lib.hid fun w' hb => by
    have := otake_any 0 3 w' ((hr.below hb (Nat.le_refl _)).more hb.size) hc hm (by omega) (by omega) (by omega)
    rw [hh.sz] at this
    exact this
  clear hr hm hh
  go_enter Tryz.func130, Tryz.ntmps130
  go_wp2_with fail
  refine (HOT.out _ (((Below.refl _ _).alloc (Nat.le_refl _) _).alloc (by simp) _)).mono ?_
  rintro e1 w1 ⟨rfl, rfl⟩
  go_wp2_with fail
  refine bodyPost_ret (results_take rfl rfl (two_first _ _ _) (heapNew2 _ _ _) rfl rfl) rfl ?_
  exact ⟨rfl, ((Below.refl _ _).alloc (Nat.le_refl _) _).alloc (by simp) _⟩
theorem ftake9 {A : Option Addr} {n cap most : Nat} {l : List UInt8} {p : Fr × Bool} (w : World) (hr : Rd w w.heap.size 1 A n (bvs l)) (hc : n ≤ cap) (hm : cap ≤ maxLen) (hg : Good9 most p) (hh : Hd9 l p.1 (payL p.1 p.2).length) (hge : 9 + (payL p.1 p.2).length ≤ n) (hmost : most ≤ 16777215) (hpl : (l.drop 9).take (payL p.1 p.2).length = payL p.1 p.2) :
    Calls Tryz.prog 130 #[.slice A n cap, .int .i64 most] w (TakePost w p.1 (9 + (payL p.1 p.2).length)) := by
  rcases hg with hg | rfl
  · have hok := hg.ok
    have hty := hok.ty
    refine ftake_gen w hr hc hm hh (by omega) (by omega) hok.fl hok.st (fun w => misplaced_any _ _ w hty hg.st1) (fun w => missized_any _ _ _ p.2 w hty hok.f8 hok.f32 (fun h1 h2 => ?_)) (fun x A' c' w6 h1 h2 h3 h4 h5 => open_all p.1 p.2 w6 hok hg.p1 h1 h2 h3 h4 h5) hg.len hge hmost hpl
    unfold payL
    rw [if_pos ⟨h1, h2⟩]
    simp
  · have e : (payL setF false).length = 0 := by simp [payL, setF]
    rw [e] at hh hge hpl ⊢
    exact ftake_gen (pd := false) w hr hc hm hh (by decide) (by decide) (by decide) (by decide) (fun w => misplaced_set w) (fun w => missized_set w) (fun x A' c' w6 h1 _ _ _ _ => open_set w6 h1) (Nat.zero_le _) hge hmost hpl
end Go.Proofs.YtpkmciohehaboaaGreatDoor

/- The walks of conn.way, rest, misplaced. -/
namespace Go.Proofs.YtpkmciohehaboaaGreatDoor
open Go.RowKit Go.Maps

def fnV (o : Option Nat) : Value := match o with
  | none => .nilFunc
  | some n => .func (.func n) #[] #[]
def mWays : MK Int (Option Nat) := { t := 213, k := 3, e := 188, kv := fun i => .int .i64 i, kl := fun i => .int .i64 i, okk := fun i => (Lit.int .i64 i).wf = true, ev := fnV, el := fun o => .int .i64 (optN o), z := none }
theorem okWays : MKok mWays where
  ht := Tryz.underlying213
  keyed := lawK
  key x h := keyOf_int_mk Tryz.underlying3 h
  kinj x y h := by injection h
  einj x y h := by
    have h1 : fnV x = fnV y := h
    cases x <;> cases y <;> simp [fnV] at h1 ⊢
    exact h1
  linj x y h := by
    have h1 : (Lit.int .i64 (optN x)) = .int .i64 (optN y) := h
    injection h1 with h1 h2
    cases x <;> cases y <;> simp only [optN] at h2
    · rfl
    · omega
    · omega
    · congr 1; omega
  zero w := by kernel_rfl
/-- A store, its outcome told point by point. -/
theorem GMap.put1 {κ ε : Type} {M : MK κ ε} {w : World} {mb N n : Nat} {f : κ → Option ε} (ok : MKok M) (h : GMap M w mb N f n) {i : κ} (hi : M.okk i) (hN : N < maxLen) (b : ε) :
    ∃ w' f' n', (Instr.mapUpdate M.t (.map (some mb)) (M.kv i) (M.ev b)).run Tryz.prog w = .ok () w' ∧ GMap M w' mb (N + 1) f' n' ∧ w.grownBy w' (some mb) ∧ f' i = some b ∧ (∀ j, j ≠ i → f' j = f j) ∧ n' ≤ n + 1 := by
  obtain ⟨w', h1, h2, h3⟩ := GMap.put ok h hi hN b
  refine ⟨w', _, _, h1, h2, h3, by simp, fun j hj => by simp [hj], ?_⟩
  split <;> omega
/-- What is done with a type of frames. -/
def wayN (k : Int) : Option Nat := if k = 0 then some 134 else if k = 1 then some 135 else if k = 3 then some 136 else if k = 4 then some 137 else if k = 6 then some 138 else if k = 8 then some 139 else if k = 9 then some 140 else none
set_option maxRecDepth 100000 in
set_option maxHeartbeats 8000000 in
theorem connway_any (k : Nat) (w : World) (hk : k ≤ 255) : Calls Tryz.prog 101 #[.int .i64 (k : Int)] w fun e w' => e = .returned (fnV (wayN k)) ∧ Below w.heap.size w w' := by
  have h0 := gmap_made mWays w
  have hb0 : Below w.heap.size w (w.alloc (.map #[] 0)) := (Below.refl _ _).alloc (Nat.le_refl _) _
  obtain ⟨B, hB⟩ : ∃ B, w.heap.size = B := ⟨_, rfl⟩
  rw [hB] at h0
  have wf : ∀ i : Nat, i ≤ 255 → mWays.okk (i : Int) := fun i hi => by
    show (Lit.int .i64 (i : Int)).wf = true
    simp [Lit.wf, IntKind.min, IntKind.max, IntKind.bits, IntKind.signed]
    omega
  obtain ⟨W0, hW0⟩ : ∃ W0, w.alloc (.map #[] 0) = W0 := ⟨_, rfl⟩
  rw [hW0] at h0 hb0
  obtain ⟨W1, f1, n1, p1, h1, g1, e1, o1, -⟩ := GMap.put1 okWays h0 (i := ((0 : Nat) : Int)) (wf 0 (by omega)) (by unfold maxLen; omega) (some 134)
  have r1 : (Instr.mapUpdate 213 (.map (some B)) (.int .i64 0) (.func (.func 134) #[] #[])).run Tryz.prog W0 = .ok () W1 := p1
  obtain ⟨W2, f2, n2, p2, h2, g2, e2, o2, -⟩ := GMap.put1 okWays h1 (i := ((1 : Nat) : Int)) (wf 1 (by omega)) (by unfold maxLen; omega) (some 135)
  have r2 : (Instr.mapUpdate 213 (.map (some B)) (.int .i64 1) (.func (.func 135) #[] #[])).run Tryz.prog W1 = .ok () W2 := p2
  obtain ⟨W3, f3, n3, p3, h3, g3, e3, o3, -⟩ := GMap.put1 okWays h2 (i := ((3 : Nat) : Int)) (wf 3 (by omega)) (by unfold maxLen; omega) (some 136)
  have r3 : (Instr.mapUpdate 213 (.map (some B)) (.int .i64 3) (.func (.func 136) #[] #[])).run Tryz.prog W2 = .ok () W3 := p3
  obtain ⟨W4, f4, n4, p4, h4, g4, e4, o4, -⟩ := GMap.put1 okWays h3 (i := ((4 : Nat) : Int)) (wf 4 (by omega)) (by unfold maxLen; omega) (some 137)
  have r4 : (Instr.mapUpdate 213 (.map (some B)) (.int .i64 4) (.func (.func 137) #[] #[])).run Tryz.prog W3 = .ok () W4 := p4
  obtain ⟨W5, f5, n5, p5, h5, g5, e5, o5, -⟩ := GMap.put1 okWays h4 (i := ((6 : Nat) : Int)) (wf 6 (by omega)) (by unfold maxLen; omega) (some 138)
  have r5 : (Instr.mapUpdate 213 (.map (some B)) (.int .i64 6) (.func (.func 138) #[] #[])).run Tryz.prog W4 = .ok () W5 := p5
  obtain ⟨W6, f6, n6, p6, h6, g6, e6, o6, -⟩ := GMap.put1 okWays h5 (i := ((8 : Nat) : Int)) (wf 8 (by omega)) (by unfold maxLen; omega) (some 139)
  have r6 : (Instr.mapUpdate 213 (.map (some B)) (.int .i64 8) (.func (.func 139) #[] #[])).run Tryz.prog W5 = .ok () W6 := p6
  obtain ⟨W7, f7, n7, p7, h7, g7, e7, o7, -⟩ := GMap.put1 okWays h6 (i := ((9 : Nat) : Int)) (wf 9 (by omega)) (by unfold maxLen; omega) (some 140)
  have r7 : (Instr.mapUpdate 213 (.map (some B)) (.int .i64 9) (.func (.func 140) #[] #[])).run Tryz.prog W6 = .ok () W7 := p7
  have hval : (f7 (k : Int)).getD none = wayN (k : Int) := by
    unfold wayN
    by_cases hk9 : k = 9
    · subst hk9; rw [e7]; rfl
    · rw [o7 _ (by omega)]
      by_cases hk8 : k = 8
      · subst hk8; rw [e6]; rfl
      · rw [o6 _ (by omega)]
        by_cases hk6 : k = 6
        · subst hk6; rw [e5]; rfl
        · rw [o5 _ (by omega)]
          by_cases hk4 : k = 4
          · subst hk4; rw [e4]; rfl
          · rw [o4 _ (by omega)]
            by_cases hk3 : k = 3
            · subst hk3; rw [e3]; rfl
            · rw [o3 _ (by omega)]
              by_cases hk1 : k = 1
              · subst hk1; rw [e2]; rfl
              · rw [o2 _ (by omega)]
                by_cases hk0 : k = 0
                · subst hk0; rw [e1]; rfl
                · rw [o1 _ (by omega)]
                  have a0 : ¬ ((k : Int) = 0) := by omega
                  have a1 : ¬ ((k : Int) = 1) := by omega
                  have a3 : ¬ ((k : Int) = 3) := by omega
                  have a4 : ¬ ((k : Int) = 4) := by omega
                  have a6 : ¬ ((k : Int) = 6) := by omega
                  have a8 : ¬ ((k : Int) = 8) := by omega
                  have a9 : ¬ ((k : Int) = 9) := by omega
                  simp [hk0, a1, a3, a4, a6, a8, a9]
  have hl := GMap.look1 okWays h7 (wf k hk)
  have hl2 : (Instr.lookup 213 (.map (some B)) (.int .i64 (k : Int)) false).run Tryz.prog W7 = .ok (fnV (wayN k)) W7 := by
    rw [← hval]
    exact hl
  have HB : Hid (Below w.heap.size w W7) := Lib.hid (by
    have hs0 : w.heap.size ≤ W0.heap.size := hb0.size
    have t1 : Below w.heap.size w W1 := hb0.grown g1 hs0 (fun j hj => by injection hj with hj; omega)
    have t2 : Below w.heap.size w W2 := t1.grown g2 t1.size (fun j hj => by injection hj with hj; omega)
    have t3 : Below w.heap.size w W3 := t2.grown g3 t2.size (fun j hj => by injection hj with hj; omega)
    have t4 : Below w.heap.size w W4 := t3.grown g4 t3.size (fun j hj => by injection hj with hj; omega)
    have t5 : Below w.heap.size w W5 := t4.grown g5 t4.size (fun j hj => by injection hj with hj; omega)
    have t6 : Below w.heap.size w W6 := t5.grown g6 t5.size (fun j hj => by injection hj with hj; omega)
    exact t6.grown g7 t6.size (fun j hj => by injection hj with hj; omega))
  have hmm := @run_makeMap Tryz.prog
  obtain ⟨V, hV⟩ : ∃ V, fnV (wayN (k : Int)) = V := ⟨_, rfl⟩
  rw [hV] at hl2 ⊢
  have HW0 := Lib.hid hW0
  clear hV hval hl h0 h1 h2 h3 h4 h5 h6 h7 g1 g2 g3 g4 g5 g6 g7 e1 e2 e3 e4 e5 e6 e7 o1 o2 o3 o4 o5 o6 o7 p1 p2 p3 p4 p5 p6 p7 hb0 wf
  go_enter Tryz.func101, Tryz.ntmps101
  go_wp2_with fail
  go_ret
  exact ⟨rfl, HB.out⟩
theorem rest_any {B p : Nat} {c : Cv} {cs : List Comp} (w : World) (h : All B w (cConn p c :: cs)) (hd : c.drained = false) : Calls Tryz.prog 102 #[.pointer (some ⟨p, 0, none⟩)] w fun e w' => e = .returned (.tuple #[]) ∧ w = w' := by
  have c17 := h.cc 17 (.bool c.drained) rfl
  rw [hd] at c17
  clear h
  go_enter Tryz.func102, Tryz.ntmps102
  go_wp2_with fail
  go_end0
  exact ⟨rfl, rfl⟩
/-- An item without a fault. -/
def itV (f : Fr) : Value := .agg #[.int .i64 f.ty, .int .i64 f.fl, .int .i64 f.st, .string f.data, .int .i64 f.pad, .slice none 0 0, .int .i64 0, .int .i64 0, .int .i64 0, .int .i64 0, .int .i64 0, .bool false, .bool false, .int .i64 0, .int .i64 0]
set_option maxRecDepth 100000 in
set_option maxHeartbeats 4000000 in
theorem misplaced_first {B p : Nat} {c : Cv} {cs : List Comp} (w : World) (h : All B w (cConn p c :: cs)) (hg : c.greeted = false) : Calls Tryz.prog 98 #[.pointer (some ⟨p, 0, none⟩), itV setF] w fun e w' => e = .returned (.bool false) ∧ Below w.heap.size w w' := by
  have c16 : ∀ o1 o2, ((w.alloc o1).alloc o2).cell? ⟨p, 16, none⟩ = some (.bool false) := fun o1 o2 => by
    have h2 := (h.below ((Below.refl _ _).alloc (Nat.le_refl _) o1)).below ((Below.refl _ _).alloc (Nat.le_refl _) o2)
    rw [← hg]
    exact h2.cc 16 (.bool c.greeted) rfl
  have hpl : p < w.heap.size := (Array.getElem?_eq_some_iff.1 h.conn).1
  have c16' : w.cell? ⟨p, 16, none⟩ = some (.bool false) := by rw [← hg]; exact h.cc 16 (.bool c.greeted) rfl
  unfold itV setF
  clear h c16
  go_enter Tryz.func98, Tryz.ntmps98
  go_wp2_with fail
  go_ret
  exact ⟨rfl, ((Below.refl _ _).alloc (Nat.le_refl _) _).alloc (by simp) _⟩
set_option maxRecDepth 100000 in
set_option maxHeartbeats 4000000 in
theorem misplaced_open {B p : Nat} {c : Cv} {cs : List Comp} (f : Fr) (w : World) (h : All B w (cConn p c :: cs)) (hg : c.greeted = true) (ho : c.of_ = 0) (h9 : f.ty ≠ 9) : Calls Tryz.prog 98 #[.pointer (some ⟨p, 0, none⟩), itV f] w fun e w' => e = .returned (.bool false) ∧ Below w.heap.size w w' := by
  have hpl : p < w.heap.size := (Array.getElem?_eq_some_iff.1 h.conn).1
  have c16 : w.cell? ⟨p, 16, none⟩ = some (.bool true) := by rw [← hg]; exact h.cc 16 (.bool c.greeted) rfl
  have c14 : w.cell? ⟨p, 14, none⟩ = some (.int .i64 0) := by rw [← ho]; exact h.cc 14 (.int .i64 c.of_) rfl
  obtain ⟨ty, fl, st, data, pad⟩ := f
  dsimp only at h9
  have e9 : ((ty : Int) == 9) = false := by simp; omega
  unfold itV
  dsimp only
  clear h
  go_enter Tryz.func98, Tryz.ntmps98
  go_wp2_with fail
  go_ret
  exact ⟨rfl, ((Below.refl _ _).alloc (Nat.le_refl _) _).alloc (by simp) _⟩
end Go.Proofs.YtpkmciohehaboaaGreatDoor
