/- The walk of drawbridgelaw09.StreamRuns. Printed by wip/gen_runs2.py. -/
import Derived.Test.YtoicclgcbemffaaStreamAll
import Derived.Test.YtoicclgcbemffaaStreamRunsPlain
import Derived.Deep.DeepCutAuto
import Derived.Outline
namespace Go.Proofs.Ytoicclgcbemffaa
open Go.RowKit

/-- A row of frames in memory. -/
def Dids (w : World) (A : Option Addr) (n : Nat) (D : Nat → Bool × Int × Bool) : Prop :=
  0 < n → ∃ b o, A = some ⟨b, o, none⟩ ∧ b < w.heap.size ∧ ∀ i, i < n → w.cell? ⟨b, o + i * 3, none⟩ = some (.bool (D i).1) ∧ w.cell? ⟨b, o + i * 3 + 1, none⟩ = some (.int .i64 (D i).2.1) ∧ w.cell? ⟨b, o + i * 3 + 2, none⟩ = some (.bool (D i).2.2)
def RunRel (w : World) (n : Nat) (sv tv ov iv : Value) (wr : World) : Prop :=
  ∃ q t o k : Nat, sv = .int .i64 q ∧ tv = .int .i64 t ∧ ov = .int .i64 o ∧ iv = .int .i64 k ∧ k ≤ n ∧ J q t o = true ∧ Below w.heap.size w wr
/-- Live again only from the beginning. -/
def TailOk (was q : Nat) : Prop := liveF was = false → liveF q = true → was = 0
/-- Behind the frame's own step. -/
def RunMid (w : World) (x was : Nat) (kind : Int) (fin : Bool) (sv tv ov : Value) (wx : World) : Prop :=
  ∃ q t o : Nat, sv = .int .i64 q ∧ tv = .int .i64 t ∧ ov = .int .i64 o ∧ J q t o = true ∧ TailOk was q ∧ wx.cell? ⟨x, 1, none⟩ = some (.int .i64 kind) ∧ wx.cell? ⟨x, 2, none⟩ = some (.bool fin) ∧ Below w.heap.size w wx
theorem go5a : goV (goF 5 0 true) = .tuple #[.int .i64 0, .bool false] := by kernel_rfl
theorem go5b : goV (goF 5 3 false) = .tuple #[.int .i64 0, .bool false] := by kernel_rfl
theorem dropV (kind : Int) (fin : Bool) : mvV (comeF 5 kind fin) = .agg #[.int .i64 5, .bool true, .bool false, .int .i64 (comeF 5 kind fin).code, .bool false] := by
  obtain ⟨c, hc⟩ := dropped kind fin
  rw [hc]; rfl
theorem run_skip : ∀ (c : Int) (w : World), (Instr.field 37 (.agg #[.int .i64 5, .bool true, .bool false, .int .i64 c, .bool false]) 1).run Try.prog w = .ok (.bool true) w := fun _ _ => by kernel_rfl
theorem cnt_ways (kind : Int) (fin : Bool) : (fin = false ∧ cnt kind fin = false) ∨ (fin = true ∧ kind = 0 ∧ cnt kind fin = true) ∨ (fin = true ∧ kind = 1 ∧ cnt kind fin = true) ∨ (fin = true ∧ (kind == 0) = false ∧ (kind == 1) = false ∧ cnt kind fin = false) := by
  cases fin
  · exact .inl ⟨rfl, rfl⟩
  · by_cases h0 : kind = 0
    · subst h0; exact .inr (.inl ⟨rfl, rfl, rfl⟩)
    · by_cases h1 : kind = 1
      · subst h1; exact .inr (.inr (.inl ⟨rfl, rfl, rfl⟩))
      · have e0 : (kind == 0) = false := by simpa using h0
        have e1 : (kind == 1) = false := by simpa using h1
        exact .inr (.inr (.inr ⟨rfl, e0, e1, by unfold cnt; rw [e0, e1]; rfl⟩))
theorem go_way {q t o : Nat} {kind a : Int} {fin : Bool} (hJ : J q t o = true) (hr : goF q kind fin = (a, true)) :
    ∃ a' : Nat, a = a' ∧ TailOk q a' ∧ J a' t (if cnt kind fin = true then o + 1 else o) = true := by
  have h := (cases_any kind fin hJ).1
  unfold GoCase at h
  rw [hr] at h
  simp only at h
  rcases h with ⟨h, _⟩ | ⟨_, hl, hc, ⟨rfl, rfl, rfl⟩ | ⟨rfl, rfl, rfl⟩⟩ | ⟨_, hl, hc, rfl | ⟨rfl, _, _⟩⟩ | ⟨_, hl, hc, rfl⟩
  · cases h
  · exact ⟨4, rfl, (fun h0 => by rw [hl] at h0; cases h0), by rw [if_pos hc]; rfl⟩
  · exact ⟨3, rfl, (fun h0 => by rw [hl] at h0; cases h0), by rw [if_pos hc]; rfl⟩
  · exact ⟨5, rfl, (fun h0 => by rw [hl] at h0; cases h0), by rw [if_neg (by simp [hc])]; exact J_5 hJ⟩
  · exact ⟨q, rfl, (fun h0 => by rw [hl] at h0; cases h0), by rw [if_neg (by simp [hc])]; exact hJ⟩
  · exact ⟨5, rfl, (fun _ h0 => by cases h0), by rw [if_neg (by simp [hc])]; exact J_5 hJ⟩
theorem go_no {q t o : Nat} {kind a : Int} {fin : Bool} (hJ : J q t o = true) (hr : goF q kind fin = (a, false)) : a = 0 := by
  have h := (cases_any kind fin hJ).1
  unfold GoCase at h
  rw [hr] at h
  simp only at h
  rcases h with ⟨_, h⟩ | ⟨h, _⟩ | ⟨h, _⟩ | ⟨h, _⟩
  · exact h
  all_goals cases h
theorem live_same (q : Nat) : TailOk q q := fun h0 h1 => by rw [h0] at h1; cases h1
theorem come_way {q t o : Nat} {kind s cd : Int} {fin sk is wh : Bool} (hJ : J q t o = true) (hr : comeF q kind fin = ⟨s, sk, is, cd, wh⟩) :
    ∃ s' : Nat, s = s' ∧ TailOk q s' ∧ ((sk = true ∧ is = false ∧ wh = false ∧ s' = q ∧ J s' t o = true) ∨ (sk = false ∧ is = true ∧ wh = true ∧ s' = q ∧ J s' t o = true) ∨ (sk = false ∧ is = true ∧ wh = false ∧ s' = 5 ∧ J s' t o = true) ∨
      (sk = false ∧ is = false ∧ wh = false ∧ J s' (if cnt kind fin = true then t + 1 else t) o = true)) := by
  have h := (cases_any kind fin hJ).2
  unfold ComeCase at h
  rw [hr] at h
  simp only at h
  rcases h with ⟨rfl, rfl, rfl, rfl⟩ | ⟨rfl, rfl, rfl, rfl, hq⟩ | ⟨rfl, rfl, rfl, rfl⟩ | ⟨rfl, rfl, rfl, hc, rfl, ⟨hq, rfl, rfl⟩ | ⟨hq, rfl, rfl⟩ | ⟨hq, rfl, rfl⟩⟩ | ⟨rfl, rfl, rfl, hc, ⟨hq, rfl⟩ | ⟨hl, rfl | rfl⟩⟩
  · exact ⟨q, rfl, live_same q, .inl ⟨rfl, rfl, rfl, rfl, hJ⟩⟩
  · exact ⟨q, rfl, live_same q, .inr (.inl ⟨rfl, rfl, rfl, rfl, hJ⟩)⟩
  · exact ⟨5, rfl, (fun _ h0 => by cases h0), .inr (.inr (.inl ⟨rfl, rfl, rfl, rfl, J_5 hJ⟩))⟩
  · exact ⟨2, rfl, (fun _ _ => by omega), .inr (.inr (.inr ⟨rfl, rfl, rfl, by rw [if_pos hc]; rfl⟩))⟩
  · exact ⟨2, rfl, (fun h0 => by obtain rfl : q = 1 := by omega
                                 cases h0), .inr (.inr (.inr ⟨rfl, rfl, rfl, by rw [if_pos hc]; rfl⟩))⟩
  · exact ⟨4, rfl, (fun _ h0 => by cases h0), .inr (.inr (.inr ⟨rfl, rfl, rfl, by rw [if_pos hc]; rfl⟩))⟩
  · obtain rfl : q = 0 := by omega
    exact ⟨1, rfl, (fun _ _ => rfl), .inr (.inr (.inr ⟨rfl, rfl, rfl, by rw [if_neg (by simp [hc])]; exact hJ⟩))⟩
  · exact ⟨q, rfl, live_same q, .inr (.inr (.inr ⟨rfl, rfl, rfl, by rw [if_neg (by simp [hc])]; exact hJ⟩))⟩
  · obtain ⟨_, h1, h2⟩ := J_le hJ
    exact ⟨6, rfl, (fun h0 => by rw [hl] at h0; cases h0), .inr (.inr (.inr ⟨rfl, rfl, rfl, by rw [if_neg (by simp [hc])]; simp [J]; omega⟩))⟩

set_option maxRecDepth 100000 in
set_option maxHeartbeats 20000000 in
theorem runs_any {A : Option Addr} {n c : Nat} {D : Nat → Bool × Int × Bool} (w : World) (hd : Dids w A n D) (hm : n ≤ 140737488351232) :
    Calls Try.prog 7 #[.slice A n c] w (RetT w) := by
  have HD := Lib.hid hd
  clear hd
  go_enter Try.func7, Try.ntmps7
  go_wp2_with fail
  refine (awake9_any w).mono ?_
  rintro e w1 ⟨rfl, hb1⟩
  go_wp2
  go_loopw [3, 4, 5, 6] (RunRel w n) (fun _ _ _ i _ => n - (intOf i).toNat)
  case atStart => exact ⟨0, 0, 0, 0, rfl, rfl, rfl, rfl, by omega, rfl, hb1⟩
  case round =>
    obtain ⟨q, t, o, k, rfl, rfl, rfl, rfl, hk, hJ, hbel⟩ := hrel
    obtain ⟨hq6, ht1, ho1⟩ := J_le hJ
    clear hb1
    by_cases hkn : k < n
    case neg =>
      go_wp2
      go_ret
      exact ⟨rfl, hbel⟩
    by_cases hk100 : k < 100
    case neg =>
      go_wp2
      go_ret
      exact ⟨rfl, hbel⟩
    obtain ⟨b, of, rfl, hbl, hcs⟩ := HD.out (by omega)
    obtain ⟨h0, h1, h2⟩ := hcs k hkn
    clear hcs
    obtain ⟨⟨ours, kind, fin⟩, hD⟩ : ∃ d, D k = d := ⟨_, rfl⟩
    rw [hD] at h0 h1 h2
    have c0 : wr.cell? ⟨b, of + k * 3, none⟩ = some (.bool ours) := (hbel.cell (p := ⟨b, _, none⟩) hbl).trans h0
    have c1 : wr.cell? ⟨b, of + k * 3 + 1, none⟩ = some (.int .i64 kind) := (hbel.cell (p := ⟨b, _, none⟩) hbl).trans h1
    have c2 : wr.cell? ⟨b, of + k * 3 + 2, none⟩ = some (.bool fin) := (hbel.cell (p := ⟨b, _, none⟩) hbl).trans h2
    have HJ := Lib.hid hJ
    have HB := Lib.hid hbel
    have hsz := hbel.size
    obtain ⟨x, hx⟩ : ∃ x, wr.heap.size = x := ⟨_, rfl⟩
    have HX := Lib.hid hx
    have hxs : w.heap.size ≤ x := by omega
    clear h0 h1 h2 hD hbel hJ hx
    go_upto_if 34 with fail
    go_cut [3, 4, 5] (fun sv tv ov wx => RunMid w x q kind fin sv tv ov wx)
    case first =>
      have hx' := HX.out
      subst hx'
      clear HX
      cases ours
      case true =>
        obtain ⟨⟨a, ok⟩, hr⟩ : ∃ r, goF q kind fin = r := ⟨_, rfl⟩
        cases ok
        case false =>
          obtain rfl := go_no HJ.out hr
          have HR := Lib.hid hr
          clear hr
          go_wp2_with fail
          refine (go_any _ _ _ _).mono ?_
          rintro e w2 ⟨rfl, rfl⟩
          rw [HR.out]
          simp only [goV]
          go_wp2
          go_roundw
          case rel => exact ⟨q, t, o, k + 1, rfl, rfl, rfl, by go_num, by omega, HJ.out, HB.out.alloc hsz _⟩
          case measure => simp [intOf]; omega
        case true =>
          obtain ⟨a', rfl, hto, hJ1⟩ := go_way HJ.out hr
          have HR := Lib.hid hr
          have HT := Lib.hid hto
          clear hr hto
          rcases cnt_ways kind fin with ⟨rfl, hc⟩ | ⟨rfl, rfl, hc⟩ | ⟨rfl, rfl, hc⟩ | ⟨rfl, e0, e1, hc⟩
          all_goals
            rw [hc] at hJ1
            simp only [if_true, if_false, Bool.false_eq_true] at hJ1
            have HJ1 := Lib.hid hJ1
            clear hc hJ1
            as_aux_lemma =>
              go_wp2_with fail
              refine (go_any _ _ _ _).mono ?_
              rintro e w2 ⟨rfl, rfl⟩
              rw [HR.out]
              simp only [goV]
              go_wp2
              go_meet
              exact ⟨a', _, _, rfl, rfl, by first | rfl | go_num, HJ1.out, HT.out, World.cell?_alloc_at _ _ _ _ rfl, World.cell?_alloc_at _ _ _ _ rfl, HB.out.alloc (by omega) _⟩
      case false =>
        obtain ⟨⟨s, sk, is, cd, wh⟩, hr⟩ : ∃ r, comeF q kind fin = r := ⟨_, rfl⟩
        obtain ⟨s', rfl, hto, hways⟩ := come_way HJ.out hr
        have HR := Lib.hid hr
        have HT := Lib.hid hto
        clear hr hto
        rcases hways with ⟨rfl, rfl, rfl, rfl, hJ1⟩ | ⟨rfl, rfl, rfl, rfl, hJ1⟩ | ⟨rfl, rfl, rfl, rfl, hJ1⟩ | ⟨rfl, rfl, rfl, hJ1⟩
        · rcases cnt_ways kind fin with ⟨rfl, hc⟩ | ⟨rfl, rfl, hc⟩ | ⟨rfl, rfl, hc⟩ | ⟨rfl, e0, e1, hc⟩
          all_goals
            have HJ1 := Lib.hid hJ1
            clear hc hJ1
            as_aux_lemma =>
              go_wp2_with fail
              refine (come_any _ _ _ _).mono ?_
              rintro e w2 ⟨rfl, hb2⟩
              rw [HR.out]
              simp only [mvV]
              have d1 := (hb2.cell (p := ⟨wr.heap.size, 1, none⟩) (by simp)).trans (World.cell?_alloc_at _ _ _ _ rfl)
              have d2 := (hb2.cell (p := ⟨wr.heap.size, 2, none⟩) (by simp)).trans (World.cell?_alloc_at _ _ _ _ rfl)
              have hs2 : wr.heap.size < w2.heap.size := by have := hb2.size; simp at this; omega
              have HB2 := Lib.hid ((HB.out.alloc (by omega) _).trans (hb2.mono (by simp; omega)))
              clear hb2
              go_wp2
              go_meet
              exact ⟨_, _, _, rfl, by first | rfl | go_num, rfl, HJ1.out, HT.out, (World.cell?_alloc_lt _ _ _ (by simpa using hs2)).trans d1, (World.cell?_alloc_lt _ _ _ (by simpa using hs2)).trans d2, HB2.out.alloc (by omega) _⟩
        · rcases cnt_ways kind fin with ⟨rfl, hc⟩ | ⟨rfl, rfl, hc⟩ | ⟨rfl, rfl, hc⟩ | ⟨rfl, e0, e1, hc⟩
          all_goals
            have HJ1 := Lib.hid hJ1
            clear hc hJ1
            as_aux_lemma =>
              go_wp2_with fail
              refine (come_any _ _ _ _).mono ?_
              rintro e w2 ⟨rfl, hb2⟩
              rw [HR.out]
              simp only [mvV]
              have d1 := (hb2.cell (p := ⟨wr.heap.size, 1, none⟩) (by simp)).trans (World.cell?_alloc_at _ _ _ _ rfl)
              have d2 := (hb2.cell (p := ⟨wr.heap.size, 2, none⟩) (by simp)).trans (World.cell?_alloc_at _ _ _ _ rfl)
              have hs2 : wr.heap.size < w2.heap.size := by have := hb2.size; simp at this; omega
              have HB2 := Lib.hid ((HB.out.alloc (by omega) _).trans (hb2.mono (by simp; omega)))
              clear hb2
              go_wp2
              go_meet
              exact ⟨_, _, _, rfl, by first | rfl | go_num, rfl, HJ1.out, HT.out, (World.cell?_alloc_lt _ _ _ (by simpa using hs2)).trans d1, (World.cell?_alloc_lt _ _ _ (by simpa using hs2)).trans d2, HB2.out.alloc (by omega) _⟩
        · rcases cnt_ways kind fin with ⟨rfl, hc⟩ | ⟨rfl, rfl, hc⟩ | ⟨rfl, rfl, hc⟩ | ⟨rfl, e0, e1, hc⟩
          all_goals
            have HJ1 := Lib.hid hJ1
            clear hc hJ1
            as_aux_lemma =>
              go_wp2_with fail
              refine (come_any _ _ _ _).mono ?_
              rintro e w2 ⟨rfl, hb2⟩
              rw [HR.out]
              simp only [mvV]
              have d1 := (hb2.cell (p := ⟨wr.heap.size, 1, none⟩) (by simp)).trans (World.cell?_alloc_at _ _ _ _ rfl)
              have d2 := (hb2.cell (p := ⟨wr.heap.size, 2, none⟩) (by simp)).trans (World.cell?_alloc_at _ _ _ _ rfl)
              have hs2 : wr.heap.size < w2.heap.size := by have := hb2.size; simp at this; omega
              have HB2 := Lib.hid ((HB.out.alloc (by omega) _).trans (hb2.mono (by simp; omega)))
              clear hb2
              go_wp2
              go_meet
              exact ⟨_, _, _, rfl, by first | rfl | go_num, rfl, HJ1.out, HT.out, (World.cell?_alloc_lt _ _ _ (by simpa using hs2)).trans d1, (World.cell?_alloc_lt _ _ _ (by simpa using hs2)).trans d2, HB2.out.alloc (by omega) _⟩
        · rcases cnt_ways kind fin with ⟨rfl, hc⟩ | ⟨rfl, rfl, hc⟩ | ⟨rfl, rfl, hc⟩ | ⟨rfl, e0, e1, hc⟩
          all_goals
            rw [hc] at hJ1
            simp only [if_true, if_false, Bool.false_eq_true] at hJ1
            have HJ1 := Lib.hid hJ1
            clear hc hJ1
            as_aux_lemma =>
              go_wp2_with fail
              refine (come_any _ _ _ _).mono ?_
              rintro e w2 ⟨rfl, hb2⟩
              rw [HR.out]
              simp only [mvV]
              have d1 := (hb2.cell (p := ⟨wr.heap.size, 1, none⟩) (by simp)).trans (World.cell?_alloc_at _ _ _ _ rfl)
              have d2 := (hb2.cell (p := ⟨wr.heap.size, 2, none⟩) (by simp)).trans (World.cell?_alloc_at _ _ _ _ rfl)
              have hs2 : wr.heap.size < w2.heap.size := by have := hb2.size; simp at this; omega
              have HB2 := Lib.hid ((HB.out.alloc (by omega) _).trans (hb2.mono (by simp; omega)))
              clear hb2
              go_wp2
              go_meet
              exact ⟨_, _, _, rfl, by first | rfl | go_num, rfl, HJ1.out, HT.out, (World.cell?_alloc_lt _ _ _ (by simpa using hs2)).trans d1, (World.cell?_alloc_lt _ _ _ (by simpa using hs2)).trans d2, HB2.out.alloc (by omega) _⟩
    case rest =>
      have hx' := HX.out
      subst hx'
      clear HX
      obtain ⟨q1, t1, o1, rfl, rfl, rfl, hJ1, hto, f1, f2, hbel⟩ := hcut
      obtain ⟨hq6', ht1', ho1'⟩ := J_le hJ1
      have HJ1 := Lib.hid hJ1
      have HBC := Lib.hid hbel
      have hsz1 := hbel.size
      clear HJ HB hbel c0 c1 c2
      obtain ⟨v0, hv0⟩ : ∃ v, liveF q = v := ⟨_, rfl⟩
      obtain ⟨v1, hv1⟩ : ∃ v, liveF q1 = v := ⟨_, rfl⟩
      have hz : v0 = false → v1 = true → q = 0 := fun h0 h1 => hto (hv0.trans h0) (hv1.trans h1)
      have H0 := Lib.hid hv0
      have H1 := Lib.hid hv1
      clear hto hv0
      by_cases h4 : q1 = 4
      · obtain rfl : v1 = false := by rw [← hv1, h4]; rfl
        obtain ⟨rfl, rfl⟩ := J_4 (h4 ▸ hJ1)
        have e4 : ((q1 : Int) == 4) = true := by rw [h4]; rfl
        have e5 : ((q1 : Int) == 5) = false := by rw [h4]; rfl
        clear hz h4 hv1 hJ1
        cases v0
        all_goals
          as_aux_lemma =>
            go_wp2_with (go_at_call 21; refine (live_any _ _).mono ?_; rintro e w9 ⟨rfl, rfl⟩; first | rw [H0.out] | rw [H1.out])
            go_roundw
            case rel => exact ⟨q1, 1, 1, k + 1, rfl, rfl, rfl, by go_num, by omega, HJ1.out, HBC.out⟩
            case measure => simp [intOf]; omega
      · by_cases h5 : q1 = 5
        · obtain rfl : v1 = false := by rw [← hv1, h5]; rfl
          have HQ5 := Lib.hid h5
          have e4 : ((q1 : Int) == 4) = false := by rw [h5]; rfl
          have e5 : ((q1 : Int) == 5) = true := by rw [h5]; rfl
          have hfd := run_skip
          have hg1 : Hid (goV (goF (q1 : Int) 0 true) = .tuple #[.int .i64 0, .bool false]) := Lib.hid (by rw [h5]; exact go5a)
          have hg2 : Hid (goV (goF (q1 : Int) 3 false) = .tuple #[.int .i64 0, .bool false]) := Lib.hid (by rw [h5]; exact go5b)
          have hg3 : Hid (∀ kd fn, mvV (comeF (q1 : Int) kd fn) = .agg #[.int .i64 5, .bool true, .bool false, .int .i64 (comeF 5 kd fn).code, .bool false]) := Lib.hid (by rw [h5]; exact dropV)
          clear hz h4 h5 hv1 hJ1
          cases v0
          all_goals
            as_aux_lemma =>
              go_wp2_with (first
                | (go_at_call 21; refine (live_any _ _).mono ?_; rintro e w9 ⟨rfl, rfl⟩; first | rw [H0.out] | rw [H1.out])
                | (go_at_call 19; refine (go_any _ _ _ _).mono ?_; rintro e w9 ⟨rfl, rfl⟩; first | rw [hg1.out] | rw [hg2.out])
                | (go_at_call 17; refine (come_any _ _ _ _).mono ?_; rintro e w9 ⟨rfl, hb9⟩; rw [hg3.out]; generalize (comeF 5 _ _).code = c9))
              go_roundw
              case rel => exact ⟨q1, t1, o1, k + 1, rfl, rfl, rfl, by go_num, by omega, HJ1.out, HBC.out.trans (hb9.mono hsz1)⟩
              case measure => simp [intOf]; omega
        · have e4 : ((q1 : Int) == 4) = false := by rw [beq_eq_false_iff_ne]; omega
          have e5 : ((q1 : Int) == 5) = false := by rw [beq_eq_false_iff_ne]; omega
          clear h4 h5 hv1 hJ1
          cases v0 <;> cases v1
          case false.true =>
            have hq0 := hz rfl rfl
            have e00 : ((q : Int) != 0) = false := by rw [hq0]; rfl
            clear hz hq0
            as_aux_lemma =>
              go_wp2_with (go_at_call 21; refine (live_any _ _).mono ?_; rintro e w9 ⟨rfl, rfl⟩; first | rw [H0.out] | rw [H1.out])
              go_roundw
              case rel => exact ⟨q1, t1, o1, k + 1, rfl, rfl, rfl, by go_num, by omega, HJ1.out, HBC.out⟩
              case measure => simp [intOf]; omega
          all_goals
            clear hz
            as_aux_lemma =>
              go_wp2_with (go_at_call 21; refine (live_any _ _).mono ?_; rintro e w9 ⟨rfl, rfl⟩; first | rw [H0.out] | rw [H1.out])
              go_roundw
              case rel => exact ⟨q1, t1, o1, k + 1, rfl, rfl, rfl, by go_num, by omega, HJ1.out, HBC.out⟩
              case measure => simp [intOf]; omega
end Go.Proofs.Ytoicclgcbemffaa
