/- 4 texts in one: HRDec1, HRDec2, HDecodes, ClaimHpackDecodes. -/
import Derived.Test.YthpieiipddfpjaaM11
import Derived.Deep.QuietTactic
import Derived.BigQuiet
import Derived.Test.YthpieiipddfpjaaM12
import Derived.Test.YthpieiipddfpjaaM13
import Derived.Test.YthpieiipddfpjaaM7
/- The walk of drawbridgeref05.Decoder.literal. -/
namespace Go.Proofs.Ythpieiipddfpjaa
open Go.RowKit

set_option maxRecDepth 100000 in
set_option maxRecDepth 100000 in
set_option maxRecDepth 100000 in
set_option maxRecDepth 100000 in
set_option maxRecDepth 100000 in
set_option maxRecDepth 100000 in
/-- 'b[at:]'. -/
theorem slice_from (A : Option Addr) (nb cap a : Nat) (ha : a ≤ nb) : ∃ A', A' = (if cap = a then A else A.map (·.add a)) ∧ ∀ w, (Instr.slice 52 (.slice A nb cap) (some (.int .i64 (a : Int))) none none).run Try.prog w = .ok (.slice A' (nb - a) (cap - a)) w := by
  refine ⟨_, rfl, fun w => ?_⟩
  rw [run_slice_l (P := Try.prog) (w := w) 52 A nb cap Try.underlying52 .i64 (a : Int) (by omega) (by omega)]
  simp only [Int.toNat_natCast]
  have hs : ∀ w, (sizeOf (Try.prog.elem 52)).run Try.prog w = .ok 1 w := fun _ => by kernel_rfl
  rw [hs]
  simp [Result.andThen, sliced]
theorem Rd.from_ {w : World} {B nb cap a : Nat} {A A' : Option Addr} {b : List UInt8} (h : Rd w B 1 A nb (bvs b)) (ha : a ≤ nb) (hc : nb ≤ cap) (hA' : A' = (if cap = a then A else A.map (·.add a))) : Rd w B 1 A' (nb - a) (bvs (b.drop a)) := by
  have h1 := h.piece (lo := a) (hi := nb) ha (Nat.le_refl _) hc
  rw [Nat.mul_one, ← hA'] at h1
  have e : ((bvs b).drop a).take ((nb - a) * 1) = bvs (b.drop a) := by
    have hl := h.blen
    unfold bvs
    rw [← List.map_drop, List.take_of_length_le (by simp; omega)]
  rwa [e] at h1
theorem takeS_at {b l2 : List UInt8} {a : Nat} {s : ByteArray} (h : takeS (b.drop a) = .ok (s, l2)) (ha : a ≤ b.length) : (takeT (b.drop a)).2.2 = 0 ∧ s = ⟨(takeT (b.drop a)).1.toArray⟩ ∧ l2 = b.drop (a + (takeT (b.drop a)).2.1) ∧ a + (takeT (b.drop a)).2.1 ≤ b.length := by
  unfold takeS at h
  split at h
  · cases h
  · rename_i h0
    injection h with h
    injection h with h1 h2
    have h0 : (takeT (b.drop a)).2.2 = 0 := by simpa using h0
    have := (takeT_bd2 (b.drop a)).1 h0
    rw [List.length_drop] at this
    exact ⟨h0, h1.symm, by rw [← h2, List.drop_drop], by omega⟩
theorem takeT_zero (l : List UInt8) (h : (takeT l).2.2 ≠ 0) : (takeT l).2.1 = 0 := by
  unfold takeT at h ⊢
  split
  · rfl
  · rename_i h0
    rw [if_neg h0] at h
    split
    · rfl
    · rename_i h1
      rw [if_neg h1] at h
      split
      · rfl
      · rename_i h2
        rw [if_neg h2] at h
        split
        · rename_i h3
          rw [if_pos h3] at h
          exact absurd rfl h
        · rename_i h3
          rw [if_neg h3] at h
          cases hd : decB (pieceT l) with
          | none => rfl
          | some t =>
            rw [hd] at h
            simp only at h ⊢
            split
            · rfl
            · rename_i h4
              rw [if_neg h4] at h
              exact absurd rfl h
def RLitPost (W : World) (b : List UInt8) (a : Nat) (r : Except Nat (Rw × List UInt8)) (e : Ending) (w' : World) : Prop :=
  Below W.heap.size W w' ∧ match r with
  | .error z => ∃ (s1 s2 : ByteArray) (a2 : Int), e = .returned (.tuple #[.agg #[.string s1, .string s2, .bool false], .int .i64 a2, .int .i64 (z : Int)])
  | .ok (f, l2) => ∃ a2 : Nat, e = .returned (.tuple #[.agg #[.string f.1, .string f.2, .bool false], .int .i64 (a2 : Int), .int .i64 0]) ∧ l2 = b.drop a2 ∧ a ≤ a2 ∧ a2 ≤ b.length
set_option maxRecDepth 100000 in
set_option maxHeartbeats 4000000 in
theorem rlit_any {q nb cap a n : Nat} {X : Value × Value × Value} {G : Nat → Prop} {T : Tb} {A : Option Addr} {b : List UInt8} (w : World) (h : HIs w q X G T.most T.rows) (hT : TOk T) (hr : Rd w w.heap.size 1 A nb (bvs b)) (hcap : nb ≤ cap) (hm : cap ≤ maxLen) (hnb : nb ≤ 1048576) (ha : a ≤ nb) (hn : n ≤ 2147483647) :
    Calls Try.prog 54 #[.pointer (some ⟨q, 0, none⟩), .slice A nb cap, .int .i64 a, .int .i64 n] w (RLitPost w b a (litP T n (b.drop a))) := by
  have hln := hr.blen
  obtain ⟨W0, hW0⟩ : ∃ W0, (w.alloc (.cells #[.string emptyB, .string emptyB, .bool false] 24)).alloc (.cells #[.string emptyB, .string emptyB, .bool false] 24) = W0 := ⟨_, rfl⟩
  obtain ⟨x, hx⟩ : ∃ x, w.heap.size = x := ⟨_, rfl⟩
  have b0 : Below w.heap.size w W0 := by rw [← hW0]; exact ((Below.refl _ _).alloc (Nat.le_refl _) _).alloc (by simp) _
  have kx : W0.heap[x]? = some zeroF := by rw [← hW0, ← hx]; exact (Below.heap_alloc _ _ _ (by simp)).trans (heapNew _ _)
  have ky : W0.heap[x + 1]? = some zeroF := by rw [← hW0, ← hx]; exact heapNew1 _ _ _
  have hxl : x + 1 < W0.heap.size := by rw [← hW0, ← hx]; simp
  obtain ⟨y, hy⟩ : ∃ y, x + 1 = y := ⟨_, rfl⟩
  rw [hy] at ky hxl
  obtain ⟨A1, hA1, hsl⟩ := slice_from A nb cap a ha
  have hr1 := hr.from_ ha hcap hA1
  have HR1 : Hid (∀ w', Below w.heap.size w w' → Rd w' w'.heap.size 1 A1 (nb - a) (bvs (b.drop a))) := Lib.hid fun w' hb => (hr1.below hb (Nat.le_refl _)).more hb.size
  have HRB : Hid (∀ w' a2, Below w.heap.size w w' → a2 ≤ nb → ∃ A2, (∀ w, (Instr.slice 52 (.slice A nb cap) (some (.int .i64 (a2 : Int))) none none).run Try.prog w = .ok (.slice A2 (nb - a2) (cap - a2)) w) ∧ Rd w' w'.heap.size 1 A2 (nb - a2) (bvs (b.drop a2))) := Lib.hid fun w' a2 hb h2 => by
    obtain ⟨A2, hA2, hs2⟩ := slice_from A nb cap a2 h2
    exact ⟨A2, hs2, ((hr.from_ h2 hcap hA2).below hb (Nat.le_refl _)).more hb.size⟩
  have HAT : Hid (∀ w', Below w.heap.size w w' → Calls Try.prog 24 #[.pointer (some ⟨q, 2, none⟩), .int .i64 (n : Int)] w' fun e w2 => e = .returned (atV (atRows T.rows n)) ∧ Below w'.heap.size w' w2) := Lib.hid fun w' hb => hrat_any (n : Int) w' (h.below hb) hT.small (by omega)
  obtain ⟨R, hR⟩ : ∃ R, litP T n (b.drop a) = R := ⟨_, rfl⟩
  have HR := Lib.hid hR
  rw [hR]
  have HB0 := Lib.hid b0
  have HW0 := Lib.hid hW0
  have HX := Lib.hid hx
  have HY := Lib.hid hy
  have HKX := Lib.hid kx
  have HKY := Lib.hid ky
  have HXY : Hid (x ≠ y ∧ w.heap.size ≤ x ∧ w.heap.size ≤ y) := Lib.hid (by omega)
  have hcm : cap ≤ 9223372036854775807 := by unfold maxLen at hm; exact hm
  have HCM := Lib.hid (And.intro hcap hm)
  have HLN := Lib.hid hln
  clear hR b0 hW0 hx hy kx ky hr hr1 h hT hm hA1 hln
  go_enter Try.func54, Try.ntmps54
  go_upto_region 2 with fail
  rw [show ((w.alloc (.cells #[.string ⟨#[]⟩, .string ⟨#[]⟩, .bool false] 24)).alloc (.cells #[.string ⟨#[]⟩, .string ⟨#[]⟩, .bool false] 24)) = W0 from HW0.out, HX.out, HY.out]
  by_cases hn0 : 0 < n
  · have n0 : (0 : Int) < n := by omega
    have HAT0 := Lib.hid (HAT.out W0 HB0.out)
    cases hat : atRows T.rows n with
    | none =>
      have E9 : Hid (R = .error 40) := Lib.hid (by rw [← HR.out]; unfold litP takeN; rw [if_pos hn0, hat])
      rw [hat] at HAT0
      clear hat hn0
      go_wp2_with fail
      refine HAT0.out.mono ?_
      rintro e w1 ⟨rfl, hb1⟩
      have HB1 := Lib.hid (HB0.out.trans (hb1.mono HB0.out.size))
      have hsz1 := HB1.out.size
      have k1 := (hb1.block x (by have := hxl; have := HY.out; omega)).trans HKX.out
      have k2 := (hb1.block y hxl).trans HKY.out
      have x0 : w1.cell? ⟨x, 0, none⟩ = some (.string emptyB) := by unfold World.cell?; rw [k1]; rfl
      have x1 : w1.cell? ⟨x, 1, none⟩ = some (.string emptyB) := by unfold World.cell?; rw [k1]; rfl
      have x2 : w1.cell? ⟨x, 2, none⟩ = some (.bool false) := by unfold World.cell?; rw [k1]; rfl
      have fx : ∀ o, w1.frozen? ⟨x, o, none⟩ = false := fun o => by unfold World.frozen?; rw [k1]; simp [zeroF]
      have y0 : w1.cell? ⟨y, 0, none⟩ = some (.string emptyB) := by unfold World.cell?; rw [k2]; rfl
      have y1 : w1.cell? ⟨y, 1, none⟩ = some (.string emptyB) := by unfold World.cell?; rw [k2]; rfl
      have y2 : w1.cell? ⟨y, 2, none⟩ = some (.bool false) := by unfold World.cell?; rw [k2]; rfl
      have hxw : x < w1.heap.size := (Array.getElem?_eq_some_iff.1 k1).1
      have hyw : y < w1.heap.size := (Array.getElem?_eq_some_iff.1 k2).1
      have hxy := HXY.out.1
      clear hb1 k1 k2
      simp only [atV, fieldV]
      go_wp2
      refine bodyPost_ret (v := .tuple #[.agg #[.string emptyB, .string emptyB, .bool false], .int .i64 (a : Int), .int .i64 40]) (by simp [results, Try.results54, go_sem, x0, x1, x2, hxw]) rfl ?_
      rw [E9.out]
      have hle := HXY.out.2.1
      refine ⟨?_, emptyB, emptyB, (a : Int), rfl⟩
      exact (((HB1.out.setCell (p := ⟨x, 0, none⟩) hle _).setCell (p := ⟨x, 1, none⟩) hle _).setCell (p := ⟨x, 2, none⟩) hle _).alloc (by simp [World.setCell]; omega) _
    | some r =>
      have E9 : Hid (R = match takeS (b.drop a) with
        | .error e => .error e
        | .ok (v, l2) => .ok ((r.1, v), l2)) := Lib.hid (by rw [← HR.out]; unfold litP takeN; rw [if_pos hn0, hat]; rfl)
      rw [hat] at HAT0
      clear hat hn0
      have HA3 : Hid (a ≤ a ∧ a ≤ nb) := Lib.hid (by omega)
      have hn3 : a ≤ nb := ha
      go_wp2_with fail
      refine HAT0.out.mono ?_
      rintro e w1 ⟨rfl, hb1⟩
      obtain ⟨w3, hw3⟩ : ∃ w3, w1.alloc (.cells #[.string r.1, .string r.2, .bool false] 24) = w3 := ⟨_, rfl⟩
      obtain ⟨u, hu⟩ : ∃ u, w1.heap.size = u := ⟨_, rfl⟩
      have b13 : Below w1.heap.size w1 w3 := by rw [← hw3]; exact (Below.refl _ _).alloc (Nat.le_refl _) _
      have b03 : Below W0.heap.size W0 w3 := hb1.trans (b13.mono hb1.size)
      have HB3 := Lib.hid (HB0.out.trans (b03.mono HB0.out.size))
      have kx3 := (b03.block x (by have := hxl; have := HY.out; omega)).trans HKX.out
      have ky3 := (b03.block y hxl).trans HKY.out
      have ku3 : w3.heap[u]? = some (.cells #[.string r.1, .string r.2, .bool false] 24 (0, 0)) := by rw [← hw3, ← hu]; exact heapNew _ _
      have u0 : w3.cell? ⟨u, 0, none⟩ = some (.string r.1) := by unfold World.cell?; rw [ku3]; rfl
      have y0 : w3.cell? ⟨y, 0, none⟩ = some (.string emptyB) := by unfold World.cell?; rw [ky3]; rfl
      have fy : w3.frozen? ⟨y, 0, none⟩ = false := by unfold World.frozen?; rw [ky3]; simp [zeroF]
      have HKX3 := Lib.hid kx3
      have HKY3 := Lib.hid ky3
      have HW3 := Lib.hid hw3
      have HU := Lib.hid hu
      obtain ⟨nm, hnm⟩ : ∃ nm, r.1 = nm := ⟨_, rfl⟩
      have HNM := Lib.hid hnm
      rw [hnm] at E9 u0
      clear hb1 b13 b03 kx3 ky3 ku3 hw3 hu hnm
      simp only [atV, fieldV]
      go_upto_region 4 with fail
      rw [HW3.out, HU.out]
      go_upto_region 12 with fail
      obtain ⟨W4, hW4⟩ : ∃ W4, w3.setCell ⟨y, 0, none⟩ (.string nm) = W4 := ⟨_, rfl⟩
      have HB4 : Hid (Below w.heap.size w W4) := Lib.hid (by rw [← hW4]; exact HB3.out.setCell HXY.out.2.2 _)
      have HKX4 : Hid (W4.heap[x]? = some zeroF) := Lib.hid (by rw [← hW4]; exact (Below.heap_setCell _ _ _ _ HXY.out.1).trans HKX3.out)
      have HKY4 : Hid (W4.heap[y]? = some (.cells #[.string nm, .string emptyB, .bool false] 24 (0, 0))) := Lib.hid (by rw [← hW4, set_b _ HKY3.out]; rfl)
      rw [hW4]
      clear hW4
      obtain ⟨A4, hs4, hr4⟩ := HRB.out W4 a HB4.out hn3
      have HTX := Lib.hid (rtakeText_any hr4 (show nb - a ≤ cap - a by omega) (by unfold maxLen; omega) (by omega))
      obtain ⟨tt, htt⟩ : ∃ tt, takeT (b.drop a) = tt := ⟨_, rfl⟩
      have HTT := Lib.hid htt
      have hbt := (takeT_bd2 (b.drop a)).1
      have hbe := (takeT_bd2 (b.drop a)).2
      rw [htt] at HTX hbt hbe
      obtain ⟨tl, tk, tz⟩ := tt
      simp only [List.length_drop] at hbt hbe
      clear hr4 htt y0 fy hsl
      go_wp2_with fail
      refine HTX.out.mono ?_
      rintro e w5 ⟨rfl, hb5⟩
      have HB5 := Lib.hid (HB4.out.trans (hb5.mono HB4.out.size))
      have k5 := (hb5.block y (Array.getElem?_eq_some_iff.1 HKY4.out).1).trans HKY4.out
      have k6 := (hb5.block x (Array.getElem?_eq_some_iff.1 HKX4.out).1).trans HKX4.out
      have y0 : w5.cell? ⟨y, 0, none⟩ = some (.string nm) := by unfold World.cell?; rw [k5]; rfl
      have y1 : w5.cell? ⟨y, 1, none⟩ = some (.string emptyB) := by unfold World.cell?; rw [k5]; rfl
      have y2 : w5.cell? ⟨y, 2, none⟩ = some (.bool false) := by unfold World.cell?; rw [k5]; rfl
      have fy : ∀ o, w5.frozen? ⟨y, o, none⟩ = false := fun o => by unfold World.frozen?; rw [k5]; simp
      have x0 : w5.cell? ⟨x, 0, none⟩ = some (.string emptyB) := by unfold World.cell?; rw [k6]; rfl
      have x1 : w5.cell? ⟨x, 1, none⟩ = some (.string emptyB) := by unfold World.cell?; rw [k6]; rfl
      have x2 : w5.cell? ⟨x, 2, none⟩ = some (.bool false) := by unfold World.cell?; rw [k6]; rfl
      have fx : ∀ o, w5.frozen? ⟨x, o, none⟩ = false := fun o => by unfold World.frozen?; rw [k6]; simp [zeroF]
      have hxy := HXY.out.1
      have hyx : y ≠ x := fun e => hxy e.symm
      have htk : tk ≤ 1048576 := by
        by_cases h0 : tz = 0
        · have := hbt h0; have := HLN.out; omega
        · have := HTT.out
          have h2 : (takeT (b.drop a)).2.1 = tk := by rw [this]
          have h3 := takeT_zero (b.drop a) (by rw [this]; exact h0)
          rw [this] at h3
          simp only at h3
          omega
      clear hb5 k5 k6
      simp only [triT]
      go_wp2
      refine bodyPost_ret (v := .tuple #[.agg #[.string nm, .string ⟨tl.toArray⟩, .bool false], .int .i64 ((a : Int) + tk), .int .i64 (tz : Int)]) (by simp [results, Try.results54, go_sem, x0, x1, x2]) rfl ?_
      have hle := HXY.out.2.1
      have hle2 := HXY.out.2.2
      have hbb := (((HB5.out.setCell (p := ⟨y, 1, none⟩) hle2 (.string ⟨tl.toArray⟩)).setCell (p := ⟨x, 0, none⟩) hle (.string nm)).setCell (p := ⟨x, 1, none⟩) hle (.string ⟨tl.toArray⟩)).setCell (p := ⟨x, 2, none⟩) hle (.bool false)
      by_cases hz : tz = 0
      · subst hz
        have e1 : takeS (b.drop a) = .ok (⟨tl.toArray⟩, b.drop (a + tk)) := by
          unfold takeS
          rw [HTT.out]
          rw [if_neg (by simp)]
          simp only [List.drop_drop]
        have h9 := E9.out
        rw [e1] at h9
        rw [h9]
        have hb9 := hbt rfl
        exact ⟨hbb, a + tk, rfl, rfl, by have := HA3.out; omega, by have := HLN.out; omega⟩
      · have e1 : takeS (b.drop a) = .error tz := by
          unfold takeS
          rw [HTT.out]
          exact if_pos hz
        have h9 := E9.out
        rw [e1] at h9
        rw [h9]
        exact ⟨hbb, nm, ⟨tl.toArray⟩, _, rfl⟩
  · obtain rfl : n = 0 := by omega
    have n0 : ¬ (0 : Int) < ((0 : Nat) : Int) := by omega
    have HTX := Lib.hid (rtakeText_any (HR1.out W0 HB0.out) (show nb - a ≤ cap - a by omega) (by unfold maxLen; omega) (by omega))
    obtain ⟨tt, htt⟩ : ∃ tt, takeT (b.drop a) = tt := ⟨_, rfl⟩
    have HTT := Lib.hid htt
    have hbt := (takeT_bd2 (b.drop a)).1
    rw [htt] at HTX hbt
    obtain ⟨tl, tk, tz⟩ := tt
    simp only [List.length_drop] at hbt
    clear htt hn0
    by_cases hz : tz = 0
    · subst hz
      obtain ⟨-, hk1, hk2⟩ := hbt rfl
      have e1 : takeS (b.drop a) = .ok (⟨tl.toArray⟩, b.drop (a + tk)) := by
        unfold takeS
        rw [HTT.out]
        rw [if_neg (by simp)]
        simp only [List.drop_drop]
      obtain ⟨nm, hnm⟩ : ∃ nm, (⟨tl.toArray⟩ : ByteArray) = nm := ⟨_, rfl⟩
      obtain ⟨a3, ha3⟩ : ∃ a3, a + tk = a3 := ⟨_, rfl⟩
      rw [hnm, ha3] at e1
      have E9 : Hid (R = match takeS (b.drop a3) with
        | .error e => .error e
        | .ok (v, l2) => .ok ((nm, v), l2)) := Lib.hid (by rw [← HR.out]; unfold litP takeN; rw [if_neg (by omega), e1]; rfl)
      have HA3 : Hid (a ≤ a3 ∧ a3 ≤ nb) := Lib.hid (by have := HLN.out; omega)
      have hn3 : a3 ≤ nb := by have := HLN.out; omega
      have ha3' : (a : Int) + tk = a3 := by omega
      have htkb : tk ≤ 1048576 := by have := HLN.out; omega
      have HA4 := Lib.hid ha3'
      have HNM := Lib.hid hnm
      clear e1 hbt hnm ha3 ha3'
      go_wp2_with fail
      refine HTX.out.mono ?_
      rintro e w3 ⟨rfl, hb3⟩
      have HB3 := Lib.hid (HB0.out.trans (hb3.mono HB0.out.size))
      have kx3 := (hb3.block x (by have := hxl; have := HY.out; omega)).trans HKX.out
      have ky3 := (hb3.block y hxl).trans HKY.out
      have y0 : w3.cell? ⟨y, 0, none⟩ = some (.string emptyB) := by unfold World.cell?; rw [ky3]; rfl
      have fy : w3.frozen? ⟨y, 0, none⟩ = false := by unfold World.frozen?; rw [ky3]; simp [zeroF]
      have HKX3 := Lib.hid kx3
      have HKY3 := Lib.hid ky3
      clear hb3 kx3 ky3
      simp only [triT]
      rw [HNM.out]
      go_upto_region 12 with fail
      rw [HA4.out]
      obtain ⟨W4, hW4⟩ : ∃ W4, w3.setCell ⟨y, 0, none⟩ (.string nm) = W4 := ⟨_, rfl⟩
      have HB4 : Hid (Below w.heap.size w W4) := Lib.hid (by rw [← hW4]; exact HB3.out.setCell HXY.out.2.2 _)
      have HKX4 : Hid (W4.heap[x]? = some zeroF) := Lib.hid (by rw [← hW4]; exact (Below.heap_setCell _ _ _ _ HXY.out.1).trans HKX3.out)
      have HKY4 : Hid (W4.heap[y]? = some (.cells #[.string nm, .string emptyB, .bool false] 24 (0, 0))) := Lib.hid (by rw [← hW4, set_b _ HKY3.out]; rfl)
      rw [hW4]
      clear hW4
      obtain ⟨A4, hs4, hr4⟩ := HRB.out W4 a3 HB4.out hn3
      have HTX := Lib.hid (rtakeText_any hr4 (show nb - a3 ≤ cap - a3 by omega) (by unfold maxLen; omega) (by omega))
      obtain ⟨tt, htt⟩ : ∃ tt, takeT (b.drop a3) = tt := ⟨_, rfl⟩
      have HTT := Lib.hid htt
      have hbt := (takeT_bd2 (b.drop a3)).1
      have hbe := (takeT_bd2 (b.drop a3)).2
      rw [htt] at HTX hbt hbe
      obtain ⟨tl, tk, tz⟩ := tt
      simp only [List.length_drop] at hbt hbe
      clear hr4 htt y0 fy hsl
      go_wp2_with fail
      refine HTX.out.mono ?_
      rintro e w5 ⟨rfl, hb5⟩
      have HB5 := Lib.hid (HB4.out.trans (hb5.mono HB4.out.size))
      have k5 := (hb5.block y (Array.getElem?_eq_some_iff.1 HKY4.out).1).trans HKY4.out
      have k6 := (hb5.block x (Array.getElem?_eq_some_iff.1 HKX4.out).1).trans HKX4.out
      have y0 : w5.cell? ⟨y, 0, none⟩ = some (.string nm) := by unfold World.cell?; rw [k5]; rfl
      have y1 : w5.cell? ⟨y, 1, none⟩ = some (.string emptyB) := by unfold World.cell?; rw [k5]; rfl
      have y2 : w5.cell? ⟨y, 2, none⟩ = some (.bool false) := by unfold World.cell?; rw [k5]; rfl
      have fy : ∀ o, w5.frozen? ⟨y, o, none⟩ = false := fun o => by unfold World.frozen?; rw [k5]; simp
      have x0 : w5.cell? ⟨x, 0, none⟩ = some (.string emptyB) := by unfold World.cell?; rw [k6]; rfl
      have x1 : w5.cell? ⟨x, 1, none⟩ = some (.string emptyB) := by unfold World.cell?; rw [k6]; rfl
      have x2 : w5.cell? ⟨x, 2, none⟩ = some (.bool false) := by unfold World.cell?; rw [k6]; rfl
      have fx : ∀ o, w5.frozen? ⟨x, o, none⟩ = false := fun o => by unfold World.frozen?; rw [k6]; simp [zeroF]
      have hxy := HXY.out.1
      have hyx : y ≠ x := fun e => hxy e.symm
      have htk : tk ≤ 1048576 := by
        by_cases h0 : tz = 0
        · have := hbt h0; have := HLN.out; omega
        · have := HTT.out
          have h2 : (takeT (b.drop a3)).2.1 = tk := by rw [this]
          have h3 := takeT_zero (b.drop a3) (by rw [this]; exact h0)
          rw [this] at h3
          simp only at h3
          omega
      clear hb5 k5 k6
      simp only [triT]
      go_wp2
      refine bodyPost_ret (v := .tuple #[.agg #[.string nm, .string ⟨tl.toArray⟩, .bool false], .int .i64 ((a3 : Int) + tk), .int .i64 (tz : Int)]) (by simp [results, Try.results54, go_sem, x0, x1, x2]) rfl ?_
      have hle := HXY.out.2.1
      have hle2 := HXY.out.2.2
      have hbb := (((HB5.out.setCell (p := ⟨y, 1, none⟩) hle2 (.string ⟨tl.toArray⟩)).setCell (p := ⟨x, 0, none⟩) hle (.string nm)).setCell (p := ⟨x, 1, none⟩) hle (.string ⟨tl.toArray⟩)).setCell (p := ⟨x, 2, none⟩) hle (.bool false)
      by_cases hz : tz = 0
      · subst hz
        have e1 : takeS (b.drop a3) = .ok (⟨tl.toArray⟩, b.drop (a3 + tk)) := by
          unfold takeS
          rw [HTT.out]
          rw [if_neg (by simp)]
          simp only [List.drop_drop]
        have h9 := E9.out
        rw [e1] at h9
        rw [h9]
        have hb9 := hbt rfl
        exact ⟨hbb, a3 + tk, rfl, rfl, by have := HA3.out; omega, by have := HLN.out; omega⟩
      · have e1 : takeS (b.drop a3) = .error tz := by
          unfold takeS
          rw [HTT.out]
          exact if_pos hz
        have h9 := E9.out
        rw [e1] at h9
        rw [h9]
        exact ⟨hbb, nm, ⟨tl.toArray⟩, _, rfl⟩
    · have e1 : takeS (b.drop a) = .error tz := by
        unfold takeS
        rw [HTT.out]
        exact if_pos hz
      have E9 : Hid (R = .error tz) := Lib.hid (by rw [← HR.out]; unfold litP takeN; rw [if_neg (by omega), e1])
      have hzn : ((tz : Int) == 0) = false := by rw [beq_eq_false_iff_ne]; omega
      have hzn2 : ((tz : Int) != 0) = true := by simpa using (show ¬ tz = 0 by omega)
      clear hbt e1 hz
      go_wp2_with fail
      refine HTX.out.mono ?_
      rintro e w1 ⟨rfl, hb1⟩
      have HB1 := Lib.hid (HB0.out.trans (hb1.mono HB0.out.size))
      have k1 := (hb1.block x (by have := hxl; have := HY.out; omega)).trans HKX.out
      have k2 := (hb1.block y hxl).trans HKY.out
      have x0 : w1.cell? ⟨x, 0, none⟩ = some (.string emptyB) := by unfold World.cell?; rw [k1]; rfl
      have x1 : w1.cell? ⟨x, 1, none⟩ = some (.string emptyB) := by unfold World.cell?; rw [k1]; rfl
      have x2 : w1.cell? ⟨x, 2, none⟩ = some (.bool false) := by unfold World.cell?; rw [k1]; rfl
      have fx : ∀ o, w1.frozen? ⟨x, o, none⟩ = false := fun o => by unfold World.frozen?; rw [k1]; simp [zeroF]
      have y0 : w1.cell? ⟨y, 0, none⟩ = some (.string emptyB) := by unfold World.cell?; rw [k2]; rfl
      have y1 : w1.cell? ⟨y, 1, none⟩ = some (.string emptyB) := by unfold World.cell?; rw [k2]; rfl
      have y2 : w1.cell? ⟨y, 2, none⟩ = some (.bool false) := by unfold World.cell?; rw [k2]; rfl
      have hxy := HXY.out.1
      clear hb1 k1 k2
      simp only [triT]
      go_wp2
      refine bodyPost_ret (v := .tuple #[.agg #[.string emptyB, .string emptyB, .bool false], .int .i64 (a : Int), .int .i64 (tz : Int)]) (by simp [results, Try.results54, go_sem, x0, x1, x2]) rfl ?_
      rw [E9.out]
      have hle := HXY.out.2.1
      refine ⟨?_, emptyB, emptyB, (a : Int), rfl⟩
      exact ((HB1.out.setCell (p := ⟨x, 0, none⟩) hle _).setCell (p := ⟨x, 1, none⟩) hle _).setCell (p := ⟨x, 2, none⟩) hle _
end Go.Proofs.Ythpieiipddfpjaa

/- The walk of drawbridgeref05.Decoder.Decode. -/
namespace Go.Proofs.Ythpieiipddfpjaa
open Go.RowKit

theorem takeTail_zero : ∀ (k a n t : Nat) (l : List UInt8), (takeTail k a n t l).2.2 ≠ 0 → (takeTail k a n t l).1 = 0 ∧ (takeTail k a n t l).2.1 = 0
  | 0, a, n, t, l, _ => by simp [takeTail]
  | k + 1, a, n, t, [], _ => by simp [takeTail]
  | k + 1, a, n, t, c :: l, h => by
    rw [takeTail] at h ⊢
    split
    · split
      · exact ⟨rfl, rfl⟩
      · rename_i h1 h2
        rw [if_pos h1, if_neg h2] at h
        exact absurd rfl h
    · rename_i h1
      rw [if_neg h1] at h
      exact takeTail_zero k _ _ _ l h
theorem takeI_zero (F : Nat) (l : List UInt8) (h : (takeI F l).2.2 ≠ 0) : (takeI F l).1 = 0 ∧ (takeI F l).2.1 = 0 := by
  cases l with
  | nil => simp [takeI]
  | cons c t =>
    simp only [takeI] at h ⊢
    split
    · rename_i h1
      rw [if_pos h1] at h
      exact absurd rfl h
    · rename_i h1
      rw [if_neg h1] at h
      exact takeTail_zero _ _ _ _ _ h
theorem litP_err {T : Tb} {n z : Nat} {l : List UInt8} (h : litP T n l = .error z) : z ≠ 0 := by
  unfold litP at h
  split at h
  · rename_i e he
    injection h with h
    subst h
    unfold takeN at he
    split at he
    · split at he
      · injection he with he; omega
      · cases he
    · exact (takeS_err he).1
  · split at h
    · rename_i e he
      injection h with h
      subst h
      exact (takeS_err he).1
    · cases h
theorem partP_num {mo : Int} {S : HSt} {c F n k z : Nat} (hc : ba S.left 0 = c) (hF : prefF c = F) (hv : takeI F S.left = (n, k, z)) (hz : z ≠ 0) : partP mo S = .error z := by
  unfold partP
  rw [hc, hF, hv]
  exact if_pos hz
theorem HIs.xcells {w : World} {q : Nat} {X : Value × Value × Value} {G : Nat → Prop} {most : Int} {rows : List Rw} (h : HIs w q X G most rows) : w.cell? ⟨q, 0, none⟩ = some X.1 ∧ w.cell? ⟨q, 1, none⟩ = some X.2.1 ∧ w.cell? ⟨q, 4, none⟩ = some X.2.2 ∧ (∀ o, w.frozen? ⟨q, o, none⟩ = false) ∧ G q ∧ q < w.heap.size := by
  obtain ⟨A, c, rfl, ht⟩ := h
  have hb := ht.book
  refine ⟨?_, ?_, ?_, fun o => ht.free o, .inl rfl, (Array.getElem?_eq_some_iff.1 hb).1⟩ <;> (unfold World.cell?; rw [hb]; rfl)
theorem HIs.broke {w : World} {q : Nat} {X : Value × Value × Value} {G : Nat → Prop} {most : Int} {rows : List Rw} (h : HIs w q X G most rows) (v : Value) : HIs (w.setCell ⟨q, 4, none⟩ v) q (X.1, X.2.1, v) G most rows := by
  obtain ⟨A, c, rfl, ht⟩ := h
  refine ⟨A, c, rfl, ?_, ht.row.keep fun k hk => Below.heap_setCell _ _ _ _ (fun e => ?_), ht.ne⟩
  · rw [set_b _ ht.book]; rfl
  · cases A with
    | none => cases hk
    | some a => simp only [Value.ownBlock, Option.some.injEq] at hk; exact ht.ne a rfl (hk.trans e)
/-- The document's decoder within a block. -/
structure RS5 (W w : World) (q : Nat) (X : Value × Value × Value) (G0 G : Nat → Prop) (S : HSt) (b : List UInt8) (a : Nat) (ov : Value) : Prop where
  dec : HIs w q X G S.T.most S.T.rows
  left : S.left = b.drop a
  le : a ≤ b.length
  fld : w.ownsRow W.heap.size 24 3 ov S.fields.length (fds S.fields)
  fG : ∀ k, ov.ownBlock = some k → ¬ G k
  kept : Kept G0 W w
  grew : Grew W G0 G
section
variable {W w w' : World} {q a a' : Nat} {X : Value × Value × Value} {G0 G G' : Nat → Prop} {S S' : HSt} {b : List UInt8} {ov : Value}
theorem RS5.below (h : RS5 W w q X G0 G S b a ov) (hb : Below w.heap.size w w') : RS5 W w' q X G0 G S b a ov :=
  ⟨h.dec.below hb, h.left, h.le, own_kept4 h.fld (Kept.of_below (F := fun _ => False) hb) (fun _ _ h => h), h.fG, h.kept.same (Kept.of_below hb), h.grew⟩
/-- A new block beside has turned. -/
theorem RS5.aside (h : RS5 W w q X G0 G S b a ov) {x : Nat} (hx : W.heap.size ≤ x) (hG : ¬ G x) (hv : ov.ownBlock ≠ some x) (j : Nat) (v : Value) : RS5 W (w.setCell ⟨x, j, none⟩ v) q X G0 G S b a ov := by
  have hkw : Kept (fun k => k = x) w (w.setCell ⟨x, j, none⟩ v) := (Kept.refl (fun k => k = x) w).setCell rfl j v
  exact ⟨h.dec.keep (fun k hk => hkw.block k (h.dec.lt k hk) (fun e => hG (e ▸ hk))), h.left, h.le, own_kept4 h.fld hkw (fun k hk e => hv (by rw [hk, e])), h.fG,
    ⟨hkw.os.trans h.kept.os, hkw.tape.trans h.kept.tape, hkw.output.trans h.kept.output, Nat.le_trans h.kept.size hkw.size, fun k hk hn => (hkw.block k (Nat.lt_of_lt_of_le hk h.kept.size) (fun e => by omega)).trans (h.kept.block k hk hn)⟩, h.grew⟩
/-- The table has turned. -/
theorem RS5.step (h : RS5 W w q X G0 G S b a ov) {most : Int} {rows : List Rw} (hd : HIs w' q X G' most rows) (hk : Kept G w w') (hg : Grew w G G') {T : Tb} (h1 : T.most = most) (h2 : T.rows = rows) : RS5 W w' q X G0 G' { S with T := T } b a ov :=
  ⟨by rw [h1, h2]; exact hd, h.left, h.le, own_kept4 h.fld hk h.fG, fun k hk' hf => (hg k hf).elim (h.fG k hk') (fun hl => by have := (h.fld.lt k hk').2; omega), h.kept.trans hk h.grew, h.grew.trans hg h.kept.size⟩
/-- On to another place. -/
theorem RS5.on (h : RS5 W w q X G0 G S b a ov) (h1 : a' ≤ b.length) {l : List UInt8} (hl : l = b.drop a') (c : Nat) : RS5 W w q X G0 G { S with left := l, changes := c } b a' ov := ⟨h.dec, hl, h1, h.fld, h.fG, h.kept, h.grew⟩
/-- One field more. -/
theorem RS5.app (h : RS5 W w q X G0 G S b a ov) {o : Obj} {v4 : Value} {w4 : World} (f : Fd) (l : List UInt8) (h1 : a' ≤ b.length) (hl : l = b.drop a') (hown : w4.ownsRow W.heap.size 24 3 v4 (S.fields.length + 1) (fds S.fields ++ [.string f.1.1, .string f.1.2, .bool f.2]))
    (hg : (w.alloc o).grownBy w4 ov.ownBlock) (hb : v4.ownBlock = ov.ownBlock ∨ v4.ownBlock = some (w.alloc o).heap.size) : RS5 W w4 q X G0 G (S.put l f) b a' v4 := by
  have hkw : Kept (fun k => ov.ownBlock = some k) w w4 := ((Kept.refl _ _).alloc o).grown hg (fun k hk => .inl hk)
  exact ⟨h.dec.keep fun k hk => hkw.block k (h.dec.lt k hk) (fun e => h.fG k e hk), hl, h1, by show w4.ownsRow _ _ _ _ (S.fields ++ [f]).length (fds (S.fields ++ [f])); rw [List.length_append, fds_app]; exact hown, fun k hk hf => by
      rcases hb with e | e
      · exact h.fG k (e ▸ hk) hf
      · rw [e] at hk
        injection hk with hk
        have := h.dec.lt k hf
        simp at hk
        omega,
    ⟨hkw.os.trans h.kept.os, hkw.tape.trans h.kept.tape, hkw.output.trans h.kept.output, Nat.le_trans h.kept.size hkw.size, fun k hk hn => (hkw.block k (Nat.lt_of_lt_of_le hk h.kept.size) (fun e => by have := (h.fld.lt k e).1; omega)).trans (h.kept.block k hk hn)⟩, h.grew⟩
end
def RDPost (W : World) (q : Nat) (G : Nat → Prop) (mo li : Int) (out : List Fd × Nat × Option Tb) (e : Ending) (w' : World) : Prop :=
  ∃ A c, e = .returned (.tuple #[.slice A out.1.length c, .int .i64 (out.2.1 : Int)]) ∧ w'.ownsRow W.heap.size 24 3 (.slice A out.1.length c) out.1.length (fds out.1) ∧
    ∃ G' T', RDecIs w' q G' mo li T' out.2.2.isNone ∧ (∀ T1, out.2.2 = some T1 → T' = T1) ∧ (∀ a, A = some a → ¬ G' a.block) ∧ Kept G W w' ∧ Grew W G G'
def RDRel (W : World) (q : Nat) (mo li : Int) (G0 : Nat → Prop) (S0 : HSt) (b : List UInt8) (ov cv sv av : Value) (wr : World) : Prop :=
  ∃ (S : HSt) (a : Nat) (G : Nat → Prop), cv = .int .i64 (S.cost : Int) ∧ sv = .int .i64 (S.changes : Int) ∧ av = .int .i64 (a : Int) ∧ RS5 W wr q (.int .i64 mo, .int .i64 li, .bool false) G0 G S b a ov ∧ HOk b.length S ∧ decP mo b.length S0 = decP mo S.left.length S
set_option maxRecDepth 100000 in
set_option maxHeartbeats 8000000 in
theorem rdecode_any {q nb cap : Nat} {G0 : Nat → Prop} {mo li : Int} {T : Tb} {A : Option Addr} {b : List UInt8} (w : World) (h : RDecIs w q G0 mo li T false) (hT : TOk T) (hr : Rd w w.heap.size 1 A nb (bvs b)) (hcap : nb ≤ cap) (hm : cap ≤ maxLen) (hnb : nb ≤ 1048576) (hA : 0 < nb → ∀ a, A = some a → ¬ G0 a.block) (hmo : mo ≤ 65536) :
    Calls Try.prog 32 #[.pointer (some ⟨q, 0, none⟩), .slice A nb cap] w (RDPost w q G0 mo li (outD mo li T b)) := by
  have hln := hr.blen
  have h5 : RS5 w w q (.int .i64 mo, .int .i64 li, .bool false) G0 G0 ⟨T, b, [], 0, 0⟩ b 0 (.slice none 0 0) := ⟨h, by simp, Nat.zero_le _, World.ownsRow_nil _ _ _ _, (fun k hk => by cases hk), Kept.refl _ _, Grew.refl _ _⟩
  obtain ⟨-, -, c4, -, hg0, -⟩ := h.xcells
  have HG0 := Lib.hid hg0
  have H5 := Lib.hid h5
  have HT := Lib.hid hT
  have HR := Lib.hid hr
  have HA := Lib.hid hA
  have HLN := Lib.hid hln
  clear h5 h hT hr hA hln hg0
  go_enter Try.func32, Try.ntmps32
  go_wp2_with fail
  go_loopw [6, 7, 8, 9] (fun ov cv sv av wr => RDRel w q mo li G0 ⟨T, b, [], 0, 0⟩ b ov cv sv av wr) (fun _ _ _ av _ => nb - (intOf av).toNat)
  case atStart => exact ⟨_, 0, G0, rfl, rfl, rfl, H5.out, HOk.start HT.out b, rfl⟩
  case round =>
    obtain ⟨S, a, G, rfl, rfl, rfl, hs, hok, hdec⟩ := hrel
    clear c4 H5
    obtain ⟨Af, cf, rfl, -⟩ := own_slice hs.fld
    obtain ⟨x0, x1, x4, xf, xG, xq⟩ := hs.dec.xcells
    simp only at x0 x1 x4
    have fq4 := xf 4
    have hlb := hs.le
    rw [HLN.out] at hlb
    have hok' := hok
    have hcst := hok.costle
    have hlen := hok.len
    have hchg := hok.chg
    rw [HLN.out] at hlen
    have HS := Lib.hid hs
    have HOK := Lib.hid hok
    have HDEC := Lib.hid hdec
    have HMO := Lib.hid hmo
    have hsl0 : S.left.length = nb - a := by rw [hs.left, List.length_drop, HLN.out]
    have HSL := Lib.hid hsl0
    have hsz := hs.kept.size
    obtain ⟨fl, hfl⟩ : ∃ fl, S.fields.length = fl := ⟨_, rfl⟩
    have HFL := Lib.hid hfl
    rw [hfl] at hcst hlen ⊢
    have HFLD : Hid (wr.ownsRow w.heap.size 24 3 (.slice Af fl cf) fl (fds S.fields)) := Lib.hid (by rw [← hfl]; exact hs.fld)
    clear xf xG hs hok hok' hdec hsl0 hfl
    by_cases hlt : a < nb
    · have hrW : ∀ w', Below wr.heap.size wr w' → Rd w' w'.heap.size 1 A nb (bvs b) := fun w' hb => by
        have h1 := (HR.out.kept HS.out.kept (fun h0 x hx => HA.out h0 x hx))
        exact (h1.below hb (Nat.le_refl _)).more hb.size
      have HRW := Lib.hid hrW
      obtain ⟨-, bb, bo, rfl, hbb, hcs⟩ := (hrW wr (Below.refl _ _)).bas (by omega)
      have q0 := hcs a hlt
      have hba := ba_lt b a
      obtain ⟨c, hc⟩ : ∃ c, ba b a = c := ⟨_, rfl⟩
      have hc0 : ba S.left 0 = c := by rw [HS.out.left, ← hc]; unfold ba; congr 1; simp [List.getD_eq_getElem?_getD]
      rw [hc] at q0 hba
      have HC := Lib.hid hc0
      obtain ⟨A1, hA1, hsl⟩ := slice_from (some ⟨bb, bo, none⟩) nb cap a (by omega)
      have hcs0 : 0 < S.left.length := by rw [HSL.out]; omega
      have HCS := Lib.hid hcs0
      have HTKI : Hid (∀ bits F d, Full bits F → Calls Try.prog 52 #[.slice A1 (nb - a) (cap - a), .int .i64 (bits : Nat)] (wr.drewN d) fun e w' => e = .returned (tri (takeI F S.left)) ∧ w' = wr.drewN d) := Lib.hid fun bits F d hF => by
        have h1 := (hrW (wr.drewN d) (below_dN (Below.refl _ _) d)).from_ (a := a) (by omega) hcap hA1
        refine (rtake_all (bits := (bits : Nat)) h1 (show nb - a ≤ cap - a by omega) (by unfold maxLen at hm ⊢; omega)).mono ?_
        rintro e w' ⟨rfl, rfl⟩
        rw [takeV_in hF, HS.out.left]
        exact ⟨rfl, rfl⟩
      have HERR : Hid (∀ e, partP mo S = .error e → outD mo li T b = ([], e, none)) := Lib.hid fun e he => outD_err (by rw [HDEC.out]; exact decP_fail HCS.out he)
      have HNXT : Hid (∀ S', partP mo S = .ok S' → HOk b.length S' ∧ decP mo b.length ⟨T, b, [], 0, 0⟩ = decP mo S'.left.length S') := Lib.hid fun S' he => ⟨(HOK.out.part HMO.out he).1, HDEC.out.trans (decP_step HMO.out HOK.out HCS.out he)⟩
      have n1 : (a : Int) < nb := by omega
      have n0 : (0 : Int) ≤ a := by omega
      have hcm : cap ≤ 9223372036854775807 := by unfold maxLen at hm; exact hm
      clear hcs hc hc0 hrW hcs0 hA1
      have hcase : 128 ≤ c ∨ (¬ 128 ≤ c ∧ 64 ≤ c) ∨ (¬ 128 ≤ c ∧ ¬ 64 ≤ c ∧ 32 ≤ c) ∨ (¬ 128 ≤ c ∧ ¬ 64 ≤ c ∧ ¬ 32 ≤ c) := by omega
      rcases hcase with c1 | ⟨c1, c2⟩ | ⟨c1, c2, c3⟩ | ⟨c1, c2, c3⟩
      · have HPF : Hid (prefF c = 127) := Lib.hid (by unfold prefF; rw [if_pos c1])
        have HBI : Hid (∀ w', Calls Try.prog 53 #[.int .u8 c] w' fun e w2 => e = .returned (.int .i64 7) ∧ w2 = w') := Lib.hid fun w' => by
          have hb : bitsN c = 7 := by unfold bitsN; rw [if_pos c1]
          have := bitsOf_any c w' hba
          rw [hb] at this
          exact this
        have HBJ : Hid (∀ w', Calls Try.prog 53 #[.int .u8 c] w' fun e w2 => e = .returned (.int .i64 7) ∧ w' = w2) := Lib.hid fun w' => (HBI.out w').mono fun e w2 h => ⟨h.1, h.2.symm⟩
        have HTK := Lib.hid (fun d => HTKI.out 7 127 d full7)
        have hbd := takeI_bd (show 127 ≤ 255 by omega) S.left
        have hbe := takeI_err 127 S.left
        obtain ⟨⟨n, k, z⟩, hv⟩ : ∃ r, takeI 127 S.left = r := ⟨_, rfl⟩
        have HV := Lib.hid hv
        rw [hv] at HTK hbd hbe
        simp only [tri] at HTK
        rw [HSL.out] at hbd
        simp only at hbd hbe
        have hz1 : z = 0 → n ≤ 2147483647 ∧ 1 ≤ k ∧ k ≤ nb - a := fun h0 => by have := hbd h0; omega
        have HZ1 := Lib.hid hz1
        have hkk : k ≤ 1048576 := by
          by_cases h0 : z = 0
          · have := hz1 h0; omega
          · have h1 := takeI_zero 127 S.left (by rw [hv]; exact h0)
            rw [hv] at h1
            simp only at h1
            omega
        have hnn : n ≤ 2147483647 := by
          by_cases h0 : z = 0
          · exact (hz1 h0).1
          · have h1 := takeI_zero 127 S.left (by rw [hv]; exact h0)
            rw [hv] at h1
            simp only at h1
            omega
        have HCC : Hid (c < 256) := Lib.hid hba
        clear hv hbd hz1
        go_wp2
        go_quiet ((first | (go_at_call 53; exact Calls.quiet_of_same (HBI.out _)) | (go_at_call 52; exact Calls.quiet_of_same (HTK.out _))))
        obtain ⟨w0, hw0⟩ : ∃ w0, wr.drewN nq = w0 := ⟨_, rfl⟩
        rw [hw0]
        have b00 : Below wr.heap.size wr w0 := by rw [← hw0]; exact below_dN (Below.refl _ _) _
        obtain ⟨W1, hW1⟩ : ∃ W1, w0.alloc (.cells #[.string emptyB, .string emptyB, .bool false] 24) = W1 := ⟨_, rfl⟩
        obtain ⟨x, hx⟩ : ∃ x, w0.heap.size = x := ⟨_, rfl⟩
        have hb1 : Below wr.heap.size wr W1 := by rw [← hW1]; exact b00.alloc b00.size _
        have hkx : W1.heap[x]? = some zeroF := by rw [← hW1, ← hx]; exact heapNew _ _
        have HXG : Hid (¬ G x ∧ (Value.slice Af S.fields.length cf).ownBlock ≠ some x ∧ w.heap.size ≤ x ∧ q < x) := Lib.hid (by
          have h0 := b00.size
          exact ⟨fun hf => by have := HS.out.dec.lt x hf; omega, fun e => by have := (HS.out.fld.lt x e).2; omega, by omega, by omega⟩)
        have HS1 := Lib.hid (HS.out.below hb1)
        obtain ⟨x0, x1, x4, xf, -, xq⟩ := HS1.out.dec.xcells
        simp only at x0 x1 x4
        have fq4 := xf 4
        have HB1 := Lib.hid hb1
        have HKX := Lib.hid hkx
        have HW1 := Lib.hid hW1
        have HX := Lib.hid hx
        clear hw0 b00 hW1 hx hb1 hkx hsl q0 xf
        go_upto_region 13 with fail
        rw [show w0.alloc (.cells #[.string ⟨#[]⟩, .string ⟨#[]⟩, .bool false] 24) = W1 from HW1.out, HX.out]
        clear HW1 HX
        by_cases hz : z = 0
        · subst hz
          have E := partP_128 (mo := mo) HC.out c1
          rw [HV.out] at E
          have HE := Lib.hid E
          obtain ⟨-, hk1, hk2⟩ := HZ1.out rfl
          obtain ⟨a9, ha9⟩ : ∃ a9, a + k = a9 := ⟨_, rfl⟩
          have ha9' : (a : Int) + k = a9 := by omega
          rw [ha9']
          have HAA := Lib.hid ha9
          have h9b : a < a9 ∧ a9 ≤ nb := by omega
          have HRA := Lib.hid (hrat_any (n : Int) W1 HS1.out.dec HOK.out.tok.small (by omega))
          clear E ha9 ha9'
          go_wp2_with fail
          refine (HBJ.out _).mono ?_
          rintro e w9 ⟨rfl, rfl⟩
          go_wp2_with fail
          refine (HBJ.out _).mono ?_
          rintro e w9 ⟨rfl, rfl⟩
          cases hat : atRows S.T.rows n with
          | none =>
            have HE2 := Lib.hid (HERR.out 40 (HE.out.2.1 (by trivial) hat))
            rw [hat] at HRA
            clear hat
            simp only [atV, fieldV] at HRA
            go_wp2_with fail
            refine HRA.out.mono ?_
            rintro e w2 ⟨rfl, hb2⟩
            have HS2 := Lib.hid (HS1.out.below hb2)
            have k2 := (hb2.block x (Array.getElem?_eq_some_iff.1 HKX.out).1).trans HKX.out
            have u0 : w2.cell? ⟨x, 0, none⟩ = some (.string emptyB) := by unfold World.cell?; rw [k2]; rfl
            have u1 : w2.cell? ⟨x, 1, none⟩ = some (.string emptyB) := by unfold World.cell?; rw [k2]; rfl
            have u2 : w2.cell? ⟨x, 2, none⟩ = some (.bool false) := by unfold World.cell?; rw [k2]; rfl
            have fu : ∀ o, w2.frozen? ⟨x, o, none⟩ = false := fun o => by unfold World.frozen?; rw [k2]; simp [zeroF]
            obtain ⟨x0, x1, x4, xf, -, xq⟩ := HS2.out.dec.xcells
            simp only at x0 x1 x4
            have fq4 := xf 4
            have hxq : x ≠ q := by have := HXG.out.2.2.2; omega
            have hqx : q ≠ x := fun e => hxq e.symm
            clear hb2 k2 xf
            go_wp2
            go_ret2
            rw [HE2.out]
            have s1 := HS2.out.aside HXG.out.2.2.1 HXG.out.1 HXG.out.2.1 0 (.string emptyB)
            have s2 := s1.aside HXG.out.2.2.1 HXG.out.1 HXG.out.2.1 1 (.string emptyB)
            have s3 := s2.aside HXG.out.2.2.1 HXG.out.1 HXG.out.2.1 2 (.bool false)
            exact ⟨none, 0, rfl, World.ownsRow_nil _ _ _ _, G, S.T, s3.dec.broke _, (fun T1 h => by cases h), (fun a ha => by cases ha), s3.kept.setCell HG0.out _ _, s3.grew⟩
          | some r =>
            have HN9 := Lib.hid (HNXT.out _ (HE.out.2.2 r (by trivial) hat))
            have hrs := atRows_size HOK.out.tok hat
            rw [hat] at HRA
            clear hat
            simp only [atV, fieldV] at HRA
            go_wp2_with fail
            refine HRA.out.mono ?_
            rintro e w2 ⟨rfl, hb2⟩
            have HS2 := Lib.hid (HS1.out.below hb2)
            have k2 := (hb2.block x (Array.getElem?_eq_some_iff.1 HKX.out).1).trans HKX.out
            have HK2 := Lib.hid k2
            have u0 : w2.cell? ⟨x, 0, none⟩ = some (.string emptyB) := by unfold World.cell?; rw [k2]; rfl
            have u1 : w2.cell? ⟨x, 1, none⟩ = some (.string emptyB) := by unfold World.cell?; rw [k2]; rfl
            have u2 : w2.cell? ⟨x, 2, none⟩ = some (.bool false) := by unfold World.cell?; rw [k2]; rfl
            have fu : ∀ o, w2.frozen? ⟨x, o, none⟩ = false := fun o => by unfold World.frozen?; rw [k2]; simp [zeroF]
            clear hb2 k2
            go_upto_region 26 with fail
            obtain ⟨w5, hw5⟩ : ∃ w5, ((w2.setCell ⟨x, 0, none⟩ (.string r.1)).setCell ⟨x, 1, none⟩ (.string r.2)).setCell ⟨x, 2, none⟩ (.bool false) = w5 := ⟨_, rfl⟩
            have HS5 : Hid (RS5 w w5 q (.int .i64 mo, .int .i64 li, .bool false) G0 G { S with T := S.T } b a (.slice Af S.fields.length cf)) := Lib.hid (by
              rw [← hw5]
              exact ((HS2.out.aside HXG.out.2.2.1 HXG.out.1 HXG.out.2.1 0 _).aside HXG.out.2.2.1 HXG.out.1 HXG.out.2.1 1 _).aside HXG.out.2.2.1 HXG.out.1 HXG.out.2.1 2 _)
            have HK5 : Hid (w5.heap[x]? = some (.cells #[.string r.1, .string r.2, .bool false] 24 (0, 0))) := Lib.hid (by
              rw [← hw5]
              have e1 := set_b (o := 0) (.string r.1) HK2.out
              have e2 := set_b (o := 1) (.string r.2) e1
              exact set_b (o := 2) (.bool false) e2)
            rw [hw5]
            have v0 : w5.cell? ⟨x, 0, none⟩ = some (.string r.1) := by unfold World.cell?; rw [HK5.out]; rfl
            have v1 : w5.cell? ⟨x, 1, none⟩ = some (.string r.2) := by unfold World.cell?; rw [HK5.out]; rfl
            have v2 : w5.cell? ⟨x, 2, none⟩ = some (.bool false) := by unfold World.cell?; rw [HK5.out]; rfl
            clear hw5 u0 u1 u2 fu
            go_wp2_with fail
            refine (HBJ.out _).mono ?_
            rintro e w9 ⟨rfl, rfl⟩
            obtain ⟨l9, hl9⟩ : ∃ l9, S.left.drop k = l9 := ⟨_, rfl⟩
            have HA9 : Hid (l9 = b.drop a9 ∧ a9 ≤ b.length) := Lib.hid (by rw [← hl9, HS.out.left, List.drop_drop, HAA.out]; exact ⟨rfl, by have := HLN.out; omega⟩)
            rw [hl9] at HN9
            clear hl9
            obtain ⟨cr, hcr⟩ : ∃ cr, cost r = cr := ⟨_, rfl⟩
            have HCR := Lib.hid hcr
            have hcrb : cr ≤ 131104 := by rw [← hcr]; show (r).1.size + (r).2.size + 32 ≤ _; omega
            have HCO := Lib.hid (fun w' => cost_ref r false w' (by omega) (by omega))
            rw [hcr] at HCO
            clear hcr
            go_wp2_with fail
            refine (HCO.out _).mono ?_
            rintro e w6 ⟨rfl, hw6⟩
            have hbel6 : Below w5.heap.size w5 w6 := by rw [hw6]; first | exact (Below.refl _ _).alloc (Nat.le_refl _) _ | exact ((Below.refl _ _).drew).alloc (Nat.le_refl _) _
            have HS6 := Lib.hid (HS5.out.below hbel6)
            have k6 := (hbel6.block x (Array.getElem?_eq_some_iff.1 HK5.out).1).trans HK5.out
            have z0 : w6.cell? ⟨x, 0, none⟩ = some (.string (r).1) := by unfold World.cell?; rw [k6]; rfl
            have z1 : w6.cell? ⟨x, 1, none⟩ = some (.string (r).2) := by unfold World.cell?; rw [k6]; rfl
            have z2 : w6.cell? ⟨x, 2, none⟩ = some (.bool false) := by unfold World.cell?; rw [k6]; rfl
            have hszz : w.heap.size ≤ w6.heap.size := HS6.out.kept.size
            have HF6 : Hid (w6.ownsRow w.heap.size 24 3 (.slice Af fl cf) fl (fds S.fields)) := Lib.hid (by have := HS6.out.fld; rw [← HFL.out]; exact this)
            clear hbel6 hw6 k6 v0 v1 v2
            go_wp2_with (at_builtin; refine wpList_app (.tmp 120) (.tmp 122) tFields rfl rfl (HF6.out.alloc _) rfl (Rd.one3 _ _ _ _ _) rfl (fds_one [(r, false)]) (le_maxLen (by omega)) (by omega) (by simp; omega) ?_; intro v4 w7 hown4 hg4 hv4)
            go_roundw
            case rel =>
              refine ⟨{ S with T := S.T }.put l9 (r, false), a9, G, ?_, rfl, rfl, ?_, HN9.out.1, HN9.out.2⟩
              · show Value.int .i64 ((S.cost : Int) + (cr : Int)) = .int .i64 ((S.cost + cost r : Nat) : Int)
                rw [HCR.out]; congr 1
              · exact HS6.out.app (S := { S with T := S.T }) (r, false) l9 HA9.out.2 HA9.out.1 (by rw [show ({ S with T := S.T } : HSt).fields = S.fields from rfl, HFL.out]; exact hown4) (by rw [show ({ S with T := S.T } : HSt).fields = S.fields from rfl, HFL.out]; exact hg4) (by rw [show ({ S with T := S.T } : HSt).fields = S.fields from rfl, HFL.out]; exact hv4)
            case measure => simp [intOf]; omega
        · have hzn : ((z : Int) == 0) = false := by rw [beq_eq_false_iff_ne]; omega
          have hzn2 : ((z : Int) != 0) = true := by simpa using (show ¬ z = 0 by omega)
          have HE := Lib.hid (HERR.out z (partP_num HC.out HPF.out HV.out hz))
          clear hz
          go_wp2
          go_ret2
          rw [HE.out]
          exact ⟨none, 0, rfl, World.ownsRow_nil _ _ _ _, G, S.T, HS1.out.dec.broke _, (fun T1 h => by cases h), (fun a ha => by cases ha), HS1.out.kept.setCell HG0.out _ _, HS1.out.grew⟩
      · have HPF : Hid (prefF c = 63) := Lib.hid (by unfold prefF; rw [if_neg c1, if_pos c2])
        have HBI : Hid (∀ w', Calls Try.prog 53 #[.int .u8 c] w' fun e w2 => e = .returned (.int .i64 6) ∧ w2 = w') := Lib.hid fun w' => by
          have hb : bitsN c = 6 := by unfold bitsN; rw [if_neg c1, if_pos c2]
          have := bitsOf_any c w' hba
          rw [hb] at this
          exact this
        have HBJ : Hid (∀ w', Calls Try.prog 53 #[.int .u8 c] w' fun e w2 => e = .returned (.int .i64 6) ∧ w' = w2) := Lib.hid fun w' => (HBI.out w').mono fun e w2 h => ⟨h.1, h.2.symm⟩
        have HTK := Lib.hid (fun d => HTKI.out 6 63 d full6)
        have hbd := takeI_bd (show 63 ≤ 255 by omega) S.left
        have hbe := takeI_err 63 S.left
        obtain ⟨⟨n, k, z⟩, hv⟩ : ∃ r, takeI 63 S.left = r := ⟨_, rfl⟩
        have HV := Lib.hid hv
        rw [hv] at HTK hbd hbe
        simp only [tri] at HTK
        rw [HSL.out] at hbd
        simp only at hbd hbe
        have hz1 : z = 0 → n ≤ 2147483647 ∧ 1 ≤ k ∧ k ≤ nb - a := fun h0 => by have := hbd h0; omega
        have HZ1 := Lib.hid hz1
        have hkk : k ≤ 1048576 := by
          by_cases h0 : z = 0
          · have := hz1 h0; omega
          · have h1 := takeI_zero 63 S.left (by rw [hv]; exact h0)
            rw [hv] at h1
            simp only at h1
            omega
        have hnn : n ≤ 2147483647 := by
          by_cases h0 : z = 0
          · exact (hz1 h0).1
          · have h1 := takeI_zero 63 S.left (by rw [hv]; exact h0)
            rw [hv] at h1
            simp only at h1
            omega
        have HCC : Hid (c < 256) := Lib.hid hba
        clear hv hbd hz1
        go_wp2
        go_quiet ((first | (go_at_call 53; exact Calls.quiet_of_same (HBI.out _)) | (go_at_call 52; exact Calls.quiet_of_same (HTK.out _))))
        obtain ⟨w0, hw0⟩ : ∃ w0, wr.drewN nq = w0 := ⟨_, rfl⟩
        rw [hw0]
        have b00 : Below wr.heap.size wr w0 := by rw [← hw0]; exact below_dN (Below.refl _ _) _
        obtain ⟨W1, hW1⟩ : ∃ W1, w0.alloc (.cells #[.string emptyB, .string emptyB, .bool false] 24) = W1 := ⟨_, rfl⟩
        obtain ⟨x, hx⟩ : ∃ x, w0.heap.size = x := ⟨_, rfl⟩
        have hb1 : Below wr.heap.size wr W1 := by rw [← hW1]; exact b00.alloc b00.size _
        have hkx : W1.heap[x]? = some zeroF := by rw [← hW1, ← hx]; exact heapNew _ _
        have HXG : Hid (¬ G x ∧ (Value.slice Af S.fields.length cf).ownBlock ≠ some x ∧ w.heap.size ≤ x ∧ q < x) := Lib.hid (by
          have h0 := b00.size
          exact ⟨fun hf => by have := HS.out.dec.lt x hf; omega, fun e => by have := (HS.out.fld.lt x e).2; omega, by omega, by omega⟩)
        have HS1 := Lib.hid (HS.out.below hb1)
        obtain ⟨x0, x1, x4, xf, -, xq⟩ := HS1.out.dec.xcells
        simp only at x0 x1 x4
        have fq4 := xf 4
        have HB1 := Lib.hid hb1
        have HKX := Lib.hid hkx
        have HW1 := Lib.hid hW1
        have HX := Lib.hid hx
        clear hw0 b00 hW1 hx hb1 hkx hsl q0 xf
        go_upto_region 13 with fail
        rw [show w0.alloc (.cells #[.string ⟨#[]⟩, .string ⟨#[]⟩, .bool false] 24) = W1 from HW1.out, HX.out]
        clear HW1 HX
        by_cases hz : z = 0
        · subst hz
          obtain ⟨-, hk1, hk2⟩ := HZ1.out rfl
          obtain ⟨a1, ha1⟩ : ∃ a1, a + k = a1 := ⟨_, rfl⟩
          have ha1' : (a : Int) + k = a1 := by omega
          rw [ha1']
          have HAA := Lib.hid ha1
          have h1b : a < a1 ∧ a1 ≤ nb := by omega
          have E := partP_64 (mo := mo) HC.out c1 c2
          have hlr : litR 63 S.T S.left = litP S.T n (b.drop a1) := by unfold litR; rw [HV.out]; rw [if_neg (by simp)]; rw [HS.out.left, List.drop_drop, ha1]
          rw [hlr] at E
          have HE := Lib.hid E
          have HLI := Lib.hid (rlit_any (a := a1) (n := n) W1 HS1.out.dec HOK.out.tok (HRW.out W1 HB1.out) hcap hm hnb h1b.2 hnn)
          obtain ⟨lr, hlr2⟩ : ∃ lr, litP S.T n (b.drop a1) = lr := ⟨_, rfl⟩
          rw [hlr2] at HLI HE
          have HLR := Lib.hid hlr2
          clear E ha1 ha1' hlr hlr2
          go_wp2_with fail
          refine (HBJ.out _).mono ?_
          rintro e w9 ⟨rfl, rfl⟩
          go_wp2_with fail
          refine (HBJ.out _).mono ?_
          rintro e w9 ⟨rfl, rfl⟩
          go_wp2_with fail
          refine HLI.out.mono ?_
          cases lr with
          | error z2 =>
            rintro e w2 ⟨hb2, t1, t2, a2, rfl⟩
            have hz2 := litP_err HLR.out
            have hzn : ((z2 : Int) == 0) = false := by rw [beq_eq_false_iff_ne]; omega
            have hzn2 : ((z2 : Int) != 0) = true := by simpa using hz2
            have HE2 := Lib.hid (HERR.out z2 (HE.out.1 z2 rfl))
            have HS2 := Lib.hid (HS1.out.below hb2)
            have k2 := (hb2.block x (Array.getElem?_eq_some_iff.1 HKX.out).1).trans HKX.out
            have u0 : w2.cell? ⟨x, 0, none⟩ = some (.string emptyB) := by unfold World.cell?; rw [k2]; rfl
            have u1 : w2.cell? ⟨x, 1, none⟩ = some (.string emptyB) := by unfold World.cell?; rw [k2]; rfl
            have u2 : w2.cell? ⟨x, 2, none⟩ = some (.bool false) := by unfold World.cell?; rw [k2]; rfl
            have fu : ∀ o, w2.frozen? ⟨x, o, none⟩ = false := fun o => by unfold World.frozen?; rw [k2]; simp [zeroF]
            obtain ⟨nvb, hnvb⟩ : ∃ nvb, ((c : Int) / 16 == 1) = nvb := ⟨_, rfl⟩
            clear hb2 k2 hz2
            go_upto_region 23 with fail
            obtain ⟨w3, hw3⟩ : ∃ w3, (((w2.setCell ⟨x, 0, none⟩ (.string t1)).setCell ⟨x, 1, none⟩ (.string t2)).setCell ⟨x, 2, none⟩ (.bool false)).setCell ⟨x, 2, none⟩ (.bool nvb) = w3 := ⟨_, rfl⟩
            have HS3 := Lib.hid ((((HS2.out.aside HXG.out.2.2.1 HXG.out.1 HXG.out.2.1 0 (.string t1)).aside HXG.out.2.2.1 HXG.out.1 HXG.out.2.1 1 (.string t2)).aside HXG.out.2.2.1 HXG.out.1 HXG.out.2.1 2 (.bool false)).aside HXG.out.2.2.1 HXG.out.1 HXG.out.2.1 2 (.bool nvb))
            rw [hw3] at HS3 ⊢
            obtain ⟨x0, x1, x4, xf, -, xq⟩ := HS3.out.dec.xcells
            simp only at x0 x1 x4
            have fq4 := xf 4
            clear hnvb hw3 u0 u1 u2 fu xf
            go_wp2
            go_ret2
            rw [HE2.out]
            exact ⟨none, 0, rfl, World.ownsRow_nil _ _ _ _, G, S.T, HS3.out.dec.broke _, (fun T1 h => by cases h), (fun a ha => by cases ha), HS3.out.kept.setCell HG0.out _ _, HS3.out.grew⟩
          | ok fl2 =>
            obtain ⟨f, l9⟩ := fl2
            rintro e w2 ⟨hb2, a9, rfl, hl9, ha9, hab⟩
            have hlo := litP_ok HOK.out.tok HLR.out
            have HN9 := Lib.hid (HNXT.out _ (HE.out.2 f l9 rfl))
            have HA9 : Hid (l9 = b.drop a9 ∧ a9 ≤ b.length) := Lib.hid ⟨hl9, hab⟩
            have h9b : a < a9 ∧ a9 ≤ nb := by have := HLN.out; omega
            have hrs : f.1.size ≤ 65536 ∧ f.2.size ≤ 65536 := by omega
            have HS2 := Lib.hid (HS1.out.below hb2)
            have k2 := (hb2.block x (Array.getElem?_eq_some_iff.1 HKX.out).1).trans HKX.out
            have HK2 := Lib.hid k2
            have u0 : w2.cell? ⟨x, 0, none⟩ = some (.string emptyB) := by unfold World.cell?; rw [k2]; rfl
            have u1 : w2.cell? ⟨x, 1, none⟩ = some (.string emptyB) := by unfold World.cell?; rw [k2]; rfl
            have u2 : w2.cell? ⟨x, 2, none⟩ = some (.bool false) := by unfold World.cell?; rw [k2]; rfl
            have fu : ∀ o, w2.frozen? ⟨x, o, none⟩ = false := fun o => by unfold World.frozen?; rw [k2]; simp [zeroF]
            obtain ⟨nvb, hnvb⟩ : ∃ nvb, ((c : Int) / 16 == 1) = nvb := ⟨_, rfl⟩
            have HNV : Hid (false = nvb) := Lib.hid (by rw [← hnvb]; rw [eq_comm, beq_eq_false_iff_ne]; omega)
            clear hb2 k2 hl9 hab
            go_upto_region 26 with fail
            obtain ⟨w5, hw5⟩ : ∃ w5, (((w2.setCell ⟨x, 0, none⟩ (.string f.1)).setCell ⟨x, 1, none⟩ (.string f.2)).setCell ⟨x, 2, none⟩ (.bool false)).setCell ⟨x, 2, none⟩ (.bool nvb) = w5 := ⟨_, rfl⟩
            have HS5 : Hid (RS5 w w5 q (.int .i64 mo, .int .i64 li, .bool false) G0 G { S with T := S.T } b a (.slice Af S.fields.length cf)) := Lib.hid (by
              rw [← hw5]
              exact (((HS2.out.aside HXG.out.2.2.1 HXG.out.1 HXG.out.2.1 0 _).aside HXG.out.2.2.1 HXG.out.1 HXG.out.2.1 1 _).aside HXG.out.2.2.1 HXG.out.1 HXG.out.2.1 2 _).aside HXG.out.2.2.1 HXG.out.1 HXG.out.2.1 2 _)
            have HK5 : Hid (w5.heap[x]? = some (.cells #[.string f.1, .string f.2, .bool nvb] 24 (0, 0))) := Lib.hid (by
              rw [← hw5]
              have e1 := set_b (o := 0) (.string f.1) HK2.out
              have e2 := set_b (o := 1) (.string f.2) e1
              have e3 := set_b (o := 2) (.bool false) e2
              exact set_b (o := 2) (.bool nvb) e3)
            rw [hw5]
            rw [HNV.out] at HN9
            have v0 : w5.cell? ⟨x, 0, none⟩ = some (.string f.1) := by unfold World.cell?; rw [HK5.out]; rfl
            have v1 : w5.cell? ⟨x, 1, none⟩ = some (.string f.2) := by unfold World.cell?; rw [HK5.out]; rfl
            have v2 : w5.cell? ⟨x, 2, none⟩ = some (.bool nvb) := by unfold World.cell?; rw [HK5.out]; rfl
            clear hw5 u0 u1 u2 fu hnvb
            go_wp2_with fail
            refine (HBJ.out _).mono ?_
            rintro e w9 ⟨rfl, rfl⟩
            have HAD : Hid (∀ w', w'.heap = w5.heap → Calls Try.prog 43 #[.pointer (some ⟨q, 2, none⟩), .agg #[.string f.1, .string f.2, .bool nvb]] w' (HStep w' q (.int .i64 mo, .int .i64 li, .bool false) G S.T.most (raddR S.T.most S.T.rows f))) := Lib.hid fun w' hw => hradd_any f nvb w' (HS5.out.dec.keep fun k _ => by rw [hw]) HOK.out.tok.small (by omega) (by omega) HOK.out.tok.most0 HOK.out.tok.most1
            go_upto_region 27 with fail
            go_region_held3 (fun w' => w'.cell? ⟨x, 0, none⟩ = some (.string f.1) ∧ w'.cell? ⟨x, 1, none⟩ = some (.string f.2) ∧ w'.cell? ⟨x, 2, none⟩ = some (.bool nvb))
              (first | go_keep | exact ⟨k0, k1, k2⟩)
              (first
                | (go_at_call 43; refine (HAD.out _ (by rfl)).mono ?_; rintro e w8 ⟨rfl, G8, hd8, hk8, hg8⟩; have hk8' : Kept G w5 w8 := ⟨hk8.os, hk8.tape, hk8.output, hk8.size, hk8.block⟩; have hg8' : Grew w5 G G8 := hg8; have HS8 := Lib.hid (HS5.out.step (T := S.T.add f) hd8 hk8' hg8' (Tb.add_most _ _) (Tb.add_rows _ _)); have HK8 : Hid (w8.heap[x]? = some (.cells #[.string f.1, .string f.2, .bool nvb] 24 (0, 0))) := Lib.hid ((hk8'.block x (Array.getElem?_eq_some_iff.1 HK5.out).1 HXG.out.1).trans HK5.out); have k0 : w8.cell? ⟨x, 0, none⟩ = some (.string f.1) := (by unfold World.cell?; rw [HK8.out]; rfl); have k1 : w8.cell? ⟨x, 1, none⟩ = some (.string f.2) := (by unfold World.cell?; rw [HK8.out]; rfl); have k2 : w8.cell? ⟨x, 2, none⟩ = some (.bool nvb) := (by unfold World.cell?; rw [HK8.out]; rfl); clear hd8 hk8 hg8 hk8' hg8'))
            all_goals
              clear v0 v1 v2
              obtain ⟨cr, hcr⟩ : ∃ cr, cost f = cr := ⟨_, rfl⟩
              have HCR := Lib.hid hcr
              have hcrb : cr ≤ 131104 := by rw [← hcr]; show (f).1.size + (f).2.size + 32 ≤ _; omega
              have HCO := Lib.hid (fun w' => cost_ref f nvb w' (by omega) (by omega))
              rw [hcr] at HCO
              clear hcr
              go_wp2_with fail
              refine (HCO.out _).mono ?_
              rintro e w6 ⟨rfl, hw6⟩
              have hbel6 : Below w8.heap.size w8 w6 := by rw [hw6]; first | exact (Below.refl _ _).alloc (Nat.le_refl _) _ | exact ((Below.refl _ _).drew).alloc (Nat.le_refl _) _
              have HS6 := Lib.hid (HS8.out.below hbel6)
              have k6 := (hbel6.block x (Array.getElem?_eq_some_iff.1 HK8.out).1).trans HK8.out
              have z0 : w6.cell? ⟨x, 0, none⟩ = some (.string (f).1) := by unfold World.cell?; rw [k6]; rfl
              have z1 : w6.cell? ⟨x, 1, none⟩ = some (.string (f).2) := by unfold World.cell?; rw [k6]; rfl
              have z2 : w6.cell? ⟨x, 2, none⟩ = some (.bool nvb) := by unfold World.cell?; rw [k6]; rfl
              have hszz : w.heap.size ≤ w6.heap.size := HS6.out.kept.size
              have HF6 : Hid (w6.ownsRow w.heap.size 24 3 (.slice Af fl cf) fl (fds S.fields)) := Lib.hid (by have := HS6.out.fld; rw [← HFL.out]; exact this)
              clear hbel6 hw6 k6 k0 k1 k2
              go_wp2_with (at_builtin; refine wpList_app (.tmp 120) (.tmp 122) tFields rfl rfl (HF6.out.alloc _) rfl (Rd.one3 _ _ _ _ _) rfl (fds_one [(f, nvb)]) (le_maxLen (by omega)) (by omega) (by simp; omega) ?_; intro v4 w7 hown4 hg4 hv4)
              go_roundw
              case rel =>
                refine ⟨{ S with T := (S.T.add f) }.put l9 (f, nvb), a9, G8, ?_, rfl, rfl, ?_, HN9.out.1, HN9.out.2⟩
                · show Value.int .i64 ((S.cost : Int) + (cr : Int)) = .int .i64 ((S.cost + cost f : Nat) : Int)
                  rw [HCR.out]; congr 1
                · exact HS6.out.app (S := { S with T := (S.T.add f) }) (f, nvb) l9 HA9.out.2 HA9.out.1 (by rw [show ({ S with T := (S.T.add f) } : HSt).fields = S.fields from rfl, HFL.out]; exact hown4) (by rw [show ({ S with T := (S.T.add f) } : HSt).fields = S.fields from rfl, HFL.out]; exact hg4) (by rw [show ({ S with T := (S.T.add f) } : HSt).fields = S.fields from rfl, HFL.out]; exact hv4)
              case measure => simp [intOf]; omega
        · have hzn : ((z : Int) == 0) = false := by rw [beq_eq_false_iff_ne]; omega
          have hzn2 : ((z : Int) != 0) = true := by simpa using (show ¬ z = 0 by omega)
          have HE := Lib.hid (HERR.out z (partP_num HC.out HPF.out HV.out hz))
          clear hz
          go_wp2
          go_ret2
          rw [HE.out]
          exact ⟨none, 0, rfl, World.ownsRow_nil _ _ _ _, G, S.T, HS1.out.dec.broke _, (fun T1 h => by cases h), (fun a ha => by cases ha), HS1.out.kept.setCell HG0.out _ _, HS1.out.grew⟩
      · have HPF : Hid (prefF c = 31) := Lib.hid (by unfold prefF; rw [if_neg c1, if_neg c2, if_pos c3])
        have HBI : Hid (∀ w', Calls Try.prog 53 #[.int .u8 c] w' fun e w2 => e = .returned (.int .i64 5) ∧ w2 = w') := Lib.hid fun w' => by
          have hb : bitsN c = 5 := by unfold bitsN; rw [if_neg c1, if_neg c2, if_pos c3]
          have := bitsOf_any c w' hba
          rw [hb] at this
          exact this
        have HBJ : Hid (∀ w', Calls Try.prog 53 #[.int .u8 c] w' fun e w2 => e = .returned (.int .i64 5) ∧ w' = w2) := Lib.hid fun w' => (HBI.out w').mono fun e w2 h => ⟨h.1, h.2.symm⟩
        have HTK := Lib.hid (fun d => HTKI.out 5 31 d full5)
        have hbd := takeI_bd (show 31 ≤ 255 by omega) S.left
        have hbe := takeI_err 31 S.left
        obtain ⟨⟨n, k, z⟩, hv⟩ : ∃ r, takeI 31 S.left = r := ⟨_, rfl⟩
        have HV := Lib.hid hv
        rw [hv] at HTK hbd hbe
        simp only [tri] at HTK
        rw [HSL.out] at hbd
        simp only at hbd hbe
        have hz1 : z = 0 → n ≤ 2147483647 ∧ 1 ≤ k ∧ k ≤ nb - a := fun h0 => by have := hbd h0; omega
        have HZ1 := Lib.hid hz1
        have hkk : k ≤ 1048576 := by
          by_cases h0 : z = 0
          · have := hz1 h0; omega
          · have h1 := takeI_zero 31 S.left (by rw [hv]; exact h0)
            rw [hv] at h1
            simp only at h1
            omega
        have hnn : n ≤ 2147483647 := by
          by_cases h0 : z = 0
          · exact (hz1 h0).1
          · have h1 := takeI_zero 31 S.left (by rw [hv]; exact h0)
            rw [hv] at h1
            simp only at h1
            omega
        have HCC : Hid (c < 256) := Lib.hid hba
        clear hv hbd hz1
        go_wp2
        go_quiet ((first | (go_at_call 53; exact Calls.quiet_of_same (HBI.out _)) | (go_at_call 52; exact Calls.quiet_of_same (HTK.out _))))
        obtain ⟨w0, hw0⟩ : ∃ w0, wr.drewN nq = w0 := ⟨_, rfl⟩
        rw [hw0]
        have b00 : Below wr.heap.size wr w0 := by rw [← hw0]; exact below_dN (Below.refl _ _) _
        obtain ⟨W1, hW1⟩ : ∃ W1, w0.alloc (.cells #[.string emptyB, .string emptyB, .bool false] 24) = W1 := ⟨_, rfl⟩
        obtain ⟨x, hx⟩ : ∃ x, w0.heap.size = x := ⟨_, rfl⟩
        have hb1 : Below wr.heap.size wr W1 := by rw [← hW1]; exact b00.alloc b00.size _
        have hkx : W1.heap[x]? = some zeroF := by rw [← hW1, ← hx]; exact heapNew _ _
        have HXG : Hid (¬ G x ∧ (Value.slice Af S.fields.length cf).ownBlock ≠ some x ∧ w.heap.size ≤ x ∧ q < x) := Lib.hid (by
          have h0 := b00.size
          exact ⟨fun hf => by have := HS.out.dec.lt x hf; omega, fun e => by have := (HS.out.fld.lt x e).2; omega, by omega, by omega⟩)
        have HS1 := Lib.hid (HS.out.below hb1)
        obtain ⟨x0, x1, x4, xf, -, xq⟩ := HS1.out.dec.xcells
        simp only at x0 x1 x4
        have fq4 := xf 4
        have HB1 := Lib.hid hb1
        have HKX := Lib.hid hkx
        have HW1 := Lib.hid hW1
        have HX := Lib.hid hx
        clear hw0 b00 hW1 hx hb1 hkx hsl q0 xf
        go_upto_region 13 with fail
        rw [show w0.alloc (.cells #[.string ⟨#[]⟩, .string ⟨#[]⟩, .bool false] 24) = W1 from HW1.out, HX.out]
        clear HW1 HX
        by_cases hz : z = 0
        · subst hz
          obtain ⟨-, hk1, hk2⟩ := HZ1.out rfl
          obtain ⟨a9, ha9⟩ : ∃ a9, a + k = a9 := ⟨_, rfl⟩
          have ha9' : (a : Int) + k = a9 := by omega
          rw [ha9']
          have HAA := Lib.hid ha9
          have h9b : a < a9 ∧ a9 ≤ nb := by omega
          have HP := Lib.hid (partP_32 (mo := mo) HC.out c1 c2 c3)
          have E1 : Hid ((0 < S.fields.length ∨ 2 < S.changes + 1 ∨ mo < (n : Int)) → rszP mo S = .error 50) := Lib.hid fun h2 => by unfold rszP; rw [HV.out]; rw [if_neg (by simp)]; exact if_pos h2
          have E2 : Hid (¬ (0 < S.fields.length ∨ 2 < S.changes + 1 ∨ mo < (n : Int)) → rszP mo S = .ok { S with T := S.T.resize n, left := S.left.drop k, changes := S.changes + 1 }) := Lib.hid fun h2 => by unfold rszP; rw [HV.out]; rw [if_neg (by simp)]; exact if_neg h2
          rw [HFL.out] at E1 E2
          obtain ⟨ch, hch⟩ : ∃ ch, S.changes + 1 = ch := ⟨_, rfl⟩
          have hch1 : (S.changes : Int) + 1 = ch := by omega
          rw [hch] at E1 E2
          have HCH := Lib.hid hch1
          clear ha9 ha9' hch
          go_wp2_with fail
          refine (HBJ.out _).mono ?_
          rintro e w9 ⟨rfl, rfl⟩
          go_upto_region 15 with fail
          have hcase : 0 < fl ∨ (¬ 0 < fl ∧ 2 < ch) ∨ (¬ 0 < fl ∧ ¬ 2 < ch ∧ mo < n) ∨ (¬ 0 < fl ∧ ¬ 2 < ch ∧ ¬ mo < n) := by omega
          clear hch1
          rcases hcase with q1 | ⟨q1, q2⟩ | ⟨q1, q2, q3⟩ | ⟨q1, q2, q3⟩
          rotate_right
          · obtain rfl : fl = 0 := by omega
            have q5 : ¬ (2 : Int) < ch := by omega
            have HN9 := Lib.hid (HNXT.out _ (HP.out.trans (E2.out (by omega))))
            have HA9 : Hid (S.left.drop k = b.drop a9 ∧ a9 ≤ b.length) := Lib.hid (by rw [HS.out.left, List.drop_drop, HAA.out]; exact ⟨rfl, by have := HLN.out; omega⟩)
            have HRS := Lib.hid (hrresize_any (n : Int) W1 HS1.out.dec HOK.out.tok.small (by omega))
            clear q1 q2
            go_wp2_with fail
            refine HRS.out.mono ?_
            rintro e w8 ⟨rfl, G8, hd8, hk8, hg8⟩
            have HS8 := Lib.hid (HS1.out.step (T := S.T.resize n) hd8 hk8 hg8 rfl (Tb.resize_rows _ _))
            clear hd8 hk8 hg8
            go_wp2_with fail
            go_roundw
            case rel =>
              refine ⟨{ S with T := S.T.resize n, left := S.left.drop k, changes := ch }, a9, G8, rfl, rfl, rfl, ?_, HN9.out.1, HN9.out.2⟩
              have h9 := HS8.out.on HA9.out.2 HA9.out.1 ch
              rw [show ({ S with T := S.T.resize n } : HSt).fields = S.fields from rfl, HFL.out] at h9
              exact h9
            case measure => simp [intOf]; omega
          all_goals
            have HE2 := Lib.hid (HERR.out 50 (HP.out.trans (E1.out (by omega))))
            have q6 : (0 : Int) < fl ∨ (¬ (0 : Int) < fl ∧ (2 : Int) < ch) ∨ (¬ (0 : Int) < fl ∧ ¬ (2 : Int) < ch ∧ mo < n) := by omega
            clear q1
            try clear q2
            try clear q3
            rcases q6 with q7 | ⟨q7, q8⟩ | ⟨q7, q8, q9⟩
            all_goals
              first
                | (exfalso; omega)
                | (go_wp2
                   go_ret2
                   rw [HE2.out]
                   exact ⟨none, 0, rfl, World.ownsRow_nil _ _ _ _, G, S.T, HS1.out.dec.broke _, (fun T1 h => by cases h), (fun a ha => by cases ha), HS1.out.kept.setCell HG0.out _ _, HS1.out.grew⟩)
        · have hzn : ((z : Int) == 0) = false := by rw [beq_eq_false_iff_ne]; omega
          have hzn2 : ((z : Int) != 0) = true := by simpa using (show ¬ z = 0 by omega)
          have HE := Lib.hid (HERR.out z (partP_num HC.out HPF.out HV.out hz))
          clear hz
          go_wp2
          go_ret2
          rw [HE.out]
          exact ⟨none, 0, rfl, World.ownsRow_nil _ _ _ _, G, S.T, HS1.out.dec.broke _, (fun T1 h => by cases h), (fun a ha => by cases ha), HS1.out.kept.setCell HG0.out _ _, HS1.out.grew⟩
      · have HPF : Hid (prefF c = 15) := Lib.hid (by unfold prefF; rw [if_neg c1, if_neg c2, if_neg c3])
        have HBI : Hid (∀ w', Calls Try.prog 53 #[.int .u8 c] w' fun e w2 => e = .returned (.int .i64 4) ∧ w2 = w') := Lib.hid fun w' => by
          have hb : bitsN c = 4 := by unfold bitsN; rw [if_neg c1, if_neg c2, if_neg c3]
          have := bitsOf_any c w' hba
          rw [hb] at this
          exact this
        have HBJ : Hid (∀ w', Calls Try.prog 53 #[.int .u8 c] w' fun e w2 => e = .returned (.int .i64 4) ∧ w' = w2) := Lib.hid fun w' => (HBI.out w').mono fun e w2 h => ⟨h.1, h.2.symm⟩
        have HTK := Lib.hid (fun d => HTKI.out 4 15 d full4)
        have hbd := takeI_bd (show 15 ≤ 255 by omega) S.left
        have hbe := takeI_err 15 S.left
        obtain ⟨⟨n, k, z⟩, hv⟩ : ∃ r, takeI 15 S.left = r := ⟨_, rfl⟩
        have HV := Lib.hid hv
        rw [hv] at HTK hbd hbe
        simp only [tri] at HTK
        rw [HSL.out] at hbd
        simp only at hbd hbe
        have hz1 : z = 0 → n ≤ 2147483647 ∧ 1 ≤ k ∧ k ≤ nb - a := fun h0 => by have := hbd h0; omega
        have HZ1 := Lib.hid hz1
        have hkk : k ≤ 1048576 := by
          by_cases h0 : z = 0
          · have := hz1 h0; omega
          · have h1 := takeI_zero 15 S.left (by rw [hv]; exact h0)
            rw [hv] at h1
            simp only at h1
            omega
        have hnn : n ≤ 2147483647 := by
          by_cases h0 : z = 0
          · exact (hz1 h0).1
          · have h1 := takeI_zero 15 S.left (by rw [hv]; exact h0)
            rw [hv] at h1
            simp only at h1
            omega
        have HCC : Hid (c < 256) := Lib.hid hba
        clear hv hbd hz1
        go_wp2
        go_quiet ((first | (go_at_call 53; exact Calls.quiet_of_same (HBI.out _)) | (go_at_call 52; exact Calls.quiet_of_same (HTK.out _))))
        obtain ⟨w0, hw0⟩ : ∃ w0, wr.drewN nq = w0 := ⟨_, rfl⟩
        rw [hw0]
        have b00 : Below wr.heap.size wr w0 := by rw [← hw0]; exact below_dN (Below.refl _ _) _
        obtain ⟨W1, hW1⟩ : ∃ W1, w0.alloc (.cells #[.string emptyB, .string emptyB, .bool false] 24) = W1 := ⟨_, rfl⟩
        obtain ⟨x, hx⟩ : ∃ x, w0.heap.size = x := ⟨_, rfl⟩
        have hb1 : Below wr.heap.size wr W1 := by rw [← hW1]; exact b00.alloc b00.size _
        have hkx : W1.heap[x]? = some zeroF := by rw [← hW1, ← hx]; exact heapNew _ _
        have HXG : Hid (¬ G x ∧ (Value.slice Af S.fields.length cf).ownBlock ≠ some x ∧ w.heap.size ≤ x ∧ q < x) := Lib.hid (by
          have h0 := b00.size
          exact ⟨fun hf => by have := HS.out.dec.lt x hf; omega, fun e => by have := (HS.out.fld.lt x e).2; omega, by omega, by omega⟩)
        have HS1 := Lib.hid (HS.out.below hb1)
        obtain ⟨x0, x1, x4, xf, -, xq⟩ := HS1.out.dec.xcells
        simp only at x0 x1 x4
        have fq4 := xf 4
        have HB1 := Lib.hid hb1
        have HKX := Lib.hid hkx
        have HW1 := Lib.hid hW1
        have HX := Lib.hid hx
        clear hw0 b00 hW1 hx hb1 hkx hsl q0 xf
        go_upto_region 13 with fail
        rw [show w0.alloc (.cells #[.string ⟨#[]⟩, .string ⟨#[]⟩, .bool false] 24) = W1 from HW1.out, HX.out]
        clear HW1 HX
        by_cases hz : z = 0
        · subst hz
          obtain ⟨-, hk1, hk2⟩ := HZ1.out rfl
          obtain ⟨a1, ha1⟩ : ∃ a1, a + k = a1 := ⟨_, rfl⟩
          have ha1' : (a : Int) + k = a1 := by omega
          rw [ha1']
          have HAA := Lib.hid ha1
          have h1b : a < a1 ∧ a1 ≤ nb := by omega
          have E := partP_0 (mo := mo) HC.out c3
          have hlr : litR 15 S.T S.left = litP S.T n (b.drop a1) := by unfold litR; rw [HV.out]; rw [if_neg (by simp)]; rw [HS.out.left, List.drop_drop, ha1]
          rw [hlr] at E
          have HE := Lib.hid E
          have HLI := Lib.hid (rlit_any (a := a1) (n := n) W1 HS1.out.dec HOK.out.tok (HRW.out W1 HB1.out) hcap hm hnb h1b.2 hnn)
          obtain ⟨lr, hlr2⟩ : ∃ lr, litP S.T n (b.drop a1) = lr := ⟨_, rfl⟩
          rw [hlr2] at HLI HE
          have HLR := Lib.hid hlr2
          clear E ha1 ha1' hlr hlr2
          go_wp2_with fail
          refine (HBJ.out _).mono ?_
          rintro e w9 ⟨rfl, rfl⟩
          go_wp2_with fail
          refine (HBJ.out _).mono ?_
          rintro e w9 ⟨rfl, rfl⟩
          go_wp2_with fail
          refine HLI.out.mono ?_
          cases lr with
          | error z2 =>
            rintro e w2 ⟨hb2, t1, t2, a2, rfl⟩
            have hz2 := litP_err HLR.out
            have hzn : ((z2 : Int) == 0) = false := by rw [beq_eq_false_iff_ne]; omega
            have hzn2 : ((z2 : Int) != 0) = true := by simpa using hz2
            have HE2 := Lib.hid (HERR.out z2 (HE.out.1 z2 rfl))
            have HS2 := Lib.hid (HS1.out.below hb2)
            have k2 := (hb2.block x (Array.getElem?_eq_some_iff.1 HKX.out).1).trans HKX.out
            have u0 : w2.cell? ⟨x, 0, none⟩ = some (.string emptyB) := by unfold World.cell?; rw [k2]; rfl
            have u1 : w2.cell? ⟨x, 1, none⟩ = some (.string emptyB) := by unfold World.cell?; rw [k2]; rfl
            have u2 : w2.cell? ⟨x, 2, none⟩ = some (.bool false) := by unfold World.cell?; rw [k2]; rfl
            have fu : ∀ o, w2.frozen? ⟨x, o, none⟩ = false := fun o => by unfold World.frozen?; rw [k2]; simp [zeroF]
            obtain ⟨nvb, hnvb⟩ : ∃ nvb, ((c : Int) / 16 == 1) = nvb := ⟨_, rfl⟩
            clear hb2 k2 hz2
            go_upto_region 23 with fail
            obtain ⟨w3, hw3⟩ : ∃ w3, (((w2.setCell ⟨x, 0, none⟩ (.string t1)).setCell ⟨x, 1, none⟩ (.string t2)).setCell ⟨x, 2, none⟩ (.bool false)).setCell ⟨x, 2, none⟩ (.bool nvb) = w3 := ⟨_, rfl⟩
            have HS3 := Lib.hid ((((HS2.out.aside HXG.out.2.2.1 HXG.out.1 HXG.out.2.1 0 (.string t1)).aside HXG.out.2.2.1 HXG.out.1 HXG.out.2.1 1 (.string t2)).aside HXG.out.2.2.1 HXG.out.1 HXG.out.2.1 2 (.bool false)).aside HXG.out.2.2.1 HXG.out.1 HXG.out.2.1 2 (.bool nvb))
            rw [hw3] at HS3 ⊢
            obtain ⟨x0, x1, x4, xf, -, xq⟩ := HS3.out.dec.xcells
            simp only at x0 x1 x4
            have fq4 := xf 4
            clear hnvb hw3 u0 u1 u2 fu xf
            go_wp2
            go_ret2
            rw [HE2.out]
            exact ⟨none, 0, rfl, World.ownsRow_nil _ _ _ _, G, S.T, HS3.out.dec.broke _, (fun T1 h => by cases h), (fun a ha => by cases ha), HS3.out.kept.setCell HG0.out _ _, HS3.out.grew⟩
          | ok fl2 =>
            obtain ⟨f, l9⟩ := fl2
            rintro e w2 ⟨hb2, a9, rfl, hl9, ha9, hab⟩
            have hlo := litP_ok HOK.out.tok HLR.out
            have HN9 := Lib.hid (HNXT.out _ (HE.out.2 f l9 rfl))
            have HA9 : Hid (l9 = b.drop a9 ∧ a9 ≤ b.length) := Lib.hid ⟨hl9, hab⟩
            have h9b : a < a9 ∧ a9 ≤ nb := by have := HLN.out; omega
            have hrs : f.1.size ≤ 65536 ∧ f.2.size ≤ 65536 := by omega
            have HS2 := Lib.hid (HS1.out.below hb2)
            have k2 := (hb2.block x (Array.getElem?_eq_some_iff.1 HKX.out).1).trans HKX.out
            have HK2 := Lib.hid k2
            have u0 : w2.cell? ⟨x, 0, none⟩ = some (.string emptyB) := by unfold World.cell?; rw [k2]; rfl
            have u1 : w2.cell? ⟨x, 1, none⟩ = some (.string emptyB) := by unfold World.cell?; rw [k2]; rfl
            have u2 : w2.cell? ⟨x, 2, none⟩ = some (.bool false) := by unfold World.cell?; rw [k2]; rfl
            have fu : ∀ o, w2.frozen? ⟨x, o, none⟩ = false := fun o => by unfold World.frozen?; rw [k2]; simp [zeroF]
            obtain ⟨nvb, hnvb⟩ : ∃ nvb, ((c : Int) / 16 == 1) = nvb := ⟨_, rfl⟩
            have HNV : Hid (decide (16 ≤ c) = nvb) := Lib.hid (by rw [← hnvb]; rw [Bool.eq_iff_iff]; simp; omega)
            clear hb2 k2 hl9 hab
            go_upto_region 26 with fail
            obtain ⟨w5, hw5⟩ : ∃ w5, (((w2.setCell ⟨x, 0, none⟩ (.string f.1)).setCell ⟨x, 1, none⟩ (.string f.2)).setCell ⟨x, 2, none⟩ (.bool false)).setCell ⟨x, 2, none⟩ (.bool nvb) = w5 := ⟨_, rfl⟩
            have HS5 : Hid (RS5 w w5 q (.int .i64 mo, .int .i64 li, .bool false) G0 G { S with T := S.T } b a (.slice Af S.fields.length cf)) := Lib.hid (by
              rw [← hw5]
              exact (((HS2.out.aside HXG.out.2.2.1 HXG.out.1 HXG.out.2.1 0 _).aside HXG.out.2.2.1 HXG.out.1 HXG.out.2.1 1 _).aside HXG.out.2.2.1 HXG.out.1 HXG.out.2.1 2 _).aside HXG.out.2.2.1 HXG.out.1 HXG.out.2.1 2 _)
            have HK5 : Hid (w5.heap[x]? = some (.cells #[.string f.1, .string f.2, .bool nvb] 24 (0, 0))) := Lib.hid (by
              rw [← hw5]
              have e1 := set_b (o := 0) (.string f.1) HK2.out
              have e2 := set_b (o := 1) (.string f.2) e1
              have e3 := set_b (o := 2) (.bool false) e2
              exact set_b (o := 2) (.bool nvb) e3)
            rw [hw5]
            rw [HNV.out] at HN9
            have v0 : w5.cell? ⟨x, 0, none⟩ = some (.string f.1) := by unfold World.cell?; rw [HK5.out]; rfl
            have v1 : w5.cell? ⟨x, 1, none⟩ = some (.string f.2) := by unfold World.cell?; rw [HK5.out]; rfl
            have v2 : w5.cell? ⟨x, 2, none⟩ = some (.bool nvb) := by unfold World.cell?; rw [HK5.out]; rfl
            clear hw5 u0 u1 u2 fu hnvb
            go_wp2_with fail
            refine (HBJ.out _).mono ?_
            rintro e w9 ⟨rfl, rfl⟩
            obtain ⟨cr, hcr⟩ : ∃ cr, cost f = cr := ⟨_, rfl⟩
            have HCR := Lib.hid hcr
            have hcrb : cr ≤ 131104 := by rw [← hcr]; show (f).1.size + (f).2.size + 32 ≤ _; omega
            have HCO := Lib.hid (fun w' => cost_ref f nvb w' (by omega) (by omega))
            rw [hcr] at HCO
            clear hcr
            go_wp2_with fail
            refine (HCO.out _).mono ?_
            rintro e w6 ⟨rfl, hw6⟩
            have hbel6 : Below w5.heap.size w5 w6 := by rw [hw6]; first | exact (Below.refl _ _).alloc (Nat.le_refl _) _ | exact ((Below.refl _ _).drew).alloc (Nat.le_refl _) _
            have HS6 := Lib.hid (HS5.out.below hbel6)
            have k6 := (hbel6.block x (Array.getElem?_eq_some_iff.1 HK5.out).1).trans HK5.out
            have z0 : w6.cell? ⟨x, 0, none⟩ = some (.string (f).1) := by unfold World.cell?; rw [k6]; rfl
            have z1 : w6.cell? ⟨x, 1, none⟩ = some (.string (f).2) := by unfold World.cell?; rw [k6]; rfl
            have z2 : w6.cell? ⟨x, 2, none⟩ = some (.bool nvb) := by unfold World.cell?; rw [k6]; rfl
            have hszz : w.heap.size ≤ w6.heap.size := HS6.out.kept.size
            have HF6 : Hid (w6.ownsRow w.heap.size 24 3 (.slice Af fl cf) fl (fds S.fields)) := Lib.hid (by have := HS6.out.fld; rw [← HFL.out]; exact this)
            clear hbel6 hw6 k6 v0 v1 v2
            go_wp2_with (at_builtin; refine wpList_app (.tmp 120) (.tmp 122) tFields rfl rfl (HF6.out.alloc _) rfl (Rd.one3 _ _ _ _ _) rfl (fds_one [(f, nvb)]) (le_maxLen (by omega)) (by omega) (by simp; omega) ?_; intro v4 w7 hown4 hg4 hv4)
            go_roundw
            case rel =>
              refine ⟨{ S with T := S.T }.put l9 (f, nvb), a9, G, ?_, rfl, rfl, ?_, HN9.out.1, HN9.out.2⟩
              · show Value.int .i64 ((S.cost : Int) + (cr : Int)) = .int .i64 ((S.cost + cost f : Nat) : Int)
                rw [HCR.out]; congr 1
              · exact HS6.out.app (S := { S with T := S.T }) (f, nvb) l9 HA9.out.2 HA9.out.1 (by rw [show ({ S with T := S.T } : HSt).fields = S.fields from rfl, HFL.out]; exact hown4) (by rw [show ({ S with T := S.T } : HSt).fields = S.fields from rfl, HFL.out]; exact hg4) (by rw [show ({ S with T := S.T } : HSt).fields = S.fields from rfl, HFL.out]; exact hv4)
            case measure => simp [intOf]; omega
        · have hzn : ((z : Int) == 0) = false := by rw [beq_eq_false_iff_ne]; omega
          have hzn2 : ((z : Int) != 0) = true := by simpa using (show ¬ z = 0 by omega)
          have HE := Lib.hid (HERR.out z (partP_num HC.out HPF.out HV.out hz))
          clear hz
          go_wp2
          go_ret2
          rw [HE.out]
          exact ⟨none, 0, rfl, World.ownsRow_nil _ _ _ _, G, S.T, HS1.out.dec.broke _, (fun T1 h => by cases h), (fun a ha => by cases ha), HS1.out.kept.setCell HG0.out _ _, HS1.out.grew⟩
    · have hez : a = nb := by omega
      have hdn : outD mo li T b = if li < (S.cost : Int) then ([], 51, some S.T) else (S.fields, 0, some S.T) := by
        have h1 := HDEC.out.trans (decP_done (by rw [HSL.out]; omega))
        by_cases hc : li < (S.cost : Int)
        · rw [if_pos hc]; exact outD_list h1 hc
        · rw [if_neg hc]; exact outD_ok h1 hc
      subst hez
      have HDN := Lib.hid hdn
      clear hdn
      by_cases hc : li < (S.cost : Int)
      · have HO := Lib.hid (HDN.out.trans (if_pos hc))
        go_wp2
        go_ret2
        rw [HO.out]
        exact ⟨none, 0, rfl, World.ownsRow_nil _ _ _ _, G, S.T, HS.out.dec, (fun T1 h => by injection h), (fun a ha => by cases ha), HS.out.kept, HS.out.grew⟩
      · have HO := Lib.hid (HDN.out.trans (if_neg hc))
        go_wp2
        go_ret2
        rw [HO.out]
        refine ⟨Af, cf, by rw [HFL.out]; rfl, ?_, G, S.T, HS.out.dec, (fun T1 h => by injection h), (fun a ha => HS.out.fG a.block (by rw [ha]; rfl)), HS.out.kept, HS.out.grew⟩
        exact HS.out.fld
end Go.Proofs.Ythpieiipddfpjaa

/- The walk of drawbridgelaw05.HpackDecodes. -/
namespace Go.Proofs.Ythpieiipddfpjaa
open Go.RowKit

theorem rdecode_broken {q : Nat} {G : Nat → Prop} {mo li : Int} {T : Tb} (v : Value) (w : World) (h : RDecIs w q G mo li T true) :
    Calls Try.prog 32 #[.pointer (some ⟨q, 0, none⟩), v] w fun e w' => e = .returned (.tuple #[.slice none 0 0, .int .i64 5]) ∧ w = w' := by
  obtain ⟨-, -, c4, -, -, -⟩ := HIs.xcells h
  go_enter Try.func32, Try.ntmps32
  go_wp2
  go_ret2
  exact ⟨rfl, rfl⟩
/-- Both decoders, in memory. -/
structure Two (W w : World) (d q M : Nat) (G H : Nat → Prop) (mo li : Int) (T U : Tb) (br : Bool) : Prop where
  dec : DecIs w d G M mo li T br
  ref : RDecIs w q H mo li U br
  same : br = false → T = U
  nG : ∀ k, G k → W.heap.size ≤ k
  nH : ∀ k, H k → W.heap.size ≤ k
  ap : ∀ k, G k → ¬ H k
  bel : Below W.heap.size W w
theorem Two.still {W w w' : World} {d q M : Nat} {G H : Nat → Prop} {mo li : Int} {T U : Tb} {br : Bool} (h : Two W w d q M G H mo li T U br) (hb : Below w.heap.size w w') : Two W w' d q M G H mo li T U br :=
  ⟨h.dec.keep fun k hk => hb.block k (h.dec.lt k hk), HIs.below h.ref hb, h.same, h.nG, h.nH, h.ap, h.bel.trans (hb.mono h.bel.size)⟩
/-- What is read, by a broken decoder too. -/
def outB (br : Bool) (mo li : Int) (T : Tb) (l : List UInt8) : List Fd × Nat × Option Tb := if br then ([], 5, none) else outD mo li T l
theorem outB_len {br : Bool} {mo li : Int} {T : Tb} (hT : br = false → TOk T) (hmo : mo ≤ 65536) (l : List UInt8) : (outB br mo li T l).1.length ≤ l.length := by
  unfold outB
  split
  · exact Nat.zero_le _
  · rename_i hb
    unfold outD
    split
    · exact Nat.zero_le _
    · rename_i S hS
      have hok := decP_ok2 hmo _ _ _ (HOk.start (hT (by simpa using hb)) l) hS
      split
      · exact Nat.zero_le _
      · have := hok.len; simp only; omega
def DStep (w : World) (d M : Nat) (G : Nat → Prop) (mo li : Int) (R : List Fd × Nat × Option Tb) (ev : Ending) (w' : World) : Prop :=
  ∃ A c G' T', ev = .returned (.tuple #[.slice A R.1.length c, .int .i64 (R.2.1 : Int)]) ∧ Rd w' w'.heap.size 3 A R.1.length (fds R.1) ∧ (∀ a, A = some a → w.heap.size ≤ a.block) ∧
    DecIs w' d G' M mo li T' R.2.2.isNone ∧ (∀ T1, R.2.2 = some T1 → T' = T1) ∧ Kept G w w' ∧ Grew w G G'
theorem dstep {w : World} {d M n cap : Nat} {G : Nat → Prop} {mo li : Int} {T : Tb} {br : Bool} {A : Option Addr} {l : List UInt8} (h : DecIs w d G M mo li T br) (hr : Rd w w.heap.size 1 A n (bvs l)) (hcap : n ≤ cap) (hm : cap ≤ maxLen) (hn : n ≤ 16384) (hA : 0 < n → ∀ a, A = some a → ¬ G a.block) (hmo : mo ≤ 65536) (hM : M + 16384 ≤ 1099511627776) :
    Calls Try.prog 31 #[.pointer (some ⟨d, 0, none⟩), .slice A n cap] w (DStep w d (M + 16384) G mo li (outB br mo li T l)) := by
  cases br with
  | false =>
    refine (decode_any w h hr hcap hm (by omega) hA hmo (by omega)).mono ?_
    rintro ev w' ⟨A', c', rfl, ho, G', T', hd, hT, -, hk, hg⟩
    obtain ⟨A2, c2, hv, -, -, hr', hb'⟩ := own_slice ho
    injection hv with hv1 hv2 hv3
    subst hv1
    exact ⟨A', c', G', T', rfl, hr', hb', hd.more (by omega) hM, hT, hk, hg⟩
  | true =>
    refine (decode_broken _ w h).mono ?_
    rintro ev w' ⟨rfl, hb⟩
    exact ⟨none, 0, G, T, rfl, Rd.none_ _ _ _ _, (fun a ha => by cases ha), (h.keep fun k hk => hb.block k (h.lt k hk)).more (by omega) hM, (fun T1 h1 => by cases h1), Kept.of_below hb, Grew.refl _ _⟩
def RStp5 (w : World) (q : Nat) (G : Nat → Prop) (mo li : Int) (R : List Fd × Nat × Option Tb) (ev : Ending) (w' : World) : Prop :=
  ∃ A c G' T', ev = .returned (.tuple #[.slice A R.1.length c, .int .i64 (R.2.1 : Int)]) ∧ Rd w' w'.heap.size 3 A R.1.length (fds R.1) ∧ (∀ a, A = some a → w.heap.size ≤ a.block) ∧
    RDecIs w' q G' mo li T' R.2.2.isNone ∧ (∀ T1, R.2.2 = some T1 → T' = T1) ∧ Kept G w w' ∧ Grew w G G'
theorem rstep {w : World} {q n cap : Nat} {G : Nat → Prop} {mo li : Int} {T : Tb} {br : Bool} {A : Option Addr} {l : List UInt8} (h : RDecIs w q G mo li T br) (hT : br = false → TOk T) (hr : Rd w w.heap.size 1 A n (bvs l)) (hcap : n ≤ cap) (hm : cap ≤ maxLen) (hn : n ≤ 16384) (hA : 0 < n → ∀ a, A = some a → ¬ G a.block) (hmo : mo ≤ 65536) :
    Calls Try.prog 32 #[.pointer (some ⟨q, 0, none⟩), .slice A n cap] w (RStp5 w q G mo li (outB br mo li T l)) := by
  cases br with
  | false =>
    refine (rdecode_any w h (hT rfl) hr hcap hm (by omega) hA hmo).mono ?_
    rintro ev w' ⟨A', c', rfl, ho, G', T', hd, hT, -, hk, hg⟩
    obtain ⟨A2, c2, hv, -, -, hr', hb'⟩ := own_slice ho
    injection hv with hv1 hv2 hv3
    subst hv1
    exact ⟨A', c', G', T', rfl, hr', hb', hd, hT, hk, hg⟩
  | true =>
    refine (rdecode_broken _ w h).mono ?_
    rintro ev w' ⟨rfl, rfl⟩
    exact ⟨none, 0, G, T, rfl, Rd.none_ _ _ _ _, (fun a ha => by cases ha), h, (fun T1 h1 => by cases h1), Kept.refl _ _, Grew.refl _ _⟩
def SumRel (D : Nat → Bt) (n : Nat) (w : World) (tv iv : Value) (wr : World) : Prop := ∃ k t : Nat, iv = .int .i64 k ∧ tv = .int .i64 t ∧ t ≤ 16384 ∧ k ≤ n ∧ k ≤ 30 ∧ wr = w ∧ ∀ i, i < k → (D i).n ≤ 16384
def TwoRel (W : World) (n d q : Nat) (mo li : Int) (iv : Value) (wr : World) : Prop := ∃ (k : Nat) (G H : Nat → Prop) (T U : Tb) (br : Bool), iv = .int .i64 k ∧ k ≤ n ∧ k ≤ 30 ∧ Two W wr d q (k * 16384) G H mo li T U br
set_option maxRecDepth 100000 in
set_option maxHeartbeats 8000000 in
theorem hdecodes_any {n c : Nat} {A : Option Addr} {D : Nat → Bt} (mo li : Int) (w : World) (hr : Bts w w.heap.size A n D) (hn : n ≤ 140737488351232) :
    Calls Try.prog 8 #[.int .i64 mo, .int .i64 li, .slice A n c] w (RetT w) := by
  have H1 := Lib.hid hr
  have HAW := Lib.hid (awake_any w)
  clear hr
  go_enter Try.func8, Try.ntmps8
  go_wp2_with fail
  refine HAW.out.mono ?_
  rintro e1 w1 ⟨rfl, hb1⟩
  have HB1 := Lib.hid hb1
  have hbt := H1.out.below hb1
  have HBT := Lib.hid hbt
  have hs1 := hb1.size
  clear hb1 hbt HAW
  go_wp2_with fail
  go_loopw [7, 8] (fun tv iv wr => SumRel D n w1 tv iv wr) (fun _ iv _ => n - (intOf iv).toNat)
  case atStart => exact ⟨0, 0, rfl, rfl, by omega, by omega, by omega, rfl, fun i hi => by omega⟩
  case round =>
    obtain ⟨k, t, rfl, rfl, ht, hk, hk30, rfl, hall⟩ := hrel
    have HALL := Lib.hid hall
    have HQ : Hid ((k = n ∨ k = 30) → ∀ i, i < n → i < 30 → (D i).n ≤ 16384) := Lib.hid fun h i hi h30 => hall i (by omega)
    clear hall
    have hwb : w.heap.size ≤ wr.heap.size := hs1
    go_upto_region 5 with fail
    go_cut [27] (fun y wx => y = .bool (decide (k < n ∧ k < 30)) ∧ wx = wr)
    case first =>
      by_cases h1 : (k : Int) < n
      · by_cases h2 : (k : Int) < 30
        · go_wp2
          go_meet
          exact ⟨by congr 1; exact (decide_eq_true (by omega)).symm, rfl⟩
        · go_wp2
          go_meet
          exact ⟨by congr 1; exact (decide_eq_false (by omega)).symm, rfl⟩
      · go_wp2
        go_meet
        exact ⟨by congr 1; exact (decide_eq_false (by omega)).symm, rfl⟩
    case rest =>
    obtain ⟨rfl, rfl⟩ := hcut
    by_cases hlt : k < n ∧ k < 30
    · rw [decide_eq_true hlt]
      obtain ⟨hlt, hlt2⟩ := hlt
      obtain ⟨b, o, rfl, hb, hc⟩ := HBT.out (by omega)
      obtain ⟨c0, x1, x2, x3, x4⟩ := hc k hlt
      obtain ⟨m, hm⟩ : ∃ m, (D k).n = m := ⟨_, rfl⟩
      have HM := Lib.hid hm
      rw [hm] at c0 x3
      have n1 : (k : Int) < n := by omega
      have n2 : (k : Int) < 30 := by omega
      clear hc hm x4 x1 x2
      by_cases hbig : (16384 : Int) < t + m
      · go_wp2
        go_ret
        exact ⟨rfl, HB1.out⟩
      · go_wp2
        go_roundw
        case rel => exact ⟨k + 1, t + m, by go_num, by go_num, by omega, by omega, by omega, rfl, fun i hi => by
          rcases Nat.lt_succ_iff_lt_or_eq.1 hi with h | rfl
          · exact HALL.out i h
          · rw [HM.out]; omega⟩
        case measure => simp [intOf]; omega
    · have hHQ : ∀ i, i < n → i < 30 → (D i).n ≤ 16384 := HQ.out (by omega)
      have HD := Lib.hid hHQ
      rw [decide_eq_false hlt]
      clear hHQ HQ HALL hlt
      by_cases hbad : mo < 0 ∨ 65536 < mo ∨ li < 0
      · have HNB := Lib.hid (newdec_bad mo li wc hbad)
        have hbad' : mo < 0 ∨ (¬ mo < 0 ∧ 65536 < mo) ∨ (¬ mo < 0 ∧ ¬ 65536 < mo ∧ li < 0) := by omega
        clear hbad
        go_wp2_with fail
        refine HNB.out.mono ?_
        rintro e2 w2 ⟨rfl, rfl⟩
        go_upto_region 11 with fail
        go_cut [54] (fun y wx => y = .bool true ∧ wx = wc)
        case first =>
          rcases hbad' with h1 | ⟨h1, h2⟩ | ⟨h1, h2, h3⟩
          all_goals
            go_wp2
            go_meet
            exact ⟨by simp [*], rfl⟩
        case rest =>
        obtain ⟨rfl, hwc⟩ := hcut
        subst hwc
        go_wp2
        go_ret
        exact ⟨rfl, HB1.out⟩
      have h0 : 0 ≤ mo := by omega
      have h1 : mo ≤ 65536 := by omega
      have h2 : 0 ≤ li := by omega
      clear hbad
      have HND := Lib.hid (newdec_any mo li wc h0 h1 h2)
      go_wp2_with fail
      refine HND.out.mono ?_
      rintro e2 w2 ⟨d, G0, rfl, hd, hG, hb2⟩
      have HB2 := Lib.hid (And.intro hd (And.intro hG hb2))
      have HNR := Lib.hid (rnewdec_any mo li w2)
      clear hd hG hb2 HND
      go_wp2_with fail
      refine HNR.out.mono ?_
      rintro e3 w3 ⟨q, H0, rfl, hq, hH, hb3⟩
      have hs2 := HB2.out.2.2.size
      have h2w : Two w w3 d q 0 G0 H0 mo li ⟨min mo 4096, 0, []⟩ ⟨min mo 4096, 0, []⟩ false := by
        have hdl := DecIs.lt HB2.out.1
        refine ⟨DecIs.keep HB2.out.1 (fun j hj => hb3.block j (hdl j hj)), hq, fun _ => rfl, fun j hj => by have := HB2.out.2.1 j hj; omega, fun j hj => by have := hH j hj; omega, fun j hj hj2 => by have := hdl j hj; have := hH j hj2; omega, (HB1.out.trans (HB2.out.2.2.mono hs1)).trans (hb3.mono (by omega))⟩
      have H2W := Lib.hid h2w
      clear hq hH hb3 h2w HNR HB2 hs2
      go_wp2_with fail
      go_loopw [12] (fun iv wr => TwoRel w n d q mo li iv wr) (fun iv _ => n - (intOf iv).toNat)
      case atStart => exact ⟨0, G0, H0, _, _, false, rfl, by omega, by omega, H2W.out⟩
      case round =>
        obtain ⟨k, G, H, T, U, br, rfl, hk, hk30, h2w⟩ := hrel
        have H2 := Lib.hid h2w
        have hsr := h2w.bel.size
        clear h2w H2W
        go_upto_region 15 with fail
        go_cut [71] (fun y wx => y = .bool (decide (k < n ∧ k < 30)) ∧ wx = wr)
        case first =>
          by_cases h1 : (k : Int) < n
          · by_cases h2 : (k : Int) < 30
            · go_wp2
              go_meet
              exact ⟨by congr 1; exact (decide_eq_true (by omega)).symm, rfl⟩
            · go_wp2
              go_meet
              exact ⟨by congr 1; exact (decide_eq_false (by omega)).symm, rfl⟩
          · go_wp2
            go_meet
            exact ⟨by congr 1; exact (decide_eq_false (by omega)).symm, rfl⟩
        case rest =>
        obtain ⟨rfl, hwc⟩ := hcut
        subst hwc
        by_cases hlt : k < n ∧ k < 30
        · rw [decide_eq_true hlt]
          obtain ⟨hlt, hlt2⟩ := hlt
          have hbt := H1.out.below H2.out.bel
          obtain ⟨b, o, rfl, hb, hc⟩ := hbt (by omega)
          obtain ⟨c0, x1, x2, x3, x4⟩ := hc k hlt
          have hkm := HD.out k hlt hlt2
          obtain ⟨x, hx⟩ : ∃ x, D k = x := ⟨_, rfl⟩
          rw [hx] at c0 x1 x2 x3 x4 hkm
          obtain ⟨xA, xn, xc, xl⟩ := x
          simp only at c0 x1 x2 x3 x4 hkm
          have HX := Lib.hid (And.intro x4 (And.intro c0 hb))
          have n1 : (k : Int) < n := by omega
          have hbx : b < wc.heap.size := by omega
          have hm2 : k * 16384 + 16384 ≤ 1099511627776 := by omega
          clear hbt hc hx x4
          go_wp2_with (at_builtin; refine wpList_app (.tmp 74) (.tmp 78) tBytes rfl rfl (own_new wc wc.heap.size 1 _ (Nat.le_refl _)) rfl (HX.out.1.alloc hsr _) rfl (bvs_one _) (le_maxLen (by omega)) (by omega) (by simp) ?_; intro v2 w2 hown2 hg2 _)
          have hb2 : Below wc.heap.size wc w2 := Below.app ((Below.refl _ wc).alloc (Nat.le_refl _) _) (own_new wc wc.heap.size 1 _ (Nat.le_refl _)) hg2 (Nat.le_refl _) (by simp)
          have hs2 := hb2.size
          obtain ⟨A2, c2, rfl, hc2, hcm2, hr2, hA2⟩ := own_slice hown2
          simp only [List.nil_append, Nat.zero_add] at hr2 hc2 ⊢
          have h2 := H2.out.still hb2
          have hgl := H2.out.dec.lt
          have hhl := HIs.lt H2.out.ref
          have HDE := Lib.hid (dstep h2.dec hr2 hc2 hcm2 hkm (fun _ a ha hg => by have h1 := hgl _ hg; have h3 := hA2 a ha; omega) h1 hm2)
          have HA2 := Lib.hid (And.intro hA2 (And.intro hgl hhl))
          have HR2 := Lib.hid hr2
          have H2' := Lib.hid h2
          have HW2 := Lib.hid hb2
          clear hb2 hown2 hg2 hr2 h2 hgl hhl hA2
          obtain ⟨R, hR⟩ : ∃ R, outB br mo li T xl = R := ⟨_, rfl⟩
          rw [hR] at HDE
          have HRR := Lib.hid hR
          clear hR
          go_wp2_with fail
          refine HDE.out.mono ?_
          rintro e3 w3 ⟨A3, c3, G', T', rfl, hr3, hA3, hd3, hT3, hk3, hg3⟩
          have hs3 := hk3.size
          have hbel3 : Below w.heap.size w w3 := H2'.out.bel.trans (hk3.below H2'.out.nG H2'.out.bel.size)
          have hbel3' : Below w.heap.size wc w3 := (HW2.out.mono hsr).trans (hk3.below H2'.out.nG H2'.out.bel.size)
          have hq3 : RDecIs w3 q H mo li U br := HIs.kept H2'.out.ref hk3 (fun j hj hG => H2'.out.ap j hG hj)
          have hxr := HX.out.1.below hbel3' (Nat.le_refl _)
          have c03 := (hbel3'.cell (p := ⟨b, o + k, none⟩) hb).trans c0
          have hown3 := HR2.out.kept hk3 (fun _ a ha hg => by have h1 := HA2.out.2.1 _ hg; have h3 := HA2.out.1 a ha; omega)
          have hnH := H2'.out.nH
          have hRE := rstep hq3 (fun hb => by have := H2'.out.dec.tok; rw [H2'.out.same hb] at this; exact this) (hxr.more (by omega)) x1 x2 hkm (fun h0 a ha hg => by have h3 := hnH _ hg; obtain ⟨bb, oo, hA, hlt, -⟩ := hxr.2 h0; rw [hA] at ha; injection ha with ha; subst ha; simp only at h3; omega) h1
          have eR : outB br mo li U xl = R := by
            rw [← HRR.out]
            cases br with
            | true => rfl
            | false => rw [H2'.out.same rfl]
          rw [eR] at hRE
          have HRE := Lib.hid hRE
          have hhl3 : ∀ j, H j → j < wc.heap.size := HA2.out.2.2
          have H3 := Lib.hid (And.intro hr3 (And.intro hA3 (And.intro hd3 (And.intro hT3 (And.intro hg3 (And.intro hown3 (And.intro hhl3 (And.intro hxr hbel3))))))))
          have hgl3 := hd3.lt
          have HGL3 := Lib.hid hgl3
          clear hr3 hA3 hd3 hT3 hg3 hown3 hhl3 hxr hbel3 hbel3' hq3 hRE eR hk3 hnH hgl3 HDE c0
          go_wp2_with fail
          refine HRE.out.mono ?_
          rintro e4 w4 ⟨A4, c4, H', U', rfl, hr4, hA4, hq4, hU4, hk4, hg4⟩
          obtain ⟨hr3, hA3, hd3, hT3, hg3, hown3, hhl3, hxr, hbel3⟩ := H3.out
          have hs4 := hk4.size
          have hnH := H2'.out.nH
          have hb34 : Below w.heap.size w3 w4 := hk4.below hnH (by omega)
          have hra := hr3.kept hk4 (fun _ a ha hg => by have h1 := hhl3 _ hg; have h3 := hA3 a ha; omega)
          have hro := hown3.kept hk4 (fun _ a ha hg => by have h1 := hhl3 _ hg; have h3 := HA2.out.1 a ha; omega)
          have hxr4 := hxr.below hb34 (Nat.le_refl _)
          have c04 := (hb34.cell (p := ⟨b, o + k, none⟩) hb).trans c03
          have hapH : ∀ j, G' j → ¬ H j := fun j hG hH => (hg3 j hG).elim (fun h => H2'.out.ap j h hH) (fun h => by have := hhl3 j hH; omega)
          have h24 : Two w w4 d q (k * 16384 + 16384) G' H' mo li T' U' R.2.2.isNone := by
            refine ⟨hd3.keep fun j hj => hk4.block j (HGL3.out j hj) (fun hH => hapH j hj hH), hq4, fun hb => ?_, fun j hj => (hg3 j hj).elim (H2'.out.nG j) (fun h => by omega), fun j hj => (hg4 j hj).elim (hnH j) (fun h => by omega), fun j hG hH => (hg4 j hH).elim (hapH j hG) (fun h => by have := HGL3.out j hG; omega), hbel3.trans hb34⟩
            obtain ⟨T1, hT1⟩ : ∃ T1, R.2.2 = some T1 := by
              cases hh : R.2.2 with
              | none => rw [hh] at hb; cases hb
              | some T1 => exact ⟨T1, rfl⟩
            rw [hT3 T1 hT1, hU4 T1 hT1]
          obtain ⟨fl, er, tb⟩ := R
          obtain ⟨m, hm⟩ : ∃ m, fl.length = m := ⟨_, rfl⟩
          obtain ⟨br', hbr⟩ : ∃ br', tb.isNone = br' := ⟨_, rfl⟩
          simp only at hra hr4 h24 ⊢
          rw [hbr] at h24
          rw [hm] at hra hr4 ⊢
          have hml : m ≤ 16384 := by
            have h5 := outB_len (br := br) (mo := mo) (li := li) (T := T) (fun _ => H2'.out.dec.tok) h1 xl
            rw [HRR.out] at h5
            have h6 := hxr.blen
            simp only at h5
            omega
          have HFS := Lib.hid (fields_same (c := c3) (c' := c4) w4 hra hr4 (by omega))
          have HBS := Lib.hid (fun dd => bytes_same (c := c2) (c' := xc) (w := w4.drewN dd) (hro.drewN dd) (hxr4.drewN dd))
          have H24 := Lib.hid h24
          have c04d : ∀ dd, (w4.drewN dd).cell? ⟨b, o + k, none⟩ = some (.slice xA xn xc) := fun _ => c04
          clear hm hbr hra hr4 hro hxr4 hxr h24 hapH hnH hb34 hg4 hU4 hq4 hA4 hk4 hr3 hA3 hd3 hT3 hg3 hown3 hhl3 hbel3 HRR HRE H3
          go_wp2_with fail
          refine HFS.out.mono ?_
          rintro e5 w5 ⟨rfl, dd, rfl⟩
          have c05 := c04d dd
          go_wp2_with fail
          refine (HBS.out dd).mono ?_
          rintro e6 w6 ⟨rfl, rfl⟩
          have h25 : Two w (w4.drewN dd) d q (k * 16384 + 16384) G' H' mo li T' U' br' := H24.out.still (below_dN (Below.refl _ _) _)
          obtain ⟨W5, hW5⟩ : ∃ W5, w4.drewN dd = W5 := ⟨_, rfl⟩
          rw [hW5] at h25 ⊢
          have HR5 := Lib.hid h25
          clear h25 H24 HFS HBS c04d c05 hW5
          go_upto_region 22 with fail
          go_cut [128] (fun y wx => BoolIs y false ∧ Two w wx d q (k * 16384 + 16384) G' H' mo li T' U' br')
          case first =>
            obtain ⟨A8, c8, -, hrt⟩ := HR5.out.ref
            have y4 : W5.cell? ⟨q, 4, none⟩ = some (.bool br') := (HIs.xcells HR5.out.ref).2.2.1
            have hql : q < W5.heap.size := (HIs.xcells HR5.out.ref).2.2.2.2.2
            have y3 := hrt.cells.2
            have hrr := hrt.row.rd rfl
            clear hrt hs4 c04 HGL3 c03 hs3 HW2 H2' HR2 HA2 hc2 hcm2 hs2 hbx HX x1 x2 x3 hkm H2
            cases br' with
            | true =>
              have z4 : ∀ d, (W5.drewN d).cell? ⟨q, 4, none⟩ = some (.bool true) := fun _ => y4
              go_quiet (fail)
              go_wp2
              go_meet
              exact ⟨⟨_, rfl, by simp⟩, HR5.out.still (below_dN (Below.refl _ _) _)⟩
            | false =>
              have hTU := HR5.out.same rfl
              subst hTU
              have hrf := rows_few HR5.out.dec.tok
              have HRW : Hid (∀ w', w'.heap = W5.heap → Calls Try.prog 35 #[.pointer (some ⟨d, 0, none⟩)] w' (RowsPost w' T')) := Lib.hid fun w' hw => drows_any w' (HR5.out.dec.keep fun j hj => by rw [hw])
              have HRD := Lib.hid hrr
              clear hrr
              go_region_held3 (fun w' => w'.cell? ⟨q, 4, none⟩ = some (.bool false) ∧ w'.cell? ⟨q, 3, none⟩ = some (.slice A8 T'.rows.length c8))
                (first | go_keep | exact ⟨k0, k1⟩)
                (first
                  | (go_at_call 35; refine (HRW.out _ (by rfl)).mono ?_; rintro e9 w9 ⟨A9, c9, rfl, ho9, hb9⟩; have hb9' : Below W5.heap.size W5 w9 := ⟨hb9.os, hb9.tape, hb9.output, hb9.size, hb9.block⟩; have k0 := (hb9'.cell (p := ⟨q, 4, none⟩) hql).trans y4; have k1 := (hb9'.cell (p := ⟨q, 3, none⟩) hql).trans y3; have HB9 := Lib.hid hb9'; have HR9 : Hid (∀ w', w'.heap = w9.heap → Rd w' w'.heap.size 3 A9 T'.rows.length (fds (T'.rows.reverse.map fun r => (r, false)))) := Lib.hid fun w' hw => by { rw [fds_rows, hw]; exact (Rd.of_own ho9).keep fun b o _ => by { unfold World.cell?; rw [hw] } }; have HT9 : Hid (∀ w', w'.heap = w9.heap → Rd w' w'.heap.size 3 A8 T'.rows.length (fds (T'.rows.reverse.map fun r => (r, false)))) := Lib.hid fun w' hw => by { rw [fds_rows, hw]; exact ((HRD.out.below hb9' (Nat.le_refl _)).more hb9'.size).keep fun b o _ => by { unfold World.cell?; rw [hw] } }; clear ho9 hb9 hb9')
                  | (go_at_call 33; refine (fields_same (c := c9) (c' := c8) _ (HR9.out _ (by rfl)) (HT9.out _ (by rfl)) (by omega)).mono ?_; rintro e10 w10 ⟨rfl, d10, hw10⟩; have k2 : w10.cell? ⟨q, 4, none⟩ = some (.bool false) := (by rw [hw10]; exact k0); have k3 : w10.cell? ⟨q, 3, none⟩ = some (.slice A8 T'.rows.length c8) := (by rw [hw10]; exact k1); have HB10 : Hid (Below W5.heap.size W5 w10) := Lib.hid (by rw [hw10]; exact below_dN ⟨HB9.out.os, HB9.out.tape, HB9.out.output, HB9.out.size, HB9.out.block⟩ _); clear k0 k1 hw10; have k0 := k2; have k1 := k3; clear k2 k3))
              all_goals
                go_wp2_with fail
                go_meet
                exact ⟨⟨_, rfl, by simp⟩, HR5.out.still HB10.out⟩
          case rest =>
          obtain ⟨⟨bb, rfl, rfl⟩, h26⟩ := hcut
          have H26 := Lib.hid h26
          clear h26
          go_wp2_with fail
          go_roundw
          case rel => exact ⟨k + 1, G', H', T', U', br', by go_num, by omega, by omega, by rw [show (k + 1) * 16384 = k * 16384 + 16384 by omega]; exact H26.out⟩
          case measure => simp [intOf]; omega
        · rw [decide_eq_false hlt]
          clear hlt
          have HFB := Lib.hid H2.out.bel
          go_wp2
          go_ret
          exact ⟨rfl, HFB.out⟩
end Go.Proofs.Ythpieiipddfpjaa

/- Any rows of bytes, one block behind the other, are read to the fields that the document says, or refused; and what the table has behind each of them. -/
namespace Go.Proofs.Ythpieiipddfpjaa
open Go.ChangeShapes Go.WideShapes Go.ChangeAt Go.RowKit

set_option maxRecDepth 100000 in
theorem hpackDecodes_lifted (os : Os) (started : os.Started) (H : Type) (enc : TypeId × Value → H) :
    ReturnsInHanded {} Try.checked os 8 .any (Rows.hpackDecodesSpec.pre6 enc Try.prog Try.f8 Rows.hpackDecodesRow.domain false) (Rows.hpackDecodesSpec.post enc Try.prog Try.f8 false true false false) := by
  refine law_lift started (by kernel_rfl) Try.func8 (by rw [Try.params8]; exact of_decide_eq_true (by kernel_rfl)) rfl Try.underlying4 rfl
    (ChangeSpec.witness6 (enc := enc) (C := Try.checked) false ⟨#[], #[.int .i64 0, .int .i64 0, .slice none 0 0], []⟩ 8 (by kernel_rfl) (by kernel_rfl) (by kernel_rfl) (by kernel_rfl)) ?_
  intro W base args ds p hval hA hlt hsz
  rw [Try.params8] at hA hval hsz
  obtain ⟨v0, vs0, d0, ds0, p0, q0, hargs, rfl, rfl, g0, r0⟩ := trodAll_cons hA
  obtain ⟨v1, vs1, d1, ds1, p1, q1, rfl, rfl, rfl, g1, r1⟩ := trodAll_cons r0
  obtain ⟨v2, vs2, d2, ds2, p2, q2, rfl, rfl, rfl, g2, r2⟩ := trodAll_cons r1
  obtain ⟨rfl, rfl, rfl⟩ := trodAll_nil r2
  obtain rfl : args = #[v0, v1, v2] := by cases args; simp_all
  obtain ⟨a0, rfl, rfl, rfl, w0⟩ := open_int Try.underlying3 (hval 0 3 v0 rfl rfl) g0
  have h0 := wf_i64 w0
  obtain ⟨a1, rfl, rfl, rfl, w1⟩ := open_int Try.underlying3 (hval 1 3 v1 rfl rfl) g1
  have h1 := wf_i64 w1
  obtain ⟨A2, n2, c2, D2, rfl, hc2, hm2, hz2, hr2⟩ := open_btss (hval 2 51 v2 rfl rfl) g2 (fun x hx => hlt x (by simp [hx])) hsz (j := 2) rfl rfl
  refine ⟨rfl, ?_⟩
  exact hdecodes_any a0 a1 W hr2 hz2

theorem hpackDecodes_holds : Rows.HpackDecodesSaid :=
  OpenClaim.holds_of_wide 8 Try.f8 rfl rfl rfl rfl rfl rfl rfl ⟨rfl, rfl, rfl, rfl, rfl⟩ rfl rfl rfl rfl rfl (by kernel_rfl) Try.func8 (by kernel_rfl)
    (of_decide_eq_true (by kernel_rfl)) (by unfold Func.isWrapper; first | (rw [if_pos (by decide +kernel)]; kernel_rfl) | (rw [if_neg (by decide +kernel)]; exact ⟨rfl, rfl⟩))
    (fun os started H enc _ => hpackDecodes_lifted os started H enc)
#print axioms hpackDecodes_holds
end Go.Proofs.Ythpieiipddfpjaa
