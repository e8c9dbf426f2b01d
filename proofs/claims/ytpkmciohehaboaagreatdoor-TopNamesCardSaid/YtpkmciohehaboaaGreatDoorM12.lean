/- 10 texts in one: Hp3, TnB, WinPlain, Win, Win2, Win3, Cmp, Sp1, Sp2, Sp3. -/
import Derived.Test.YtpkmciohehaboaaGreatDoorM11
import Derived.Deep.WholeRow
import Derived.Test.YtpkmciohehaboaaGreatDoorM9
import Derived.Test.YtpkmciohehaboaaGreatDoorM1
import Derived.Maps.OwnSet
import Derived.Maps.Views
import Derived.Test.YtpkmciohehaboaaGreatDoorChecked
import Derived.Maps.OwnOps
import Derived.Test.YtpkmciohehaboaaGreatDoorM7
import Derived.Test.YtpkmciohehaboaaGreatDoorM6
import Derived.Deep.RegionHeld3
import Derived.BigGuard
/- The walk of hop.Elements. -/
namespace Go.Proofs.YtpkmciohehaboaaGreatDoor
open Go.RowKit Go.Maps

theorem el_inv (v : List UInt8) : ∀ k, (ElS.run v k).from_ ≤ k ∧ (ElS.run v k).out.length ≤ k
  | 0 => ⟨Nat.le_refl _, Nat.le_refl _⟩
  | k + 1 => by
    obtain ⟨h1, h2⟩ := el_inv v k
    rw [ElS.run]
    unfold ElS.step
    split
    · exact ⟨by dsimp only; omega, by dsimp only; omega⟩
    · split
      · exact ⟨by dsimp only; omega, by dsimp only; omega⟩
      · split
        · exact ⟨by dsimp only; omega, by dsimp only; omega⟩
        · split
          · unfold ElS.put
            refine ⟨Nat.le_refl _, ?_⟩
            dsimp only
            split
            · omega
            · simp; omega
          · exact ⟨by omega, by omega⟩
theorem elems_len (v : List UInt8) : (elems v).length ≤ v.length + 1 := by
  unfold elems ElS.put
  have := (el_inv v v.length).2
  dsimp only
  split
  · omega
  · simp; omega
theorem ElAt.flags {B : Nat} {v : ByteArray} {s s' : ElS} {ov : Value} {w : World} (h : ElAt B v s ov w) (h1 : s'.from_ = s.from_) (h2 : s'.out = s.out) : ElAt B v s' ov w := ⟨h.sz, h.cv, h.co, by rw [h1]; exact h.cf, by rw [h2]; exact h.row⟩
/-- The state of Elements' loop. -/
def ElRel (w : World) (v : ByteArray) (n : Nat) (qv tv iv : Value) (wr : World) : Prop :=
  ∃ k ov, iv = .int .i64 (k : Nat) ∧ k ≤ n ∧ qv = .bool (ElS.run v.data.toList k).q ∧ tv = .bool (ElS.run v.data.toList k).t ∧ ElAt w.heap.size v (ElS.run v.data.toList k) ov wr ∧ Below w.heap.size w wr
/-- The boxes as they are made. -/
theorem elat_made (v : ByteArray) (w : World) :
    ElAt w.heap.size v (ElS.run v.data.toList 0) (.slice none 0 0) (((w.alloc (.cells #[.string v] 9)).alloc (.cells #[.slice none 0 0] 80)).alloc (.cells #[.int .i64 0] 3)) ∧
    Below w.heap.size w (((w.alloc (.cells #[.string v] 9)).alloc (.cells #[.slice none 0 0] 80)).alloc (.cells #[.int .i64 0] 3)) := by
  refine ⟨⟨?_, ?_, ?_, ?_, World.ownsRow_nil _ _ _ _⟩, (((Below.refl _ _).alloc (Nat.le_refl _) _).alloc (by simp) _).alloc (by simp; omega) _⟩
  · simp
  · unfold World.alloc
    simp only [Array.getElem?_push, Array.size_push]
    repeat (first | rw [if_pos (by omega)] | rw [if_neg (by omega)] | rw [if_pos trivial])
  · unfold World.alloc
    simp only [Array.getElem?_push, Array.size_push]
    repeat (first | rw [if_pos (by omega)] | rw [if_neg (by omega)] | rw [if_pos trivial])
  · unfold World.alloc
    simp only [Array.getElem?_push, Array.size_push]
    repeat (first | rw [if_pos (by omega)] | rw [if_neg (by omega)] | rw [if_pos trivial])
    rfl
set_option maxRecDepth 100000 in
set_option maxHeartbeats 8000000 in
theorem elements_any (v : ByteArray) (w : World) (hv : v.size ≤ 1048575) : Calls Tryz.prog 77 #[.string v] w (OwnStr w (elems v.data.toList)) := by
  have hget := get_ba v
  have hlen := str_len v
  obtain ⟨n, hn⟩ : ∃ n, v.size = n := ⟨_, rfl⟩
  have HL := Lib.hid hlen
  have HN := Lib.hid hn
  have H0 := Lib.hid (elat_made v w)
  have hmf : ∀ fn first cap w, (Instr.makeFunc fn first cap).run Tryz.prog w = .ok (.func fn first cap) w := fun _ _ _ _ => rfl
  clear hlen hn
  go_enter Tryz.func77, Tryz.ntmps77
  go_wp2_with fail
  generalize (((w.alloc (.cells #[.string v] 9)).alloc (.cells #[.slice none 0 0] 80)).alloc (.cells #[.int .i64 0] 3)) = W0 at *
  go_loopw [5, 6, 13] (fun qv tv iv wr => ElRel w v n qv tv iv wr) (fun _ _ iv _ => n - (intOf iv).toNat)
  case atStart => exact ⟨0, _, rfl, Nat.zero_le _, rfl, rfl, H0.out.1, H0.out.2⟩
  case round =>
    obtain ⟨k, ov, rfl, hk, rfl, rfl, hel, hb⟩ := hrel
    have hinv := el_inv v.data.toList k
    obtain ⟨S, hS⟩ : ∃ S, ElS.run v.data.toList k = S := ⟨_, rfl⟩
    have hstep : ElS.run v.data.toList (k + 1) = S.step v.data.toList k := by rw [ElS.run, hS]
    rw [hS] at hel hinv ⊢
    have HEL := Lib.hid hel
    have HB := Lib.hid hb
    have HST := Lib.hid hstep
    have hsr := hel.sz
    obtain ⟨hi1, hi2⟩ := hinv
    have hc0 : wr.cell? ⟨w.heap.size, 0, none⟩ = some (.string v) := by unfold World.cell?; rw [hel.cv]; rfl
    have HS := Lib.hid hS
    clear hel hb hstep hS
    obtain ⟨F, Q, T, out⟩ := S
    dsimp only at hi1 hi2 ⊢
    by_cases hlt : k < n
    · have k1 : (k : Int) < n := by omega
      have hks : k < v.size := by have := HN.out; omega
      have hgk := hget k hks
      have HAll : Hid (∀ S', ElS.run v.data.toList (k + 1) = S' → S'.from_ = F → S'.out = out → ElRel w v n (.bool S'.q) (.bool S'.t) (.int .i64 (k + 1 : Nat)) wr) := Lib.hid (fun S' h h1 h2 => by
        subst h
        exact ⟨k + 1, ov, rfl, hlt, rfl, rfl, HEL.out.flags h1 h2, HB.out⟩)
      clear hget
      cases T with
      | true =>
        have HN2 := Lib.hid (HAll.out { from_ := F, q := Q, t := false, out := out } (by rw [HST.out]; rfl) rfl rfl)
        clear HAll
        go_wp2_with fail
        go_roundw
        case rel => exact HN2.out
        case measure => simp [intOf]; omega
      | false =>
        by_cases h92 : Q = true ∧ ba v.data.toList k = 92
        · obtain ⟨rfl, h92⟩ := h92
          have HN2 := Lib.hid (HAll.out { from_ := F, q := true, t := true, out := out } (by rw [HST.out]; unfold ElS.step; simp [h92]) rfl rfl)
          have e92 : (((ba v.data.toList k : Nat) : Int) == 92) = true := by rw [h92]; rfl
          clear HAll
          go_wp2_with fail
          go_roundw
          case rel => exact HN2.out
          case measure => simp [intOf]; omega
        · by_cases h34 : ba v.data.toList k = 34
          · have HN2 := Lib.hid (HAll.out { from_ := F, q := !Q, t := false, out := out } (by rw [HST.out]; unfold ElS.step; simp [h34]) rfl rfl)
            have e34 : (((ba v.data.toList k : Nat) : Int) == 34) = true := by rw [h34]; rfl
            have e92 : (((ba v.data.toList k : Nat) : Int) == 92) = false := by rw [h34]; rfl
            clear HAll h92
            cases Q
            all_goals
              go_wp2_with fail
              go_roundw
              case rel => exact HN2.out
              case measure => simp [intOf]; omega
          · have e34 : (((ba v.data.toList k : Nat) : Int) == 34) = false := by simp; omega
            cases Q with
            | true =>
              have h92' : ¬ ba v.data.toList k = 92 := fun e => h92 ⟨rfl, e⟩
              have e92 : (((ba v.data.toList k : Nat) : Int) == 92) = false := by simp; omega
              have HN2 := Lib.hid (HAll.out { from_ := F, q := true, t := false, out := out } (by rw [HST.out]; unfold ElS.step; simp [h34, h92']) rfl rfl)
              clear HAll h92
              by_cases h44 : ba v.data.toList k = 44
              · have e44 : (((ba v.data.toList k : Nat) : Int) == 44) = true := by rw [h44]; rfl
                go_wp2_with fail
                go_roundw
                case rel => exact HN2.out
                case measure => simp [intOf]; omega
              · have e44 : (((ba v.data.toList k : Nat) : Int) == 44) = false := by simp; omega
                go_wp2_with fail
                go_roundw
                case rel => exact HN2.out
                case measure => simp [intOf]; omega
            | false =>
              clear h92
              by_cases h44 : ba v.data.toList k = 44
              · have e44 : (((ba v.data.toList k : Nat) : Int) == 44) = true := by rw [h44]; rfl
                have HPUT := Lib.hid (putel_any (s := { from_ := F, q := false, t := false, out := out }) k HEL.out (by omega) hi1 (by omega) (by dsimp only; omega))
                have hs2 : ElS.run v.data.toList (k + 1) = ElS.put v.data.toList { from_ := F, q := false, t := false, out := out } k := by rw [HST.out]; unfold ElS.step; simp [h44]
                have HS2 := Lib.hid hs2
                clear HAll hs2
                go_wp2_with fail
                refine HPUT.out.mono ?_
                rintro e w2 ⟨rfl, ⟨ov2, hel2⟩, hb2⟩
                have HN2 : Hid (ElRel w v n (.bool false) (.bool false) (.int .i64 (k + 1 : Nat)) w2) := Lib.hid (by
                  refine ⟨k + 1, ov2, rfl, hlt, ?_, ?_, ?_, HB.out.trans hb2⟩
                  · rw [HS2.out]; rfl
                  · rw [HS2.out]; rfl
                  · rw [HS2.out]; exact hel2)
                clear hel2 hb2 HPUT
                go_wp2_with fail
                go_roundw
                case rel => exact HN2.out
                case measure => simp [intOf]; omega
              · have e44 : (((ba v.data.toList k : Nat) : Int) == 44) = false := by simp; omega
                have HN2 := Lib.hid (HAll.out { from_ := F, q := false, t := false, out := out } (by rw [HST.out]; unfold ElS.step; simp [h34, h44]) rfl rfl)
                clear HAll
                go_wp2_with fail
                go_roundw
                case rel => exact HN2.out
                case measure => simp [intOf]; omega
    · have hkn : k = v.size := by have := HN.out; omega
      have hcf : wr.cell? ⟨w.heap.size + 1 + 1, 0, none⟩ = some (.int .i64 (F : Int)) := by unfold World.cell?; rw [show w.heap.size + 1 + 1 = w.heap.size + 2 from rfl, HEL.out.cf]; rfl
      have hle : ((F : Int) ≤ (v.size : Int)) := by omega
      have HPUT := Lib.hid (putel_any (s := { from_ := F, q := Q, t := T, out := out }) v.size HEL.out (by omega) (by dsimp only; omega) (Nat.le_refl _) (by dsimp only; omega))
      have HEQ : Hid ((ElS.put v.data.toList { from_ := F, q := Q, t := T, out := out } v.size).out = elems v.data.toList) := Lib.hid (by
        unfold elems
        rw [HL.out, ← hkn, HS.out])
      obtain ⟨P, hP⟩ : ∃ P, ElS.put v.data.toList { from_ := F, q := Q, t := T, out := out } v.size = P := ⟨_, rfl⟩
      rw [hP] at HPUT HEQ
      clear hget hP
      subst hkn
      go_wp2_with fail
      refine HPUT.out.mono ?_
      rintro e w2 ⟨rfl, ⟨ov2, hel2⟩, hb2⟩
      have HE : Hid (OwnStr w (elems v.data.toList) (.returned ov2) w2) := Lib.hid (by
        refine ⟨_, rfl, ?_, HB.out.trans hb2⟩
        rw [← HEQ.out]
        exact own_base hel2.row (by omega))
      have hco : w2.cell? ⟨w.heap.size + 1, 0, none⟩ = some ov2 := by unfold World.cell?; rw [hel2.co]; rfl
      obtain ⟨A2, c2, hv2, -, -, -, -⟩ := own_slice hel2.row
      rw [hv2] at hco HE
      clear hel2 hb2 hv2 HPUT hc0
      go_wp2_with fail
      go_ret
      exact HE.out
end Go.Proofs.YtpkmciohehaboaaGreatDoor

/- How great things become in TopNames, in plain numbers. -/
namespace Go.Proofs.YtpkmciohehaboaaGreatDoor
open Go.RowKit

theorem lowL_len (l : List UInt8) : (lowL l).length = l.length := by simp [lowL]
theorem line_sum (l : List UInt8) : (lineF l).1.1.1.size + (lineF l).1.1.2.size ≤ l.length := by
  unfold lineF
  split
  · simp [mkS_size]
  · dsimp only
    rw [mkS_size, mkS_size, lowL_len, List.length_take]
    have h1 := trimL_le (l.drop (colN l + 1))
    rw [List.length_drop] at h1
    omega
theorem own_cost : ∀ l : List Fd, ((ownF l).map fun f => f.1.1.size + f.1.2.size + 1).sum ≤ sumF l ∧ (ownF l).length ≤ l.length
  | [] => ⟨Nat.le_refl _, Nat.le_refl _⟩
  | f :: r => by
    obtain ⟨h1, h2⟩ := own_cost r
    have hs := line_sum (f.1.1.data.toList ++ 58 :: f.1.2.data.toList)
    have hl : (f.1.1.data.toList ++ 58 :: f.1.2.data.toList).length = f.1.1.size + f.1.2.size + 1 := by
      simp only [List.length_append, List.length_cons, Array.length_toList]
      show f.1.1.size + (f.1.2.size + 1) = _
      omega
    rw [hl] at hs
    have e : sumF (f :: r) = cost f.1 + sumF r := by simp [sumF]
    unfold cost at e
    cases hb : (lineF (f.1.1.data.toList ++ 58 :: f.1.2.data.toList)).2 with
    | false =>
      have e2 : ownF (f :: r) = ownF r := by simp [ownF, hb]
      rw [e2, e]
      exact ⟨by omega, by simp only [List.length_cons]; omega⟩
    | true =>
      have e2 : ownF (f :: r) = (lineF (f.1.1.data.toList ++ 58 :: f.1.2.data.toList)).1 :: ownF r := by simp [ownF, hb]
      rw [e2, e]
      simp only [List.map_cons, List.sum_cons, List.length_cons]
      exact ⟨by omega, by omega⟩
theorem all_sum (nm : ByteArray) : ∀ l : List Fd, (allF l nm).length ≤ (l.map fun f => f.1.1.size + f.1.2.size + 1).sum
  | [] => Nat.le_refl _
  | f :: r => by
    have ih := all_sum nm r
    have he := elems_len f.1.2.data.toList
    have hz : f.1.2.data.toList.length = f.1.2.size := Array.length_toList
    simp only [List.map_cons, List.sum_cons]
    unfold allF sameVals at ih ⊢
    cases hb : sameL f.1.1.data.toList nm.data.toList with
    | false =>
      rw [List.filter_cons_of_neg (by simp [hb])]
      omega
    | true =>
      rw [List.filter_cons_of_pos (by simp [hb]), List.map_cons, List.flatMap_cons, List.length_append]
      omega
theorem mem_sum {l : List Fd} {f : Fd} (h : f ∈ l) : f.1.1.size + f.1.2.size + 1 ≤ (l.map fun f => f.1.1.size + f.1.2.size + 1).sum := by
  induction l with
  | nil => cases h
  | cons g r ih =>
    simp only [List.map_cons, List.sum_cons]
    rcases List.mem_cons.1 h with rfl | h
    · omega
    · have := ih h; omega
theorem put_size (v : List UInt8) (s : ElS) (k : Nat) (h : ∀ x ∈ s.out, x.size ≤ v.length) : ∀ x ∈ (s.put v k).out, x.size ≤ v.length := by
  intro x hx
  unfold ElS.put at hx
  dsimp only at hx
  split at hx
  · exact h x hx
  · rcases List.mem_append.1 hx with hx | hx
    · exact h x hx
    · obtain rfl : x = _ := by simpa using hx
      rw [mkS_size]
      have h1 := trimL_le ((v.take k).drop s.from_)
      rw [List.length_drop, List.length_take] at h1
      omega
theorem run_size (v : List UInt8) : ∀ k, ∀ x ∈ (ElS.run v k).out, x.size ≤ v.length
  | 0 => fun x hx => by cases hx
  | k + 1 => by
    have ih := run_size v k
    show ∀ x ∈ ((ElS.run v k).step v k).out, _
    unfold ElS.step
    split
    · exact ih
    · split
      · exact ih
      · split
        · exact ih
        · split
          · exact put_size v _ k ih
          · exact ih
theorem elems_size {v : List UInt8} {x : ByteArray} (h : x ∈ elems v) : x.size ≤ v.length := put_size v _ _ (run_size v _) x h
theorem all_size {l : List Fd} {nm x : ByteArray} (h : x ∈ allF l nm) : ∃ f ∈ l, x.size ≤ f.1.2.size := by
  unfold allF sameVals at h
  obtain ⟨v, hv, hx⟩ := List.mem_flatMap.1 h
  obtain ⟨f, hf, rfl⟩ := List.mem_map.1 hv
  exact ⟨f, (List.mem_filter.1 hf).1, elems_size hx⟩
/-- All that TopNames' callees ask. -/
structure TnOk (l own : List Fd) : Prop where
  n : l.length ≤ 1000
  each : ∀ f ∈ l, f.1.1.size + f.1.2.size ≤ 10000
  no : own.length ≤ 1000
  tx : Tx own
  val : ∀ f ∈ own, f.1.2.size ≤ 1048575
  len : (allF own con1).length ≤ 1048576
  els : ∀ x ∈ allF own con1, x.size ≤ 140737488351232
  name : ∀ f ∈ own, f.1.1.size ≤ 10000
theorem tn_ok {l : List Fd} (h : bytesV l ≤ 10000) : TnOk l (ownF l) := by
  have hs : sumF l ≤ 10000 := by rw [← bytesV_sum (by omega)]; exact h
  obtain ⟨h1, h2⟩ := own_cost l
  have hn : l.length * 32 ≤ sumF l := by
    clear hs h h1 h2
    induction l with
    | nil => exact Nat.zero_le _
    | cons f r ih =>
      have e : sumF (f :: r) = cost f.1 + sumF r := by simp [sumF]
      unfold cost at e
      rw [e, List.length_cons]
      omega
  have he : ∀ f ∈ l, f.1.1.size + f.1.2.size ≤ sumF l := by
    clear hs h h1 h2 hn
    intro f hf
    induction l with
    | nil => cases hf
    | cons g r ih =>
      have e : sumF (g :: r) = cost g.1 + sumF r := by simp [sumF]
      unfold cost at e
      rcases List.mem_cons.1 hf with rfl | hf
      · omega
      · have := ih hf; omega
  have hm : ∀ f ∈ ownF l, f.1.1.size + f.1.2.size + 1 ≤ 10000 := fun f hf => by have := mem_sum hf; omega
  have ha := all_sum con1 (ownF l)
  exact ⟨by omega, fun f hf => by have := he f hf; omega, by omega, fun f hf => by have := hm f hf; exact ⟨by omega, by omega⟩, fun f hf => by have := hm f hf; omega, by omega,
    fun x hx => by obtain ⟨f, hf, hle⟩ := all_size hx; have := hm f hf; omega, fun f hf => by have := hm f hf; omega⟩
end Go.Proofs.YtpkmciohehaboaaGreatDoor

/- Windows held by streams: a list of streams and numbers, and a map that reads as such a list. In plain Lean. No program in sight. -/
namespace Go.Proofs.YtpkmciohehaboaaGreatDoor
open Go.RowKit Go.Maps

def look (L : List (Int × Int)) (s : Int) : Option Int := (L.find? fun p => p.1 == s).map (·.2)
def upd (L : List (Int × Int)) (s x : Int) : List (Int × Int) := L.map fun p => if p.1 == s then (s, x) else p
def wputL (L : List (Int × Int)) (s x : Int) : List (Int × Int) := if (look L s).isSome then upd L s x else L ++ [(s, x)]
def delL (L : List (Int × Int)) (s : Int) : List (Int × Int) := L.filter fun p => p.1 != s
/-- No stream twice. -/
def Once (L : List (Int × Int)) : Prop := (L.map (·.1)).Nodup

theorem look_cons (p : Int × Int) (L : List (Int × Int)) (s : Int) : look (p :: L) s = if p.1 = s then some p.2 else look L s := by
  unfold look
  rw [List.find?_cons]
  by_cases h : p.1 = s
  · simp [h]
  · have : (p.1 == s) = false := by simpa using h
    simp [this, h]
theorem look_none {L : List (Int × Int)} {s : Int} : look L s = none ↔ s ∉ L.map (·.1) := by
  induction L with
  | nil => simp [look]
  | cons p L ih =>
    rw [look_cons]
    by_cases h : p.1 = s
    · simp [h]
    · rw [if_neg h, ih]
      simp only [List.map_cons, List.mem_cons, not_or]
      exact ⟨fun x => ⟨fun e => h e.symm, x⟩, fun x => x.2⟩
theorem look_append (L M : List (Int × Int)) (s : Int) : look (L ++ M) s = (look L s).or (look M s) := by
  induction L with
  | nil => simp [look]
  | cons p L ih =>
    rw [List.cons_append, look_cons, look_cons, ih]
    split <;> rfl
theorem upd_keys (L : List (Int × Int)) (s x : Int) : (upd L s x).map (·.1) = L.map (·.1) := by
  unfold upd
  rw [List.map_map]
  apply List.map_congr_left
  intro p _
  simp only [Function.comp]
  split
  · rename_i h; simpa using (by simpa using h : p.1 = s).symm
  · rfl
theorem look_upd (L : List (Int × Int)) (s x r : Int) : look (upd L s x) r = if r = s then (look L s).map (fun _ => x) else look L r := by
  induction L with
  | nil => simp [look, upd]
  | cons p L ih =>
    rw [show upd (p :: L) s x = (if p.1 == s then (s, x) else p) :: upd L s x from rfl, look_cons, ih, look_cons, look_cons]
    by_cases h : p.1 = s
    · have e : (p.1 == s) = true := by simpa using h
      rw [if_pos e]
      by_cases hr : r = s
      · subst hr; simp [h]
      · simp [h, hr, Ne.symm hr]
    · have e : (p.1 == s) = false := by simpa using h
      rw [e]
      by_cases hr : r = s
      · subst hr; simp [h]
      · by_cases hp : p.1 = r
        · simp [hp, hr]
        · simp [hp, hr]
theorem look_put (L : List (Int × Int)) (s x r : Int) : look (wputL L s x) r = if r = s then some x else look L r := by
  unfold wputL
  cases hl : look L s with
  | some y =>
    simp only [Option.isSome_some, if_true]
    rw [look_upd, hl]; rfl
  | none =>
    simp only [Option.isSome_none, Bool.false_eq_true, if_false]
    rw [look_append, look_cons]
    by_cases hr : r = s
    · subst hr; simp [hl]
    · simp [Ne.symm hr, hr, look]
theorem look_del (L : List (Int × Int)) (s r : Int) : look (delL L s) r = if r = s then none else look L r := by
  induction L with
  | nil => simp [look, delL]
  | cons p L ih =>
    unfold delL at ih ⊢
    rw [List.filter_cons]
    by_cases h : p.1 = s
    · have e : (p.1 != s) = false := by simpa using h
      rw [e, look_cons]
      simp only [Bool.false_eq_true, if_false]
      rw [ih]
      by_cases hr : r = s
      · simp [hr]
      · have : p.1 ≠ r := fun e => hr (by omega)
        simp [hr, this]
    · have e : (p.1 != s) = true := by simpa using h
      rw [e]
      simp only [if_true]
      rw [look_cons, look_cons, ih]
      by_cases hr : r = s
      · subst hr; simp [h]
      · simp [hr]
theorem once_put {L : List (Int × Int)} (h : Once L) (s x : Int) : Once (wputL L s x) := by
  unfold wputL Once at *
  cases hl : look L s with
  | some y => simp only [Option.isSome_some, if_true]; rw [upd_keys]; exact h
  | none =>
    simp only [Option.isSome_none, Bool.false_eq_true, if_false, List.map_append, List.map_cons, List.map_nil]
    rw [List.nodup_append]
    refine ⟨h, by simp, fun a ha b hb => ?_⟩
    simp at hb
    subst hb
    intro e; subst e
    exact look_none.1 hl ha
theorem put_length (L : List (Int × Int)) (s x : Int) : (wputL L s x).length = if (look L s).isSome then L.length else L.length + 1 := by
  unfold wputL
  split <;> simp [upd]
theorem del_length {L : List (Int × Int)} (h : Once L) (s : Int) : (delL L s).length + (if (look L s).isSome then 1 else 0) = L.length := by
  induction L with
  | nil => simp [delL, look]
  | cons p L ih =>
    have hL : Once L := by unfold Once at h ⊢; exact (List.nodup_cons.1 h).2
    have hn : p.1 ∉ L.map (·.1) := by unfold Once at h; exact (List.nodup_cons.1 h).1
    have := ih hL
    unfold delL at this ⊢
    rw [List.filter_cons, look_cons]
    by_cases hp : p.1 = s
    · have hl : look L s = none := look_none.2 (hp ▸ hn)
      rw [hl] at this
      simp [hp] at this ⊢
      exact this
    · have e : (p.1 != s) = true := by simpa using hp
      simp only [e, if_true, if_neg hp, List.length_cons]
      omega

def key (s : Int) : Lit := .int .i64 s
def wnum (x : Int) : DataW Unit := .lit (.int .i64 x)
/-- The map reads as the list. -/
structure MapIs (D : DataW Unit) (L : List (Int × Int)) : Prop where
  has : ∀ s, Maps.has D (key s) = (look L s).isSome
  at_ : ∀ s x, look L s = some x → D.atKey (key s) (wnum 0) = wnum x
  size : Maps.size D = L.length
theorem key_ne {s r : Int} (h : s ≠ r) : key s ≠ key r := fun e => h (by injection e)
theorem key_lit (s : Int) : WideAt.IsKeyLit (key s) := by unfold key WideAt.IsKeyLit; trivial
theorem MapIs.empty : MapIs (.map []) [] := ⟨fun s => rfl, fun s x h => by simp [look] at h, rfl⟩
theorem MapIs.put {D : DataW Unit} {L : List (Int × Int)} (h : MapIs D L) (ht : Tidy D) (s x : Int) : MapIs (D.put (key s) (wnum x)) (wputL L s x) := by
  refine ⟨fun r => ?_, fun r y hy => ?_, ?_⟩
  · rw [look_put]
    by_cases hr : r = s
    · subst hr; rw [has_put_same ht.isMap (key_lit _)]; simp
    · rw [has_put_other (key_ne hr), h.has]; simp [hr]
  · rw [look_put] at hy
    by_cases hr : r = s
    · subst hr
      rw [if_pos rfl] at hy
      injection hy with hy
      subst hy
      exact atKey_put_same ht.isMap (key_lit _) _ _
    · rw [if_neg hr] at hy
      rw [atKey_put_other (key_ne hr)]
      exact h.at_ r y hy
  · rw [size_put ht, h.has, put_length, h.size]
theorem MapIs.del {D : DataW Unit} {L : List (Int × Int)} (h : MapIs D L) (ht : Tidy D) (ho : Once L) (s : Int) : MapIs (D.del (key s)) (delL L s) := by
  refine ⟨fun r => ?_, fun r y hy => ?_, ?_⟩
  · rw [look_del]
    by_cases hr : r = s
    · subst hr; rw [has_del_same]; simp
    · rw [has_del_other (key_ne hr), h.has]; simp [hr]
  · rw [look_del] at hy
    by_cases hr : r = s
    · rw [if_pos hr] at hy; cases hy
    · rw [if_neg hr] at hy
      rw [atKey_del_other (key_ne hr)]
      exact h.at_ r y hy
  · have h1 := size_del (k := key s) ht
    have h2 := del_length ho s
    rw [h.has, h.size] at h1
    omega
end Go.Proofs.YtpkmciohehaboaaGreatDoor

/- The walks of window.New, Open, Shut, At, Len. -/
namespace Go.Proofs.YtpkmciohehaboaaGreatDoor
open Go.RowKit Go.Maps

theorem lawK : Keyed Tryz.prog 3 := int_keyed Tryz.underlying3
theorem zeroE (w : World) : (zeroValue 2).run Tryz.prog w = .ok (.int .i64 0) w := by kernel_rfl

theorem wheapNew (w : World) (o : Obj) : (w.alloc o).heap[w.heap.size]? = some o := by
  show (w.heap.push o)[w.heap.size]? = _
  simp
/-- Every block but two is as it was. -/
structure But (g m : Nat) (w w' : World) : Prop where
  os : w'.os = w.os
  tape : w'.tape = w.tape
  output : w'.output = w.output
  size : w.heap.size ≤ w'.heap.size
  block : ∀ k, k < w.heap.size → k ≠ g → k ≠ m → w'.heap[k]? = w.heap[k]?
theorem But.refl (g m : Nat) (w : World) : But g m w w := ⟨rfl, rfl, rfl, Nat.le_refl _, fun _ _ _ _ => rfl⟩
theorem But.trans {g m : Nat} {a b c : World} (h : But g m a b) (k : But g m b c) : But g m a c :=
  ⟨k.os.trans h.os, k.tape.trans h.tape, k.output.trans h.output, Nat.le_trans h.size k.size, fun i hi h1 h2 => (k.block i (Nat.lt_of_lt_of_le hi h.size) h1 h2).trans (h.block i hi h1 h2)⟩
theorem But.grown {g m : Nat} {w w' : World} (h : w.grownBy w' (some m)) : But g m w w' := ⟨h.os, h.tape, h.output, h.size, fun i hi _ h2 => h.block i hi (by simpa using h2)⟩
theorem But.below {g m B : Nat} {w w' : World} (h : But g m w w') (h1 : B ≤ g) (h2 : B ≤ m) (hs : B ≤ w.heap.size) : Below B w w' :=
  ⟨h.os, h.tape, h.output, h.size, fun k hk => h.block k (by omega) (by omega) (by omega)⟩
theorem But.setCell (g m : Nat) (w : World) (o : Nat) (v : Value) : But g m w (w.setCell ⟨g, o, none⟩ v) :=
  ⟨rfl, rfl, rfl, by simp [World.setCell], fun k _ h1 _ => Below.heap_setCell _ _ _ _ h1⟩

/-- A book in memory: its block g, its map's block m; what it holds. -/
structure WB (w : World) (g m : Nat) (all first : Int) (L : List (Int × Int)) : Prop where
  book : w.heap[g]? = some (.cells #[.int .i64 all, .int .i64 first, .map (some m)] 173 (0, 0))
  ne : g ≠ m
  once : Once L
  map : ∃ D : DataW Unit, w.ownsMap Tryz.prog 3 (plainElem Tryz.prog 2) m L.length D ∧ MapIs D L

section
variable {w w' : World} {g m : Nat} {all first : Int} {L : List (Int × Int)}
theorem tight {P : Program} {H : Type} {k : TypeId} {R : Value → Option (DataW H × List MemPlace)} {b n : Nat} {D : DataW H} (h : w.ownsMap P k R b n D) : w.ownsMap P k R b (Maps.size D) D := by
  obtain ⟨es, cl, h1, h2, _, h4⟩ := h
  refine ⟨es, cl, h1, h2, ?_, h4⟩
  rw [h4, Maps.size_eq, length_read]
  exact Nat.le_refl _
theorem WB.lt (h : WB w g m all first L) : g < w.heap.size ∧ m < w.heap.size := by
  obtain ⟨D, hD, _⟩ := h.map
  exact ⟨(Array.getElem?_eq_some_iff.1 h.book).1, hD.lt⟩
theorem WB.keep (h : WB w g m all first L) (hg : w'.heap[g]? = w.heap[g]?) (hm : w'.heap[m]? = w.heap[m]?) : WB w' g m all first L := by
  obtain ⟨D, ⟨es, cl, h1, h2⟩, h3⟩ := h.map
  exact ⟨hg.trans h.book, h.ne, h.once, D, ⟨es, cl, hm.trans h1, h2⟩, h3⟩
theorem WB.below {B : Nat} (h : WB w g m all first L) (hb : Below B w w') (h1 : g < B) (h2 : m < B) : WB w' g m all first L := h.keep (hb.block g h1) (hb.block m h2)
theorem WB.cells (h : WB w g m all first L) : w.cell? ⟨g, 0, none⟩ = some (.int .i64 all) ∧ w.cell? ⟨g, 1, none⟩ = some (.int .i64 first) ∧ w.cell? ⟨g, 2, none⟩ = some (.map (some m)) := by
  refine ⟨?_, ?_, ?_⟩ <;> (unfold World.cell?; rw [h.book]; rfl)
theorem hb_g (h : WB w g m all first L) (hg : w.grownBy w' (some m)) : w'.heap[g]? = some (.cells #[.int .i64 all, .int .i64 first, .map (some m)] 173 (0, 0)) :=
  (hg.block g h.lt.1 (by have := h.ne; simpa using this)).trans h.book
theorem WB.free (h : WB w g m all first L) (o : Nat) : w.frozen? ⟨g, o, none⟩ = false := by
  unfold World.frozen?; rw [h.book]; simp
end

def WNew (n : Int) (W : World) (e : Ending) (w' : World) : Prop := ∃ g m, e = .returned (.tuple #[.pointer (some ⟨g, 0, none⟩), .int .i64 0]) ∧ WB w' g m 65535 n [] ∧ W.heap.size ≤ g ∧ W.heap.size ≤ m ∧ Below W.heap.size W w'
set_option maxHeartbeats 400000 in
theorem wnew_any (n : Int) (w : World) (h0 : 0 ≤ n) (h1 : n ≤ 2147483647) : Calls Tryz.prog 48 #[.int .i64 n] w (WNew n w) := by
  have hmm := @run_makeMap Tryz.prog
  go_enter Tryz.func48, Tryz.ntmps48
  go_wp2
  go_ret2
  refine ⟨w.heap.size + 1, w.heap.size, rfl, ⟨?_, by omega, List.nodup_nil, .map [], ?_, MapIs.empty⟩, by omega, by omega, ((Below.refl _ _).alloc (Nat.le_refl _) _).alloc (by simp) _⟩
  · have hn := wheapNew (w.alloc (.map #[] 0)) (.cells #[.int .i64 65535, .int .i64 n, .map (some w.heap.size)] 173)
    rw [show (w.alloc (.map #[] 0)).heap.size = w.heap.size + 1 by simp] at hn
    exact hn
  · exact (World.ownsMap_made w _ _ _).alloc _

/-- What a call that changes a book hands back. -/
def WDid (g m : Nat) (W : World) (err : Int) (all first : Int) (L : List (Int × Int)) (e : Ending) (w' : World) : Prop :=
  e = .returned (.int .i64 err) ∧ WB w' g m all first L ∧ But g m W w'

set_option maxHeartbeats 1000000 in
theorem wopen_any {g m : Nat} {all first : Int} {L : List (Int × Int)} (s : Int) (w : World) (h : WB w g m all first L) (hs : (Lit.int .i64 s).wf = true) (h1 : 1 ≤ s) (hn : L.length < 100000) :
    Calls Tryz.prog 193 #[.pointer (some ⟨g, 0, none⟩), .int .i64 s] w
      (if (look L s).isSome then WDid g m w 5 all first L else WDid g m w 0 all first (wputL L s 0)) := by
  obtain ⟨c0, c1, c2⟩ := h.cells
  obtain ⟨D, hD, hM⟩ := h.map
  have HS := Lib.hid hs
  have HD := Lib.hid hD
  have HM := Lib.hid hM
  have H := Lib.hid h
  have hh := hM.has s
  clear hs hD hM h
  cases hl : look L s with
  | some x =>
    rw [hl] at hh
    have HH := Lib.hid hh
    clear hh hl
    simp only [Option.isSome_some, if_true]
    go_enter Tryz.func193, Tryz.ntmps193
    go_wp2_with (at_lookup; refine wpList_lookup_own_ok_int _ rfl _ _ 171 rfl 3 2 .i64 lawK Tryz.underlying171 Tryz.underlying2 (zeroE _) m _ D rfl HD.out _ (key s) rfl (keyOf_int_mk Tryz.underlying3 HS.out) ?_; intro c hat hwc; rw [HH.out]; clear hat hwc)
    go_ret
    exact ⟨rfl, H.out, But.refl _ _ _⟩
  | none =>
    have HL := Lib.hid hl
    rw [hl] at hh
    have HH := Lib.hid hh
    clear hh hl
    simp only [Option.isSome_none, Bool.false_eq_true, if_false]
    go_enter Tryz.func193, Tryz.ntmps193
    go_wp2_with (first
      | (at_lookup; refine wpList_lookup_own_ok_int _ rfl _ _ 171 rfl 3 2 .i64 lawK Tryz.underlying171 Tryz.underlying2 (zeroE _) m _ D rfl HD.out _ (key s) rfl (keyOf_int_mk Tryz.underlying3 HS.out) ?_; intro c hat hwc; rw [HH.out]; clear hat hwc)
      | (at_mapUpdate; refine wpList_mapUpdate_own _ rfl _ _ _ 171 rfl 3 2 lawK Tryz.underlying171 _ m _ D rfl HD.out (by unfold maxLen; omega) _ _ (key s) rfl rfl (keyOf_int_mk Tryz.underlying3 HS.out) (wnum 0) [] (plainElem_int Tryz.underlying2 (by decide)) ?_; intro w1 hown1 hgrow1))
    go_ret
    have hb := But.grown (g := g) hgrow1
    have hlt := H.out.lt
    refine ⟨rfl, ⟨(hb_g H.out hgrow1), H.out.ne, once_put H.out.once s 0, _, ?_, HM.out.put (HD.out.tidy lawK) s 0⟩, hb⟩
    have := tight hown1
    rw [(HM.out.put (HD.out.tidy lawK) s 0).size] at this
    exact this
end Go.Proofs.YtpkmciohehaboaaGreatDoor

/- The walks of window.Shut, Room, Spend, Grow. -/
namespace Go.Proofs.YtpkmciohehaboaaGreatDoor
open Go.RowKit Go.Maps

end Go.Proofs.YtpkmciohehaboaaGreatDoor

/- The walk of window.Grow. -/
namespace Go.Proofs.YtpkmciohehaboaaGreatDoor
open Go.RowKit Go.Maps

end Go.Proofs.YtpkmciohehaboaaGreatDoor

/- Things that lie beside one another in memory: each with its blocks; what turns one leaves the others. -/
namespace Go.Proofs.YtpkmciohehaboaaGreatDoor
open Go.RowKit Go.Maps

/-- A thing in memory: its blocks; what holds of it, which hangs on them alone. -/
structure Comp where
  F : Nat → Prop
  P : World → Prop
  lt : ∀ w, P w → ∀ b, F b → b < w.heap.size
  loc : ∀ w w', (∀ b, F b → w'.heap[b]? = w.heap[b]?) → P w → P w'
/-- They lie in w, apart from one another, none below B. -/
structure All (B : Nat) (w : World) (cs : List Comp) : Prop where
  here : ∀ c ∈ cs, c.P w
  apart : cs.Pairwise fun a b => ∀ x, a.F x → ¬ b.F x
  base : ∀ c ∈ cs, ∀ b, c.F b → B ≤ b
  sz : B ≤ w.heap.size
section
variable {B : Nat} {w w' : World} {c c' : Comp} {cs pre post : List Comp}
theorem All.head (h : All B w (c :: cs)) : c.P w := h.here c (List.mem_cons_self ..)
theorem All.below (h : All B w cs) (hb : Below w.heap.size w w') : All B w' cs :=
  ⟨fun c hc => c.loc w w' (fun b hF => hb.block b (c.lt w (h.here c hc) b hF)) (h.here c hc), h.apart, h.base, Nat.le_trans h.sz hb.size⟩
theorem All.step (h : All B w (c :: cs)) (hk : Kept c.F w w') (hg : Grew w c.F c'.F) (hp : c'.P w') : All B w' (c' :: cs) := by
  obtain ⟨h1, h2⟩ := List.pairwise_cons.1 h.apart
  refine ⟨fun d hd => ?_, List.pairwise_cons.2 ⟨fun d hd x hx hdx => ?_, h2⟩, fun d hd b hF => ?_, Nat.le_trans h.sz hk.size⟩
  · rcases List.mem_cons.1 hd with rfl | hd
    · exact hp
    · have hdp := h.here d (List.mem_cons_of_mem _ hd)
      exact d.loc w w' (fun b hF => hk.block b (d.lt w hdp b hF) (fun hc => h1 d hd b hc hF)) hdp
  · have hdp := h.here d (List.mem_cons_of_mem _ hd)
    rcases hg x hx with hx | hx
    · exact h1 d hd x hx hdx
    · have := d.lt w hdp x hdx; omega
  · rcases List.mem_cons.1 hd with rfl | hd
    · rcases hg b hF with hb | hb
      · exact h.base c (List.mem_cons_self ..) b hb
      · exact Nat.le_trans h.sz hb
    · exact h.base d (List.mem_cons_of_mem _ hd) b hF
theorem All.kept (h : All B w (c :: cs)) (hk : Kept c.F w w') : Below B w w' := hk.below (fun b hb => h.base c (List.mem_cons_self ..) b hb) h.sz
theorem All.pick (pre : List Comp) (h : All B w (pre ++ c :: post)) : All B w (c :: (pre ++ post)) :=
  have hp : (pre ++ c :: post).Perm (c :: (pre ++ post)) := List.perm_middle
  ⟨fun d hd => h.here d (hp.mem_iff.2 hd), (hp.pairwise_iff (fun hab x h1 h2 => hab x h2 h1)).1 h.apart, fun d hd => h.base d (hp.mem_iff.2 hd), h.sz⟩
theorem All.put (pre : List Comp) (h : All B w (c :: (pre ++ post))) : All B w (pre ++ c :: post) :=
  have hp : (c :: (pre ++ post)).Perm (pre ++ c :: post) := List.perm_middle.symm
  ⟨fun d hd => h.here d (hp.mem_iff.2 hd), (hp.pairwise_iff (fun hab x h1 h2 => hab x h2 h1)).1 h.apart, fun d hd => h.base d (hp.mem_iff.2 hd), h.sz⟩
theorem All.new (h : All B w cs) (hb : Below w.heap.size w w') (hp : c'.P w') (hf : ∀ b, c'.F b → w.heap.size ≤ b) : All B w' (c' :: cs) := by
  have h2 := h.below hb
  refine ⟨fun d hd => ?_, List.pairwise_cons.2 ⟨fun d hd x hx hdx => ?_, h.apart⟩, fun d hd b hF => ?_, h2.sz⟩
  · rcases List.mem_cons.1 hd with rfl | hd
    · exact hp
    · exact h2.here d hd
  · have := d.lt w (h.here d hd) x hdx
    have := hf x hx
    omega
  · rcases List.mem_cons.1 hd with rfl | hd
    · exact Nat.le_trans h.sz (hf b hF)
    · exact h.base d hd b hF
theorem All.nil (w : World) : All w.heap.size w [] := ⟨fun _ h => (by cases h), List.Pairwise.nil, fun _ h => (by cases h), Nat.le_refl _⟩
theorem All.tail (h : All B w (c :: cs)) : All B w cs := ⟨fun d hd => h.here d (List.mem_cons_of_mem _ hd), (List.pairwise_cons.1 h.apart).2, fun d hd => h.base d (List.mem_cons_of_mem _ hd), h.sz⟩
theorem All.same (h : All B w (c :: cs)) (hF : ∀ b, c'.F b → c.F b) (hp : c'.P w) : All B w (c' :: cs) := h.step (Kept.refl _ w) (fun b hb => .inl (hF b hb)) hp
end
/-- A block of cells. -/
def cBlk (p : Nat) (cs : Array Value) (t : TypeId) : Comp where
  F := fun b => b = p
  P := fun w => w.heap[p]? = some (.cells cs t (0, 0))
  lt := fun w h b hb => by subst hb; exact (Array.getElem?_eq_some_iff.1 h).1
  loc := fun w w' hk h => (hk p rfl).trans h
/-- An own row. -/
def cRow (t : TypeId) (size : Nat) (v : Value) (n : Nat) (xs : List Value) : Comp where
  F := fun b => v.ownBlock = some b
  P := fun w => w.ownsRow 0 t size v n xs
  lt := fun _ h b hb => (World.ownsRow.lt h b hb).2
  loc := fun _ _ hk h => by
    rcases h with ⟨hl, h0 | ⟨g, cap, cur, hv, hg, hb, h3⟩⟩
    · exact ⟨hl, .inl h0⟩
    · exact ⟨hl, .inr ⟨g, cap, cur, hv, hg, (hk g (by rw [hv]; rfl)).trans hb, h3⟩⟩
/-- A map. -/
def cMap {κ ε : Type} (M : MK κ ε) (mb N : Nat) (f : κ → Option ε) (n : Nat) : Comp where
  F := fun b => b = mb
  P := fun w => GMap M w mb N f n
  lt := fun w h b hb => by subst hb; exact h.lt
  loc := fun w w' hk h => h.keep (hk mb rfl)
/-- A decoder. -/
def cDec (d : Nat) (G : Nat → Prop) (N : Nat) (mo li : Int) (T : Tb) (br : Bool) : Comp where
  F := G
  P := fun w => DecIs w d G N mo li T br
  lt := fun _ h b hb => h.lt b hb
  loc := fun _ _ hk h => h.keep hk
/-- A book of windows. -/
def cBook (g m : Nat) (all first : Int) (L : List (Int × Int)) : Comp where
  F := fun b => b = g ∨ b = m
  P := fun w => WB w g m all first L
  lt := fun w h b hb => by
    obtain ⟨h1, h2⟩ := h.lt
    rcases hb with rfl | rfl
    · exact h1
    · exact h2
  loc := fun w w' hk h => h.keep (hk g (.inl rfl)) (hk m (.inr rfl))
/-- A row grew. -/
theorem All.app {B : Nat} {w w' : World} {cs : List Comp} {t : TypeId} {size : Nat} {v v' : Value} {n n' : Nat} {xs xs' : List Value} (h : All B w (cRow t size v n xs :: cs)) (hown : w'.ownsRow 0 t size v' n' xs') (hg : w.grownBy w' v.ownBlock) (hb : v'.ownBlock = v.ownBlock ∨ v'.ownBlock = some w.heap.size) :
    All B w' (cRow t size v' n' xs' :: cs) ∧ Below B w w' := by
  have hk : Kept (cRow t size v n xs).F w w' := (Kept.refl (fun b => v.ownBlock = some b) w).grown hg (fun k hk => .inl hk)
  refine ⟨h.step hk (fun b hb' => ?_) hown, h.kept hk⟩
  have hb2 : v'.ownBlock = some b := hb'
  rcases hb with hb | hb
  · exact .inl (hb.symm.trans hb2)
  · rw [hb] at hb2; injection hb2 with hb2; exact .inr (by omega)
/-- A cell of a block was set. -/
theorem All.set {B : Nat} {w : World} {cs : List Comp} {p : Nat} {c : Array Value} {t : TypeId} (h : All B w (cBlk p c t :: cs)) (o : Nat) (v : Value) :
    All B (w.setCell ⟨p, o, none⟩ v) (cBlk p (c.setIfInBounds o v) t :: cs) ∧ Below B w (w.setCell ⟨p, o, none⟩ v) := by
  have hk : Kept (cBlk p c t).F w (w.setCell ⟨p, o, none⟩ v) := (Kept.refl (fun b => b = p) w).setCell rfl o v
  exact ⟨h.step (c' := cBlk p (c.setIfInBounds o v) t) hk (fun b hb => .inl hb) (set_b7 v h.head), h.kept hk⟩
end Go.Proofs.YtpkmciohehaboaaGreatDoor

/- The gateway's frames of control (settings, RstStream, GoAway, WindowUpdate): the walks of frame.bare, frame.may. -/
namespace Go.Proofs.YtpkmciohehaboaaGreatDoor
open Go.RowKit

/-- A frame of control. -/
structure Ct where
  ty : Nat
  fl : Nat
  st : Nat
  A : Option Addr
  n : Nat
  c : Nat
  code : Nat
  last : Nat
  inc : Nat
def Ct.cells (f : Ct) : Array Value := #[.int .i64 f.ty, .int .i64 f.fl, .int .i64 f.st, .string ⟨#[]⟩, .int .i64 0, .slice f.A f.n f.c, .int .i64 f.code, .int .i64 f.last, .int .i64 f.inc, .int .i64 0, .int .i64 0, .bool false]
def ctV (f : Ct) : Value := .agg f.cells
def CtNo (f : Ct) : Prop := f.A = none ∧ f.n = 0 ∧ f.c = 0
def CtK (f : Ct) : Prop := (f.ty = 3 ∧ CtNo f ∧ f.last = 0 ∧ f.inc = 0) ∨ (f.ty = 4 ∧ f.code = 0 ∧ f.last = 0 ∧ f.inc = 0) ∨ (f.ty = 7 ∧ CtNo f ∧ f.inc = 0) ∨ (f.ty = 8 ∧ CtNo f ∧ f.code = 0 ∧ f.last = 0)
/-- The settings, as cells. -/
def setsL (ss : List (Nat × Nat)) : List Value := ss.flatMap fun s => [.int .i64 (s.1 : Int), .int .i64 (s.2 : Int)]
structure CtOk (f : Ct) (ss : List (Nat × Nat)) : Prop where
  k : CtK f
  fl : f.fl = 0 ∨ f.fl = 1
  st : f.st ≤ 2147483647
  code : f.code ≤ 4294967295
  last : f.last ≤ 2147483647
  inc : f.inc ≤ 2147483647
  n : f.n ≤ 100
  len : ss.length = f.n
  ss : ∀ s ∈ ss, s.1 ≤ 65535 ∧ s.2 ≤ 4294967295
set_option maxRecDepth 100000 in
set_option maxHeartbeats 4000000 in
theorem bare_ct (f : Ct) (w : World) (hk : CtK f) (hfl : f.fl = 0 ∨ f.fl = 1) :
    Calls Tryz.prog 152 #[ctV f] w fun e w' => e = .returned (frV ⟨f.ty, f.fl, f.st, ⟨#[]⟩, 0⟩) ∧ Below w.heap.size w w' := by
  obtain ⟨ty, fl, st, A, n, c, code, last, inc⟩ := f
  unfold CtK CtNo at hk
  dsimp only at hk hfl
  unfold ctV frV
  simp only [Ct.cells, Fr.cells, Int.natCast_zero]
  rcases hk with ⟨rfl, ⟨rfl, rfl, rfl⟩, rfl, rfl⟩ | ⟨rfl, rfl, rfl, rfl⟩ | ⟨rfl, ⟨rfl, rfl, rfl⟩, rfl⟩ | ⟨rfl, ⟨rfl, rfl, rfl⟩, rfl, rfl⟩
  all_goals
    rcases hfl with rfl | rfl
    all_goals
      go_enter Tryz.func152, Tryz.ntmps152
      go_wp2_with fail
      refine bodyPost_ret (results_cell_row rfl _ _ (w.heap.size + 1) 52 _ (0, 0) _ rfl (heapNew2 _ _ _) Tryz.underlying52 rfl infoFrame) rfl ?_
      exact ⟨rfl, ((Below.refl _ _).alloc (Nat.le_refl _) _).alloc (by simp) _⟩
end Go.Proofs.YtpkmciohehaboaaGreatDoor

/- The walk of frame.may on frames of control. -/
namespace Go.Proofs.YtpkmciohehaboaaGreatDoor
open Go.RowKit

theorem setsL_length (ss : List (Nat × Nat)) : (setsL ss).length = 2 * ss.length := by
  unfold setsL
  induction ss with
  | nil => rfl
  | cons s r ih => simp [ih]; omega
theorem setsL_get : ∀ {ss : List (Nat × Nat)} {k : Nat} {s : Nat × Nat}, ss[k]? = some s → (setsL ss)[k * 2]? = some (.int .i64 (s.1 : Int)) ∧ (setsL ss)[k * 2 + 1]? = some (.int .i64 (s.2 : Int))
  | [], k, s, h => by cases h
  | x :: r, 0, s, h => by
    injection h with h
    subst h
    exact ⟨rfl, rfl⟩
  | x :: r, k + 1, s, h => by
    have := setsL_get (ss := r) (k := k) (s := s) (by simpa using h)
    have e : setsL (x :: r) = .int .i64 (x.1 : Int) :: .int .i64 (x.2 : Int) :: setsL r := rfl
    rw [e, show (k + 1) * 2 = k * 2 + 2 by omega, show k * 2 + 2 + 1 = (k * 2 + 1) + 2 by omega]
    simpa using this
theorem set_at {w : World} {B n : Nat} {A : Option Addr} {ss : List (Nat × Nat)} (h : Rd w B 2 A n (setsL ss)) (hn : 0 < n) : ss.length = n ∧ ∃ b o, A = some ⟨b, o, none⟩ ∧ b < B ∧ ∀ j s, ss[j]? = some s → w.cell? ⟨b, o + j * 2, none⟩ = some (.int .i64 (s.1 : Int)) ∧ w.cell? ⟨b, o + j * 2 + 1, none⟩ = some (.int .i64 (s.2 : Int)) := by
  have hl := h.1
  rw [setsL_length] at hl
  obtain ⟨b, o, hA, hb, hc⟩ := h.2 (by omega)
  refine ⟨by omega, b, o, hA, hb, fun j s hs => ?_⟩
  obtain ⟨h1, h2⟩ := setsL_get hs
  have hj := (List.getElem?_eq_some_iff.1 hs).1
  exact ⟨(hc (j * 2) (by omega)).trans h1, by rw [Nat.add_assoc]; exact (hc (j * 2 + 1) (by omega)).trans h2⟩
/-- A frame of control in block x. -/
structure CtAt (w : World) (x : Nat) (f : Ct) : Prop where
  blk : w.heap[x]? = some (.cells f.cells 52 (0, 0))
theorem CtAt.lt {w : World} {x : Nat} {f : Ct} (h : CtAt w x f) : x < w.heap.size := (Array.getElem?_eq_some_iff.1 h.blk).1
theorem CtAt.below {w w' : World} {x : Nat} {f : Ct} (h : CtAt w x f) (hb : Below w.heap.size w w') : CtAt w' x f := ⟨(hb.block x h.lt).trans h.blk⟩
theorem CtAt.cells {w : World} {x : Nat} {f : Ct} (h : CtAt w x f) : w.cell? ⟨x, 0, none⟩ = some (.int .i64 f.ty) ∧ w.cell? ⟨x, 1, none⟩ = some (.int .i64 f.fl) ∧ w.cell? ⟨x, 2, none⟩ = some (.int .i64 f.st) ∧ w.cell? ⟨x, 3, none⟩ = some (.string ⟨#[]⟩) ∧ w.cell? ⟨x, 4, none⟩ = some (.int .i64 0) ∧ w.cell? ⟨x, 5, none⟩ = some (.slice f.A f.n f.c) ∧
    w.cell? ⟨x, 6, none⟩ = some (.int .i64 f.code) ∧ w.cell? ⟨x, 7, none⟩ = some (.int .i64 f.last) ∧ w.cell? ⟨x, 8, none⟩ = some (.int .i64 f.inc) ∧ w.cell? ⟨x, 9, none⟩ = some (.int .i64 0) ∧ w.cell? ⟨x, 10, none⟩ = some (.int .i64 0) ∧ w.cell? ⟨x, 11, none⟩ = some (.bool false) := by
  refine ⟨?_, ?_, ?_, ?_, ?_, ?_, ?_, ?_, ?_, ?_, ?_, ?_⟩ <;> (unfold World.cell?; rw [h.blk]; rfl)
def McRel (W : World) (n : Nat) (iv : Value) (wr : World) : Prop := ∃ k : Nat, iv = .int .i64 (k : Nat) ∧ k ≤ n ∧ Below W.heap.size W wr
set_option maxRecDepth 100000 in
set_option maxHeartbeats 8000000 in
theorem may_ct (f : Ct) (ss : List (Nat × Nat)) (w : World) (hf : CtOk f ss) (hr : Rd w w.heap.size 2 f.A f.n (setsL ss)) :
    Calls Tryz.prog 123 #[ctV f] w fun e w' => e = .returned (.bool true) ∧ Below w.heap.size w w' := by
  have HBA := Lib.hid (fun w => bare_ct f w hf.k hf.fl)
  have HEM := Lib.hid (fun w => empty_any ⟨f.ty, f.fl, f.st, ⟨#[]⟩, 0⟩ w rfl rfl)
  have hty : f.ty ≤ 8 := by have := hf.k; unfold CtK at this; omega
  have HT := Lib.hid hf
  obtain ⟨W0, hW0⟩ : ∃ W0, w.alloc (.cells f.cells 52) = W0 := ⟨_, rfl⟩
  obtain ⟨x, hx⟩ : ∃ x, w.heap.size = x := ⟨_, rfl⟩
  have b0 : Below w.heap.size w W0 := by rw [← hW0]; exact (Below.refl _ _).alloc (Nat.le_refl _) _
  have kx : CtAt W0 x f := ⟨by rw [← hW0, ← hx]; exact heapNew _ _⟩
  have HS := Lib.hid ((hr.below b0 (Nat.le_refl _)).more b0.size)
  have hn := hf.n
  have hss := hf.ss
  have HSS := Lib.hid hss
  have HX := Lib.hid hx
  have HB := Lib.hid b0
  have HK := Lib.hid kx
  have HTY := Lib.hid hty
  clear hx b0 kx hf hr hss hty
  obtain ⟨ty, fl, st, A, n, c, code, last, inc⟩ := f
  unfold ctV frV at *
  simp only [Ct.cells, Fr.cells] at *
  have HW0 := Lib.hid hW0
  clear hW0
  obtain ⟨c0, c1, c2, c3, c4, c5, c6, c7, c8, c9, c10, c11⟩ := HK.out.cells
  simp only at c0 c1 c2 c5 c6 c7 c8
  have hxl := HK.out.lt
  go_enter Tryz.func123, Tryz.ntmps123
  go_upto_region 1 with fail
  rw [HW0.out, HX.out]
  go_wp2_with fail
  go_loopw [4, 8] (fun _ iv wr => McRel W0 n iv wr) (fun _ iv _ => n - (intOf iv).toNat)
  case atStart => exact ⟨0, rfl, Nat.zero_le _, Below.refl _ _⟩
  case round =>
    obtain ⟨k, rfl, hk, hb⟩ := hrel
    have HBR := Lib.hid hb
    have hsr := hb.size
    by_cases hlt : k < n
    · obtain ⟨hl, b, o, rfl, hbl, hc⟩ := set_at (HS.out.below hb (Nat.le_refl _)) (by omega)
      obtain ⟨s, hs⟩ : ∃ s, ss[k]? = some s := ⟨_, List.getElem?_eq_getElem (by omega)⟩
      obtain ⟨z0, z1⟩ := hc k s hs
      obtain ⟨hs1, hs2⟩ := HSS.out s (List.mem_of_getElem? hs)
      have n1 : (k : Int) < n := by omega
      have hbw : b < wr.heap.size := by omega
      clear hc hs hb hl
      go_wp2_with fail
      refine (within_any (xs := [(s.1 : Int)]) 65535 _ (Rd.lit2 _ _ _ 1 (k := wr.heap.size + 1) (by simp) rfl) (by omega) (by
        intro x hx
        simp only [List.mem_cons, List.not_mem_nil, or_false] at hx
        subst hx; omega)).mono ?_
      rintro e1 w1 ⟨rfl, rfl⟩
      go_wp2_with fail
      refine (within_any (xs := [(s.2 : Int)]) 4294967295 _ (Rd.lit2 _ _ _ 1 (k := wr.heap.size + 1 + 1) (by simp) rfl) (by omega) (by
        intro x hx
        simp only [List.mem_cons, List.not_mem_nil, or_false] at hx
        subst hx; omega)).mono ?_
      rintro e1 w1 ⟨rfl, rfl⟩
      go_wp2_with fail
      go_roundw
      case rel => exact ⟨k + 1, by go_num, hlt, ((HBR.out.alloc hsr _).alloc (by simp; omega) _).alloc (by simp; omega) _⟩
      case measure => simp [intOf]; omega
    · have hkn : k = n := by omega
      have HK2 := Lib.hid (HK.out.below hb)
      clear hb c0 c1 c2 c3 c4 c5 c6 c7 c8 c9 c10 c11
      obtain ⟨c0, c1, c2, c3, c4, c5, c6, c7, c8, c9, c10, c11⟩ := HK2.out.cells
      simp only at c0 c1 c2 c5 c6 c7 c8
      have hxl2 := HK2.out.lt
      go_wp2_with fail
      refine (within_any (xs := [(ty : Int), (fl : Int), 0, 0]) 255 _ (Rd.lit wr _ _ 4 rfl) (by omega) (by
        have h1 := HTY.out
        have h2 := HT.out.fl
        simp only at h2
        intro x hx
        simp only [List.mem_cons, List.not_mem_nil, or_false] at hx
        rcases hx with rfl | rfl | rfl | rfl <;> omega)).mono ?_
      rintro e1 w1 ⟨rfl, rfl⟩
      go_wp2_with fail
      refine (within_any (xs := [(st : Int), (last : Int), 0, (inc : Int)]) 2147483647 _ (Rd.lit2 _ _ _ 4 (k := wr.heap.size + 1) (by simp) rfl) (by omega) (by
        have h1 := HT.out.st
        have h2 := HT.out.last
        have h3 := HT.out.inc
        simp only at h1 h2 h3
        intro x hx
        simp only [List.mem_cons, List.not_mem_nil, or_false] at hx
        rcases hx with rfl | rfl | rfl | rfl <;> omega)).mono ?_
      rintro e1 w1 ⟨rfl, rfl⟩
      go_wp2_with fail
      refine calls_named ?_
      intro W3 hW3
      have b3 : Below wr.heap.size wr W3 := by rw [hW3]; exact ((((Below.refl _ wr).alloc (Nat.le_refl _) _).alloc (by simp) _).alloc (by simp; omega) _)
      have hr3 : Rd W3 W3.heap.size 1 (some ⟨wr.heap.size + 1 + 1, 0, none⟩) 1 (i64l [(code : Int)]) := by rw [hW3]; exact (Rd.lit2 _ _ _ 1 (k := wr.heap.size + 1 + 1) (by simp) rfl).more (by simp)
      have HK3 := Lib.hid (HK2.out.below b3)
      have HB3 := Lib.hid (HB.out.trans ((HBR.out.trans (b3.mono hsr)).mono HB.out.size))
      clear hW3 b3 c0 c1 c2 c3 c4 c5 c6 c7 c8 c9 c10 c11
      obtain ⟨c0, c1, c2, c3, c4, c5, c6, c7, c8, c9, c10, c11⟩ := HK3.out.cells
      simp only at c0 c1 c2 c5 c6 c7 c8
      refine (within_any (xs := [(code : Int)]) 4294967295 _ hr3 (by omega) (by
        have h1 := HT.out.code
        simp only at h1
        intro x hx
        simp only [List.mem_cons, List.not_mem_nil, or_false] at hx
        subst hx; omega)).mono ?_
      rintro e1 w1 ⟨rfl, rfl⟩
      go_wp2_with fail
      refine (HBA.out _).mono ?_
      rintro e1 w1 ⟨rfl, hb1⟩
      have HB1 := Lib.hid (HB3.out.trans (hb1.mono HB3.out.size))
      clear hb1 c0 c1 c2 c3 c4 c5 c6 c7 c8 c9 c10 c11 hr3
      go_wp2_with fail
      refine (HEM.out _).mono ?_
      rintro e1 w2 ⟨rfl, hb2⟩
      have HB2 := Lib.hid (HB1.out.trans (hb2.mono HB1.out.size))
      clear hb2
      go_wp2_with fail
      go_ret
      exact ⟨rfl, HB2.out⟩
end Go.Proofs.YtpkmciohehaboaaGreatDoor

/- The walk of frame.payload on frames of settings (its region printed by gen_sp3.py). -/
namespace Go.Proofs.YtpkmciohehaboaaGreatDoor
open Go.RowKit

/-- Within a round: the bytes so far; the setting's box in block q. -/
structure PyQ (W : World) (q : Nat) (s : Nat × Nat) (v : Value) (l : List UInt8) (w : World) : Prop where
  own : OwnB w W.heap.size v l
  kp : Below W.heap.size W w
  box : w.heap[q]? = some (.cells #[.int .i64 (s.1 : Int), .int .i64 (s.2 : Int)] 109 (0, 0))
  wq : W.heap.size ≤ q
  ne : v.ownBlock ≠ some q
section
variable {W w w' : World} {q : Nat} {s : Nat × Nat} {v v3 : Value} {l k : List UInt8}
theorem PyQ.ql (h : PyQ W q s v l w) : q < w.heap.size := (Array.getElem?_eq_some_iff.1 h.box).1
theorem PyQ.below (h : PyQ W q s v l w) (hb : Below w.heap.size w w') : PyQ W q s v l w' :=
  ⟨own_kept4 h.own (Kept.of_below (F := fun _ => False) hb) (fun _ _ h => h), h.kp.trans (hb.mono h.kp.size), (hb.block q h.ql).trans h.box, h.wq, h.ne⟩
theorem PyQ.app (h : PyQ W q s v l w) (hown : w'.ownsRow W.heap.size 5 1 v3 (l.length + k.length) (bvs l ++ bvs k)) (hg : w.grownBy w' v.ownBlock) (hb : v3.ownBlock = v.ownBlock ∨ v3.ownBlock = some w.heap.size) : PyQ W q s v3 (l ++ k) w' where
  own := by unfold OwnB; rw [List.length_append, bvs_append]; exact hown
  kp := Below.app h.kp h.own hg (Nat.le_refl _) h.kp.size
  box := (hg.block q h.ql (fun e1 => h.ne e1.symm)).trans h.box
  wq := h.wq
  ne := by
    rcases hb with hb | hb
    · rw [hb]; exact h.ne
    · rw [hb]; intro e1; injection e1 with e1; have := h.ql; omega
theorem PyQ.cells (h : PyQ W q s v l w) : w.cell? ⟨q, 0, none⟩ = some (.int .i64 (s.1 : Int)) ∧ w.cell? ⟨q, 1, none⟩ = some (.int .i64 (s.2 : Int)) := by
  constructor <;> (unfold World.cell?; rw [h.box]; rfl)
end
def PsRel (W : World) (n : Nat) (ov iv : Value) (wr : World) : Prop := ∃ (k : Nat) (l : List UInt8), iv = .int .i64 (k : Nat) ∧ k ≤ n ∧ OwnB wr W.heap.size ov l ∧ l.length = 6 * k ∧ Below W.heap.size W wr
/-- Some bytes, at most so many. -/
def RetS (W : World) (m : Nat) (e : Ending) (w' : World) : Prop := ∃ l v, e = .returned v ∧ l.length ≤ m ∧ OwnB w' W.heap.size v l ∧ Below W.heap.size W w'
set_option maxRecDepth 100000 in
set_option maxHeartbeats 8000000 in
theorem payload_set (f : Ct) (ss : List (Nat × Nat)) (w : World) (hf : CtOk f ss) (h4 : f.ty = 4) (hr : Rd w w.heap.size 2 f.A f.n (setsL ss)) :
    Calls Tryz.prog 124 #[ctV f] w (RetS w (6 * f.n)) := by
  obtain ⟨W0, hW0⟩ : ∃ W0, w.alloc (.cells f.cells 52) = W0 := ⟨_, rfl⟩
  obtain ⟨x, hx⟩ : ∃ x, w.heap.size = x := ⟨_, rfl⟩
  have b0 : Below w.heap.size w W0 := by rw [← hW0]; exact (Below.refl _ _).alloc (Nat.le_refl _) _
  have kx : CtAt W0 x f := ⟨by rw [← hW0, ← hx]; exact heapNew _ _⟩
  have HS := Lib.hid ((hr.below b0 (Nat.le_refl _)).more b0.size)
  have hn := hf.n
  have HSS := Lib.hid hf.ss
  have HX := Lib.hid hx
  have HB := Lib.hid b0
  have HK := Lib.hid kx
  clear hx b0 kx hf hr
  obtain ⟨ty, fl, st, A, n, c, code, last, inc⟩ := f
  dsimp only at h4
  have t0 : ((ty : Int) == 0) = false := by rw [h4]; rfl
  have t1 : ((ty : Int) == 1) = false := by rw [h4]; rfl
  have t2 : ((ty : Int) == 2) = false := by rw [h4]; rfl
  have t3 : ((ty : Int) == 3) = false := by rw [h4]; rfl
  have t4 : ((ty : Int) == 4) = true := by rw [h4]; rfl
  clear h4
  unfold ctV at *
  simp only [Ct.cells] at *
  have HW0 := Lib.hid hW0
  clear hW0
  obtain ⟨c0, c1, c2, c3, c4, c5, c6, c7, c8, c9, c10, c11⟩ := HK.out.cells
  simp only at c0 c1 c2 c5 c6 c7 c8
  have hxl := HK.out.lt
  go_enter Tryz.func124, Tryz.ntmps124
  go_upto_region 1 with fail
  refine wp_named ?_
  intro W3 hW3
  obtain rfl : W3 = W0 := hW3.trans HW0.out
  rw [HX.out]
  clear hW3
  go_wp2_with fail
  go_loopw [3, 55] (fun ov iv wr => PsRel W3 n ov iv wr) (fun _ iv _ => n - (intOf iv).toNat)
  case atStart => exact ⟨0, [], rfl, Nat.zero_le _, World.ownsRow_nil _ _ _ _, rfl, Below.refl _ _⟩
  case round =>
    obtain ⟨k, l, rfl, hk, ho, hl6, hb⟩ := hrel
    have HBR := Lib.hid hb
    have HO := Lib.hid ho
    have hsr := hb.size
    by_cases hlt : k < n
    · obtain ⟨hl, b, o, rfl, hbl, hc⟩ := set_at (HS.out.below hb (Nat.le_refl _)) (by omega)
      obtain ⟨s, hs⟩ : ∃ s, ss[k]? = some s := ⟨_, List.getElem?_eq_getElem (by omega)⟩
      obtain ⟨z0, z1⟩ := hc k s hs
      obtain ⟨hs1, hs2⟩ := HSS.out s (List.mem_of_getElem? hs)
      have n1 : (k : Int) < n := by omega
      have hbw : b < wr.heap.size := by omega
      clear hc hs hb hl ho
      go_wp2_with fail
      obtain ⟨q, hq⟩ : ∃ q, wr.heap.size = q := ⟨_, rfl⟩
      have HQ : Hid (PyQ W3 q s u3 l (wr.alloc (.cells #[.int .i64 (s.1 : Int), .int .i64 (s.2 : Int)] 109))) := Lib.hid ⟨own_kept4 HO.out ((Kept.refl (fun _ => False) wr).alloc _) (fun _ _ h => h), HBR.out.alloc hsr _, by rw [← hq]; exact heapNew _ _, by omega, fun e1 => by have := (World.ownsRow.lt HO.out q e1).2; omega⟩
      have HVL : Hid (∀ b, u3.ownBlock = some b → b < q) := Lib.hid (fun b hb => by have := (World.ownsRow.lt HO.out b hb).2; omega)
      have hwq : (wr.alloc (.cells #[.int .i64 (s.1 : Int), .int .i64 (s.2 : Int)] 109)).heap.size = q + 1 := by simp [hq]
      rw [hq]
      generalize (wr.alloc (.cells #[.int .i64 (s.1 : Int), .int .i64 (s.2 : Int)] 109)) = wq at *
      have HQD : Hid (PyQ W3 q s u3 l wq.drew) := Lib.hid (HQ.out.below (by exact ⟨rfl, rfl, rfl, Nat.le_refl _, fun _ _ => rfl⟩))
      have hwd : wq.drew.heap.size = q + 1 := hwq
      have ew1 : IntKind.u32.wrap (s.1 : Int) = s.1 := by rw [IntKind.wrap_u32]; omega
      have HPU : Hid (∀ w, Calls Tryz.prog 125 #[.int .u32 (s.1 : Int), .int .i64 2] w (RetB w (be 2 s.1))) := Lib.hid fun w => oput_any s.1 2 w (by omega) (by omega) (by omega)
      have HFO : Hid (∀ w, Calls Tryz.prog 126 #[.int .i64 (s.2 : Int)] w (RetB w (be 4 s.2))) := Lib.hid fun w => four_any s.2 w (by omega)
      have HN : Hid (∀ v' w', PyQ W3 q s v' (l ++ be 2 s.1 ++ be 4 s.2) w' → PsRel W3 n v' (.int .i64 (k + 1 : Nat)) w') := Lib.hid (fun v' w' h => ⟨k + 1, _, rfl, hlt, h.own, by simp [be_length]; omega, h.kp⟩)
      clear z0 z1 hq hwq c0 c1 c2 c3 c4 c5 c6 c7 c8 c9 c10 c11
      --REGION18
      refine wp_region_held_drew (S := fun w' => w'.cell? ⟨q, 0, none⟩ = some (.int .i64 (s.1 : Int)) ∧ w'.cell? ⟨q, 1, none⟩ = some (.int .i64 (s.2 : Int))) (by kernel_rfl) (HQD.out.cells) (fun hHeld => ?_)
      refine wpAnyH_take (i := 0) (oi := ⟨some 59, _, _, _, _, _⟩) (v := ?_) rfl (by kernel_rfl) (by kernel_rfl) (by kernel_rfl) (fun _ _ _ h => h) (Or.inl ⟨by kernel_rfl, ?_⟩) hHeld ?_
      rotate_left
      · intro w hSw
        obtain ⟨h0, h1⟩ := hSw
        go_simp
        all_goals with_reducible rfl
      try simp only [Act.put, List.setIfInBounds_toArray, List.set_cons_zero, List.set_cons_succ]
      refine wpAnyH_take (i := 1) (oi := ⟨some 60, _, _, _, _, _⟩) (v := ?_) rfl (by kernel_rfl) (by kernel_rfl) (by kernel_rfl) (fun _ _ _ h => h) (Or.inl ⟨by kernel_rfl, ?_⟩) hHeld ?_
      rotate_left
      · intro w hSw
        obtain ⟨h0, h1⟩ := hSw
        go_simp
        all_goals with_reducible rfl
      try simp only [Act.put, List.setIfInBounds_toArray, List.set_cons_zero, List.set_cons_succ]
      refine wpAnyH_take (i := 2) (oi := ⟨some 61, _, _, _, _, _⟩) (v := ?_) rfl (by kernel_rfl) (by kernel_rfl) (by kernel_rfl) (fun _ _ _ h => h) (Or.inl ⟨by kernel_rfl, ?_⟩) hHeld ?_
      rotate_left
      · intro w hSw
        obtain ⟨h0, h1⟩ := hSw
        go_simp
        all_goals with_reducible rfl
      try simp only [Act.put, List.setIfInBounds_toArray, List.set_cons_zero, List.set_cons_succ]
      refine wpAnyH_take (i := 3) (oi := ⟨some 62, _, _, _, _, _⟩) (v := ?_) rfl (by kernel_rfl) (by kernel_rfl) (by kernel_rfl) (fun _ _ _ h => h) (Or.inl ⟨by kernel_rfl, ?_⟩) hHeld ?_
      rotate_left
      · intro w hSw
        obtain ⟨h0, h1⟩ := hSw
        go_simp
        all_goals with_reducible rfl
      try simp only [Act.put, List.setIfInBounds_toArray, List.set_cons_zero, List.set_cons_succ]
      refine wpAnyH_take (i := 6) (oi := ⟨some 65, _, _, _, _, _⟩) (v := ?_) rfl (by kernel_rfl) (by kernel_rfl) (by kernel_rfl) (fun _ _ _ h => h) (Or.inl ⟨by kernel_rfl, ?_⟩) hHeld ?_
      rotate_left
      · intro w hSw
        obtain ⟨h0, h1⟩ := hSw
        go_simp
        all_goals with_reducible rfl
      try simp only [Act.put, List.setIfInBounds_toArray, List.set_cons_zero, List.set_cons_succ]
      refine wpAnyH_take (i := 7) (oi := ⟨some 66, _, _, _, _, _⟩) (v := ?_) rfl (by kernel_rfl) (by kernel_rfl) (by kernel_rfl) (fun _ _ _ h => h) (Or.inl ⟨by kernel_rfl, ?_⟩) hHeld ?_
      rotate_left
      · intro w hSw
        obtain ⟨h0, h1⟩ := hSw
        go_simp
        all_goals with_reducible rfl
      try simp only [Act.put, List.setIfInBounds_toArray, List.set_cons_zero, List.set_cons_succ]
      refine wpAnyH_ready (rs := [4]) (by kernel_rfl) (by simp) ?_
      refine AllReadyH.cons (o := ⟨some 63, _, _, _, _, _⟩) rfl (fun K hK => ?_) AllReadyH.nil
      go_simp
      refine (HPU.out _).mono ?_
      rintro ev w1 ⟨v1, rfl, ho1, hb1⟩
      have HQ1 := Lib.hid (HQD.out.below hb1)
      obtain ⟨A1, c1', rfl, hr1⟩ := ho1.rd
      have HR1 := Lib.hid ho1
      have HBB1 := Lib.hid hb1
      have hsz1 := hb1.size
      rw [be_length] at hr1 ⊢
      have HRD1 := Lib.hid hr1
      clear ho1 hb1 hr1
      refine hK.out _ _ (HQ1.out.cells) (fun hHeld => ?_)
      clear hK K
      try simp only [Act.put, List.setIfInBounds_toArray, List.set_cons_zero, List.set_cons_succ]
      refine wpAnyH_ready (rs := [5]) (by kernel_rfl) (by simp) ?_
      refine AllReadyH.cons (o := ⟨some 64, _, _, _, _, _⟩) rfl (fun K hK => ?_) AllReadyH.nil
      refine step_app (.tmp 59) (.tmp 63) tBytes rfl rfl HQ1.out.own rfl (HRD1.out) rfl (bvs_one _) (le_maxLen (by omega)) (by omega) HQ1.out.kp.size ?_
      intro va2 w2 hown2 hg2 hbb2
      have HQ2 := Lib.hid (HQ1.out.app (k := be 2 s.1) (by rw [be_length]; exact hown2) hg2 hbb2)
      have HG2 := Lib.hid (And.intro hg2 hbb2)
      have hgs2 := hg2.size
      obtain ⟨Ax2, cx2, hv2, -, -, -, -⟩ := own_slice hown2
      subst hv2
      clear hown2 hg2 hbb2
      refine hK.out _ _ (HQ2.out.cells) (fun hHeld => ?_)
      clear hK K
      try simp only [Act.put, List.setIfInBounds_toArray, List.set_cons_zero, List.set_cons_succ]
      obtain ⟨L2, hL2⟩ : ∃ L2, l ++ be 2 s.1 = L2 := ⟨_, rfl⟩
      have hl2 : l.length + 2 = L2.length := by rw [← hL2, List.length_append, be_length]
      rw [hL2] at HQ2 HN
      rw [hl2] at HQ2 ⊢
      clear hL2
      refine wpAnyH_ready (rs := [8]) (by kernel_rfl) (by simp) ?_
      refine AllReadyH.cons (o := ⟨some 67, _, _, _, _, _⟩) rfl (fun K hK => ?_) AllReadyH.nil
      go_simp
      refine (HFO.out _).mono ?_
      rintro ev w3 ⟨v3, rfl, ho3, hb3⟩
      have HQ3 := Lib.hid (HQ2.out.below hb3)
      obtain ⟨A3, c3', rfl, hr3⟩ := ho3.rd
      have HR3 := Lib.hid ho3
      have HBB3 := Lib.hid hb3
      have hsz3 := hb3.size
      rw [be_length] at hr3 ⊢
      have HRD3 := Lib.hid hr3
      clear ho3 hb3 hr3
      refine hK.out _ _ (HQ3.out.cells) (fun hHeld => ?_)
      clear hK K
      try simp only [Act.put, List.setIfInBounds_toArray, List.set_cons_zero, List.set_cons_succ]
      refine wpAnyH_ready (rs := [9]) (by kernel_rfl) (by simp) ?_
      refine AllReadyH.cons (o := ⟨some 68, _, _, _, _, _⟩) rfl (fun K hK => ?_) AllReadyH.nil
      refine step_app (.tmp 64) (.tmp 67) tBytes rfl rfl HQ3.out.own rfl (HRD3.out) rfl (bvs_one _) (le_maxLen (by omega)) (by omega) HQ3.out.kp.size ?_
      intro va4 w4 hown4 hg4 hbb4
      have HQ4 := Lib.hid (HQ3.out.app (k := be 4 s.2) (by rw [be_length]; exact hown4) hg4 hbb4)
      have HG4 := Lib.hid (And.intro hg4 hbb4)
      have hgs4 := hg4.size
      obtain ⟨Ax4, cx4, hv4, -, -, -, -⟩ := own_slice hown4
      subst hv4
      clear hown4 hg4 hbb4
      refine hK.out _ _ (HQ4.out.cells) (fun hHeld => ?_)
      clear hK K
      try simp only [Act.put, List.setIfInBounds_toArray, List.set_cons_zero, List.set_cons_succ]
      refine wpAnyH_take (i := 10) (oi := ⟨some 3, _, _, _, _, _⟩) (v := ?_) rfl (by kernel_rfl) (by kernel_rfl) (by kernel_rfl) (fun _ _ _ h => h) (Or.inl ⟨by kernel_rfl, ?_⟩) hHeld ?_
      rotate_left
      · intro w hSw
        obtain ⟨h0, h1⟩ := hSw
        go_simp
        all_goals with_reducible rfl
      try simp only [Act.put, List.setIfInBounds_toArray, List.set_cons_zero, List.set_cons_succ]
      refine wpAnyH_done (by kernel_rfl) ?_ _
      have HEND := Lib.hid (HN.out _ _ HQ4.out)
      go_wp2_with fail
      go_roundw
      case rel => exact HEND.out
      case measure => simp [intOf]; omega
    · have hkn : k = n := by omega
      have HE : Hid (RetS w (6 * n) (.returned u3) wr) := Lib.hid ⟨l, u3, rfl, by omega, HO.out.base HB.out.size, HB.out.trans (HBR.out.mono HB.out.size)⟩
      obtain ⟨A9, c9', hv9, -, -, -, -⟩ := own_slice HO.out
      subst hv9
      clear hb ho
      go_wp2
      go_ret
      exact HE.out
end Go.Proofs.YtpkmciohehaboaaGreatDoor
