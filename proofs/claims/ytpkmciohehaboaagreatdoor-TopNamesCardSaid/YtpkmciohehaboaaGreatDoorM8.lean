/- 6 texts in one: Ox2, Ox3, Ox4, Ox5, Ox6, Ox7. -/
import Derived.Test.YtpkmciohehaboaaGreatDoorM7
import Derived.Lib.IndexAny
import Derived.Lib.SlicesS
import Derived.WideShapes
import Derived.Deep.Cut
import Derived.Deep.CutRange
import Derived.Deep.DeepCutAuto
import Derived.Deep.OwnRows
import Derived.Deep.QuietTactic
import Derived.BigQuiet
import Derived.Great.Walk
/- The walks of octet.Same, token, Token, Trim, Value. -/
namespace Go.Proofs.YtpkmciohehaboaaGreatDoor
open Go.RowKit

theorem lowL_inj_size {a b : List UInt8} (h : lowL a = lowL b) : a.length = b.length := by
  have := congrArg List.length h
  rwa [lowL_length, lowL_length] at this
def sameL (a b : List UInt8) : Bool := decide (lowL a = lowL b)
theorem bytes_ext {a b : List UInt8} : ((⟨a.toArray⟩ : ByteArray) = ⟨b.toArray⟩) ↔ a = b := by
  constructor
  · intro h
    have := congrArg (fun x : ByteArray => x.data.toList) h
    simpa using this
  · intro h; rw [h]
set_option maxRecDepth 100000 in
set_option maxHeartbeats 4000000 in
theorem same_any (s t : ByteArray) (w : World) (hs : s.size ≤ 140737488355328) (ht : t.size ≤ 140737488355328) : Calls Tryz.prog 44 #[.string s, .string t] w fun e w' => e = .returned (.bool (sameL s.data.toList t.data.toList)) ∧ Below w.heap.size w w' := by
  have HA := Lib.hid (lower_any s w hs)
  have HB := Lib.hid (fun w => lower_any t w ht)
  have ls := str_len s
  have lt := str_len t
  obtain ⟨a, ha⟩ : ∃ a, s.data.toList = a := ⟨_, rfl⟩
  obtain ⟨b, hb⟩ : ∃ b, t.data.toList = b := ⟨_, rfl⟩
  rw [ha] at HA ls ⊢
  rw [hb] at HB lt ⊢
  obtain ⟨n, hn⟩ : ∃ n, s.size = n := ⟨_, rfl⟩
  obtain ⟨m, hm⟩ : ∃ m, t.size = m := ⟨_, rfl⟩
  rw [hn] at ls hs
  rw [hm] at lt ht
  obtain ⟨R, hR⟩ : ∃ R, sameL a b = R := ⟨_, rfl⟩
  obtain ⟨x, hx⟩ : ∃ x : ByteArray, ⟨(lowL a).toArray⟩ = x := ⟨_, rfl⟩
  obtain ⟨y, hy⟩ : ∃ y : ByteArray, ⟨(lowL b).toArray⟩ = y := ⟨_, rfl⟩
  rw [hR]
  rw [hx] at HA
  rw [hy] at HB
  have HX : Hid (x = y ↔ lowL a = lowL b) := Lib.hid (by rw [← hx, ← hy]; exact bytes_ext)
  have HRR := Lib.hid hR
  have HL := Lib.hid (And.intro ls lt)
  clear hR hx hy ha hb ls lt
  go_enter Tryz.func44, Tryz.ntmps44
  by_cases hnm : (n : Int) = m
  · have e1 : ((n : Int) == m) = true := by rw [beq_iff_eq]; exact hnm
    have HNM := Lib.hid hnm
    clear hnm
    go_wp2_with fail
    refine HA.out.mono ?_
    rintro e w1 ⟨rfl, hb1⟩
    have HB2 := Lib.hid (HB.out w1)
    have H1 := Lib.hid hb1
    clear hb1 HA HB
    go_wp2_with fail
    refine HB2.out.mono ?_
    rintro e w2 ⟨rfl, hb2⟩
    have H2 := Lib.hid (H1.out.trans (hb2.mono H1.out.size))
    clear hb2 HB2
    by_cases hxy : x = y
    · have hr : R = true := by rw [← HRR.out]; exact decide_eq_true (HX.out.1 hxy)
      subst hr
      subst hxy
      go_wp2
      go_ret
      exact ⟨rfl, H2.out⟩
    · have hr : R = false := by rw [← HRR.out]; exact decide_eq_false (fun h => hxy (HX.out.2 h))
      subst hr
      have e2 : (x.toList == y.toList) = false := (Lib.bytes_beq_false_iff x y).2 hxy
      go_wp2
      go_ret
      exact ⟨rfl, H2.out⟩
  · have e1 : ((n : Int) == m) = false := by rw [beq_eq_false_iff_ne]; exact hnm
    have hr : R = false := by
      rw [← HRR.out]
      refine decide_eq_false (fun h => hnm ?_)
      have := lowL_inj_size h
      have := HL.out
      omega
    subst hr
    clear hnm
    go_wp2
    go_ret
    exact ⟨rfl, Below.refl _ _⟩
set_option maxRecDepth 100000 in
set_option maxHeartbeats 4000000 in
theorem mark_any (c : UInt8) (w : World) : Calls Tryz.prog 172 #[.int .u8 (c.toNat : Int)] w fun e w' => e = .returned (.bool (marks.contains c)) ∧ w = w' := by
  have HI := Lib.hid (Any.strings_IndexByte Tryz.lays137 ⟨marks.toArray⟩ (c.toNat : Int) w)
  have hc : ((c.toNat : Int)).toNat.toUInt8 = c := by simp
  have hm := Lib.contains_iff_indexByte marks c
  have hl : (⟨marks.toArray⟩ : ByteArray).data.toList = marks := rfl
  rw [hc, hl] at HI
  have hg := Lib.indexByte_ge marks c
  obtain ⟨i, hi⟩ : ∃ i, Lib.indexByte marks c = i := ⟨_, rfl⟩
  rw [hi] at HI hm hg
  obtain ⟨v, hv⟩ : ∃ v, c.toNat = v := ⟨_, rfl⟩
  rw [hv] at HI ⊢
  rw [hm]
  clear hi hm hc hl hv
  unfold marks at HI
  go_enter Tryz.func172, Tryz.ntmps172
  go_wp2_with fail
  refine HI.out.mono ?_
  rintro e w1 ⟨rfl, rfl⟩
  go_wp2
  go_ret
  exact ⟨rfl, rfl⟩
theorem tokB_val (c : UInt8) : tokB c = (decide (48 ≤ c.toNat ∧ c.toNat ≤ 57) || decide (97 ≤ c.toNat ∧ c.toNat ≤ 122) || decide (65 ≤ c.toNat ∧ c.toNat ≤ 90) || marks.contains c) := by
  unfold tokB
  simp only [UInt8.le_iff_toNat_le, Bool.decide_and]
  rfl
set_option maxRecDepth 100000 in
set_option maxHeartbeats 4000000 in
theorem tokb_any (c : UInt8) (w : World) : Calls Tryz.prog 141 #[.int .u8 (c.toNat : Int)] w fun e w' => e = .returned (.bool (tokB c)) ∧ w = w' := by
  have HM := Lib.hid (mark_any c w)
  have ht := tokB_val c
  have hv := c.toNat_lt
  obtain ⟨m, hm⟩ : ∃ m, marks.contains c = m := ⟨_, rfl⟩
  rw [hm] at HM ht
  obtain ⟨v, hvv⟩ : ∃ v, c.toNat = v := ⟨_, rfl⟩
  rw [hvv] at HM ht hv ⊢
  obtain ⟨R, hR⟩ : ∃ R, tokB c = R := ⟨_, rfl⟩
  rw [hR] at ht ⊢
  have HT := Lib.hid ht
  clear hm hvv hR ht
  go_enter Tryz.func141, Tryz.ntmps141
  have yes : (48 ≤ v ∧ v ≤ 57) ∨ (97 ≤ v ∧ v ≤ 122) ∨ (65 ≤ v ∧ v ≤ 90) ∨ ((v < 48) ∨ (57 < v ∧ v < 65) ∨ (90 < v ∧ v < 97) ∨ 122 < v) := by omega
  rcases yes with h | h | h | h
  · have hr : R = true := by rw [HT.out, decide_eq_true h]; rfl
    subst hr
    obtain ⟨h1, h2⟩ := h
    have e1 : (48 : Int) ≤ v := by omega
    have e2 : (v : Int) ≤ 57 := by omega
    go_wp2
    go_ret
    exact ⟨rfl, rfl⟩
  · have hr : R = true := by rw [HT.out, decide_eq_true (p := 97 ≤ v ∧ v ≤ 122) h]; simp
    subst hr
    obtain ⟨h1, h2⟩ := h
    have e1 : (97 : Int) ≤ v := by omega
    have e2 : (v : Int) ≤ 122 := by omega
    have e3 : (48 : Int) ≤ v := by omega
    have e4 : (57 : Int) < v := by omega
    go_wp2
    go_ret
    exact ⟨rfl, rfl⟩
  · have hr : R = true := by rw [HT.out, decide_eq_true (p := 65 ≤ v ∧ v ≤ 90) h]; simp
    subst hr
    obtain ⟨h1, h2⟩ := h
    have e1 : (65 : Int) ≤ v := by omega
    have e2 : (v : Int) ≤ 90 := by omega
    have e3 : (48 : Int) ≤ v := by omega
    have e4 : (57 : Int) < v := by omega
    have e5 : (v : Int) < 97 := by omega
    go_wp2
    go_ret
    exact ⟨rfl, rfl⟩
  · have hr : R = m := by rw [HT.out, decide_eq_false (p := 48 ≤ v ∧ v ≤ 57) (by omega), decide_eq_false (p := 97 ≤ v ∧ v ≤ 122) (by omega), decide_eq_false (p := 65 ≤ v ∧ v ≤ 90) (by omega)]; rfl
    subst hr
    rcases h with h | h | h | h
    · have e1 : (v : Int) < 48 := by omega
      have e2 : (v : Int) < 65 := by omega
      have e3 : (v : Int) < 97 := by omega
      go_wp2_with fail
      refine HM.out.mono ?_
      rintro e w1 ⟨rfl, rfl⟩
      go_wp2
      go_ret
      exact ⟨rfl, rfl⟩
    · obtain ⟨h1, h2⟩ := h
      have e1 : (57 : Int) < v := by omega
      have e0 : (48 : Int) ≤ v := by omega
      have e2 : (v : Int) < 65 := by omega
      have e3 : (v : Int) < 97 := by omega
      go_wp2_with fail
      refine HM.out.mono ?_
      rintro e w1 ⟨rfl, rfl⟩
      go_wp2
      go_ret
      exact ⟨rfl, rfl⟩
    · obtain ⟨h1, h2⟩ := h
      have e1 : (57 : Int) < v := by omega
      have e0 : (48 : Int) ≤ v := by omega
      have e2 : (65 : Int) ≤ v := by omega
      have e4 : (90 : Int) < v := by omega
      have e3 : (v : Int) < 97 := by omega
      go_wp2_with fail
      refine HM.out.mono ?_
      rintro e w1 ⟨rfl, rfl⟩
      go_wp2
      go_ret
      exact ⟨rfl, rfl⟩
    · have e1 : (57 : Int) < v := by omega
      have e0 : (48 : Int) ≤ v := by omega
      have e2 : (65 : Int) ≤ v := by omega
      have e4 : (90 : Int) < v := by omega
      have e3 : (97 : Int) ≤ v := by omega
      have e5 : (122 : Int) < v := by omega
      go_wp2_with fail
      refine HM.out.mono ?_
      rintro e w1 ⟨rfl, rfl⟩
      go_wp2
      go_ret
      exact ⟨rfl, rfl⟩
theorem str_empty {s : ByteArray} (h : s.data.toList = []) : s = ⟨#[]⟩ := Go.WideShapes.bytes_inj h
/-- A text that is not empty, in the walk's spellings. -/
theorem str_some {s : ByteArray} (h : s.data.toList ≠ []) : (s.toList == []) = false ∧ s.toList.isEmpty = false ∧ s.toList ≠ [] := by
  have h1 : (s.toList == (⟨#[]⟩ : ByteArray).toList) = false := (Lib.bytes_beq_false_iff s ⟨#[]⟩).2 (fun e => h (by rw [e]))
  have h2 : (⟨#[]⟩ : ByteArray).toList = [] := by decide +kernel
  rw [h2] at h1
  refine ⟨h1, ?_, fun e => by rw [e] at h1; cases h1⟩
  cases hs : s.toList with
  | nil => rw [hs] at h1; cases h1
  | cons a t => rfl
def TknRel (l : List UInt8) (n : Nat) (iv : Value) : Prop := ∃ k : Nat, iv = .int .i64 k ∧ k ≤ n ∧ (l.take k).all tokB = true
theorem all_take_succ {f : UInt8 → Bool} {l : List UInt8} {k : Nat} (h : (l.take k).all f = true) (hk : k < l.length) (hf : f (l[k]) = true) : (l.take (k + 1)).all f = true := by
  rw [List.take_add_one, List.getElem?_eq_getElem hk, Option.toList_some, List.all_append, h]
  simp [hf]
theorem all_not {f : UInt8 → Bool} {l : List UInt8} {k : Nat} (hk : k < l.length) (hf : f (l[k]) = false) : l.all f = false := by
  rw [Bool.eq_false_iff]
  intro h
  have := List.all_eq_true.1 h (l[k]) (List.getElem_mem hk)
  rw [hf] at this
  cases this
set_option maxRecDepth 100000 in
set_option maxHeartbeats 4000000 in
theorem token_any (s : ByteArray) (w : World) (hs : s.size ≤ 140737488355328) : Calls Tryz.prog 104 #[.string s] w fun e w' => e = .returned (.bool (tokL s.data.toList)) ∧ w = w' := by
  have hget := get_ba s
  have hlen := str_len s
  obtain ⟨l, hl⟩ : ∃ l, s.data.toList = l := ⟨_, rfl⟩
  rw [hl] at hget hlen ⊢
  obtain ⟨n, hn⟩ : ∃ n, s.size = n := ⟨_, rfl⟩
  have HL := Lib.hid (And.intro hlen hl)
  obtain ⟨R, hR⟩ : ∃ R, tokL l = R := ⟨_, rfl⟩
  rw [hR]
  have HR := Lib.hid hR
  have HN := Lib.hid hn
  clear hlen hl hR
  rw [hn] at hs
  clear hn
  go_enter Tryz.func104, Tryz.ntmps104
  go_wp2_with fail
  go_loop [6] (fun iv => TknRel l n iv) (fun iv => n - (intOf iv).toNat)
  case atStart => exact ⟨0, rfl, Nat.zero_le _, rfl⟩
  case round =>
    obtain ⟨k, rfl, hk, hall⟩ := hrel
    have HALL := Lib.hid hall
    clear hall
    by_cases hlt : k < n
    · have hkl : k < l.length := by rw [HL.out.1, HN.out]; exact hlt
      have k1 : (k : Int) < n := by omega
      have HT := Lib.hid (tokb_any (l[k]) w)
      have hb := ba_get hkl
      rw [← hb] at HT
      obtain ⟨t, ht⟩ : ∃ t, tokB (l[k]) = t := ⟨_, rfl⟩
      rw [ht] at HT
      have HTT := Lib.hid ht
      have HN2 := HN.out
      have hks : k < s.size := by omega
      have hgk := hget k hks
      clear ht hb hget HN2
      have HE : Hid (t = true → TknRel l n (.int .i64 (k + 1 : Nat))) := Lib.hid (fun e => ⟨k + 1, rfl, hlt, all_take_succ HALL.out hkl (HTT.out.trans e)⟩)
      have HF : Hid (t = false → R = false) := Lib.hid (fun e => by rw [← HR.out]; unfold tokL; rw [all_not hkl (HTT.out.trans e), Bool.and_false])
      go_wp2_with fail
      refine HT.out.mono ?_
      rintro e w1 ⟨rfl, rfl⟩
      obtain rfl | rfl : t = false ∨ t = true := by cases t <;> simp
      · obtain rfl := HF.out rfl
        go_wp2
        go_ret
        exact ⟨rfl, rfl⟩
      · have HE2 := Lib.hid (HE.out rfl)
        clear HE HF
        go_wp2
        go_round
        case rel => exact HE2.out
        case measure => simp [intOf]; omega
    · have hkn : k = s.size := by have := HN.out; omega
      have hall2 : l.all tokB = true := by
        have h1 := HALL.out
        rwa [List.take_of_length_le (by rw [HL.out.1]; omega)] at h1
      have HA := Lib.hid hall2
      subst hkn
      clear hall2
      by_cases he : l = []
      · have hse : s = ⟨#[]⟩ := str_empty (HL.out.2.trans he)
        have hr : R = false := by rw [← HR.out, he]; rfl
        subst hr
        subst hse
        clear he
        go_wp2
        go_ret
        exact ⟨rfl, rfl⟩
      · obtain ⟨e1, e2, e3⟩ := str_some (s := s) (by rw [HL.out.2]; exact he)
        have hr : R = true := by
          rw [← HR.out]
          unfold tokL
          rw [HA.out]
          cases l with
          | nil => exact absurd rfl he
          | cons a t => rfl
        subst hr
        clear he
        go_wp2
        go_ret
        exact ⟨rfl, rfl⟩
set_option maxRecDepth 100000 in
theorem trim_any (s : ByteArray) (w : World) (hs : s.size ≤ 140737488355328) : Calls Tryz.prog 118 #[.string s] w fun e w' => e = .returned (.string ⟨(trimL s.data.toList).toArray⟩) ∧ Below w.heap.size w w' := by
  have hcon := Any.strings_Trim_laid Tryz.lays160 (by kernel_rfl) s ⟨#[32, 9]⟩ w (by omega) (by decide) (ascii_of_all (by decide))
  have HC := Lib.hid hcon
  clear hcon
  obtain ⟨R, hR⟩ : ∃ R : ByteArray, ⟨(trimL s.data.toList).toArray⟩ = R := ⟨_, rfl⟩
  have hR2 : (⟨(Lib.trimS s.data.toList (⟨#[32, 9]⟩ : ByteArray).data.toList).toArray⟩ : ByteArray) = R := hR
  rw [hR2] at HC
  rw [hR]
  clear hR hR2
  go_enter Tryz.func118, Tryz.ntmps118
  go_wp2_with fail
  refine HC.out.mono ?_
  rintro e w1 ⟨rfl, hb⟩
  have HB := Lib.hid hb
  clear hb
  go_wp2
  go_ret
  exact ⟨rfl, HB.out⟩
theorem valB_val (c : UInt8) : valB c = !decide ((c.toNat < 32 ∧ c.toNat ≠ 9) ∨ c.toNat = 127) := by
  unfold valB
  have e1 : (c == 9) = decide (c.toNat = 9) := by
    rw [Bool.eq_iff_iff]
    simp only [beq_iff_eq, decide_eq_true_eq]
    exact ⟨fun h => by rw [h]; rfl, fun h => UInt8.toNat_inj.1 (by rw [h]; rfl)⟩
  have e2 : (c == 127) = decide (c.toNat = 127) := by
    rw [Bool.eq_iff_iff]
    simp only [beq_iff_eq, decide_eq_true_eq]
    exact ⟨fun h => by rw [h]; rfl, fun h => UInt8.toNat_inj.1 (by rw [h]; rfl)⟩
  have e3 : (decide (c < 32)) = decide (c.toNat < 32) := by
    rw [Bool.eq_iff_iff]
    simp only [decide_eq_true_eq]
    exact UInt8.lt_iff_toNat_lt
  rw [e1, e2, e3]
  congr 1
  rw [Bool.eq_iff_iff]
  simp
theorem trimL_le (l : List UInt8) : (trimL l).length ≤ l.length := by
  unfold trimL Lib.trimS Lib.trimLeftS Lib.trimRightS
  refine Nat.le_trans (List.dropWhile_sublist _).length_le ?_
  rw [List.length_reverse]
  refine Nat.le_trans (List.dropWhile_sublist _).length_le ?_
  rw [List.length_reverse]
  exact Nat.le_refl _
def VlRel (l : List UInt8) (n : Nat) (iv : Value) : Prop := ∃ k : Nat, iv = .int .i64 k ∧ k ≤ n ∧ (l.take k).all valB = true
set_option maxRecDepth 100000 in
set_option maxHeartbeats 4000000 in
theorem value_any (s : ByteArray) (w : World) (hs : s.size ≤ 140737488355328) : Calls Tryz.prog 106 #[.string s] w fun e w' => e = .returned (.bool (valL s.data.toList)) ∧ Below w.heap.size w w' := by
  have hget := get_ba s
  have hlen := str_len s
  have HT := Lib.hid (trim_any s w hs)
  have htl := trimL_le s.data.toList
  obtain ⟨l, hl⟩ : ∃ l, s.data.toList = l := ⟨_, rfl⟩
  rw [hl] at hget hlen HT htl ⊢
  obtain ⟨x, hx⟩ : ∃ x : ByteArray, ⟨(trimL l).toArray⟩ = x := ⟨_, rfl⟩
  have hxs : x.size = (trimL l).length := by rw [← hx]; simp [ByteArray.size]
  rw [hx] at HT
  obtain ⟨m, hm⟩ : ∃ m, (trimL l).length = m := ⟨_, rfl⟩
  rw [hm] at hxs htl
  have HX := Lib.hid hxs
  have HL := Lib.hid (And.intro hlen (And.intro hl hm))
  obtain ⟨R, hR⟩ : ∃ R, valL l = R := ⟨_, rfl⟩
  rw [hR]
  have HR := Lib.hid hR
  have hms : m ≤ s.size := by omega
  clear hlen hl hR hx hm htl hxs
  go_enter Tryz.func106, Tryz.ntmps106
  go_wp2_with fail
  refine HT.out.mono ?_
  rintro e w1 ⟨rfl, hb1⟩
  have HB := Lib.hid hb1
  have hxm := HX.out
  clear hb1 HT
  by_cases hne : m = s.size
  · have e1 : ((x.size : Int) != (s.size : Int)) = false := by rw [bne_eq_false_iff_eq]; omega
    have HNE := Lib.hid hne
    clear hne hxm
    go_wp2_with fail
    go_loop [12] (fun iv => VlRel l s.size iv) (fun iv => s.size - (intOf iv).toNat)
    case atStart => exact ⟨0, rfl, Nat.zero_le _, rfl⟩
    case round =>
      obtain ⟨k, rfl, hk, hall⟩ := hrel
      have HALL := Lib.hid hall
      clear hall
      by_cases hlt : k < s.size
      · have hkl : k < l.length := by rw [HL.out.1]; exact hlt
        have k1 : (k : Int) < s.size := by omega
        have hb := ba_get hkl
        have hv := ba_lt l k
        have hvb := valB_val (l[k])
        rw [← hb] at hvb
        have hgk := hget k hlt
        obtain ⟨v, hv2⟩ : ∃ v, ba l k = v := ⟨_, rfl⟩
        rw [hv2] at hgk hv hvb
        have HVB := Lib.hid hvb
        have HG : Hid (valB (l[k]) = true → VlRel l s.size (.int .i64 (k + 1 : Nat))) := Lib.hid (fun e => ⟨k + 1, rfl, hlt, all_take_succ HALL.out hkl e⟩)
        have HF : Hid (valB (l[k]) = false → R = false) := Lib.hid (fun e => by rw [← HR.out]; unfold valL; rw [all_not hkl e, Bool.and_false])
        clear hv2 hvb hb hget
        by_cases hbad : (v < 32 ∧ v ≠ 9) ∨ v = 127
        · obtain rfl := HF.out (by rw [HVB.out, decide_eq_true hbad]; rfl)
          rcases hbad with ⟨h1, h2⟩ | h1
          · have e2 : (v : Int) < 32 := by omega
            have e3 : ((v : Int) != 9) = true := by rw [bne_iff_ne]; omega
            go_wp2
            go_ret
            exact ⟨rfl, HB.out⟩
          · subst h1
            go_wp2
            go_ret
            exact ⟨rfl, HB.out⟩
        · have HE := Lib.hid (HG.out (by rw [HVB.out, decide_eq_false hbad]; rfl))
          have e7 : ((v : Int) == 127) = false := by rw [beq_eq_false_iff_ne]; omega
          clear HG HF
          by_cases h9 : v = 9
          · subst h9
            clear hbad
            go_wp2
            go_round
            case rel => exact HE.out
            case measure => simp [intOf]; omega
          · have e2 : (32 : Int) ≤ v := by omega
            clear hbad h9
            go_wp2
            go_round
            case rel => exact HE.out
            case measure => simp [intOf]; omega
      · have hkn : k = s.size := by omega
        have hr : R = true := by
          have h1 := HALL.out
          rw [List.take_of_length_le (by rw [HL.out.1]; omega)] at h1
          rw [← HR.out]
          unfold valL
          rw [h1, HL.out.2.2, HNE.out, HL.out.1]
          simp
        subst hr
        subst hkn
        go_wp2
        go_ret
        exact ⟨rfl, HB.out⟩
  · have e1 : ((x.size : Int) != (s.size : Int)) = true := by rw [bne_iff_ne]; omega
    have hr : R = false := by
      rw [← HR.out]
      unfold valL
      rw [decide_eq_false (by rw [HL.out.2.2, HL.out.1]; exact hne), Bool.false_and]
    subst hr
    clear hne hxm
    go_wp2
    go_ret
    exact ⟨rfl, HB.out⟩
end Go.Proofs.YtpkmciohehaboaaGreatDoor

/- The walks of octet.digit, number, Decimal; of the document's. -/
namespace Go.Proofs.YtpkmciohehaboaaGreatDoor
open Go.RowKit

/-- What a byte says as a digit. -/
def digN (c : Nat) : Nat := if 48 ≤ c ∧ c ≤ 57 then c - 48 else if 97 ≤ c ∧ c ≤ 102 then c - 87 else if 65 ≤ c ∧ c ≤ 70 then c - 55 else 16
def dgtB (c : UInt8) : Bool := decide (48 ≤ c.toNat ∧ c.toNat ≤ 57)
def decVal (l : List UInt8) : Nat := l.foldl (fun n c => n * 10 + digN c.toNat) 0
/-- The number that a text of digits says, and the error. -/
def decRes (l : List UInt8) : Nat × Nat := if l = [] then (0, 10) else if l.all dgtB = false then (0, 10) else if 1099511627776 < decVal l then (0, 11) else (decVal l, 0)
theorem digN_dec {c : Nat} : digN c < 10 ↔ (48 ≤ c ∧ c ≤ 57) := by
  unfold digN
  split
  · omega
  · split
    · omega
    · split <;> omega
theorem decVal_snoc {l : List UInt8} {k : Nat} (h : k < l.length) : decVal (l.take (k + 1)) = decVal (l.take k) * 10 + digN (l[k]).toNat := by
  rw [List.take_add_one, List.getElem?_eq_getElem h, Option.toList_some]
  unfold decVal
  rw [List.foldl_append]
  rfl
theorem decVal_mono (l : List UInt8) : ∀ k, decVal (l.take k) ≤ decVal l := by
  intro k
  have h : ∀ (t : List UInt8) (n : Nat), n ≤ t.foldl (fun n c => n * 10 + digN c.toNat) n := by
    intro t
    induction t with
    | nil => intro n; exact Nat.le_refl _
    | cons c t ih => intro n; exact Nat.le_trans (show n ≤ n * 10 + digN c.toNat by omega) (ih _)
  have e : decVal l = (l.drop k).foldl (fun n c => n * 10 + digN c.toNat) (decVal (l.take k)) := by
    unfold decVal
    rw [← List.foldl_append, List.take_append_drop]
  rw [e]
  exact h _ _
theorem dgtB_digN {c : UInt8} : dgtB c = decide (digN c.toNat < 10) := by
  unfold dgtB
  rw [Bool.eq_iff_iff]
  simp only [decide_eq_true_eq]
  exact digN_dec.symm
set_option maxRecDepth 100000 in
set_option maxHeartbeats 4000000 in
theorem digit_any (v : Nat) (w : World) (hv : v < 256) : Calls Tryz.prog 121 #[.int .u8 (v : Int)] w fun e w' => e = .returned (.int .i64 (digN v : Nat)) ∧ w = w' := by
  obtain ⟨R, hR⟩ : ∃ R, digN v = R := ⟨_, rfl⟩
  have hr := hR
  rw [hR]
  unfold digN at hr
  have HR := Lib.hid hr
  clear hR hr
  go_enter Tryz.func121, Tryz.ntmps121
  have yes : (48 ≤ v ∧ v ≤ 57) ∨ (97 ≤ v ∧ v ≤ 102) ∨ (65 ≤ v ∧ v ≤ 70) ∨ ((v < 48) ∨ (57 < v ∧ v < 65) ∨ (70 < v ∧ v < 97) ∨ 102 < v) := by omega
  rcases yes with h | h | h | h
  · have hr : R = v - 48 := by rw [← HR.out, if_pos h]
    obtain ⟨h1, h2⟩ := h
    have e1 : (48 : Int) ≤ v := by omega
    have e2 : (v : Int) ≤ 57 := by omega
    have e3 := Lib.hid (show (R : Int) = v - 48 by omega)
    clear hr
    go_wp2
    go_ret
    exact ⟨ret_v (show Value.int .i64 ((v : Int) - 48) = .int .i64 (R : Int) by rw [e3.out]), rfl⟩
  · have hr : R = v - 87 := by rw [← HR.out, if_neg (by omega), if_pos h]
    obtain ⟨h1, h2⟩ := h
    have e1 : (97 : Int) ≤ v := by omega
    have e2 : (v : Int) ≤ 102 := by omega
    have e4 : (57 : Int) < v := by omega
    have e3 := Lib.hid (show (R : Int) = v - 97 + 10 by omega)
    clear hr
    go_wp2
    go_ret
    exact ⟨ret_v (show Value.int .i64 ((v : Int) - 97 + 10) = .int .i64 (R : Int) by rw [e3.out]), rfl⟩
  · have hr : R = v - 55 := by rw [← HR.out, if_neg (by omega), if_neg (by omega), if_pos h]
    obtain ⟨h1, h2⟩ := h
    have e1 : (65 : Int) ≤ v := by omega
    have e2 : (v : Int) ≤ 70 := by omega
    have e4 : (57 : Int) < v := by omega
    have e3 := Lib.hid (show (R : Int) = v - 65 + 10 by omega)
    clear hr
    go_wp2
    go_ret
    exact ⟨ret_v (show Value.int .i64 ((v : Int) - 65 + 10) = .int .i64 (R : Int) by rw [e3.out]), rfl⟩
  · have hr : R = 16 := by rw [← HR.out, if_neg (by omega), if_neg (by omega), if_neg (by omega)]
    subst hr
    rcases h with h | h | h | h
    · have e1 : (v : Int) < 48 := by omega
      go_wp2
      go_ret
      exact ⟨rfl, rfl⟩
    · obtain ⟨h1, h2⟩ := h
      have e1 : (57 : Int) < v := by omega
      have e2 : (v : Int) < 65 := by omega
      go_wp2
      go_ret
      exact ⟨rfl, rfl⟩
    · obtain ⟨h1, h2⟩ := h
      have e1 : (70 : Int) < v := by omega
      have e2 : (v : Int) < 97 := by omega
      go_wp2
      go_ret
      exact ⟨rfl, rfl⟩
    · have e1 : (102 : Int) < v := by omega
      go_wp2
      go_ret
      exact ⟨rfl, rfl⟩
def Nu1Rel (l : List UInt8) (n : Nat) (iv : Value) : Prop := ∃ k : Nat, iv = .int .i64 k ∧ k ≤ n ∧ (l.take k).all dgtB = true
def Nu2Rel (l : List UInt8) (n : Nat) (nv iv : Value) : Prop := ∃ k m : Nat, iv = .int .i64 k ∧ nv = .int .i64 m ∧ k ≤ n ∧ m = decVal (l.take k) ∧ m ≤ 1099511627776
set_option maxRecDepth 100000 in
set_option maxHeartbeats 4000000 in
theorem onumber_any (s : ByteArray) (w : World) (hs : s.size ≤ 140737488355328) : Calls Tryz.prog 83 #[.string s, .int .i64 10] w fun e w' => e = .returned (.tuple #[.int .i64 (decRes s.data.toList).1, .int .i64 (decRes s.data.toList).2]) ∧ w = w' := by
  have hget := get_ba s
  have hlen := str_len s
  obtain ⟨l, hl⟩ : ∃ l, s.data.toList = l := ⟨_, rfl⟩
  rw [hl] at hget hlen ⊢
  obtain ⟨V, hV⟩ : ∃ V, (decRes l).1 = V := ⟨_, rfl⟩
  obtain ⟨E, hE⟩ : ∃ E, (decRes l).2 = E := ⟨_, rfl⟩
  rw [hV, hE]
  have HR : Hid (decRes l = (V, E)) := Lib.hid (by rw [← hV, ← hE])
  have HL := Lib.hid (And.intro hlen hl)
  clear hV hE hlen hl
  by_cases he : l = []
  · have hse : s = ⟨#[]⟩ := str_empty (HL.out.2.trans he)
    have h1 : (V, E) = (0, 10) := by rw [← HR.out, he]; rfl
    injection h1 with h1 h2
    subst h1 h2
    subst hse
    clear he hget
    go_enter Tryz.func83, Tryz.ntmps83
    go_wp2
    go_ret2
    exact ⟨rfl, rfl⟩
  obtain ⟨e1, e2, e3⟩ := str_some (s := s) (by rw [HL.out.2]; exact he)
  have HE := Lib.hid he
  clear he
  go_enter Tryz.func83, Tryz.ntmps83
  go_wp2_with fail
  go_loop [13] (fun iv => Nu1Rel l s.size iv) (fun iv => s.size - (intOf iv).toNat)
  case atStart => exact ⟨0, rfl, Nat.zero_le _, rfl⟩
  case round =>
    obtain ⟨k, rfl, hk, hall⟩ := hrel
    have HALL := Lib.hid hall
    clear hall
    by_cases hlt : k < s.size
    · have hkl : k < l.length := by rw [HL.out.1]; exact hlt
      have k1 : (k : Int) < s.size := by omega
      have hb := ba_get hkl
      have hv := ba_lt l k
      have hgk := hget k hlt
      obtain ⟨v, hv2⟩ : ∃ v, ba l k = v := ⟨_, rfl⟩
      rw [hv2] at hgk hv hb
      have HT := Lib.hid (digit_any v w hv)
      have hdb : dgtB (l[k]) = decide (digN v < 10) := by rw [hb]; exact dgtB_digN
      obtain ⟨d, hd⟩ : ∃ d, digN v = d := ⟨_, rfl⟩
      rw [hd] at HT hdb
      have HDB := Lib.hid hdb
      clear hv2 hb hdb hd hget
      go_wp2_with fail
      refine HT.out.mono ?_
      rintro e w1 ⟨rfl, rfl⟩
      by_cases h10 : d < 10
      · have HN : Hid (Nu1Rel l s.size (.int .i64 (k + 1 : Nat))) := Lib.hid ⟨k + 1, rfl, hlt, all_take_succ HALL.out hkl (HDB.out.trans (decide_eq_true h10))⟩
        have h11 : (d : Int) < 10 := by omega
        go_wp2
        go_round
        case rel => exact HN.out
        case measure => simp [intOf]; omega
      · have h1 : (V, E) = (0, 10) := by
          rw [← HR.out]
          unfold decRes
          rw [if_neg HE.out, if_pos (all_not hkl (HDB.out.trans (decide_eq_false h10)))]
        injection h1 with h1 h2
        subst h1 h2
        have h11 : (10 : Int) ≤ d := by omega
        go_wp2
        go_ret2
        exact ⟨rfl, rfl⟩
    · have hall : l.all dgtB = true := by
        have h1 := HALL.out
        rwa [List.take_of_length_le (by rw [HL.out.1]; omega)] at h1
      have HA := Lib.hid hall
      have hkn : k = s.size := by omega
      subst hkn
      clear hall HALL
      go_wp2_with fail
      go_loop [7, 25] (fun nv iv => Nu2Rel l s.size nv iv) (fun _ iv => s.size - (intOf iv).toNat)
      case atStart => exact ⟨0, 0, rfl, rfl, Nat.zero_le _, rfl, by omega⟩
      case round =>
        obtain ⟨k, m, rfl, rfl, hk, hm, hm40⟩ := hrel
        have HM := Lib.hid hm
        clear hm
        by_cases hlt : k < s.size
        · have hkl : k < l.length := by rw [HL.out.1]; exact hlt
          have k1 : (k : Int) < s.size := by omega
          have hb := ba_get hkl
          have hv := ba_lt l k
          have hgk := hget k hlt
          obtain ⟨v, hv2⟩ : ∃ v, ba l k = v := ⟨_, rfl⟩
          rw [hv2] at hgk hv hb
          have HT := Lib.hid (digit_any v w hv)
          have hsn := decVal_snoc hkl
          rw [← hb, ← HM.out] at hsn
          have hd10 : digN v < 10 := by
            have h1 := List.all_eq_true.1 HA.out (l[k]) (List.getElem_mem hkl)
            rw [dgtB_digN, ← hb] at h1
            simpa using h1
          have hmono := decVal_mono l (k + 1)
          rw [hsn] at hmono
          obtain ⟨d, hd⟩ : ∃ d, digN v = d := ⟨_, rfl⟩
          rw [hd] at HT hsn hd10 hmono
          have HS := Lib.hid (And.intro hsn hmono)
          clear hv2 hb hsn hd hget hmono
          have hd9 : (d : Int) ≤ 9 := by omega
          go_wp2_with fail
          refine HT.out.mono ?_
          rintro e w1 ⟨rfl, rfl⟩
          by_cases hbig : (1099511627776 : Int) < m * 10 + d
          · have h1 : (V, E) = (0, 11) := by
              rw [← HR.out]
              unfold decRes
              rw [if_neg HE.out, if_neg (by rw [HA.out]; simp), if_pos (by have := HS.out.2; omega)]
            injection h1 with h1 h2
            subst h1 h2
            go_wp2
            go_ret2
            exact ⟨rfl, rfl⟩
          · have HN : Hid (Nu2Rel l s.size (.int .i64 (m * 10 + d : Nat)) (.int .i64 (k + 1 : Nat))) := Lib.hid ⟨k + 1, m * 10 + d, rfl, rfl, hlt, HS.out.1.symm, by omega⟩
            go_wp2
            go_round
            case rel => exact HN.out
            case measure => simp [intOf]; omega
        · have hkn : k = s.size := by omega
          have h1 : (V, E) = (m, 0) := by
            have h2 := HM.out
            rw [List.take_of_length_le (by rw [HL.out.1]; omega)] at h2
            rw [← HR.out]
            unfold decRes
            rw [if_neg HE.out, if_neg (by rw [HA.out]; simp), if_neg (by omega), h2]
          injection h1 with h1 h2
          subst h1 h2
          go_wp2
          go_ret2
          exact ⟨rfl, rfl⟩
end Go.Proofs.YtpkmciohehaboaaGreatDoor

/- The walks of the document's Digit, Blank, TokenByte, Token, Value, Lower, Trim, worth, number, Decimal. -/
namespace Go.Proofs.YtpkmciohehaboaaGreatDoor
open Go.RowKit

set_option maxRecDepth 100000 in
theorem decimal_any (s : ByteArray) (w : World) (hs : s.size ≤ 140737488355328) : Calls Tryz.prog 40 #[.string s] w fun e w' => e = .returned (.tuple #[.int .i64 (decRes s.data.toList).1, .int .i64 (decRes s.data.toList).2]) ∧ w = w' := by
  have HT := Lib.hid (onumber_any s w hs)
  obtain ⟨V, hV⟩ : ∃ V, (decRes s.data.toList).1 = V := ⟨_, rfl⟩
  obtain ⟨E, hE⟩ : ∃ E, (decRes s.data.toList).2 = E := ⟨_, rfl⟩
  rw [hV, hE] at HT ⊢
  clear hV hE
  go_enter Tryz.func40, Tryz.ntmps40
  go_wp2_with fail
  refine HT.out.mono ?_
  rintro e w1 ⟨rfl, rfl⟩
  go_wp2
  go_ret2
  exact ⟨rfl, rfl⟩
set_option maxRecDepth 100000 in
theorem rdigit_any (v : Nat) (w : World) (hv : v < 256) : Calls Tryz.prog 116 #[.int .u8 (v : Int)] w fun e w' => e = .returned (.bool (decide (48 ≤ v ∧ v ≤ 57))) ∧ w = w' := by
  obtain ⟨R, hR⟩ : ∃ R, decide (48 ≤ v ∧ v ≤ 57) = R := ⟨_, rfl⟩
  have HR := Lib.hid hR
  rw [hR]
  clear hR
  go_enter Tryz.func116, Tryz.ntmps116
  by_cases h1 : (48 : Int) ≤ v
  · by_cases h2 : (v : Int) ≤ 57
    · obtain rfl : R = true := by rw [← HR.out]; exact decide_eq_true (by omega)
      go_wp2
      go_ret
      exact ⟨rfl, rfl⟩
    · obtain rfl : R = false := by rw [← HR.out]; exact decide_eq_false (by omega)
      go_wp2
      go_ret
      exact ⟨rfl, rfl⟩
  · obtain rfl : R = false := by rw [← HR.out]; exact decide_eq_false (by omega)
    go_wp2
    go_ret
    exact ⟨rfl, rfl⟩
theorem blnk_val (c : UInt8) : blnk c = decide (c.toNat = 32 ∨ c.toNat = 9) := by
  unfold blnk
  have e1 : (c == 9) = decide (c.toNat = 9) := by
    rw [Bool.eq_iff_iff]
    simp only [beq_iff_eq, decide_eq_true_eq]
    exact ⟨fun h => by rw [h]; rfl, fun h => UInt8.toNat_inj.1 (by rw [h]; rfl)⟩
  have e2 : (c == 32) = decide (c.toNat = 32) := by
    rw [Bool.eq_iff_iff]
    simp only [beq_iff_eq, decide_eq_true_eq]
    exact ⟨fun h => by rw [h]; rfl, fun h => UInt8.toNat_inj.1 (by rw [h]; rfl)⟩
  rw [e1, e2, Bool.eq_iff_iff]
  simp
set_option maxRecDepth 100000 in
theorem rblank_any (v : Nat) (w : World) (hv : v < 256) : Calls Tryz.prog 74 #[.int .u8 (v : Int)] w fun e w' => e = .returned (.bool (decide (v = 32 ∨ v = 9))) ∧ w = w' := by
  obtain ⟨R, hR⟩ : ∃ R, decide (v = 32 ∨ v = 9) = R := ⟨_, rfl⟩
  have HR := Lib.hid hR
  rw [hR]
  clear hR
  go_enter Tryz.func74, Tryz.ntmps74
  by_cases h1 : v = 32
  · obtain rfl : R = true := by rw [← HR.out]; exact decide_eq_true (.inl h1)
    subst h1
    go_wp2
    go_ret
    exact ⟨rfl, rfl⟩
  by_cases h2 : v = 9
  · obtain rfl : R = true := by rw [← HR.out]; exact decide_eq_true (.inr h2)
    subst h2
    go_wp2
    go_ret
    exact ⟨rfl, rfl⟩
  · obtain rfl : R = false := by rw [← HR.out]; exact decide_eq_false (by omega)
    have e1 : ((v : Int) == 32) = false := by rw [beq_eq_false_iff_ne]; omega
    have e2 : ((v : Int) == 9) = false := by rw [beq_eq_false_iff_ne]; omega
    clear h1 h2
    go_wp2
    go_ret
    exact ⟨rfl, rfl⟩
theorem marks_val (c : UInt8) : marks.contains c = decide (c.toNat = 33 ∨ c.toNat = 35 ∨ c.toNat = 36 ∨ c.toNat = 37 ∨ c.toNat = 38 ∨ c.toNat = 39 ∨ c.toNat = 42 ∨ c.toNat = 43 ∨ c.toNat = 45 ∨ c.toNat = 46 ∨ c.toNat = 94 ∨ c.toNat = 95 ∨ c.toNat = 96 ∨ c.toNat = 124 ∨ c.toNat = 126) := by
  rw [Bool.eq_iff_iff]
  simp only [marks, List.contains_iff_mem, List.mem_cons, List.not_mem_nil, or_false, decide_eq_true_eq, ← UInt8.toNat_inj]
  rfl
set_option maxRecDepth 100000 in
set_option maxHeartbeats 8000000 in
theorem rtokb_any (c : UInt8) (w : World) : Calls Tryz.prog 73 #[.int .u8 (c.toNat : Int)] w fun e w' => e = .returned (.bool (tokB c)) ∧ w = w' := by
  have ht := tokB_val c
  rw [marks_val] at ht
  have hv := c.toNat_lt
  obtain ⟨v, hvv⟩ : ∃ v, c.toNat = v := ⟨_, rfl⟩
  rw [hvv] at ht hv ⊢
  have HD := Lib.hid (rdigit_any v w hv)
  obtain ⟨R, hR⟩ : ∃ R, tokB c = R := ⟨_, rfl⟩
  rw [hR] at ht ⊢
  have HT := Lib.hid ht
  clear hvv hR ht
  by_cases h1 : 48 ≤ v ∧ v ≤ 57
  · obtain rfl : R = true := by rw [HT.out, decide_eq_true h1]; rfl
    rw [decide_eq_true h1] at HD
    clear h1
    go_enter Tryz.func73, Tryz.ntmps73
    go_wp2_with fail
    refine HD.out.mono ?_
    rintro e w1 ⟨rfl, rfl⟩
    go_wp2
    go_ret
    exact ⟨rfl, rfl⟩
  rw [decide_eq_false h1] at HD
  have HN := Lib.hid h1
  clear h1
  by_cases h2 : 97 ≤ v ∧ v ≤ 122
  · obtain rfl : R = true := by rw [HT.out, decide_eq_true (p := 97 ≤ v ∧ v ≤ 122) h2]; simp
    obtain ⟨h1, h2⟩ := h2
    have e1 : (97 : Int) ≤ v := by omega
    have e2 : (v : Int) ≤ 122 := by omega
    go_enter Tryz.func73, Tryz.ntmps73
    go_wp2_with fail
    refine HD.out.mono ?_
    rintro e w1 ⟨rfl, rfl⟩
    go_wp2
    go_ret
    exact ⟨rfl, rfl⟩
  by_cases h3 : 65 ≤ v ∧ v ≤ 90
  · obtain rfl : R = true := by rw [HT.out, decide_eq_true (p := 65 ≤ v ∧ v ≤ 90) h3]; simp
    obtain ⟨h1, h2⟩ := h3
    have e1 : (65 : Int) ≤ v := by omega
    have e2 : (v : Int) ≤ 90 := by omega
    have e3 : (v : Int) < 97 := by omega
    go_enter Tryz.func73, Tryz.ntmps73
    go_wp2_with fail
    refine HD.out.mono ?_
    rintro e w1 ⟨rfl, rfl⟩
    go_wp2
    go_ret
    exact ⟨rfl, rfl⟩
  -- the tests of the letters fall
  have HL := Lib.hid (And.intro h2 h3)
  clear h2 h3
  go_enter Tryz.func73, Tryz.ntmps73
  go_upto_region 1 with fail
  go_cut [20] (fun y wx => y = .bool false ∧ wx = w)
  case first =>
    obtain ⟨h2, h3⟩ := HL.out
    by_cases a1 : (97 : Int) ≤ v
    · have a2 : (122 : Int) < v := by omega
      have a3 : (65 : Int) ≤ v := by omega
      have a4 : (90 : Int) < v := by omega
      clear h2 h3
      go_wp2_with fail
      refine HD.out.mono ?_
      rintro e w1 ⟨rfl, rfl⟩
      go_wp2
      go_meet
      exact ⟨by first | rfl | (congr 1; simp; omega), rfl⟩
    · by_cases a3 : (65 : Int) ≤ v
      · have a4 : (90 : Int) < v := by omega
        clear h2 h3
        go_wp2_with fail
        refine HD.out.mono ?_
        rintro e w1 ⟨rfl, rfl⟩
        go_wp2
        go_meet
        exact ⟨by first | rfl | (congr 1; simp; omega), rfl⟩
      · clear h2 h3
        go_wp2_with fail
        refine HD.out.mono ?_
        rintro e w1 ⟨rfl, rfl⟩
        go_wp2
        go_meet
        exact ⟨by first | rfl | (congr 1; simp; omega), rfl⟩
  case rest =>
  obtain ⟨rfl, hwc⟩ := hcut
  subst hwc
  by_cases hm : v = 33 ∨ v = 35 ∨ v = 36 ∨ v = 37 ∨ v = 38 ∨ v = 39 ∨ v = 42 ∨ v = 43 ∨ v = 45 ∨ v = 46 ∨ v = 94 ∨ v = 95 ∨ v = 96 ∨ v = 124 ∨ v = 126
  · obtain rfl : R = true := by rw [HT.out, decide_eq_true hm]; simp
    rcases hm with rfl | rfl | rfl | rfl | rfl | rfl | rfl | rfl | rfl | rfl | rfl | rfl | rfl | rfl | rfl
    all_goals
      go_wp2
      go_ret
      exact ⟨rfl, rfl⟩
  · obtain rfl : R = false := by
      obtain ⟨h2, h3⟩ := HL.out
      rw [HT.out, decide_eq_false hm, decide_eq_false HN.out, decide_eq_false h2, decide_eq_false h3]
      rfl
    have e33 : ((v : Int) == 33) = false := by rw [beq_eq_false_iff_ne]; omega
    have e35 : ((v : Int) == 35) = false := by rw [beq_eq_false_iff_ne]; omega
    have e36 : ((v : Int) == 36) = false := by rw [beq_eq_false_iff_ne]; omega
    have e37 : ((v : Int) == 37) = false := by rw [beq_eq_false_iff_ne]; omega
    have e38 : ((v : Int) == 38) = false := by rw [beq_eq_false_iff_ne]; omega
    have e39 : ((v : Int) == 39) = false := by rw [beq_eq_false_iff_ne]; omega
    have e42 : ((v : Int) == 42) = false := by rw [beq_eq_false_iff_ne]; omega
    have e43 : ((v : Int) == 43) = false := by rw [beq_eq_false_iff_ne]; omega
    have e45 : ((v : Int) == 45) = false := by rw [beq_eq_false_iff_ne]; omega
    have e46 : ((v : Int) == 46) = false := by rw [beq_eq_false_iff_ne]; omega
    have e94 : ((v : Int) == 94) = false := by rw [beq_eq_false_iff_ne]; omega
    have e95 : ((v : Int) == 95) = false := by rw [beq_eq_false_iff_ne]; omega
    have e96 : ((v : Int) == 96) = false := by rw [beq_eq_false_iff_ne]; omega
    have e124 : ((v : Int) == 124) = false := by rw [beq_eq_false_iff_ne]; omega
    have e126 : ((v : Int) == 126) = false := by rw [beq_eq_false_iff_ne]; omega
    clear hm
    go_wp2
    go_ret
    exact ⟨rfl, rfl⟩
end Go.Proofs.YtpkmciohehaboaaGreatDoor

/- The walks of the document's Token, Value, Lower, Trim. -/
namespace Go.Proofs.YtpkmciohehaboaaGreatDoor
open Go.RowKit

/-- A text out of its bytes. -/
def mkS (l : List UInt8) : ByteArray := ⟨l.toArray⟩
theorem mkS_list (l : List UInt8) : (mkS l).data.toList = l := by simp [mkS]
theorem mkS_of (s : ByteArray) : mkS s.data.toList = s := by cases s; simp [mkS]
theorem mkS_size (l : List UInt8) : (mkS l).size = l.length := by simp [mkS, ByteArray.size]
theorem extract_list (s : ByteArray) (a b : Nat) : s.extract a b = mkS ((s.data.toList.take b).drop a) := by
  apply Go.WideShapes.bytes_inj
  rw [mkS_list, ByteArray.data_extract, Array.toList_extract, List.extract_eq_take_drop, List.take_drop]
  rcases Nat.le_total a b with h | h
  · rw [show a + (b - a) = b by omega]
  · rw [show a + (b - a) = a by omega, List.drop_of_length_le (List.length_take_le _ _), List.drop_of_length_le (Nat.le_trans (List.length_take_le _ _) h)]
theorem sl_from (s : ByteArray) (k : Nat) (h : k ≤ s.size) : ∀ w, (Instr.slice 9 (.string s) (some (.int .i64 (k : Int))) none none).run Tryz.prog w = .ok (.string (mkS (s.data.toList.drop k))) w := by
  intro w
  rw [run_slice_string_l (P := Tryz.prog) (w := w) 9 s Tryz.underlying9 .i64 (k : Int) (by omega) (by omega), Int.toNat_natCast, extract_list, List.take_of_length_le (by rw [str_len]; exact Nat.le_refl _)]
theorem sl_to (s : ByteArray) (k : Nat) (h : k ≤ s.size) : ∀ w, (Instr.slice 9 (.string s) none (some (.int .i64 (k : Int))) none).run Tryz.prog w = .ok (.string (mkS (s.data.toList.take k))) w := by
  intro w
  rw [run_slice_string_h (P := Tryz.prog) (w := w) 9 s Tryz.underlying9 .i64 (k : Int) (by omega) (by omega), Int.toNat_natCast, extract_list, List.drop_zero]
set_option maxRecDepth 100000 in
set_option maxHeartbeats 4000000 in
theorem rtoken_any (s : ByteArray) (w : World) (hs : s.size ≤ 140737488355328) : Calls Tryz.prog 31 #[.string s] w fun e w' => e = .returned (.bool (tokL s.data.toList)) ∧ w = w' := by
  have hget := get_ba s
  have hlen := str_len s
  obtain ⟨l, hl⟩ : ∃ l, s.data.toList = l := ⟨_, rfl⟩
  rw [hl] at hget hlen ⊢
  have HL := Lib.hid hlen
  obtain ⟨R, hR⟩ : ∃ R, tokL l = R := ⟨_, rfl⟩
  rw [hR]
  have HR := Lib.hid hR
  clear hlen hl hR
  go_enter Tryz.func31, Tryz.ntmps31
  go_wp2_with fail
  go_loop [3] (fun iv => TknRel l s.size iv) (fun iv => s.size - (intOf iv).toNat)
  case atStart => exact ⟨0, rfl, Nat.zero_le _, rfl⟩
  case round =>
    obtain ⟨k, rfl, hk, hall⟩ := hrel
    have HALL := Lib.hid hall
    clear hall
    by_cases hlt : k < s.size
    · have hkl : k < l.length := by rw [HL.out]; exact hlt
      have k1 : (k : Int) < s.size := by omega
      have HT := Lib.hid (rtokb_any (l[k]) w)
      have hb := ba_get hkl
      rw [← hb] at HT
      obtain ⟨t, ht⟩ : ∃ t, tokB (l[k]) = t := ⟨_, rfl⟩
      rw [ht] at HT
      have HTT := Lib.hid ht
      have hgk := hget k hlt
      clear ht hb hget
      have HE : Hid (t = true → TknRel l s.size (.int .i64 (k + 1 : Nat))) := Lib.hid (fun e => ⟨k + 1, rfl, hlt, all_take_succ HALL.out hkl (HTT.out.trans e)⟩)
      have HF : Hid (t = false → R = false) := Lib.hid (fun e => by rw [← HR.out]; unfold tokL; rw [all_not hkl (HTT.out.trans e), Bool.and_false])
      go_wp2_with fail
      refine HT.out.mono ?_
      rintro e w1 ⟨rfl, rfl⟩
      obtain rfl | rfl : t = false ∨ t = true := by cases t <;> simp
      · obtain rfl := HF.out rfl
        go_wp2
        go_ret
        exact ⟨rfl, rfl⟩
      · have HE2 := Lib.hid (HE.out rfl)
        clear HE HF
        go_wp2
        go_round
        case rel => exact HE2.out
        case measure => simp [intOf]; omega
    · have hkn : k = s.size := by omega
      have hall2 : l.all tokB = true := by
        have h1 := HALL.out
        rwa [List.take_of_length_le (by rw [HL.out]; omega)] at h1
      by_cases he : l = []
      · have hr : R = false := by rw [← HR.out, he]; rfl
        have hz : s.size = 0 := by rw [← HL.out, he]; rfl
        subst hr
        have hnot : ¬ (0 : Int) < s.size := by omega
        have hk0 : k = 0 := by omega
        subst hk0
        clear he hz hall2 hkn
        go_wp2
        go_ret
        exact ⟨rfl, rfl⟩
      · have hr : R = true := by
          rw [← HR.out]
          unfold tokL
          rw [hall2]
          cases l with
          | nil => exact absurd rfl he
          | cons a t => rfl
        have hpos : 0 < l.length := List.length_pos_iff.2 he
        have hz : 0 < s.size := by have := HL.out; omega
        subst hr
        subst hkn
        clear he hall2 hpos
        go_wp2
        go_ret
        exact ⟨rfl, rfl⟩
/-- The bytes of a value, by the document. -/
def rvB (c : UInt8) : Bool := blnk c || (decide (33 ≤ c.toNat) && decide (c.toNat ≠ 127))
theorem rvB_val (c : UInt8) : rvB c = valB c := by
  unfold rvB
  rw [blnk_val, valB_val, Bool.eq_iff_iff]
  simp
  omega
theorem set_blnk (c : UInt8) : ([32, 9] : List UInt8).contains c = blnk c := by
  unfold blnk
  simp [List.contains, List.elem]
  cases (c == 32) <;> cases (c == 9) <;> rfl
theorem left_eq (l : List UInt8) : Lib.trimLeftS l [32, 9] = l.dropWhile blnk := by
  unfold Lib.trimLeftS
  congr 1
  funext c
  exact set_blnk c
theorem right_eq (l : List UInt8) : Lib.trimRightS l [32, 9] = (l.reverse.dropWhile blnk).reverse := by
  unfold Lib.trimRightS
  congr 2
  funext c
  exact set_blnk c
theorem dw_len {f : UInt8 → Bool} {l : List UInt8} : (l.dropWhile f).length = l.length ↔ ∀ c, l.head? = some c → f c = false := by
  cases l with
  | nil => simp
  | cons a t =>
    simp only [List.dropWhile_cons, List.head?_cons, Option.some.injEq]
    cases h : f a with
    | true =>
      simp only [if_true]
      constructor
      · intro e
        have := (List.dropWhile_sublist f (l := t)).length_le
        simp only [List.length_cons] at e
        omega
      · intro e
        have := e a rfl
        rw [h] at this
        cases this
    | false => simp [h]
theorem trim_full {l : List UInt8} : (trimL l).length = l.length ↔ (∀ c, l.head? = some c → blnk c = false) ∧ (∀ c, l.getLast? = some c → blnk c = false) := by
  unfold trimL Lib.trimS
  rw [left_eq, right_eq]
  have h1 : (l.reverse.dropWhile blnk).length ≤ l.length := by have := (List.dropWhile_sublist blnk (l := l.reverse)).length_le; rwa [List.length_reverse] at this
  have h2 : ∀ t : List UInt8, (t.dropWhile blnk).length ≤ t.length := fun t => (List.dropWhile_sublist blnk).length_le
  have hr : (l.reverse.dropWhile blnk).length = l.length ↔ ∀ c, l.getLast? = some c → blnk c = false := by
    have := dw_len (f := blnk) (l := l.reverse)
    rw [List.length_reverse, List.head?_reverse] at this
    exact this
  constructor
  · intro h
    have h3 := h2 (l.reverse.dropWhile blnk).reverse
    rw [List.length_reverse] at h3
    have h4 : (l.reverse.dropWhile blnk).length = l.length := by omega
    have e : (l.reverse.dropWhile blnk).reverse = l := by
      have h5 : l.reverse.dropWhile blnk = l.reverse := (List.dropWhile_sublist blnk).eq_of_length (by rw [h4, List.length_reverse])
      rw [h5, List.reverse_reverse]
    rw [e] at h
    exact ⟨dw_len.1 h, hr.1 h4⟩
  · rintro ⟨ha, hb⟩
    have h4 := hr.2 hb
    have e : (l.reverse.dropWhile blnk).reverse = l := by
      have h5 : l.reverse.dropWhile blnk = l.reverse := (List.dropWhile_sublist blnk).eq_of_length (by rw [h4, List.length_reverse])
      rw [h5, List.reverse_reverse]
    rw [e]
    exact dw_len.2 ha
theorem valL_iff {l : List UInt8} (h : l.all valB = true) : valL l = true ↔ (∀ c, (l.head? = some c ∨ l.getLast? = some c) → blnk c = false) := by
  unfold valL
  rw [h, Bool.and_true, decide_eq_true_eq, trim_full]
  constructor
  · rintro ⟨a, b⟩ c (h | h)
    · exact a c h
    · exact b c h
  · exact fun h => ⟨fun c e => h c (.inl e), fun c e => h c (.inr e)⟩
def RvRel (l : List UInt8) (n : Nat) (iv : Value) : Prop := ∃ k : Nat, iv = .int .i64 k ∧ k ≤ n ∧ (l.take k).all valB = true
set_option maxRecDepth 100000 in
set_option maxHeartbeats 8000000 in
theorem rvalue_any (s : ByteArray) (w : World) (hs : s.size ≤ 140737488355328) : Calls Tryz.prog 34 #[.string s] w fun e w' => e = .returned (.bool (valL s.data.toList)) ∧ w = w' := by
  have hget := get_ba s
  have hlen := str_len s
  obtain ⟨l, hl⟩ : ∃ l, s.data.toList = l := ⟨_, rfl⟩
  rw [hl] at hget hlen ⊢
  have HL := Lib.hid hlen
  obtain ⟨R, hR⟩ : ∃ R, valL l = R := ⟨_, rfl⟩
  rw [hR]
  have HR := Lib.hid hR
  clear hlen hl hR
  go_enter Tryz.func34, Tryz.ntmps34
  go_wp2_with fail
  go_loop [3] (fun iv => RvRel l s.size iv) (fun iv => s.size - (intOf iv).toNat)
  case atStart => exact ⟨0, rfl, Nat.zero_le _, rfl⟩
  case round =>
    obtain ⟨k, rfl, hk, hall⟩ := hrel
    have HALL := Lib.hid hall
    clear hall
    by_cases hlt : k < s.size
    · have hkl : k < l.length := by rw [HL.out]; exact hlt
      have k1 : (k : Int) < s.size := by omega
      have hb := ba_get hkl
      have hv := ba_lt l k
      have hgk := hget k hlt
      have hvb := rvB_val (l[k])
      unfold rvB at hvb
      rw [blnk_val, ← hb] at hvb
      obtain ⟨v, hv2⟩ : ∃ v, ba l k = v := ⟨_, rfl⟩
      rw [hv2] at hgk hv hvb
      have HB := Lib.hid (rblank_any v w hv)
      obtain ⟨t, ht⟩ : ∃ t, decide (v = 32 ∨ v = 9) = t := ⟨_, rfl⟩
      rw [ht] at HB hvb
      have HVB := Lib.hid hvb
      have HE : Hid (valB (l[k]) = true → RvRel l s.size (.int .i64 (k + 1 : Nat))) := Lib.hid (fun e => ⟨k + 1, rfl, hlt, all_take_succ HALL.out hkl e⟩)
      have HF : Hid (valB (l[k]) = false → R = false) := Lib.hid (fun e => by rw [← HR.out]; unfold valL; rw [all_not hkl e, Bool.and_false])
      have HTT := Lib.hid ht
      clear hv2 hvb hb hget ht
      obtain rfl | rfl : t = false ∨ t = true := by cases t <;> simp
      · by_cases h33 : v < 33
        · obtain rfl := HF.out (by rw [← HVB.out]; simp; omega)
          have e1 : (v : Int) < 33 := by omega
          go_wp2_with fail
          refine HB.out.mono ?_
          rintro e w1 ⟨rfl, rfl⟩
          go_wp2
          go_ret
          exact ⟨rfl, rfl⟩
        · by_cases h127 : v = 127
          · obtain rfl := HF.out (by rw [← HVB.out]; simp; omega)
            subst h127
            go_wp2_with fail
            refine HB.out.mono ?_
            rintro e w1 ⟨rfl, rfl⟩
            go_wp2
            go_ret
            exact ⟨rfl, rfl⟩
          · have HE2 := Lib.hid (HE.out (by rw [← HVB.out]; simp; omega))
            have e1 : (33 : Int) ≤ v := by omega
            have e2 : ((v : Int) == 127) = false := by rw [beq_eq_false_iff_ne]; omega
            clear HE HF h33 h127
            go_wp2_with fail
            refine HB.out.mono ?_
            rintro e w1 ⟨rfl, rfl⟩
            go_wp2
            go_round
            case rel => exact HE2.out
            case measure => simp [intOf]; omega
      · have HE2 := Lib.hid (HE.out (by rw [← HVB.out]; rfl))
        clear HE HF
        go_wp2_with fail
        refine HB.out.mono ?_
        rintro e w1 ⟨rfl, rfl⟩
        go_wp2
        go_round
        case rel => exact HE2.out
        case measure => simp [intOf]; omega
    · have hkn : k = s.size := by omega
      have hall : l.all valB = true := by
        have h1 := HALL.out
        rwa [List.take_of_length_le (by rw [HL.out]; omega)] at h1
      have hvi := valL_iff hall
      rw [HR.out] at hvi
      subst hkn
      by_cases he : s.size = 0
      · have hr : R = true := by
          have hl0 : l = [] := List.eq_nil_of_length_eq_zero (by rw [HL.out]; exact he)
          subst hl0
          refine hvi.2 ?_
          rintro c (h | h) <;> cases h
        subst hr
        have e0 : ((s.size : Int) == 0) = true := by rw [beq_iff_eq]; omega
        clear he hvi hall
        go_wp2
        go_ret
        exact ⟨rfl, rfl⟩
      · have hpos : 0 < s.size := by omega
        have hpl : 0 < l.length := by rw [HL.out]; exact hpos
        have hll : l.length - 1 < l.length := by omega
        have h0 := hget 0 hpos
        have h1 := hget (s.size - 1) (by omega)
        have hv0 := ba_lt l 0
        have hv1 := ba_lt l (s.size - 1)
        have hb0 := ba_get hpl
        have hb1 := ba_get (l := l) (j := s.size - 1) (by rw [HL.out]; omega)
        have hhd : l.head? = some (l[0]) := by rw [List.head?_eq_getElem?, List.getElem?_eq_getElem hpl]
        have hgl : l.getLast? = some (l[s.size - 1]'(by rw [HL.out]; omega)) := by
          have e : l.getLast? = l[s.size - 1]? := by rw [List.getLast?_eq_getElem?]; congr 1; rw [HL.out]
          rw [e, List.getElem?_eq_getElem]
        have hr : R = (!decide ((ba l 0) = 32 ∨ (ba l 0) = 9) && !decide ((ba l (s.size - 1)) = 32 ∨ (ba l (s.size - 1)) = 9)) := by
          rw [Bool.eq_iff_iff, hvi]
          have p0 : blnk (l[0]) = decide ((ba l 0) = 32 ∨ (ba l 0) = 9) := by rw [blnk_val, hb0]
          have p1 : blnk (l[s.size - 1]'(by rw [HL.out]; omega)) = decide ((ba l (s.size - 1)) = 32 ∨ (ba l (s.size - 1)) = 9) := by rw [blnk_val, hb1]
          rw [← p0, ← p1]
          simp only [Bool.and_eq_true, Bool.not_eq_true']
          constructor
          · exact fun h => ⟨h _ (.inl hhd), h _ (.inr hgl)⟩
          · rintro ⟨a, b⟩ c (h | h)
            · rw [hhd] at h; injection h with h; rw [← h]; exact a
            · rw [hgl] at h; injection h with h; rw [← h]; exact b
        obtain ⟨v0, e0⟩ : ∃ v, ba l 0 = v := ⟨_, rfl⟩
        obtain ⟨v1, e1⟩ : ∃ v, ba l (s.size - 1) = v := ⟨_, rfl⟩
        rw [e0] at h0 hv0 hr
        rw [e1] at h1 hv1 hr
        have HB0 := Lib.hid (fun w => rblank_any v0 w hv0)
        have HB1 := Lib.hid (fun w => rblank_any v1 w hv1)
        obtain ⟨t0, ht0⟩ : ∃ t, decide (v0 = 32 ∨ v0 = 9) = t := ⟨_, rfl⟩
        obtain ⟨t1, ht1⟩ : ∃ t, decide (v1 = 32 ∨ v1 = 9) = t := ⟨_, rfl⟩
        rw [ht0] at HB0 hr
        rw [ht1] at HB1 hr
        have HRR := Lib.hid hr
        have ez : ((s.size : Int) == 0) = false := by rw [beq_eq_false_iff_ne]; omega
        have h1' : ∀ (h : s.size - 1 < s.size), ((s[s.size - 1]'h).toNat : Int) = (v1 : Int) := fun _ => h1
        have HB02 := Lib.hid (HB0.out w)
        have HB12 := Lib.hid (HB1.out w)
        clear he hvi hall hget hb0 hb1 hhd hgl e0 e1 ht0 ht1 hr hpl hll HB0 HB1
        have hm1 : ((s.size : Int) - 1).toNat = s.size - 1 := by omega
        have hm2 : (0 : Int) ≤ (s.size : Int) - 1 := by omega
        obtain rfl | rfl : t0 = false ∨ t0 = true := by cases t0 <;> simp
        · go_wp2_with fail
          refine HB02.out.mono ?_
          rintro e w1 ⟨rfl, rfl⟩
          go_wp2_with fail
          refine HB12.out.mono ?_
          rintro e w1 ⟨rfl, rfl⟩
          obtain rfl | rfl : t1 = false ∨ t1 = true := by cases t1 <;> simp
          · obtain rfl := HRR.out
            go_wp2
            go_ret
            exact ⟨rfl, rfl⟩
          · obtain rfl := HRR.out
            go_wp2
            go_ret
            exact ⟨rfl, rfl⟩
        · obtain rfl := HRR.out
          go_wp2_with fail
          refine HB02.out.mono ?_
          rintro e w1 ⟨rfl, rfl⟩
          go_wp2
          go_ret
          exact ⟨rfl, rfl⟩
end Go.Proofs.YtpkmciohehaboaaGreatDoor

/- The walks of the document's Trim, Lower, worth, number, Decimal. -/
namespace Go.Proofs.YtpkmciohehaboaaGreatDoor
open Go.RowKit

theorem dropWhile_rev_comm (f : UInt8 → Bool) (l : List UInt8) : ((l.dropWhile f).reverse.dropWhile f).reverse = ((l.reverse.dropWhile f).reverse).dropWhile f := by
  induction l with
  | nil => rfl
  | cons a t ih =>
    cases h : f a with
    | true =>
      rw [List.dropWhile_cons_of_pos h, ih, List.reverse_cons, List.dropWhile_append]
      by_cases he : (t.reverse.dropWhile f).isEmpty = true
      · have : t.reverse.dropWhile f = [] := by simpa using he
        rw [this]
        simp [h]
      · have h2 : (t.reverse.dropWhile f).isEmpty = false := by simpa using he
        simp only [h2, Bool.false_eq_true, if_false]
        rw [List.reverse_append, List.reverse_singleton, List.singleton_append, List.dropWhile_cons_of_pos h]
    | false =>
      rw [List.dropWhile_cons_of_neg (by simp [h]), List.reverse_cons, List.dropWhile_append]
      have hn : ∀ t : List UInt8, (t ++ [a]).dropWhile f ≠ [] → True := fun _ _ => trivial
      by_cases he : (t.reverse.dropWhile f).isEmpty = true
      · have h3 : t.reverse.dropWhile f = [] := by simpa using he
        rw [h3]
        simp [h]
      · have h2 : (t.reverse.dropWhile f).isEmpty = false := by simpa using he
        simp only [h2, Bool.false_eq_true, if_false]
        rw [List.reverse_append, List.reverse_singleton, List.singleton_append, List.dropWhile_cons_of_neg (by simp [h])]
theorem trimL_other (l : List UInt8) : trimL l = ((l.dropWhile blnk).reverse.dropWhile blnk).reverse := by
  unfold trimL Lib.trimS
  rw [left_eq, right_eq, dropWhile_rev_comm]
def TrRel1 (G : List UInt8) (v : Value) : Prop := ∃ x : ByteArray, v = .string x ∧ x.data.toList.dropWhile blnk = G ∧ x.size ≤ 140737488355328
def TrRel2 (G : List UInt8) (v : Value) : Prop := ∃ x : ByteArray, v = .string x ∧ (x.data.toList.reverse.dropWhile blnk).reverse = G ∧ x.size ≤ 140737488355328
def StrM (v : Value) : Nat := match v with
  | .string x => x.size
  | _ => 0
set_option maxRecDepth 100000 in
set_option maxHeartbeats 8000000 in
theorem rtrim_any (s : ByteArray) (w : World) (hs : s.size ≤ 140737488355328) : Calls Tryz.prog 32 #[.string s] w fun e w' => e = .returned (.string (mkS (trimL s.data.toList))) ∧ w = w' := by
  have ht := trimL_other s.data.toList
  obtain ⟨G, hG⟩ : ∃ G, s.data.toList.dropWhile blnk = G := ⟨_, rfl⟩
  rw [hG] at ht
  obtain ⟨T, hT⟩ : ∃ T, trimL s.data.toList = T := ⟨_, rfl⟩
  rw [hT] at ht ⊢
  have HT := Lib.hid ht
  have HG := Lib.hid hG
  obtain ⟨TT, hTT⟩ : ∃ TT, mkS T = TT := ⟨_, rfl⟩
  rw [hTT]
  have HTT := Lib.hid hTT
  clear ht hG hT hTT
  go_enter Tryz.func32, Tryz.ntmps32
  go_wp2_with fail
  go_loop [0] (fun v => TrRel1 G v) (fun v => StrM v)
  case atStart => exact ⟨s, rfl, HG.out, hs⟩
  case round =>
    obtain ⟨x, rfl, hx, hxs⟩ := hrel
    have hlx := str_len x
    have hget := get_ba x
    have hsl := fun h => sl_from x 1 h
    obtain ⟨t, htl⟩ : ∃ t, x.data.toList = t := ⟨_, rfl⟩
    rw [htl] at hx hlx hget hsl
    obtain ⟨bk, hbk⟩ : ∃ bk, (match t with | [] => false | c :: _ => blnk c) = bk := ⟨_, rfl⟩
    have HX := Lib.hid (And.intro hx (And.intro hlx (And.intro htl hbk)))
    have HS := Lib.hid hsl
    clear hx hlx htl hsl hbk
    go_upto_region 1 with fail
    go_cut [10] (fun y wx => y = .bool bk ∧ wx = w)
    case first =>
      cases t with
      | nil =>
        have hb : bk = false := HX.out.2.2.2.symm
        subst hb
        have hx0 : x = ⟨#[]⟩ := str_empty HX.out.2.2.1
        subst hx0
        clear hget
        go_wp2
        go_meet
        exact ⟨rfl, rfl⟩
      | cons c r =>
        have hb : blnk c = bk := HX.out.2.2.2
        have hpos : 0 < x.size := by have := HX.out.2.1; simp at this; omega
        have h0 := hget 0 hpos
        have hb0 : ba (c :: r) 0 = c.toNat := rfl
        rw [hb0] at h0
        have HB := Lib.hid (rblank_any c.toNat w c.toNat_lt)
        rw [← blnk_val, hb] at HB
        obtain ⟨v, hv⟩ : ∃ v, c.toNat = v := ⟨_, rfl⟩
        rw [hv] at HB h0
        clear hget hb hb0 hv
        go_wp2_with fail
        refine HB.out.mono ?_
        rintro e w1 ⟨rfl, rfl⟩
        go_wp2
        go_meet
        exact ⟨rfl, rfl⟩
    case rest =>
    obtain ⟨rfl, hwc⟩ := hcut
    subst hwc
    cases bk with
    | true =>
      cases t with
      | nil => exact absurd HX.out.2.2.2 (by simp)
      | cons c r =>
        have hc : blnk c = true := HX.out.2.2.2
        have hpos : 1 ≤ x.size := by have := HX.out.2.1; simp at this; omega
        have hs1 := HS.out hpos
        have HN : Hid (TrRel1 G (.string (mkS r)) ∧ StrM (.string (mkS r)) < StrM (.string x)) := Lib.hid ⟨⟨mkS r, rfl, by rw [mkS_list, ← HX.out.1, List.dropWhile_cons_of_pos hc], by have := HX.out.2.1; simp at this; rw [mkS_size]; omega⟩, by show (mkS r).size < x.size; rw [mkS_size, ← HX.out.2.1]; simp⟩
        have hex : mkS r = x.extract 1 x.size := by
          rw [extract_list, HX.out.2.2.1, List.take_of_length_le (by rw [HX.out.2.1]; exact Nat.le_refl _)]
          rfl
        rw [hex] at HN
        clear hget hex hc hs1
        go_wp2
        go_round
        case rel => exact HN.out.1
        case measure => exact HN.out.2
    | false =>
      have hg : t = G := by
        rw [← HX.out.1]
        cases t with
        | nil => rfl
        | cons c r =>
          have hc : blnk c = false := HX.out.2.2.2
          rw [List.dropWhile_cons_of_neg (by simp [hc])]
      have HTG : Hid (x.data.toList = G) := Lib.hid (HX.out.2.2.1.trans hg)
      clear hget HS HX hg
      go_wp2_with fail
      go_loop [0] (fun v => TrRel2 T v) (fun v => StrM v)
      case atStart => exact ⟨x, rfl, by rw [HTG.out, HT.out], hxs⟩
      case round =>
        clear HTG hxs
        obtain ⟨z, rfl, hz, hzs⟩ := hrel
        have hlz := str_len z
        have hget := get_ba z
        have hsl := fun (k : Nat) h => sl_to z k h
        obtain ⟨t, htl⟩ : ∃ t, z.data.toList = t := ⟨_, rfl⟩
        rw [htl] at hz hlz hget hsl
        obtain ⟨bk, hbk⟩ : ∃ bk, (match t.reverse with | [] => false | c :: _ => blnk c) = bk := ⟨_, rfl⟩
        have HZ := Lib.hid (And.intro hz (And.intro hlz (And.intro htl hbk)))
        have HS := Lib.hid hsl
        clear hz hlz htl hsl hbk
        go_upto_region 3 with fail
        go_cut [23] (fun y wx => y = .bool bk ∧ wx = wc)
        case first =>
          rcases List.eq_nil_or_concat t with rfl | ⟨r, c, rfl⟩
          · have hb : bk = false := HZ.out.2.2.2.symm
            subst hb
            have hx0 : z = ⟨#[]⟩ := str_empty HZ.out.2.2.1
            subst hx0
            clear hget
            go_wp2
            go_meet
            exact ⟨rfl, rfl⟩
          · have hb : blnk c = bk := by have := HZ.out.2.2.2; simpa using this
            have hsz : r.length + 1 = z.size := by have := HZ.out.2.1; simpa using this
            have hpos : 0 < z.size := by omega
            have h0 := hget (z.size - 1) (by omega)
            have hb0 : ba (r ++ [c]) (z.size - 1) = c.toNat := by
              rw [ba_get (by simp; omega)]
              congr 1
              rw [List.getElem_append_right (by omega)]
              simp
            rw [List.concat_eq_append] at h0
            rw [hb0] at h0
            have HB := Lib.hid (rblank_any c.toNat wc c.toNat_lt)
            rw [← blnk_val, hb] at HB
            obtain ⟨v, hv⟩ : ∃ v, c.toNat = v := ⟨_, rfl⟩
            rw [hv] at HB h0
            have h0' : ∀ (h : z.size - 1 < z.size), ((z[z.size - 1]'h).toNat : Int) = (v : Int) := fun _ => h0
            have hm1 : ((z.size : Int) - 1).toNat = z.size - 1 := by omega
            have hm2 : (0 : Int) ≤ (z.size : Int) - 1 := by omega
            clear hget hb hb0 hv
            go_wp2_with fail
            refine HB.out.mono ?_
            rintro e w1 ⟨rfl, rfl⟩
            go_wp2
            go_meet
            exact ⟨rfl, rfl⟩
        case rest =>
        rename World => wd
        obtain ⟨rfl, hwd⟩ := hcut
        subst hwd
        cases bk with
        | true =>
          rcases List.eq_nil_or_concat t with rfl | ⟨r, c, rfl⟩
          · exact absurd HZ.out.2.2.2 (by simp)
          · have hc : blnk c = true := by have := HZ.out.2.2.2; simpa using this
            have hsz : r.length + 1 = z.size := by have := HZ.out.2.1; simpa using this
            have hs1 := HS.out (z.size - 1) (by omega)
            rw [List.concat_eq_append, show z.size - 1 = r.length by omega, List.take_left] at hs1
            have HN : Hid (TrRel2 T (.string (mkS r)) ∧ StrM (.string (mkS r)) < StrM (.string z)) := Lib.hid ⟨⟨mkS r, rfl, by
              have h1 := HZ.out.1
              rw [List.concat_eq_append, List.reverse_append, List.reverse_singleton, List.singleton_append, List.dropWhile_cons_of_pos hc] at h1
              rw [mkS_list]
              exact h1, by rw [mkS_size]; omega⟩, by show (mkS r).size < z.size; rw [mkS_size]; omega⟩
            have hex : mkS r = z.extract 0 (z.size - 1) := by
              rw [extract_list, HZ.out.2.2.1, List.concat_eq_append, show z.size - 1 = r.length by omega, List.take_left, List.drop_zero]
            rw [hex] at HN
            have hm1 : ((z.size : Int) - 1).toNat = z.size - 1 := by omega
            have hm2 : (0 : Int) ≤ (z.size : Int) - 1 := by omega
            clear hget hex hc hs1
            go_wp2
            go_round
            case rel => exact HN.out.1
            case measure => exact HN.out.2
        | false =>
          have hzt : z = TT := by
            rw [← HTT.out, ← HZ.out.1]
            rcases List.eq_nil_or_concat t with rfl | ⟨r, c, rfl⟩
            · exact str_empty HZ.out.2.2.1
            · have hc : blnk c = false := by have := HZ.out.2.2.2; simpa using this
              rw [List.concat_eq_append, List.reverse_append, List.reverse_singleton, List.singleton_append, List.dropWhile_cons_of_neg (by simp [hc]), List.reverse_cons, List.reverse_reverse, ← List.concat_eq_append, ← HZ.out.2.2.1, mkS_of]
          subst hzt
          clear hget
          go_wp2
          go_ret
          exact ⟨rfl, rfl⟩
end Go.Proofs.YtpkmciohehaboaaGreatDoor

/- The walks of the document's Lower, worth, number, Decimal; of octet.Digits. -/
namespace Go.Proofs.YtpkmciohehaboaaGreatDoor
open Go.RowKit

theorem lowL_snoc {l : List UInt8} {k : Nat} (h : k < l.length) : lowL (l.take (k + 1)) = lowL (l.take k) ++ [lowB (l[k])] := by
  rw [List.take_add_one, List.getElem?_eq_getElem h, Option.toList_some]
  unfold lowL
  rw [List.map_append]
  rfl
theorem own_empty0 (w : World) (e : TypeId) (size : Nat) : (w.alloc (.cells #[] e)).ownsRow w.heap.size e size (.slice (some ⟨w.heap.size, 0, none⟩) 0 0) 0 [] :=
  ⟨by simp, .inr ⟨w.heap.size, 0, #[], rfl, Nat.le_refl _, heapNew _ _, Nat.le_refl _, Nat.zero_le _, by simp, by simp⟩⟩
def RlRel (W : World) (l : List UInt8) (n : Nat) (ov iv : Value) (wr : World) : Prop := ∃ k : Nat, iv = .int .i64 k ∧ k ≤ n ∧ wr.ownsRow W.heap.size 5 1 ov k (bvs (lowL (l.take k))) ∧ Below W.heap.size W wr
set_option maxRecDepth 100000 in
set_option maxHeartbeats 8000000 in
theorem rlower_any (s : ByteArray) (w : World) (hs : s.size ≤ 140737488351232) : Calls Tryz.prog 33 #[.string s] w fun e w' => e = .returned (.string (mkS (lowL s.data.toList))) ∧ Below w.heap.size w w' := by
  have hget := get_ba s
  have hlen := str_len s
  obtain ⟨l, hl⟩ : ∃ l, s.data.toList = l := ⟨_, rfl⟩
  rw [hl] at hget hlen ⊢
  have HL := Lib.hid hlen
  obtain ⟨R, hR⟩ : ∃ R, mkS (lowL l) = R := ⟨_, rfl⟩
  rw [hR]
  have HR := Lib.hid hR
  clear hlen hl hR
  go_enter Tryz.func33, Tryz.ntmps33
  go_wp2_with fail
  go_loopw [3, 4] (fun ov iv wr => RlRel w l s.size ov iv wr) (fun _ iv _ => s.size - (intOf iv).toNat)
  case atStart =>
    refine ⟨0, rfl, Nat.zero_le _, ?_, (Below.refl _ _).alloc (Nat.le_refl _) _⟩
    exact own_empty0 w 5 1
  case round =>
    obtain ⟨k, rfl, hk, hown, hb⟩ := hrel
    have HO := Lib.hid (And.intro hown hb)
    have hsr := hb.size
    clear hown hb
    by_cases hlt : k < s.size
    · have hkl : k < l.length := by rw [HL.out]; exact hlt
      have k1 : (k : Int) < s.size := by omega
      have hbk := ba_get hkl
      have hv := ba_lt l k
      have hgk := hget k hlt
      have hlv := lowB_val (l[k])
      rw [← hbk] at hlv
      obtain ⟨v, hv2⟩ : ∃ v, ba l k = v := ⟨_, rfl⟩
      rw [hv2] at hgk hv hlv
      have HLV := Lib.hid hlv
      have HSN : Hid (∀ (u : Nat) (v' : Value) (w' : World), u = (lowB (l[k])).toNat → w'.ownsRow w.heap.size 5 1 v' (k + 1) (bvs (lowL (l.take k)) ++ [.int .u8 (u : Int)]) → Below w.heap.size w w' → RlRel w l s.size v' (.int .i64 (k + 1 : Nat)) w') := Lib.hid (fun u v' w' e h1 h2 => by
        refine ⟨k + 1, rfl, hlt, ?_, h2⟩
        rw [lowL_snoc hkl, bvs_append]
        rw [e] at h1
        exact h1)
      have HAL : Hid (∀ ob, (wr.alloc ob).ownsRow w.heap.size 5 1 u3 k (bvs (lowL (l.take k)))) := Lib.hid (fun ob => own_kept4 HO.out.1 ((Kept.refl (fun _ => False) wr).alloc ob) (fun _ _ h => h))
      clear hlv hv2 hbk hget
      by_cases hc : 65 ≤ v ∧ v ≤ 90
      · obtain ⟨hc1, hc2⟩ := hc
        have HE := Lib.hid (show v + 32 = (lowB (l[k])).toNat by rw [HLV.out, if_pos ⟨hc1, hc2⟩])
        have c1 : (65 : Int) ≤ v := by omega
        have c2 : (v : Int) ≤ 90 := by omega
        go_wp2_with (at_builtin; refine of_stop ?_)
        unfold Stop
        refine wpList_app (.tmp 24) (.tmp 26) tBytes rfl rfl (HAL.out _) rfl (Rd.one _ _ _) rfl (by simp [Value.oneCell']) (le_maxLen (by omega)) (by omega) (by simp; omega) ?_
        intro v6 w6 hown6 hg6 _
        obtain ⟨A6, c6, rfl, -, -, -, -⟩ := own_slice hown6
        have HN := Lib.hid (HSN.out (v + 32) _ w6 HE.out hown6 (Below.app (HO.out.2.alloc hsr _) (HAL.out _) hg6 (Nat.le_refl _) (by simp; omega)))
        clear hown6 hg6 HSN
        go_wp2
        go_roundw
        case rel => exact HN.out
        case measure => simp [intOf]; omega
      · have HE := Lib.hid (show v = (lowB (l[k])).toNat by rw [HLV.out, if_neg hc])
        have hcc : (v : Int) < 65 ∨ (90 : Int) < v := by omega
        rcases hcc with c1 | c1
        all_goals
          go_wp2_with (at_builtin; refine of_stop ?_)
          unfold Stop
          refine wpList_app (.tmp 24) (.tmp 26) tBytes rfl rfl (HAL.out _) rfl (Rd.one _ _ _) rfl (by simp [Value.oneCell']) (le_maxLen (by omega)) (by omega) (by simp; omega) ?_
          intro v6 w6 hown6 hg6 _
          obtain ⟨A6, c6, rfl, -, -, -, -⟩ := own_slice hown6
          have HN := Lib.hid (HSN.out v _ w6 HE.out hown6 (Below.app (HO.out.2.alloc hsr _) (HAL.out _) hg6 (Nat.le_refl _) (by simp; omega)))
          clear hown6 hg6 HSN
          go_wp2
          go_roundw
          case rel => exact HN.out
          case measure => simp [intOf]; omega
    · have hkn : k = s.size := by omega
      subst hkn
      obtain ⟨A6, c6, rfl, -, -, hr6, -⟩ := own_slice HO.out.1
      rw [List.take_of_length_le (by rw [HL.out]; omega)] at hr6
      have hst := run_str Tryz.underlying48 Tryz.underlying5 Tryz.underlying9 hr6 c6
      have hrr : (⟨(lowL l).toArray⟩ : ByteArray) = R := HR.out
      rw [hrr] at hst
      clear hrr hr6
      go_wp2
      go_ret
      exact ⟨rfl, HO.out.2⟩
def wthN (c : Nat) : Nat := if 48 ≤ c ∧ c ≤ 57 then c - 48 else if 97 ≤ c ∧ c ≤ 102 then c - 87 else if 65 ≤ c ∧ c ≤ 70 then c - 55 else 99
set_option maxRecDepth 100000 in
set_option maxHeartbeats 4000000 in
theorem rworth_any (v : Nat) (w : World) (hv : v < 256) : Calls Tryz.prog 122 #[.int .u8 (v : Int)] w fun e w' => e = .returned (.int .i64 (wthN v : Nat)) ∧ w = w' := by
  have HD := Lib.hid (rdigit_any v w hv)
  obtain ⟨R, hR⟩ : ∃ R, wthN v = R := ⟨_, rfl⟩
  have hr := hR
  rw [hR]
  unfold wthN at hr
  have HR := Lib.hid hr
  clear hR hr
  go_enter Tryz.func122, Tryz.ntmps122
  go_wp2_with fail
  refine HD.out.mono ?_
  rintro e w1 ⟨rfl, rfl⟩
  have yes : (48 ≤ v ∧ v ≤ 57) ∨ (97 ≤ v ∧ v ≤ 102) ∨ (65 ≤ v ∧ v ≤ 70) ∨ ((v < 48) ∨ (57 < v ∧ v < 65) ∨ (70 < v ∧ v < 97) ∨ 102 < v) := by omega
  rcases yes with h | h | h | h
  · have hr : R = v - 48 := by rw [← HR.out, if_pos h]
    have hd : decide (48 ≤ v ∧ v ≤ 57) = true := decide_eq_true h
    obtain ⟨h1, h2⟩ := h
    have e1 : (48 : Int) ≤ v := by omega
    have e3 := Lib.hid (show (R : Int) = v - 48 by omega)
    rw [hd]
    clear hr hd
    go_wp2
    go_ret
    exact ⟨ret_v (show Value.int .i64 ((v : Int) - 48) = .int .i64 (R : Int) by rw [e3.out]), rfl⟩
  · have hr : R = v - 87 := by rw [← HR.out, if_neg (by omega), if_pos h]
    have hd : decide (48 ≤ v ∧ v ≤ 57) = false := decide_eq_false (by omega)
    obtain ⟨h1, h2⟩ := h
    have e1 : (97 : Int) ≤ v := by omega
    have e2 : (v : Int) ≤ 102 := by omega
    have e3 := Lib.hid (show (R : Int) = v - 87 by omega)
    rw [hd]
    clear hr hd
    go_wp2
    go_ret
    exact ⟨ret_v (show Value.int .i64 ((v : Int) - 87) = .int .i64 (R : Int) by rw [e3.out]), rfl⟩
  · have hr : R = v - 55 := by rw [← HR.out, if_neg (by omega), if_neg (by omega), if_pos h]
    have hd : decide (48 ≤ v ∧ v ≤ 57) = false := decide_eq_false (by omega)
    obtain ⟨h1, h2⟩ := h
    have e1 : (65 : Int) ≤ v := by omega
    have e2 : (v : Int) ≤ 70 := by omega
    have e3 := Lib.hid (show (R : Int) = v - 55 by omega)
    rw [hd]
    clear hr hd
    go_wp2
    go_ret
    exact ⟨ret_v (show Value.int .i64 ((v : Int) - 55) = .int .i64 (R : Int) by rw [e3.out]), rfl⟩
  · have hr : R = 99 := by rw [← HR.out, if_neg (by omega), if_neg (by omega), if_neg (by omega)]
    have hd : decide (48 ≤ v ∧ v ≤ 57) = false := decide_eq_false (by omega)
    subst hr
    rw [hd]
    clear hd
    rcases h with h | h | h | h
    · have e1 : (v : Int) < 48 := by omega
      go_wp2
      go_ret
      exact ⟨rfl, rfl⟩
    · obtain ⟨h1, h2⟩ := h
      have e1 : (57 : Int) < v := by omega
      have e2 : (v : Int) < 65 := by omega
      go_wp2
      go_ret
      exact ⟨rfl, rfl⟩
    · obtain ⟨h1, h2⟩ := h
      have e1 : (70 : Int) < v := by omega
      have e2 : (v : Int) < 97 := by omega
      go_wp2
      go_ret
      exact ⟨rfl, rfl⟩
    · have e1 : (102 : Int) < v := by omega
      go_wp2
      go_ret
      exact ⟨rfl, rfl⟩
theorem wth_dig {c : Nat} : (wthN c < 10 ↔ digN c < 10) ∧ (digN c < 10 → wthN c = digN c) := by
  unfold wthN digN
  constructor
  · split
    · omega
    · split
      · omega
      · split <;> omega
  · split
    · intro _; rfl
    · split
      · omega
      · split <;> omega
end Go.Proofs.YtpkmciohehaboaaGreatDoor
