/- 9 texts in one: Cn5, Rd1, Rd2, Rd3, Rd4, Rd5, StreamPlain, Stream, StreamRows. -/
import Derived.Test.YtpkmciohehaboaaGreatDoorM14
import Derived.Test.YtpkmciohehaboaaGreatDoorM12
import Derived.Test.YtpkmciohehaboaaGreatDoorM1
import Derived.Test.YtpkmciohehaboaaGreatDoorChecked
import Derived.Great.BuildSlice
import Derived.Great.Walk
import Derived.Great.Ranges
/- The walks of conn.settings (nothing is set), conn.headers. -/
namespace Go.Proofs.YtpkmciohehaboaaGreatDoor
open Go.RowKit Go.Maps

def SeRel (W : World) (iv : Value) (wr : World) : Prop := iv = .int .i64 0 ∧ wr = W
set_option maxRecDepth 100000 in
set_option maxHeartbeats 8000000 in
theorem settings_any {B p n : Nat} {c : Cv} {xs : List Value} {cs : List Comp} (w : World) (h : All B w (cConn p c :: cRow 5 1 c.bytes n xs :: cs)) (hn : n ≤ 1000000) :
    Calls Tryz.prog 137 #[.pointer (some ⟨p, 0, none⟩), frV setF] w (Left B w fun w' => ∃ v n' xs', n' ≤ n + 9 ∧ All B w' (cConn p { c with bytes := v } :: cRow 5 1 v n' xs' :: cs)) := by
  have hok : CtOk ⟨4, 1, 0, none, 0, 0, 0, 0, 0⟩ [] := ⟨.inr (.inl ⟨rfl, rfl, rfl, rfl⟩), .inr rfl, Nat.zero_le _, Nat.zero_le _, Nat.zero_le _, Nat.zero_le _, Nat.zero_le _, rfl, fun s hs => by cases hs⟩
  have hrd : ∀ (w : World) (B : Nat), Rd w B 2 none 0 (setsL []) := fun w B => ⟨rfl, fun h => absurd h (Nat.lt_irrefl 0)⟩
  have HW : Hid (∀ w1, Below w.heap.size w w1 → Calls Tryz.prog 49 #[.pointer (some ⟨p, 0, none⟩), ctV ⟨4, 1, 0, none, 0, 0, 0, 0, 0⟩] w1 (Left B w1 fun w' => ∃ v n' xs', n' ≤ n + 0 + 9 ∧ All B w' (cConn p { c with bytes := v } :: cRow 5 1 v n' xs' :: cs))) := Lib.hid (fun w1 hb =>
    write_any (M := 0) ⟨4, 1, 0, none, 0, 0, 0, 0, 0⟩ [] w1 (h.below hb) hok (hrd _ _) (by omega) (fun w' _ => payload_set ⟨4, 1, 0, none, 0, 0, 0, 0, 0⟩ [] w' hok rfl (hrd _ _)) hn)
  have HSZ := Lib.hid h.sz
  unfold frV setF Fr.cells
  dsimp only
  clear h hok hrd
  go_enter Tryz.func137, Tryz.ntmps137
  go_wp2_with fail
  refine wp_named ?_
  intro W1 hW1
  have hb1 : Below w.heap.size w W1 := by rw [hW1]; exact (Below.refl _ _).alloc (Nat.le_refl _) _
  have HB1 := Lib.hid hb1
  clear hW1 hb1
  go_loopw [13] (fun iv wr => SeRel W1 iv wr) (fun _ _ => 0)
  case atStart => exact ⟨rfl, rfl⟩
  case round =>
    obtain ⟨rfl, rfl⟩ := hrel
    go_wp2_with fail
    refine (HW.out _ HB1.out).mono ?_
    rintro e w2 ⟨rfl, hb2, v, n', xs', hn', hA⟩
    have HA := Lib.hid hA
    have HB2 := Lib.hid ((HB1.out.mono HSZ.out).trans hb2)
    clear hA hb2
    go_wp2_with fail
    go_end0
    exact ⟨rfl, HB2.out, v, n', xs', hn', HA.out⟩
end Go.Proofs.YtpkmciohehaboaaGreatDoor

/- The walks of head.path, head.authority. -/
namespace Go.Proofs.YtpkmciohehaboaaGreatDoor
open Go.RowKit

def pthB (c : UInt8) : Bool := decide (33 ≤ c.toNat ∧ c.toNat ≤ 126 ∧ c.toNat ≠ 35)
def starB : ByteArray := ⟨#[42]⟩
def optB : ByteArray := ⟨#[79, 80, 84, 73, 79, 78, 83]⟩
/-- May a text be the path of a method? -/
def pathF (s m : ByteArray) : Bool := if s = starB then decide (m = optB) else s.data.toList.all pthB && Lib.hasPrefix s.data.toList [47]
def PtRel (l : List UInt8) (n : Nat) (iv : Value) : Prop := ∃ k : Nat, iv = .int .i64 k ∧ k ≤ n ∧ (l.take k).all pthB = true
set_option maxRecDepth 100000 in
set_option maxHeartbeats 4000000 in
theorem path_any (s m : ByteArray) (w : World) (hs : s.size ≤ 140737488355328) : Calls Tryz.prog 207 #[.string s, .string m] w fun e w' => e = .returned (.bool (pathF s m)) ∧ w = w' := by
  obtain ⟨R, hR⟩ : ∃ R, pathF s m = R := ⟨_, rfl⟩
  rw [hR]
  unfold pathF at hR
  by_cases hst : s = starB
  · rw [if_pos hst] at hR
    have e0 : (s.toList == [42]) = true := by rw [hst]; decide +kernel
    by_cases hm : m = optB
    · have e1 : (m.toList == [79, 80, 84, 73, 79, 78, 83]) = true := by rw [hm]; decide +kernel
      have hr : R = true := by rw [← hR]; simp [hm]
      subst hr
      clear hR hst hm
      go_enter Tryz.func207, Tryz.ntmps207
      go_wp2_with fail
      go_ret
      exact ⟨rfl, rfl⟩
    · have e1 := ne_lit hm
      rw [show optB.toList = [79, 80, 84, 73, 79, 78, 83] from by decide +kernel] at e1
      have hr : R = false := by rw [← hR]; simp [hm]
      subst hr
      clear hR hst hm
      go_enter Tryz.func207, Tryz.ntmps207
      go_wp2_with fail
      go_ret
      exact ⟨rfl, rfl⟩
  · rw [if_neg hst] at hR
    have e0 := ne_lit hst
    rw [show starB.toList = [42] from by decide +kernel] at e0
    have HP := Lib.hid (fun w => Any.strings_HasPrefix Tryz.lays99 s ⟨#[47]⟩ w)
    have hl47 : (⟨#[47]⟩ : ByteArray).data.toList = [47] := rfl
    rw [hl47] at HP
    have hget := get_ba s
    have hlen := str_len s
    obtain ⟨l, hl⟩ : ∃ l, s.data.toList = l := ⟨_, rfl⟩
    rw [hl] at hget hlen hR HP
    obtain ⟨n, hn⟩ : ∃ n, s.size = n := ⟨_, rfl⟩
    have HL := Lib.hid hlen
    have HR := Lib.hid hR
    have HN := Lib.hid hn
    clear hlen hl hR hst hl47 hn
    go_enter Tryz.func207, Tryz.ntmps207
    go_wp2_with fail
    go_loop [12] (fun iv => PtRel l n iv) (fun iv => n - (intOf iv).toNat)
    case atStart => exact ⟨0, rfl, Nat.zero_le _, rfl⟩
    case round =>
      obtain ⟨k, rfl, hk, hall⟩ := hrel
      have HALL := Lib.hid hall
      clear hall
      by_cases hlt : k < n
      · have hks : k < s.size := by have := HN.out; omega
        have hkl : k < l.length := by rw [HL.out]; exact hks
        have k1 : (k : Int) < s.size := by omega
        have hgk := hget k hks
        have hb : ba l k = (l[k]).toNat := ba_get hkl
        have HB := Lib.hid hb
        obtain ⟨c, hc⟩ : ∃ c, ba l k = c := ⟨_, rfl⟩
        rw [hc] at hgk
        have HC := Lib.hid hc
        have HBAD : Hid (¬ (33 ≤ c ∧ c ≤ 126 ∧ c ≠ 35) → R = false) := Lib.hid (fun h => by
          rw [← HR.out, all_not hkl (by unfold pthB; rw [← HB.out, HC.out]; simp; omega), Bool.false_and])
        clear hget hb hc
        by_cases h33 : c < 33
        · have i1 : (c : Int) < 33 := by omega
          have hr := HBAD.out (by omega)
          subst hr
          go_wp2_with fail
          go_ret
          exact ⟨rfl, rfl⟩
        · have i1 : ¬ ((c : Int) < 33) := by omega
          by_cases h126 : 126 < c
          · have i2 : (c : Int) > 126 := by omega
            have hr := HBAD.out (by omega)
            subst hr
            go_wp2_with fail
            go_ret
            exact ⟨rfl, rfl⟩
          · have i2 : ¬ ((c : Int) > 126) := by omega
            by_cases h35 : c = 35
            · have i3 : ((c : Int) == 35) = true := by rw [h35]; rfl
              have hr := HBAD.out (by omega)
              subst hr
              clear h35
              go_wp2_with fail
              go_ret
              exact ⟨rfl, rfl⟩
            · have i3 : ((c : Int) == 35) = false := by simp; omega
              have HE : Hid (PtRel l n (.int .i64 (k + 1 : Nat))) := Lib.hid ⟨k + 1, rfl, hlt, all_take_succ HALL.out hkl (by unfold pthB; rw [← HB.out, HC.out]; simp; omega)⟩
              go_wp2_with fail
              go_round
              case rel => exact HE.out
              case measure => simp [intOf]; have := HN.out; omega
      · have hkn : k = s.size := by have := HN.out; omega
        have hall2 : l.all pthB = true := by
          have h1 := HALL.out
          rwa [List.take_of_length_le (by rw [HL.out]; omega)] at h1
        have hr : Lib.hasPrefix l [47] = R := by rw [← HR.out, hall2, Bool.true_and]
        rw [hr] at HP
        clear hget hr hall2
        subst hkn
        go_wp2_with fail
        refine (HP.out _).mono ?_
        rintro e w1 ⟨rfl, rfl⟩
        go_wp2
        go_ret
        exact ⟨rfl, rfl⟩
def marks4 : List UInt8 := [46, 45, 91, 93]
def letN (v : Nat) : Bool := decide ((97 ≤ v ∧ v ≤ 122) ∨ (65 ≤ v ∧ v ≤ 90))
def auB (c : UInt8) : Bool := letN c.toNat || decide (48 ≤ c.toNat ∧ c.toNat ≤ 58) || marks4.contains c
/-- May a text be an authority? -/
def authF (s : ByteArray) : Bool := s.data.toList.all auB && decide (s.data.toList ≠ [])
theorem or_tab : ∀ v : Nat, v < 256 → Go.bits .or .u8 (v : Int) 32 = (((Go.bits .or .u8 (v : Int) 32).toNat : Nat) : Int) ∧ letN v = (decide (¬ (Go.bits .or .u8 (v : Int) 32).toNat < 97) && decide (¬ 122 < (Go.bits .or .u8 (v : Int) 32).toNat) && decide (¬ v < 65)) := by decide +kernel
def AuRel (l : List UInt8) (n : Nat) (iv : Value) : Prop := ∃ k : Nat, iv = .int .i64 k ∧ k ≤ n ∧ (l.take k).all auB = true
set_option maxRecDepth 100000 in
set_option maxHeartbeats 8000000 in
theorem authority_any (s : ByteArray) (w : World) (hs : s.size ≤ 140737488355328) : Calls Tryz.prog 219 #[.string s] w fun e w' => e = .returned (.bool (authF s)) ∧ w = w' := by
  obtain ⟨R, hR⟩ : ∃ R, authF s = R := ⟨_, rfl⟩
  rw [hR]
  unfold authF at hR
  have hget := get_ba s
  have hlen := str_len s
  obtain ⟨l, hl⟩ : ∃ l, s.data.toList = l := ⟨_, rfl⟩
  rw [hl] at hget hlen hR
  obtain ⟨n, hn⟩ : ∃ n, s.size = n := ⟨_, rfl⟩
  have HL := Lib.hid (And.intro hlen hl)
  have HR := Lib.hid hR
  have HN := Lib.hid hn
  clear hlen hl hR hn
  go_enter Tryz.func219, Tryz.ntmps219
  go_wp2_with fail
  go_loop [7] (fun iv => AuRel l n iv) (fun iv => n - (intOf iv).toNat)
  case atStart => exact ⟨0, rfl, Nat.zero_le _, rfl⟩
  case round =>
    obtain ⟨k, rfl, hk, hall⟩ := hrel
    have HALL := Lib.hid hall
    clear hall
    by_cases hlt : k < n
    · have hks : k < s.size := by have := HN.out; omega
      have hkl : k < l.length := by rw [HL.out.1]; exact hks
      have k1 : (k : Int) < s.size := by omega
      have hgk := hget k hks
      have hb : ba l k = (l[k]).toNat := ba_get hkl
      have hc256 : ba l k < 256 := by rw [hb]; exact UInt8.toNat_lt _
      have HI := Lib.hid (Any.strings_IndexByte Tryz.lays137 ⟨marks4.toArray⟩ ((ba l k : Nat) : Int) w)
      have hcc : (((ba l k : Nat) : Int)).toNat.toUInt8 = l[k] := by rw [hb]; simp
      have hl4 : (⟨marks4.toArray⟩ : ByteArray).data.toList = marks4 := rfl
      rw [hcc, hl4] at HI
      have hm := Lib.contains_iff_indexByte marks4 (l[k])
      have hge := Lib.indexByte_ge marks4 (l[k])
      obtain ⟨i, hi⟩ : ∃ i, Lib.indexByte marks4 (l[k]) = i := ⟨_, rfl⟩
      rw [hi] at HI hm hge
      obtain ⟨c, hc⟩ : ∃ c, ba l k = c := ⟨_, rfl⟩
      have hau : auB (l[k]) = (letN c || decide (48 ≤ c ∧ c ≤ 58) || decide (0 ≤ i)) := by unfold auB; rw [hm, ← hb, hc]
      rw [hc] at hgk hc256 HI
      obtain ⟨ho1, ho2⟩ := or_tab c hc256
      obtain ⟨o, ho⟩ : ∃ o, (Go.bits .or .u8 (c : Int) 32).toNat = o := ⟨_, rfl⟩
      rw [ho] at ho1 ho2
      have HE : Hid (auB (l[k]) = true → AuRel l n (.int .i64 (k + 1 : Nat))) := Lib.hid (fun h => ⟨k + 1, rfl, hlt, all_take_succ HALL.out hkl h⟩)
      have HBAD : Hid (auB (l[k]) = false → R = false) := Lib.hid (fun h => by rw [← HR.out, all_not hkl h, Bool.false_and])
      rw [hau, ho2] at HE HBAD
      unfold marks4 at HI
      clear hget hb hcc hl4 hm hi hc hau ho ho2
      by_cases hlet : ¬ o < 97 ∧ ¬ 122 < o ∧ ¬ c < 65
      · obtain ⟨a1, a2, a3⟩ := hlet
        have HE2 := Lib.hid (HE.out (by simp [a1, a2, a3]))
        have i1 : ¬ ((o : Int) < 97) := by omega
        have i2 : ¬ ((o : Int) > 122) := by omega
        have i3 : ¬ ((c : Int) < 65) := by omega
        clear HE HBAD a1 a2 a3 hge
        go_wp2_with fail
        go_round
        case rel => exact HE2.out
        case measure => simp [intOf]; have := HN.out; omega
      · have hl1 : (decide (¬ o < 97) && decide (¬ 122 < o) && decide (¬ c < 65)) = false := by
          rw [Bool.eq_false_iff]
          intro h
          simp at h
          exact hlet ⟨by omega, by omega, by omega⟩
        rw [hl1] at HE HBAD
        have hcase : (o : Int) < 97 ∨ (¬ ((o : Int) < 97) ∧ (o : Int) > 122) ∨ (¬ ((o : Int) < 97) ∧ ¬ ((o : Int) > 122) ∧ (c : Int) < 65) := by omega
        by_cases hdig : 48 ≤ c ∧ c ≤ 58
        · have HE2 := Lib.hid (HE.out (by simp [hdig]))
          have i4 : ¬ ((c : Int) < 48) := by omega
          have i5 : ¬ ((c : Int) > 58) := by omega
          clear HE HBAD hge hl1 hlet hdig
          rcases hcase with h | ⟨h, h'⟩ | ⟨h, h', h''⟩
          all_goals
            go_wp2_with fail
            go_round
            case rel => exact HE2.out
            case measure => simp [intOf]; have := HN.out; omega
        · have hcase2 : (c : Int) < 48 ∨ (¬ ((c : Int) < 48) ∧ (c : Int) > 58) := by omega
          by_cases hix : 0 ≤ i
          · have HE2 := Lib.hid (HE.out (by simp [hix]))
            have i6 : ¬ (i < 0) := by omega
            clear HE HBAD hge hl1 hlet hdig
            rcases hcase with h | ⟨h, h'⟩ | ⟨h, h', h''⟩
            all_goals
              rcases hcase2 with g | ⟨g, g'⟩
              all_goals
                go_wp2_with fail
                refine HI.out.mono ?_
                rintro e w1 ⟨rfl, rfl⟩
                go_wp2_with fail
                go_round
                case rel => exact HE2.out
                case measure => simp [intOf]; have := HN.out; omega
          · have hr := HBAD.out (by simp [hix]; omega)
            subst hr
            have i6 : i < 0 := by omega
            clear HE HBAD hge hl1 hlet hdig
            rcases hcase with h | ⟨h, h'⟩ | ⟨h, h', h''⟩
            all_goals
              rcases hcase2 with g | ⟨g, g'⟩
              all_goals
                go_wp2_with fail
                refine HI.out.mono ?_
                rintro e w1 ⟨rfl, rfl⟩
                go_wp2_with fail
                go_ret
                exact ⟨rfl, rfl⟩
    · have hkn : k = s.size := by have := HN.out; omega
      have hall2 : l.all auB = true := by
        have h1 := HALL.out
        rwa [List.take_of_length_le (by rw [HL.out.1]; omega)] at h1
      have hr : R = decide (l ≠ []) := by rw [← HR.out, hall2, Bool.true_and]
      clear hget hall2
      by_cases he : l = []
      · have hse : s = ⟨#[]⟩ := str_empty (HL.out.2.trans he)
        have hr2 : R = false := by rw [hr]; simp [he]
        subst hr2
        clear hr he
        subst hse
        subst hkn
        go_wp2_with fail
        go_ret
        exact ⟨rfl, rfl⟩
      · obtain ⟨e1, -, -⟩ := str_some (s := s) (by rw [HL.out.2]; exact he)
        have hr2 : R = true := by rw [hr]; simp [he]
        subst hr2
        clear hr he
        subst hkn
        go_wp2_with fail
        go_ret
        exact ⟨rfl, rfl⟩
end Go.Proofs.YtpkmciohehaboaaGreatDoor

/- The walk of head.hosts. -/
namespace Go.Proofs.YtpkmciohehaboaaGreatDoor
open Go.RowKit

def hostB : ByteArray := ⟨#[104, 111, 115, 116]⟩
/-- The other fields. -/
def restH (l : List Fd) : List Fd := l.filter fun f => !decide (f.1.1 = hostB)
theorem restH_snoc {l : List Fd} {k : Nat} {f : Fd} (h : l[k]? = some f) : restH (l.take (k + 1)) = restH (l.take k) ++ (if f.1.1 = hostB then [] else [f]) := by
  rw [List.take_add_one, h, Option.toList_some]
  unfold restH
  rw [List.filter_append]
  congr 1
  by_cases hn : f.1.1 = hostB <;> simp [hn]
theorem restH_le (l : List Fd) : (restH l).length ≤ l.length := List.length_filter_le _ _
def rowS (v : Value) (vs : List ByteArray) : Comp := cRow 9 1 v vs.length (strs vs)
def rowF (v : Value) (l : List Fd) : Comp := cRow 26 3 v l.length (fds l)
def HoRel (w : World) (n : Nat) (l : List Fd) (ov rv iv : Value) (wr : World) : Prop := ∃ k : Nat, iv = .int .i64 k ∧ k ≤ n ∧ All w.heap.size wr [rowS ov (valsF (l.take k) hostB), rowF rv (restH (l.take k))] ∧ Below w.heap.size w wr
set_option maxRecDepth 100000 in
set_option maxHeartbeats 8000000 in
theorem hosts_any {A : Option Addr} {n c : Nat} {l : List Fd} (w : World) (hr : Rd w w.heap.size 3 A n (fds l)) (hn : n ≤ 1048576) :
    Calls Tryz.prog 208 #[.slice A n c] w (fun e w' => ∃ ov rv, e = .returned (.tuple #[ov, rv]) ∧ All w.heap.size w' [rowS ov (valsF l hostB), rowF rv (restH l)] ∧ Below w.heap.size w w') := by
  have H1 := Lib.hid hr
  clear hr
  go_enter Tryz.func208, Tryz.ntmps208
  go_wp2_with fail
  go_loopw [4, 5, 10] (fun ov rv iv wr => HoRel w n l ov rv iv wr) (fun _ _ iv _ => n - (intOf iv).toNat)
  case atStart => exact ⟨0, rfl, Nat.zero_le _, ((All.nil w).new (c' := rowF (.slice none 0 0) []) (Below.refl _ _) (World.ownsRow_nil _ _ _ _) (fun b hb => by cases hb)).new (c' := rowS (.slice none 0 0) []) (Below.refl _ _) (World.ownsRow_nil _ _ _ _) (fun b hb => by cases hb), Below.refl _ _⟩
  case round =>
    obtain ⟨k, rfl, hk, hall, hb⟩ := hrel
    have HO := Lib.hid (And.intro hall hb)
    have hsr := hb.size
    clear hall hb
    by_cases hlt : k < n
    · obtain ⟨hl, b, o, rfl, hbl, hc⟩ := fd_at (H1.out.below HO.out.2 (Nat.le_refl _)) (by omega)
      obtain ⟨f, hf⟩ : ∃ f, l[k]? = some f := ⟨_, List.getElem?_eq_getElem (by omega)⟩
      obtain ⟨z0, z1, z2⟩ := hc k f hf
      have n1 : (k : Int) < n := by omega
      have HS := Lib.hid (And.intro (valsF_snoc hf hostB) (restH_snoc hf))
      have hvl := valsF_le (l.take k) hostB
      have hrl := restH_le (l.take k)
      rw [List.length_take] at hvl hrl
      have hbw : b < wr.heap.size := by omega
      clear hc hf hl
      obtain ⟨⟨nm, vl⟩, nv⟩ := f
      simp only at z0 z1 z2 HS
      have HA1 : Hid (∀ o1, All w.heap.size (wr.alloc o1) [rowS u4 (valsF (l.take k) hostB), rowF u5 (restH (l.take k))]) := Lib.hid (fun o1 => HO.out.1.below ((Below.refl _ _).alloc (Nat.le_refl _) o1))
      have HB1 : Hid (∀ o1, Below w.heap.size w (wr.alloc o1)) := Lib.hid (fun o1 => HO.out.2.alloc hsr o1)
      by_cases hnm : nm = hostB
      · have e1 : (nm.toList == [104, 111, 115, 116]) = true := by rw [hnm]; decide +kernel
        have HS2 : Hid (valsF (l.take (k + 1)) hostB = valsF (l.take k) hostB ++ [vl] ∧ restH (l.take (k + 1)) = restH (l.take k)) := Lib.hid (by
          obtain ⟨h1, h2⟩ := HS.out
          rw [if_pos hnm] at h1 h2
          exact ⟨h1, by rw [h2, List.append_nil]⟩)
        clear hnm HS
        go_wp2_with (at_builtin; refine of_stop ?_)
        unfold Stop
        have hrd := Rd.one (wr.alloc (.cells #[.string nm, .string vl, .bool nv] 26)) (.string vl) 9
        rw [World.size_alloc] at hrd
        refine wpList_app (.tmp 17) (.tmp 20) tStrs rfl rfl ((HA1.out _).below ((Below.refl _ _).alloc (Nat.le_refl _) _)).head rfl hrd rfl (by simp [Value.oneCell']) (le_maxLen (by omega)) (by omega) (Nat.zero_le _) ?_
        intro v6 w6 hown6 hg6 hb6
        obtain ⟨hA6, hB6⟩ := ((HA1.out _).below ((Below.refl _ _).alloc (Nat.le_refl _) _)).app hown6 hg6 hb6
        obtain ⟨A6, c6, hv6, -, -, -, -⟩ := own_slice hown6
        have HN : Hid (HoRel w n l v6 u5 (.int .i64 (k + 1 : Nat)) w6) := Lib.hid (by
          refine ⟨k + 1, rfl, hlt, ?_, ((HB1.out _).alloc (by simp; omega) _).trans hB6⟩
          rw [HS2.out.1, HS2.out.2]
          have e : rowS v6 (valsF (l.take k) hostB ++ [vl]) = cRow 9 1 v6 ((valsF (l.take k) hostB).length + 1) (strs (valsF (l.take k) hostB) ++ [.string vl]) := by unfold rowS; rw [List.length_append, strs_snoc]; rfl
          rw [e]
          exact hA6)
        rw [hv6] at HN ⊢
        clear hown6 hg6 hb6 hA6 hB6 hv6
        go_wp2
        go_roundw
        case rel => exact HN.out
        case measure => simp [intOf]; omega
      · have e1 := ne_lit hnm
        rw [show hostB.toList = [104, 111, 115, 116] from by decide +kernel] at e1
        have HS2 : Hid (valsF (l.take (k + 1)) hostB = valsF (l.take k) hostB ∧ restH (l.take (k + 1)) = restH (l.take k) ++ [((nm, vl), nv)]) := Lib.hid (by
          obtain ⟨h1, h2⟩ := HS.out
          rw [if_neg hnm] at h1 h2
          exact ⟨by rw [h1, List.append_nil], h2⟩)
        clear hnm HS
        go_wp2_with (at_builtin; refine of_stop ?_)
        unfold Stop
        have hrd := Rd.one3 (wr.alloc (.cells #[.string nm, .string vl, .bool nv] 26)) (.string nm) (.string vl) (.bool nv) 26
        rw [World.size_alloc] at hrd
        refine wpList_app (.tmp 22) (.tmp 24) tFields rfl rfl (((HA1.out _).below ((Below.refl _ _).alloc (Nat.le_refl _) _)).pick [_]).head rfl hrd rfl (by simp [Value.oneCell']) (le_maxLen (by omega)) (by omega) (Nat.zero_le _) ?_
        intro v6 w6 hown6 hg6 hb6
        obtain ⟨hA6, hB6⟩ := (((HA1.out _).below ((Below.refl _ _).alloc (Nat.le_refl _) _)).pick [_]).app hown6 hg6 hb6
        obtain ⟨A6, c6, hv6, -, -, -, -⟩ := own_slice hown6
        have HN : Hid (HoRel w n l u4 v6 (.int .i64 (k + 1 : Nat)) w6) := Lib.hid (by
          refine ⟨k + 1, rfl, hlt, ?_, ((HB1.out _).alloc (by simp; omega) _).trans hB6⟩
          rw [HS2.out.1, HS2.out.2]
          have e : rowF v6 (restH (l.take k) ++ [((nm, vl), nv)]) = cRow 26 3 v6 ((restH (l.take k)).length + 1) (fds (restH (l.take k)) ++ [.string nm, .string vl, .bool nv]) := by unfold rowF; rw [List.length_append, fds_app]; rfl
          rw [e]
          exact hA6.pick [_])
        rw [hv6] at HN ⊢
        clear hown6 hg6 hb6 hA6 hB6 hv6
        go_wp2
        go_roundw
        case rel => exact HN.out
        case measure => simp [intOf]; omega
    · have hkn : k = n := by omega
      have hll : l.length = n := by have := H1.out.1; rw [fds_length] at this; omega
      have HE : Hid (All w.heap.size wr [rowS u4 (valsF l hostB), rowF u5 (restH l)] ∧ Below w.heap.size w wr) := Lib.hid (by
        have h1 := HO.out
        rwa [List.take_of_length_le (by omega)] at h1)
      subst hkn
      clear hll
      go_wp2
      exact bodyPost_ret (v := .tuple #[u4, u5]) (by simp [results, Tryz.results208, go_sem]) rfl ⟨_, _, rfl, HE.out.1, HE.out.2⟩
end Go.Proofs.YtpkmciohehaboaaGreatDoor

/- The walk of head.place. -/
namespace Go.Proofs.YtpkmciohehaboaaGreatDoor
open Go.RowKit Go.Maps

def authK : ByteArray := ⟨#[58, 97, 117, 116, 104, 111, 114, 105, 116, 121]⟩
/-- The places that were said. -/
def allP (a : Option ByteArray) (hs : List ByteArray) : List ByteArray := hs ++ a.toList
def okP (t : ByteArray) (h : ByteArray) : Bool := authF h && sameL h.data.toList t.data.toList
/-- The authority, or an error. -/
def placeF (a : Option ByteArray) (hs : List ByteArray) : ByteArray × Nat :=
  if 1 < hs.length then (⟨#[]⟩, 101) else match allP a hs with
    | [] => (⟨#[]⟩, 100)
    | t :: r => if (t :: r).all (okP t) then (mkS (lowL t.data.toList), 0) else (⟨#[]⟩, 100)
def PlRel (w1 : World) (n : Nat) (L : List ByteArray) (t : ByteArray) (iv : Value) (wr : World) : Prop := ∃ k : Nat, iv = .int .i64 (k : Nat) ∧ k ≤ n ∧ Below w1.heap.size w1 wr ∧ (L.take k).all (okP t) = true
theorem all_next {α : Type} {f : α → Bool} {l : List α} {k : Nat} {x : α} (h : l[k]? = some x) (h0 : (l.take k).all f = true) (hx : f x = true) : (l.take (k + 1)).all f = true := by
  rw [List.take_add_one, h, Option.toList_some, List.all_append, h0]
  simp [hx]
theorem all_fail {α : Type} {f : α → Bool} {l : List α} {k : Nat} {x : α} (h : l[k]? = some x) (hx : f x = false) : l.all f = false := by
  rw [Bool.eq_false_iff]
  intro h1
  rw [List.all_eq_true] at h1
  have := h1 x (List.mem_of_getElem? h)
  rw [hx] at this
  cases this
/-- The walk behind the append: a list of one or two texts. -/
def PlPost (B : Nat) (w : World) (cs : List Comp) (R : ByteArray × Nat) (e : Ending) (w' : World) : Prop := e = .returned (.tuple #[.string R.1, .int .i64 (R.2 : Int)]) ∧ Below B w w' ∧ All B w' cs
set_option maxRecDepth 100000 in
set_option maxHeartbeats 8000000 in
theorem place_any {B mb N k0 : Nat} {hv : Value} {hs : List ByteArray} {cs : List Comp} {f : ByteArray → Option ByteArray} (w : World) (h : All B w (rowS hv hs :: cs)) (hm : GMap mWords w mb N f k0)
    (hz : ∀ s ∈ hs, s.size ≤ 140737488351232) (hz2 : ∀ s, f authK = some s → s.size ≤ 140737488351232) (hn : hs.length ≤ 1048576) :
    Calls Tryz.prog 209 #[.map (some mb), hv] w (PlPost B w cs (placeF (f authK) hs)) := by
  obtain ⟨R, hR⟩ : ∃ R, placeF (f authK) hs = R := ⟨_, rfl⟩
  rw [hR]
  have hlk := hm.look okWords (i := authK) (by show authK.size ≤ maxLen; decide +kernel)
  obtain ⟨F, hF⟩ : ∃ F, f authK = F := ⟨_, rfl⟩
  rw [hF] at hR hlk hz2
  have hlk2 : (Instr.lookup 83 (.map (some mb)) (.string ⟨#[58, 97, 117, 116, 104, 111, 114, 105, 116, 121]⟩) true).run Tryz.prog w = .ok (.tuple #[.agg #[.string (F.getD ⟨#[]⟩)], .bool F.isSome]) w := hlk
  have HA := Lib.hid h
  have HR := Lib.hid hR
  have HZ := Lib.hid hz
  have HZ2 := Lib.hid hz2
  obtain ⟨A0, c0, hv0, -, -, hrd0, -⟩ := own_slice h.head
  have HV := Lib.hid hv0
  have HRD0 := Lib.hid hrd0
  have HBK := Lib.hid ((Below.refl B w).alloc h.sz)
  rw [hv0]
  clear h hm hlk hR hz hz2 hF hv0 hrd0
  by_cases h1 : 1 < hs.length
  · have i1 : ((hs.length : Int) > 1) := by omega
    have hr : R = (⟨#[]⟩, 101) := by rw [← HR.out]; unfold placeF; rw [if_pos h1]
    subst hr
    clear hlk2 HR
    go_enter Tryz.func209, Tryz.ntmps209
    go_wp2_with fail
    go_ret2
    exact ⟨rfl, Below.refl _ _, HA.out.tail⟩
  · have i1 : ¬ ((hs.length : Int) > 1) := by omega
    have hR2 := HR.out
    unfold placeF at hR2
    rw [if_neg h1] at hR2
    have HR2 := Lib.hid hR2
    clear hR2 HR
    cases F with
    | none =>
      have HAP : Hid (allP none hs = hs) := Lib.hid (by simp [allP])
      simp only [Option.getD_none, Option.isSome_none] at hlk2
      by_cases hne : hs.length = 0
      · have hnil : hs = [] := List.eq_nil_of_length_eq_zero hne
        have hr : R = (⟨#[]⟩, 100) := by rw [← HR2.out, HAP.out, hnil]
        subst hr
        have i2 : ((hs.length : Int) == 0) = true := by rw [hne]; rfl
        clear hnil hne
        go_enter Tryz.func209, Tryz.ntmps209
        go_wp2_with fail
        go_ret2
        exact ⟨rfl, HBK.out _, HA.out.tail.below ((Below.refl _ _).alloc (Nat.le_refl _) _)⟩
      · have i2 : ((hs.length : Int) == 0) = false := by rw [beq_eq_false_iff_ne]; omega
        obtain ⟨t, r, hL⟩ : ∃ t r, hs = t :: r := by
          cases hs with
          | nil => exact absurd rfl hne
          | cons t r => exact ⟨t, r, rfl⟩
        have HRL : Hid ((if (t :: r).all (okP t) = true then (mkS (lowL t.data.toList), 0) else ((⟨#[]⟩ : ByteArray), 100)) = R) := Lib.hid (by rw [← HR2.out, HAP.out, hL])
        have HSZ : Hid (∀ s ∈ hs, s.size ≤ 140737488351232) := HZ
        have HRDL : Hid (Rd (w.alloc (.cells #[.string ⟨#[]⟩] 87)) (w.alloc (.cells #[.string ⟨#[]⟩] 87)).heap.size 1 A0 hs.length (strs hs)) := Lib.hid ((HRD0.out.alloc (Nat.le_refl _) _).more (by simp))
        have HAL : Hid (All B (w.alloc (.cells #[.string ⟨#[]⟩] 87)) cs ∧ Below B w (w.alloc (.cells #[.string ⟨#[]⟩] 87))) := Lib.hid ⟨HA.out.tail.below ((Below.refl _ _).alloc (Nat.le_refl _) _), HBK.out _⟩
        have hnL : 0 < hs.length := by omega
        obtain ⟨L, hLL⟩ : ∃ L, hs = L := ⟨_, rfl⟩
        obtain ⟨nL, hnl⟩ : ∃ nL, hs.length = nL := ⟨_, rfl⟩
        rw [hnl] at HRDL hnL i1 i2 hn ⊢
        rw [hLL] at HRDL HSZ hnl
        rw [hL] at hLL
        have HL : Hid (L = t :: r) := Lib.hid hLL.symm
        clear hL hLL hne HR2 HAP HZ2 HRD0 HV HA HZ h1
        go_enter Tryz.func209, Tryz.ntmps209
        go_wp2_with fail
        generalize (w.alloc (.cells #[.string ⟨#[]⟩] 87)) = W1 at *
        go_loopw [29] (fun iv wr => PlRel W1 nL L t iv wr) (fun iv _ => nL - (intOf iv).toNat)
        case atStart => exact ⟨0, rfl, Nat.zero_le _, Below.refl _ _, by simp⟩
        case round =>
          obtain ⟨k, rfl, hk, hb, hall⟩ := hrel
          have HB := Lib.hid hb
          have HALL := Lib.hid hall
          have hsr := hb.size
          obtain ⟨hl, b, o, rfl, hbl, hc⟩ := str_at (HRDL.out.below hb (Nat.le_refl _)) hnL
          have z0 := hc 0 t (by rw [HL.out]; rfl)
          rw [Nat.add_zero] at z0
          have hbw : b < wr.heap.size := by omega
          have HTS := HSZ.out t (by rw [HL.out]; exact List.mem_cons_self ..)
          clear hall
          by_cases hlt : k < nL
          · obtain ⟨s, hs2⟩ : ∃ s, L[k]? = some s := ⟨_, List.getElem?_eq_getElem (by omega)⟩
            have z1 := hc k s hs2
            have n1 : (k : Int) < nL := by omega
            have hss := HSZ.out s (List.mem_of_getElem? hs2)
            have HAU := Lib.hid (authority_any s wr (by omega))
            have HSM := Lib.hid (same_any s t wr (by omega) (by omega))
            have HK := Lib.hid hs2
            clear hc hs2 hl hb
            obtain ⟨a1, ha1⟩ : ∃ a1, authF s = a1 := ⟨_, rfl⟩
            have HA1 := Lib.hid ha1
            rw [ha1] at HAU
            clear ha1
            go_wp2_with fail
            refine HAU.out.mono ?_
            rintro e w2 ⟨rfl, rfl⟩
            cases a1 with
            | false =>
              have hr : R = (⟨#[]⟩, 100) := by
                rw [← HRL.out, if_neg]
                rw [← HL.out, all_fail HK.out (by unfold okP; rw [HA1.out, Bool.false_and])]
                simp
              subst hr
              go_wp2_with fail
              go_ret2
              exact ⟨rfl, HAL.out.2.trans (HB.out.mono HAL.out.1.sz), HAL.out.1.below HB.out⟩
            | true =>
              obtain ⟨s1, hs1⟩ : ∃ s1, sameL s.data.toList t.data.toList = s1 := ⟨_, rfl⟩
              have HS1 := Lib.hid hs1
              rw [hs1] at HSM
              clear hs1
              go_wp2_with fail
              refine HSM.out.mono ?_
              rintro e w3 ⟨rfl, hb3⟩
              have HB3 := Lib.hid (HB.out.trans (hb3.mono hsr))
              clear hb3 HSM HAU
              cases s1 with
              | false =>
                have hr : R = (⟨#[]⟩, 100) := by
                  rw [← HRL.out, if_neg]
                  rw [← HL.out, all_fail HK.out (by unfold okP; rw [HS1.out, Bool.and_false])]
                  simp
                subst hr
                go_wp2_with fail
                go_ret2
                exact ⟨rfl, HAL.out.2.trans (HB3.out.mono HAL.out.1.sz), HAL.out.1.below HB3.out⟩
              | true =>
                have HN : Hid (PlRel W1 nL L t (.int .i64 (k + 1 : Nat)) w3) := Lib.hid ⟨k + 1, rfl, hlt, HB3.out, all_next HK.out HALL.out (by unfold okP; rw [HA1.out, HS1.out]; rfl)⟩
                clear z0 z1
                go_wp2_with fail
                go_roundw
                case rel => exact HN.out
                case measure => simp [intOf]; omega
          · have hkn : k = nL := by omega
            have hall2 : L.all (okP t) = true := by
              have := HALL.out
              rwa [List.take_of_length_le (by omega)] at this
            have hr : R = (mkS (lowL t.data.toList), 0) := by rw [← HRL.out, if_pos]; rw [← HL.out]; exact hall2
            have HLW := Lib.hid (lower_any t wr (by omega))
            have hnz : (nL : Int) > 0 := by omega
            subst hr
            clear hc hl hb hall2
            subst hkn
            go_wp2_with fail
            refine HLW.out.mono ?_
            rintro e w2 ⟨rfl, hb2⟩
            have HB2 := Lib.hid (HB.out.trans (hb2.mono hsr))
            clear hb2
            go_wp2_with fail
            go_ret2
            exact ⟨rfl, HAL.out.2.trans (HB2.out.mono HAL.out.1.sz), HAL.out.1.below HB2.out⟩
    | some a =>
      have HAP : Hid (allP (some a) hs = hs ++ [a]) := Lib.hid (by simp [allP])
      simp only [Option.getD_some, Option.isSome_some] at hlk2
      have HA2 : Hid (∀ o1 o2, All B ((w.alloc o1).alloc o2) (rowS hv hs :: cs) ∧ Below B w ((w.alloc o1).alloc o2)) := Lib.hid (fun o1 o2 => ⟨(HA.out.below ((Below.refl _ _).alloc (Nat.le_refl _) o1)).below ((Below.refl _ _).alloc (Nat.le_refl _) o2), ((HBK.out o1).alloc (by have := HA.out.sz; simp; omega) o2)⟩)
      clear HRD0 HBK
      go_enter Tryz.func209, Tryz.ntmps209
      go_wp2_with (at_builtin; refine of_stop ?_)
      unfold Stop
      have hrow := (HA2.out (.cells #[.string a] 87) (.cells #[.string a] 9)).1.head
      have hrow2 : ((w.alloc (.cells #[.string a] 87)).alloc (.cells #[.string a] 9)).ownsRow 0 9 1 (.slice A0 hs.length c0) hs.length (strs hs) := by rw [← HV.out]; exact hrow
      have hrd := Rd.one (w.alloc (.cells #[.string a] 87)) (.string a) 9
      rw [World.size_alloc] at hrd
      refine wpList_app (.tmp 19) (.tmp 22) tStrs rfl rfl hrow2 rfl hrd rfl (by simp [Value.oneCell']) (le_maxLen (by omega)) (by omega) (Nat.zero_le _) ?_
      intro v6 w6 hown6 hg6 hb6
      rw [← HV.out] at hg6 hb6
      obtain ⟨hA6, hB6⟩ := (HA2.out (.cells #[.string a] 87) (.cells #[.string a] 9)).1.app hown6 hg6 hb6
      obtain ⟨A6, c6, hv6, -, -, hrd6, -⟩ := own_slice hown6
      have HAL : Hid (All B w6 cs ∧ Below B w w6) := Lib.hid ⟨hA6.tail, (HA2.out (.cells #[.string a] 87) (.cells #[.string a] 9)).2.trans hB6⟩
      obtain ⟨t, r, hL⟩ : ∃ t r, hs ++ [a] = t :: r := by
        cases hs with
        | nil => exact ⟨a, [], rfl⟩
        | cons t r => exact ⟨t, r ++ [a], rfl⟩
      have HRL : Hid ((if (t :: r).all (okP t) = true then (mkS (lowL t.data.toList), 0) else ((⟨#[]⟩ : ByteArray), 100)) = R) := Lib.hid (by rw [← HR2.out, HAP.out, hL])
      have HSZ : Hid (∀ s ∈ hs ++ [a], s.size ≤ 140737488351232) := Lib.hid (fun s hs2 => by
        rcases List.mem_append.1 hs2 with h | h
        · exact HZ.out s h
        · rw [List.mem_singleton.1 h]; exact HZ2.out a rfl)
      have HRDL : Hid (Rd w6 w6.heap.size 1 A6 (hs.length + 1) (strs (hs ++ [a]))) := Lib.hid (by rw [strs_snoc]; exact hrd6)
      obtain ⟨L, hLL⟩ : ∃ L, hs ++ [a] = L := ⟨_, rfl⟩
      have hln : (hs ++ [a]).length = hs.length + 1 := by simp
      obtain ⟨nL, hnl⟩ : ∃ nL, hs.length + 1 = nL := ⟨_, rfl⟩
      have hnL : 0 < nL := by omega
      have hnx : nL ≤ 1048577 := by omega
      have i2 : ((nL : Int) == 0) = false := by rw [beq_eq_false_iff_ne]; omega
      rw [hnl] at HRDL hln hv6
      rw [hLL] at HRDL HSZ hln
      rw [hL] at hLL
      have HL : Hid (L = t :: r) := Lib.hid hLL.symm
      subst hv6
      clear hL hLL HR2 HAP HZ2 HV HA HZ h1 HA2 hown6 hg6 hb6 hA6 hB6 hrd6 hrow hrow2 hrd hlk2
      go_wp2_with fail
      go_loopw [29] (fun iv wr => PlRel w6 nL L t iv wr) (fun iv _ => nL - (intOf iv).toNat)
      case atStart => exact ⟨0, rfl, Nat.zero_le _, Below.refl _ _, by simp⟩
      case round =>
        obtain ⟨k, rfl, hk, hb, hall⟩ := hrel
        have HB := Lib.hid hb
        have HALL := Lib.hid hall
        have hsr := hb.size
        obtain ⟨hl, b, o, rfl, hbl, hc⟩ := str_at (HRDL.out.below hb (Nat.le_refl _)) hnL
        have z0 := hc 0 t (by rw [HL.out]; rfl)
        rw [Nat.add_zero] at z0
        have hbw : b < wr.heap.size := by omega
        have HTS := HSZ.out t (by rw [HL.out]; exact List.mem_cons_self ..)
        clear hall
        by_cases hlt : k < nL
        · obtain ⟨s, hs2⟩ : ∃ s, L[k]? = some s := ⟨_, List.getElem?_eq_getElem (by omega)⟩
          have z1 := hc k s hs2
          have n1 : (k : Int) < nL := by omega
          have hss := HSZ.out s (List.mem_of_getElem? hs2)
          have HAU := Lib.hid (authority_any s wr (by omega))
          have HSM := Lib.hid (same_any s t wr (by omega) (by omega))
          have HK := Lib.hid hs2
          clear hc hs2 hl hb
          obtain ⟨a1, ha1⟩ : ∃ a1, authF s = a1 := ⟨_, rfl⟩
          have HA1 := Lib.hid ha1
          rw [ha1] at HAU
          clear ha1
          go_wp2_with fail
          refine HAU.out.mono ?_
          rintro e w2 ⟨rfl, rfl⟩
          cases a1 with
          | false =>
            have hr : R = (⟨#[]⟩, 100) := by
              rw [← HRL.out, if_neg]
              rw [← HL.out, all_fail HK.out (by unfold okP; rw [HA1.out, Bool.false_and])]
              simp
            subst hr
            go_wp2_with fail
            go_ret2
            exact ⟨rfl, HAL.out.2.trans (HB.out.mono HAL.out.1.sz), HAL.out.1.below HB.out⟩
          | true =>
            obtain ⟨s1, hs1⟩ : ∃ s1, sameL s.data.toList t.data.toList = s1 := ⟨_, rfl⟩
            have HS1 := Lib.hid hs1
            rw [hs1] at HSM
            clear hs1
            go_wp2_with fail
            refine HSM.out.mono ?_
            rintro e w3 ⟨rfl, hb3⟩
            have HB3 := Lib.hid (HB.out.trans (hb3.mono hsr))
            clear hb3 HSM HAU
            cases s1 with
            | false =>
              have hr : R = (⟨#[]⟩, 100) := by
                rw [← HRL.out, if_neg]
                rw [← HL.out, all_fail HK.out (by unfold okP; rw [HS1.out, Bool.and_false])]
                simp
              subst hr
              go_wp2_with fail
              go_ret2
              exact ⟨rfl, HAL.out.2.trans (HB3.out.mono HAL.out.1.sz), HAL.out.1.below HB3.out⟩
            | true =>
              have HN : Hid (PlRel w6 nL L t (.int .i64 (k + 1 : Nat)) w3) := Lib.hid ⟨k + 1, rfl, hlt, HB3.out, all_next HK.out HALL.out (by unfold okP; rw [HA1.out, HS1.out]; rfl)⟩
              clear z0 z1
              go_wp2_with fail
              go_roundw
              case rel => exact HN.out
              case measure => simp [intOf]; omega
        · have hkn : k = nL := by omega
          have hall2 : L.all (okP t) = true := by
            have := HALL.out
            rwa [List.take_of_length_le (by omega)] at this
          have hr : R = (mkS (lowL t.data.toList), 0) := by rw [← HRL.out, if_pos]; rw [← HL.out]; exact hall2
          have HLW := Lib.hid (lower_any t wr (by omega))
          have hnz : (nL : Int) > 0 := by omega
          subst hr
          clear hc hl hb hall2
          subst hkn
          go_wp2_with fail
          refine HLW.out.mono ?_
          rintro e w2 ⟨rfl, hb2⟩
          have HB2 := Lib.hid (HB.out.trans (hb2.mono hsr))
          clear hb2
          go_wp2_with fail
          go_ret2
          exact ⟨rfl, HAL.out.2.trans (HB2.out.mono HAL.out.1.sz), HAL.out.1.below HB2.out⟩
end Go.Proofs.YtpkmciohehaboaaGreatDoor

/- The walk of head.cookies where no cookie is among the fields; what head.Read says. -/
namespace Go.Proofs.YtpkmciohehaboaaGreatDoor
open Go.RowKit

def cookK : ByteArray := ⟨#[99, 111, 111, 107, 105, 101]⟩
def semB : ByteArray := ⟨#[59, 32]⟩
/-- The fields so far, and where the cookie is. -/
def cookS (s : List Fd × Option Nat) (f : Fd) : List Fd × Option Nat :=
  if f.1.1 ≠ cookK then (s.1 ++ [f], s.2) else match s.2 with
    | none => (s.1 ++ [f], some s.1.length)
    | some i => (s.1.modify i fun g => ((g.1.1, if f.1.2 ≠ ⟨#[]⟩ ∧ g.1.2 ≠ ⟨#[]⟩ then g.1.2 ++ semB ++ f.1.2 else g.1.2 ++ f.1.2), g.2), some i)
def cookF (l : List Fd) : List Fd := (l.foldl cookS ([], none)).1
theorem cook_none : ∀ (l : List Fd) (a : List Fd), (∀ f ∈ l, f.1.1 ≠ cookK) → l.foldl cookS (a, none) = (a ++ l, none)
  | [], a, _ => by simp
  | f :: r, a, h => by
    have h1 := h f (List.mem_cons_self ..)
    have e : cookS (a, none) f = (a ++ [f], none) := by unfold cookS; rw [if_pos h1]
    rw [List.foldl_cons, e, cook_none r _ fun g hg => h g (List.mem_cons_of_mem _ hg)]
    simp
theorem cookF_none {l : List Fd} (h : ∀ f ∈ l, f.1.1 ≠ cookK) : cookF l = l := by unfold cookF; rw [cook_none l [] h]; rfl
def CkRel (w : World) (n : Nat) (l : List Fd) (ov iv : Value) (wr : World) : Prop := ∃ k : Nat, iv = .int .i64 k ∧ k ≤ n ∧ OwnFds w (l.take k) ov wr
set_option maxRecDepth 100000 in
set_option maxHeartbeats 8000000 in
theorem cookies_plain {A : Option Addr} {n c : Nat} {l : List Fd} (w : World) (hr : Rd w w.heap.size 3 A n (fds l)) (hn : n ≤ 1048576) (hc0 : ∀ f ∈ l, f.1.1 ≠ cookK) :
    Calls Tryz.prog 210 #[.slice A n c] w (fun e w' => ∃ v, e = .returned v ∧ OwnFds w (cookF l) v w') := by
  have H1 := Lib.hid hr
  have HC0 := Lib.hid hc0
  rw [cookF_none hc0]
  clear hr hc0
  go_enter Tryz.func210, Tryz.ntmps210
  go_wp2_with fail
  go_loopw [3, 4, 9] (fun ov av iv wr => av = .int .i64 (-1) ∧ CkRel w n l ov iv wr) (fun _ _ iv _ => n - (intOf iv).toNat)
  case atStart => exact ⟨rfl, 0, rfl, Nat.zero_le _, World.ownsRow_nil _ _ _ _, Below.refl _ _⟩
  case round =>
    obtain ⟨rfl, k, rfl, hk, hown⟩ := hrel
    have HO := Lib.hid hown
    have hsr := hown.2.size
    clear hown
    by_cases hlt : k < n
    · obtain ⟨hll, b, o, rfl, hbl, hc⟩ := fd_at (H1.out.below HO.out.2 (Nat.le_refl _)) (by omega)
      obtain ⟨f, hf⟩ : ∃ f, l[k]? = some f := ⟨_, List.getElem?_eq_getElem (by omega)⟩
      obtain ⟨z0, z1, z2⟩ := hc k f hf
      have n0 : (k : Int) < n := by omega
      have hbw : b < wr.heap.size := by omega
      have e1 := ne_lit (HC0.out f (List.mem_of_getElem? hf))
      rw [show cookK.toList = [99, 111, 111, 107, 105, 101] from by decide +kernel] at e1
      have HT : Hid (l.take (k + 1) = l.take k ++ [f]) := Lib.hid (by rw [List.take_add_one, hf, Option.toList_some])
      have hlen : (l.take k).length = k := by rw [List.length_take]; omega
      clear hc hf hll
      obtain ⟨⟨nm, vl⟩, nv⟩ := f
      simp only at z0 z1 z2 HT e1
      go_wp2_with (at_builtin; refine of_stop ?_)
      unfold Stop
      have hb0 : Below wr.heap.size wr (wr.alloc (.cells #[.string nm, .string vl, .bool nv] 26)) := (Below.refl _ _).alloc (Nat.le_refl _) _
      have hrd := Rd.one3 (wr.alloc (.cells #[.string nm, .string vl, .bool nv] 26)) (.string nm) (.string vl) (.bool nv) 26
      rw [World.size_alloc] at hrd
      refine wpList_app (.tmp 27) (.tmp 29) tFields rfl rfl (own_later HO.out hb0 _) rfl hrd rfl (by simp [Value.oneCell']) (le_maxLen (by omega)) (by omega) (by simp; omega) ?_
      intro v5 w5 hown5 hg5 _
      have HN : Hid (CkRel w n l v5 (.int .i64 (k + 1 : Nat)) w5) := Lib.hid (by
        refine ⟨k + 1, rfl, hlt, ?_⟩
        rw [HT.out]
        exact HO.out.app ((nm, vl), nv) hb0 _ hown5 hg5)
      obtain ⟨A5, c5, hv5, -, -, -, -⟩ := own_slice hown5
      rw [hv5] at HN ⊢
      clear hown5 hg5 hv5
      go_wp2
      go_roundw
      case rel => have h := HN.out; rw [hlen] at h; exact ⟨rfl, h⟩
      case measure => simp [intOf]; omega
    · have hkn : k = n := by omega
      have hll : l.length = n := by have := H1.out.1; rw [fds_length] at this; omega
      have HE : Hid (OwnFds w l u3 wr) := Lib.hid (by
        have h1 := HO.out
        rwa [List.take_of_length_le (by omega)] at h1)
      clear hll
      subst hkn
      go_wp2
      go_ret
      exact ⟨_, rfl, HE.out⟩
end Go.Proofs.YtpkmciohehaboaaGreatDoor

/- The walk of head.Read. -/
namespace Go.Proofs.YtpkmciohehaboaaGreatDoor
open Go.RowKit Go.Maps

def methK : ByteArray := ⟨#[58, 109, 101, 116, 104, 111, 100]⟩
def schK : ByteArray := ⟨#[58, 115, 99, 104, 101, 109, 101]⟩
def pathK : ByteArray := ⟨#[58, 112, 97, 116, 104]⟩
def connB : ByteArray := ⟨#[67, 79, 78, 78, 69, 67, 84]⟩
def httpB : ByteArray := ⟨#[104, 116, 116, 112]⟩
def httpsB : ByteArray := ⟨#[104, 116, 116, 112, 115]⟩
def fourK : List ByteArray := [methK, schK, authK, pathK]
def gTxt (G : Gt) (k : ByteArray) : ByteArray := (G.1 k).getD ⟨#[]⟩
/-- Is something wrong with what was said? -/
def badR (m s p : ByteArray) : Bool := !tokL m.data.toList || decide (m = connB) || (decide (s ≠ httpB) && decide (s ≠ httpsB)) || !pathF p m
structure Rq where
  meth : ByteArray
  sch : ByteArray
  auth : ByteArray
  path : ByteArray
  fields : List Fd
def noRq : Rq := ⟨⟨#[]⟩, ⟨#[]⟩, ⟨#[]⟩, ⟨#[]⟩, []⟩
/-- What a list of fields asks, or an error. -/
noncomputable def readF (l : List Fd) : Rq × Nat :=
  let G := gathF fourK Gt.none l
  if G.2 ≠ 0 then (noRq, G.2)
  else if badR (gTxt G.1 methK) (gTxt G.1 schK) (gTxt G.1 pathK) then (noRq, 100)
  else
    let P := placeF (G.1.1 authK) (valsF G.1.2 hostB)
    if P.2 ≠ 0 then (noRq, P.2)
    else if lenF (restH G.1.2) = none then (noRq, 102)
    else (⟨gTxt G.1 methK, gTxt G.1 schK, P.1, gTxt G.1 pathK, cookF (restH G.1.2)⟩, 0)
/-- What Read hands back. -/
def RdPost (w : World) (R : Rq × Nat) (e : Ending) (w' : World) : Prop := ∃ v, e = .returned (.tuple #[.agg #[.string R.1.meth, .string R.1.sch, .string R.1.auth, .string R.1.path, v], .int .i64 (R.2 : Int)]) ∧ OwnFds w R.1.fields v w'
theorem infoReq : (Tryz.prog.info? 60).map (·.size) = some 5 := by kernel_rfl
theorem results_read {tmps : Array Value} {w : World} {g : Nat} {cs : Array Value} (hp : tmps.getD 2 undef = .pointer (some ⟨g, 0, none⟩)) (hg : w.heap[g]? = some (.cells cs 60 (0, 0))) (hs : cs.size = 5) :
    (results Tryz.f192 tmps).run Tryz.prog w = .ok (.tuple #[.agg cs, tmps.getD 3 undef]) w := by
  have h1 := run_loadVar_row (P := Tryz.prog) w g 60 60 cs (0, 0) _ hg Tryz.underlying60 rfl (by rw [infoReq, hs])
  have hp' : tmps[2]?.getD undef = .pointer (some ⟨g, 0, none⟩) := by simpa using hp
  simp [results, Tryz.results192, hp', asAddr, h1]
theorem own_four (w : World) : Rd (w.alloc (.cells (strs fourK).toArray 9)) (w.heap.size + 1) 1 (some ⟨w.heap.size, 0, none⟩) 4 (strs fourK) := by
  refine ⟨rfl, fun _ => ⟨_, _, rfl, by omega, fun j hj => ?_⟩⟩
  rw [World.cell?_alloc_at _ _ _ _ rfl]
  simp
def zeroRq : Array Value := #[.string ⟨#[]⟩, .string ⟨#[]⟩, .string ⟨#[]⟩, .string ⟨#[]⟩, .slice none 0 0]
set_option maxRecDepth 100000 in
set_option maxHeartbeats 8000000 in
theorem read_any {A : Option Addr} {n c : Nat} {l : List Fd} (w : World) (hl : Rd w w.heap.size 3 A n (fds l)) (hn : n ≤ 1048575) (hz : Tx l)
    (hck : ∀ (w : World) (A : Option Addr) (n c : Nat), Rd w w.heap.size 3 A n (fds (restH (gathF fourK Gt.none l).1.2)) → n ≤ 1048576 → Calls Tryz.prog 210 #[.slice A n c] w (fun e w' => ∃ v, e = .returned v ∧ OwnFds w (cookF (restH (gathF fourK Gt.none l).1.2)) v w')) :
    Calls Tryz.prog 192 #[.slice A n c] w (RdPost w (readF l)) := by
  have hll : l.length = n := by have := hl.1; rw [fds_length] at this; omega
  -- the result's block, the names' block
  obtain ⟨W0, hW0⟩ : ∃ W0, w.alloc (.cells zeroRq 60) = W0 := ⟨_, rfl⟩
  obtain ⟨W1, hW1⟩ : ∃ W1, W0.alloc (.cells (strs fourK).toArray 9) = W1 := ⟨_, rfl⟩
  have b0 : Below w.heap.size w W0 := by rw [← hW0]; exact (Below.refl _ _).alloc (Nat.le_refl _) _
  have b1 : Below w.heap.size w W1 := by rw [← hW1]; exact b0.alloc b0.size _
  have kq : W0.heap[w.heap.size]? = some (.cells zeroRq 60 (0, 0)) := by rw [← hW0]; exact heapNew _ _
  have s0 : W0.heap.size = w.heap.size + 1 := by rw [← hW0]; simp
  have s1 : W1.heap.size = w.heap.size + 2 := by rw [← hW1]; simp [s0]
  have kq1 : W1.heap[w.heap.size]? = some (.cells zeroRq 60 (0, 0)) := by rw [← hW1]; exact (Below.heap_alloc _ _ _ (by omega)).trans kq
  have hrn : Rd W1 W1.heap.size 1 (some ⟨w.heap.size + 1, 0, none⟩) 4 (strs fourK) := by
    have h := own_four W0
    rw [hW1, s0] at h
    rw [s1]
    exact h
  have HG := Lib.hid (gather_any (c := c) (c1 := 4) W1 ((hl.below b1 (Nat.le_refl _)).more b1.size) hn hz hrn (by omega))
  have hinv := gath_inv (names := fourK) (P := fun s => s.size ≤ 140737488351232) (Q := fun f => f.1.1.size ≤ 140737488351232 ∧ f.1.2.size ≤ 140737488351232) l Gt.none (fun f hf => ⟨(hz f hf).2, hz f hf⟩) (fun j v h => by cases h) (fun f hf => by cases hf)
  have hlen := gath_len (names := fourK) l Gt.none
  have HI := Lib.hid hinv
  have HCK := Lib.hid hck
  obtain ⟨R, hR⟩ : ∃ R, readF l = R := ⟨_, rfl⟩
  rw [hR]
  unfold readF at hR
  dsimp only at hR
  obtain ⟨⟨G, e1⟩, hG⟩ : ∃ G, gathF fourK Gt.none l = G := ⟨_, rfl⟩
  rw [hG] at HG HI hlen hR HCK
  dsimp only at HI hlen hR HCK
  have HRR := Lib.hid hR
  have HB1 := Lib.hid (And.intro b1 kq1)
  have HW := Lib.hid (And.intro hW0 hW1)
  have HS1 := Lib.hid s1
  have hlen2 : G.2.length ≤ n := by simp [Gt.none] at hlen; omega
  clear hl hz b0 b1 kq kq1 s0 s1 hrn hinv hR hG hlen hck hW0 hW1
  unfold zeroRq at HW
  go_enter Tryz.func192, Tryz.ntmps192
  go_wp2_with fail
  refine calls_named ?_
  intro W1' hW1'
  obtain rfl : W1' = W1 := by rw [hW1']; rw [← HW.out.2, ← HW.out.1]; rfl
  clear hW1'
  refine HG.out.mono ?_
  rintro e w2 ⟨⟨mv, rv, rfl, hok, hno⟩, hb2⟩
  obtain ⟨q, hq⟩ : ∃ q, w.heap.size = q := ⟨_, rfl⟩
  have HQ := Lib.hid hq
  rw [hq] at HB1 HS1 ⊢
  have HB2 : Hid (Below q w w2 ∧ w2.heap[q]? = some (.cells zeroRq 60 (0, 0)) ∧ W1'.heap.size ≤ w2.heap.size) := Lib.hid ⟨HB1.out.1.trans (hb2.mono (by have := HS1.out; omega)), (hb2.block q (by have := HS1.out; omega)).trans HB1.out.2, hb2.size⟩
  have hq2 : q + 2 ≤ w2.heap.size := by have := HS1.out; have := HB2.out.2.2; omega
  clear hq hb2 HG HW
  by_cases h0 : e1 = 0
  · obtain ⟨mb, k, rfl, hmb, hmap, hrow⟩ := hok h0
    obtain ⟨A2, c2, rfl, -, -, hrd2, -⟩ := own_slice hrow
    dsimp only at hrd2 hmap
    have hl1 := hmap.look1 okWords (i := methK) (by show methK.size ≤ maxLen; decide +kernel)
    have hl2 := hmap.look1 okWords (i := schK) (by show schK.size ≤ maxLen; decide +kernel)
    have hl3 := hmap.look1 okWords (i := pathK) (by show pathK.size ≤ maxLen; decide +kernel)
    have hfl : ∀ (x : Value) (w : World), (Instr.field 87 (.agg #[x]) 0).run Tryz.prog w = .ok x w := fun _ _ => rfl
    have hRR := HRR.out
    rw [if_neg (by omega)] at hRR
    have hts : ∀ k, (gTxt G k).size ≤ 140737488351232 := fun k => by
      unfold gTxt
      cases hc : G.1 k with
      | none => simp [ByteArray.size]
      | some x => exact HI.out.1 _ _ hc
    have hm1 := hts methK
    have hs1 := hts schK
    have hp1 := hts pathK
    obtain ⟨m, hm⟩ : ∃ m, gTxt G methK = m := ⟨_, rfl⟩
    obtain ⟨s, hs⟩ : ∃ s, gTxt G schK = s := ⟨_, rfl⟩
    obtain ⟨p, hp⟩ : ∃ p, gTxt G pathK = p := ⟨_, rfl⟩
    have hl1' : (Instr.lookup 83 (.map (some mb)) (.string ⟨#[58, 109, 101, 116, 104, 111, 100]⟩) false).run Tryz.prog w2 = .ok (.agg #[.string m]) w2 := by rw [← hm]; exact hl1
    have hl2' : (Instr.lookup 83 (.map (some mb)) (.string ⟨#[58, 115, 99, 104, 101, 109, 101]⟩) false).run Tryz.prog w2 = .ok (.agg #[.string s]) w2 := by rw [← hs]; exact hl2
    have hl3' : (Instr.lookup 83 (.map (some mb)) (.string ⟨#[58, 112, 97, 116, 104]⟩) false).run Tryz.prog w2 = .ok (.agg #[.string p]) w2 := by rw [← hp]; exact hl3
    rw [hm, hs, hp] at hRR
    rw [hm] at hm1
    rw [hs] at hs1
    rw [hp] at hp1
    obtain ⟨BD, hBD⟩ : ∃ BD, badR m s p = BD := ⟨_, rfl⟩
    have HBD := Lib.hid hBD
    rw [hBD] at hRR
    have HR2 := Lib.hid hRR
    have HMAP := Lib.hid hmap
    have HRD2 := Lib.hid hrd2
    subst h0
    have ee : (((0 : Nat) : Int) == 0) = true := rfl
    clear hok hno hl1 hl2 hl3 hRR hBD hm hs hp hmap hrow hrd2 HRR hmb hts
    go_upto_region 5 with fail
    refine wp_named ?_
    intro W3 hW3
    have b3 : Below w2.heap.size w2 W3 := by rw [hW3]; exact (Below.refl _ _).alloc (Nat.le_refl _) _
    have k3 : W3.heap[w2.heap.size]? = some (.cells #[.string m, .string s, .string ⟨#[]⟩, .string p, .slice none 0 0] 60 (0, 0)) := by rw [hW3]; exact heapNew _ _
    have s3 : W3.heap.size = w2.heap.size + 1 := by rw [hW3]; simp
    obtain ⟨q7, hq7⟩ : ∃ q7, w2.heap.size = q7 := ⟨_, rfl⟩
    have HB3 : Hid (Below q w W3 ∧ W3.heap[q]? = some (.cells zeroRq 60 (0, 0)) ∧ Rd W3 W3.heap.size 3 A2 G.2.length (fds G.2) ∧ GMap mWords W3 mb n G.1 k) := Lib.hid ⟨HB2.out.1.trans (b3.mono (by omega)), (b3.block q (by omega)).trans HB2.out.2.1, (HRD2.out.below b3 (Nat.le_refl _)).more (by omega), HMAP.out.below b3 HMAP.out.lt⟩
    rw [hq7] at k3 s3 ⊢
    have HK3 := Lib.hid (And.intro k3 s3)
    have z0 : W3.cell? ⟨q7, 0, none⟩ = some (.string m) := by unfold World.cell?; rw [k3]; rfl
    have z1 : W3.cell? ⟨q7, 1, none⟩ = some (.string s) := by unfold World.cell?; rw [k3]; rfl
    have z3 : W3.cell? ⟨q7, 3, none⟩ = some (.string p) := by unfold World.cell?; rw [k3]; rfl
    have hqq : q + 2 ≤ q7 := by omega
    have HTK := Lib.hid (token_any m W3 (by omega))
    have HPT := Lib.hid (path_any p m W3 (by omega))
    clear hW3 b3 k3 s3 hq7 hl1' hl2' hl3' HMAP HRD2 hq2
    go_cut [56] (fun y wx => y = .bool BD ∧ wx = W3)
    case first =>
      obtain ⟨T, hT⟩ : ∃ T, tokL m.data.toList = T := ⟨_, rfl⟩
      have HT := Lib.hid hT
      rw [hT] at HTK
      clear hT
      cases T with
      | false =>
        have hb : BD = true := by rw [← HBD.out]; unfold badR; simp [HT.out]
        subst hb
        go_wp2_with fail
        refine HTK.out.mono ?_
        rintro e w4 ⟨rfl, rfl⟩
        go_wp2_with fail
        go_meet
        exact ⟨rfl, rfl⟩
      | true =>
        by_cases hcn : m = connB
        · have e1 : (m.toList == [67, 79, 78, 78, 69, 67, 84]) = true := by rw [hcn]; decide +kernel
          have hb : BD = true := by rw [← HBD.out]; unfold badR; simp [hcn]
          subst hb
          clear hcn
          go_wp2_with fail
          refine HTK.out.mono ?_
          rintro e w4 ⟨rfl, rfl⟩
          go_wp2_with fail
          go_meet
          exact ⟨rfl, rfl⟩
        · have e1 := ne_lit hcn
          rw [show connB.toList = [67, 79, 78, 78, 69, 67, 84] from by decide +kernel] at e1
          obtain ⟨PT, hPT⟩ : ∃ PT, pathF p m = PT := ⟨_, rfl⟩
          have HPP := Lib.hid hPT
          rw [hPT] at HPT
          clear hPT
          by_cases hh : s = httpB
          · have e2 : (s.toList == [104, 116, 116, 112]) = true := by rw [hh]; decide +kernel
            have hb : BD = !PT := by rw [← HBD.out]; unfold badR; simp [HT.out, hcn, hh, HPP.out]
            subst hb
            clear hh hcn
            go_wp2_with fail
            refine HTK.out.mono ?_
            rintro e w4 ⟨rfl, rfl⟩
            go_wp2_with fail
            refine HPT.out.mono ?_
            rintro e w4 ⟨rfl, rfl⟩
            go_wp2_with fail
            go_meet
            exact ⟨rfl, rfl⟩
          · have e2 := ne_lit hh
            rw [show httpB.toList = [104, 116, 116, 112] from by decide +kernel] at e2
            by_cases hhs : s = httpsB
            · have e3 : (s.toList == [104, 116, 116, 112, 115]) = true := by rw [hhs]; decide +kernel
              have hb : BD = !PT := by rw [← HBD.out]; unfold badR; simp [HT.out, hcn, hhs, HPP.out]
              subst hb
              clear hh hhs hcn
              go_wp2_with fail
              refine HTK.out.mono ?_
              rintro e w4 ⟨rfl, rfl⟩
              go_wp2_with fail
              refine HPT.out.mono ?_
              rintro e w4 ⟨rfl, rfl⟩
              go_wp2_with fail
              go_meet
              exact ⟨rfl, rfl⟩
            · have e3 := ne_lit hhs
              rw [show httpsB.toList = [104, 116, 116, 112, 115] from by decide +kernel] at e3
              have hb : BD = true := by rw [← HBD.out]; unfold badR; simp [hh, hhs]
              subst hb
              clear hh hhs hcn
              go_wp2_with fail
              refine HTK.out.mono ?_
              rintro e w4 ⟨rfl, rfl⟩
              go_wp2_with fail
              go_meet
              exact ⟨rfl, rfl⟩
    case rest =>
    obtain ⟨rfl, hwc⟩ := hcut
    subst hwc
    clear HTK HPT z0 z1 z3
    cases BD with
    | true =>
      have HRX : Hid (R = (noRq, 100)) := Lib.hid (by rw [← HR2.out, if_pos rfl])
      go_wp2_with (first
        | (refine wpList_store_rowTo rfl 60 (.tmp 2) _ rfl rfl q #[.string ⟨#[]⟩, .string ⟨#[]⟩, .string ⟨#[]⟩, .string ⟨#[]⟩, .slice none 0 0] rfl rfl 60 _ HB3.out.2.1 infoReq rfl (by simp [Value.oneCell']) ?_))
      refine bodyPost_ret (results_read rfl (setRow_heap _ _ _ _ _ _ HB3.out.2.1) rfl) rfl ?_
      rw [HRX.out, ← HQ.out]
      exact ⟨.slice none 0 0, rfl, ownFds_nil (by rw [HQ.out]; exact HB3.out.1.trans ⟨rfl, rfl, rfl, by simp, fun k hk => setRow_other _ _ _ _ (by omega)⟩)⟩
    | false =>
      have hRR := HR2.out
      rw [if_neg (by simp)] at hRR
      have HR3 := Lib.hid hRR
      clear hRR HR2 HBD
      have HHO := Lib.hid (hosts_any (c := c2) wc HB3.out.2.2.1 (by omega))
      go_wp2_with fail
      refine HHO.out.mono ?_
      rintro e w4 ⟨ov, rv, rfl, hA4, hb4⟩
      have HA4 := Lib.hid hA4
      have s37 := HK3.out.2
      have HB4 : Hid (Below q w w4 ∧ w4.heap[q]? = some (.cells zeroRq 60 (0, 0)) ∧ w4.heap[q7]? = some (.cells #[.string m, .string s, .string ⟨#[]⟩, .string p, .slice none 0 0] 60 (0, 0)) ∧ wc.heap.size ≤ w4.heap.size) := Lib.hid ⟨HB3.out.1.trans (hb4.mono (by omega)), (hb4.block q (by omega)).trans HB3.out.2.1, (hb4.block q7 (by omega)).trans HK3.out.1, hb4.size⟩
      have HM4 := Lib.hid (HB3.out.2.2.2.below hb4 HB3.out.2.2.2.lt)
      obtain ⟨A5, c5, hov, -, -, -, -⟩ := own_slice hA4.head
      obtain ⟨A6, c6, hrv, -, -, -, -⟩ := own_slice (hA4.pick [_]).head
      have hvl := valsF_le G.2 hostB
      have hrl := restH_le G.2
      have hvz : ∀ s ∈ valsF G.2 hostB, s.size ≤ 140737488351232 := fun s hs => by
        obtain ⟨f, hf, rfl⟩ := valsF_mem hs
        exact (HI.out.2 f hf).2
      have htx : Tx (restH G.2) := fun f hf => HI.out.2 f (by unfold restH at hf; exact (List.mem_filter.1 hf).1)
      have HPL := Lib.hid (place_any w4 hA4 HM4.out hvz (fun s hs => HI.out.1 _ _ hs) (by omega))
      have HTX := Lib.hid htx
      clear hA4 hb4 hvz htx HHO
      rw [hov] at HPL ⊢
      rw [hrv]
      have HRV := Lib.hid hrv
      clear hov hrv
      go_wp2_with fail
      refine HPL.out.mono ?_
      rintro e w5 ⟨rfl, hb5, hA5⟩
      obtain ⟨P, hP⟩ : ∃ P, placeF (G.1 authK) (valsF G.2 hostB) = P := ⟨_, rfl⟩
      have hR3 := HR3.out
      rw [hP] at hR3 ⊢
      have HR4 := Lib.hid hR3
      obtain ⟨P1, P2⟩ := P
      dsimp only at HR4 ⊢
      clear hR3 hP HPL HR3
      have k5 := (hb5.block q7 (by omega)).trans HB4.out.2.2.1
      have y2 : w5.cell? ⟨q7, 2, none⟩ = some (.string ⟨#[]⟩) := by unfold World.cell?; rw [k5]; rfl
      have f2 : w5.frozen? ⟨q7, 2, none⟩ = false := by unfold World.frozen?; rw [k5]; rfl
      have k6 := set_b7 (o := 2) (.string P1) k5
      have hb6 : Below q w (w5.setCell ⟨q7, 2, none⟩ (.string P1)) := (HB4.out.1.trans (hb5.mono (by omega))).setCell (by show q ≤ q7; omega) _
      have kq6 : (w5.setCell ⟨q7, 2, none⟩ (.string P1)).heap[q]? = some (.cells zeroRq 60 (0, 0)) := (Below.heap_setCell _ _ _ _ (by show q ≠ q7; omega)).trans ((hb5.block q (by omega)).trans HB4.out.2.1)
      have hs6 : (w5.setCell ⟨q7, 2, none⟩ (.string P1)).heap.size = w5.heap.size := by simp
      have hs45 : w4.heap.size ≤ w5.heap.size ∨ True := .inr trivial
      have hrow5 := hA5.head
      have hlt5 : ∀ b, rv.ownBlock = some b → wc.heap.size ≤ b := fun b hb => hA5.base _ (List.mem_cons_self ..) b hb
      have hrow6 : (w5.setCell ⟨q7, 2, none⟩ (.string P1)).ownsRow 0 26 3 rv (restH G.2).length (fds (restH G.2)) := own_kept4 hrow5 ((Kept.refl (fun b => b = q7) w5).setCell rfl 2 _) (fun b hb e1 => by have := hlt5 b hb; omega)
      obtain ⟨A7, c7, hv7, -, -, hrd7, -⟩ := own_slice hrow6
      rw [HRV.out] at hv7
      injection hv7 with e1 e2 e3
      subst e1
      have HK6 := Lib.hid (And.intro k6 (And.intro hb6 kq6))
      have HRD6 := Lib.hid hrd7
      have hsz6 : wc.heap.size ≤ w5.heap.size := by have := hA5.sz; omega
      clear k5 k6 hb6 kq6 hrow5 hrow6 hlt5 hrd7 hb5 hA5 hs45 e3
      by_cases hP2 : P2 = 0
      · subst hP2
        have ee2 : (((0 : Nat) : Int) == 0) = true := rfl
        have hR5 := HR4.out
        rw [if_neg (by simp)] at hR5
        have HR5 := Lib.hid hR5
        clear hR5 HR4
        have HLN := Lib.hid (fun w hr => length_any (c := c6) (l := restH G.2) (A := A6) (n := (restH G.2).length) w hr (by omega) HTX.out)
        go_wp2_with fail
        generalize (w5.setCell ⟨q7, 2, none⟩ (.string P1)) = w6 at *
        refine (HLN.out w6 HRD6.out).mono ?_
        rintro e w7 ⟨rfl, hb7⟩
        have HK7 : Hid (w7.heap[q7]? = some (.cells #[.string m, .string s, .string P1, .string p, .slice none 0 0] 60 (0, 0)) ∧ Below q w w7 ∧ w7.heap[q]? = some (.cells zeroRq 60 (0, 0)) ∧ w6.heap.size ≤ w7.heap.size) := Lib.hid ⟨(hb7.block q7 (by omega)).trans HK6.out.1, HK6.out.2.1.trans (hb7.mono (by omega)), (hb7.block q (by omega)).trans HK6.out.2.2, hb7.size⟩
        have HRD7 := Lib.hid ((HRD6.out.below hb7 (Nat.le_refl _)).more hb7.size)
        obtain ⟨LF, hLF⟩ : ∃ LF, lenF (restH G.2) = LF := ⟨_, rfl⟩
        have hR5 := HR5.out
        rw [hLF] at hR5 ⊢
        have HR6 := Lib.hid hR5
        clear hLF hb7 hR5 HR5 y2 f2
        cases LF with
        | none =>
          have HRX : Hid (R = (noRq, 102)) := Lib.hid (by rw [← HR6.out, if_pos rfl])
          unfold lenR
          dsimp only
          go_wp2_with (first
            | (refine wpList_store_rowTo rfl 60 (.tmp 2) _ rfl rfl q #[.string ⟨#[]⟩, .string ⟨#[]⟩, .string ⟨#[]⟩, .string ⟨#[]⟩, .slice none 0 0] rfl rfl 60 _ HK7.out.2.2.1 infoReq rfl (by simp [Value.oneCell']) ?_))
          refine bodyPost_ret (results_read rfl (setRow_heap _ _ _ _ _ _ HK7.out.2.2.1) rfl) rfl ?_
          rw [HRX.out, ← HQ.out]
          exact ⟨.slice none 0 0, rfl, ownFds_nil (by rw [HQ.out]; exact HK7.out.2.1.trans ⟨rfl, rfl, rfl, by simp, fun k hk => setRow_other _ _ _ _ (by omega)⟩)⟩
        | some LF =>
          have HRX : Hid (R = (⟨m, s, P1, p, cookF (restH G.2)⟩, 0)) := Lib.hid (by rw [← HR6.out, if_neg (by simp)])
          obtain ⟨x, y, hxy⟩ : ∃ x y, lenR (some LF) = (x, y, 0) := by cases LF <;> exact ⟨_, _, rfl⟩
          rw [hxy]
          dsimp only
          have ee3 : (((0 : Nat) : Int) == 0) = true := rfl
          have HCC := Lib.hid (HCK.out w7 A6 (restH G.2).length c6 HRD7.out (by omega))
          go_wp2_with fail
          refine HCC.out.mono ?_
          rintro e w8 ⟨cv, rfl, hown8⟩
          have k8 := (hown8.2.block q7 (by have := HK7.out.2.2.2; omega)).trans HK7.out.1
          have y4 : w8.cell? ⟨q7, 4, none⟩ = some (.slice none 0 0) := by unfold World.cell?; rw [k8]; rfl
          have f4 : w8.frozen? ⟨q7, 4, none⟩ = false := by unfold World.frozen?; rw [k8]; rfl
          obtain ⟨A8, c8, hv8, -, -, -, -⟩ := own_slice hown8.1
          subst hv8
          have HO8 := Lib.hid hown8
          have HK8 := Lib.hid k8
          have h78 := hown8.2.size
          have y0 : w8.cell? ⟨q7, 0, none⟩ = some (.string m) := by unfold World.cell?; rw [k8]; rfl
          have y1 : w8.cell? ⟨q7, 1, none⟩ = some (.string s) := by unfold World.cell?; rw [k8]; rfl
          have y2 : w8.cell? ⟨q7, 2, none⟩ = some (.string P1) := by unfold World.cell?; rw [k8]; rfl
          have y3 : w8.cell? ⟨q7, 3, none⟩ = some (.string p) := by unfold World.cell?; rw [k8]; rfl
          have HK9 : Hid ((w8.setCell ⟨q7, 4, none⟩ (.slice A8 (cookF (restH G.2)).length c8)).heap[q]? = some (.cells zeroRq 60 (0, 0)) ∧ Below q w (w8.setCell ⟨q7, 4, none⟩ (.slice A8 (cookF (restH G.2)).length c8))) := Lib.hid ⟨(Below.heap_setCell _ _ _ _ (by show q ≠ q7; omega)).trans ((hown8.2.block q (by have := HK7.out.2.2.2; omega)).trans HK7.out.2.2.1), (HK7.out.2.1.trans (hown8.2.mono (by have := HK7.out.2.2.2; omega))).setCell (by show q ≤ q7; omega) _⟩
          clear hown8 k8 HCC
          go_wp2_with (first
            | (refine wpList_store_rowTo rfl 60 (.tmp 2) _ rfl rfl q #[.string m, .string s, .string P1, .string p, .slice A8 (cookF (restH G.2)).length c8] rfl rfl 60 _ HK9.out.1 infoReq rfl (by simp [Value.oneCell']) ?_))
          refine bodyPost_ret (results_read rfl (setRow_heap _ _ _ _ _ _ HK9.out.1) rfl) rfl ?_
          rw [HRX.out]
          refine ⟨_, rfl, ?_, ?_⟩
          · have h1 := own_base HO8.out.1 (show w.heap.size ≤ w7.heap.size by have := HQ.out; have := HK7.out.2.2.2; omega)
            exact own_kept4 h1 (((Kept.refl (fun b => b = q7 ∨ b = q) w8).setCell (.inl rfl) 4 _).same ⟨rfl, rfl, rfl, by simp, fun k hk hne => setRow_other _ _ _ _ (fun e => hne (.inr e))⟩) (fun b hb e1 => by
              have h2 := (World.ownsRow.lt HO8.out.1 b hb).1
              have := HK7.out.2.2.2
              omega)
          · rw [HQ.out]
            exact HK9.out.2.trans ⟨rfl, rfl, rfl, by simp, fun k hk => setRow_other _ _ _ _ (by omega)⟩
      · have ee2 : ((P2 : Int) == 0) = false := by rw [beq_eq_false_iff_ne]; omega
        have HRX : Hid (R = (noRq, P2)) := Lib.hid (by rw [← HR4.out, if_pos hP2])
        go_wp2_with (first
          | (refine wpList_store_rowTo rfl 60 (.tmp 2) _ rfl rfl q #[.string ⟨#[]⟩, .string ⟨#[]⟩, .string ⟨#[]⟩, .string ⟨#[]⟩, .slice none 0 0] rfl rfl 60 _ HK6.out.2.2 infoReq rfl (by simp [Value.oneCell']) ?_))
        refine bodyPost_ret (results_read rfl (setRow_heap _ _ _ _ _ _ HK6.out.2.2) rfl) rfl ?_
        rw [HRX.out, ← HQ.out]
        exact ⟨.slice none 0 0, rfl, ownFds_nil (by rw [HQ.out]; exact HK6.out.2.1.trans ⟨rfl, rfl, rfl, by simp, fun k hk => setRow_other _ _ _ _ (by omega)⟩)⟩
  · have ee : ((e1 : Int) == 0) = false := by rw [beq_eq_false_iff_ne]; omega
    obtain ⟨rfl, rfl⟩ := hno h0
    have HRX : Hid (R = (noRq, e1)) := Lib.hid (by rw [← HRR.out, if_pos h0])
    clear hok hno
    go_wp2_with (first
      | (refine wpList_store_rowTo rfl 60 (.tmp 2) _ rfl rfl q #[.string ⟨#[]⟩, .string ⟨#[]⟩, .string ⟨#[]⟩, .string ⟨#[]⟩, .slice none 0 0] rfl rfl 60 _ HB2.out.2.1 infoReq rfl (by simp [Value.oneCell']) ?_))
    refine bodyPost_ret (results_read rfl (setRow_heap _ _ _ _ _ _ HB2.out.2.1) rfl) rfl ?_
    rw [HRX.out, ← HQ.out]
    exact ⟨.slice none 0 0, rfl, ownFds_nil (by rw [HQ.out]; exact HB2.out.1.trans ⟨rfl, rfl, rfl, by simp, fun k hk => setRow_other _ _ _ _ (by omega)⟩)⟩
end Go.Proofs.YtpkmciohehaboaaGreatDoor

/- The states of a stream, in plain Lean. No program in sight. -/
namespace Go.Proofs.YtpkmciohehaboaaGreatDoor
open Go.RowKit

/-- What comes of a frame. -/
structure sMv where
  state : Int
  skip : Bool
  is : Bool
  code : Int
  whole : Bool
  deriving DecidableEq
def mvV (m : sMv) : Value := .agg #[.int .i64 m.state, .bool m.skip, .bool m.is, .int .i64 m.code, .bool m.whole]

/-- A type's place in a row. -/
def colF (kind : Int) : Option Nat := if kind = 0 then some 0 else if kind = 1 then some 1 else if kind = 3 then some 2 else if kind = 8 then some 3 else if kind = 2 then some 4 else none
/-- The rows. -/
def tabF : List (List Nat) := [[6, 2, 6, 6, 0], [2, 3, 4, 1, 1], [5, 5, 4, 1, 1], [2, 3, 4, 1, 1], [6, 6, 0, 0, 0], [0, 0, 0, 0, 0], [5, 5, 0, 5, 0]]
def onF (state : Int) (fin : Bool) : Int := if state = 0 then (if fin then 2 else 1) else if fin then (if state = 1 then 2 else 4) else state
def codeF (state : Int) (how : Nat) : Int := if state = 0 ∨ how = 3 then 1 else 5
def howF (state : Int) (how : Nat) (fin : Bool) : sMv :=
  if (how = 3 ∧ fin = true) ∨ how = 2 then ⟨onF state fin, false, false, 0, false⟩
  else if how = 4 then ⟨6, false, false, 0, false⟩
  else if how = 1 then ⟨state, false, false, 0, false⟩
  else if how = 6 then ⟨state, false, true, codeF state how, true⟩
  else if how = 3 ∨ how = 5 then ⟨5, false, true, codeF state how, false⟩
  else ⟨state, true, false, 0, false⟩
theorem kinds (kind : Int) : kind = 0 ∨ kind = 1 ∨ kind = 3 ∨ kind = 8 ∨ kind = 2 ∨ (kind ≠ 0 ∧ kind ≠ 1 ∧ kind ≠ 3 ∧ kind ≠ 8 ∧ kind ≠ 2) := by omega
end Go.Proofs.YtpkmciohehaboaaGreatDoor

/- The walks of stream.Come, Go, Live. -/
namespace Go.Proofs.YtpkmciohehaboaaGreatDoor
open Go.RowKit

def colV (kind : Int) : Value := match colF kind with | none => .tuple #[.int .i64 0, .bool false] | some c => .tuple #[.int .i64 (c : Int), .bool true]
set_option maxHeartbeats 400000 in
theorem col_any (kind : Int) (w : World) : Calls Tryz.prog 183 #[.int .i64 kind] w fun e w' => e = .returned (colV kind) ∧ w = w' := by
  rcases kinds kind with h | h | h | h | h | ⟨h0, h1, h2, h3, h4⟩
  case inr.inr.inr.inr.inr =>
    have hc : colV kind = .tuple #[.int .i64 0, .bool false] := by unfold colV colF; rw [if_neg h0, if_neg h1, if_neg h2, if_neg h3, if_neg h4]
    rw [hc]
    clear hc
    go_enter Tryz.func183, Tryz.ntmps183; go_wp2; go_ret2; exact ⟨rfl, rfl⟩
  all_goals (subst h; go_enter Tryz.func183, Tryz.ntmps183; go_wp2; go_ret2; exact ⟨rfl, rfl⟩)

set_option maxHeartbeats 400000 in
theorem onward_any (state : Int) (fin : Bool) (w : World) : Calls Tryz.prog 185 #[.int .i64 state, .bool fin] w fun e w' => e = .returned (.int .i64 (onF state fin)) ∧ w = w' := by
  by_cases h0 : state = 0
  · subst h0
    cases fin
    all_goals (go_enter Tryz.func185, Tryz.ntmps185; go_wp2; go_ret; exact ⟨rfl, rfl⟩)
  · by_cases h1 : state = 1
    · subst h1
      cases fin
      all_goals (go_enter Tryz.func185, Tryz.ntmps185; go_wp2; go_ret; exact ⟨rfl, rfl⟩)
    · have hf : onF state false = state := by unfold onF; rw [if_neg h0]; rfl
      have ht : onF state true = 4 := by unfold onF; rw [if_neg h0, if_neg h1]; rfl
      cases fin
      · rw [hf]; clear hf ht; go_enter Tryz.func185, Tryz.ntmps185; go_wp2; go_ret; exact ⟨rfl, rfl⟩
      · rw [ht]; clear hf ht; go_enter Tryz.func185, Tryz.ntmps185; go_wp2; go_ret; exact ⟨rfl, rfl⟩
set_option maxHeartbeats 400000 in
theorem code_any (state : Int) (how : Nat) (w : World) : Calls Tryz.prog 186 #[.int .i64 state, .int .i64 how] w fun e w' => e = .returned (.int .i64 (codeF state how)) ∧ w = w' := by
  by_cases h0 : state = 0
  · subst h0
    go_enter Tryz.func186, Tryz.ntmps186; go_wp2; go_ret; exact ⟨rfl, rfl⟩
  · by_cases h3 : how = 3
    · subst h3
      have hf : codeF state 3 = 1 := by unfold codeF; rw [if_pos (.inr rfl)]
      rw [hf]; clear hf
      go_enter Tryz.func186, Tryz.ntmps186; go_wp2; go_ret; exact ⟨rfl, rfl⟩
    · have hf : codeF state how = 5 := by unfold codeF; rw [if_neg (by omega)]
      rw [hf]; clear hf
      have e1 : (state == 0) = false := by simpa using h0
      have e2 : ((how : Int) == 3) = false := by rw [beq_eq_false_iff_ne]; omega
      clear h0 h3
      go_enter Tryz.func186, Tryz.ntmps186; go_wp2; go_ret; exact ⟨rfl, rfl⟩
end Go.Proofs.YtpkmciohehaboaaGreatDoor

/- The walk of stream.rows. -/
namespace Go.Proofs.YtpkmciohehaboaaGreatDoor
open Go.RowKit

/-- The rows, as cells. -/
def rowsV : List Value := tabF.flatten.map fun n : Nat => Value.int .i64 (n : Int)
def srowV (i : Nat) : List Value := (tabF.getD i []).map fun n : Nat => Value.int .i64 (n : Int)
theorem heap_new (w : World) (o : Obj) : (w.alloc o).heap[w.heap.size]? = some o := by
  show (w.heap.push o)[w.heap.size]? = _
  simp

set_option maxRecDepth 100000 in
set_option maxHeartbeats 200000 in
theorem rows_any (w : World) : Calls Tryz.prog 184 #[] w fun e w' => e = .returned (.agg rowsV.toArray) ∧ Below w.heap.size w w' := by
  go_enter Tryz.func184, Tryz.ntmps184
  go_step; go_step; go_step
  refine Great.wpList_runTo rfl (some 0) rfl (.pointer (some ⟨w.heap.size, 0, none⟩)) (w.alloc (.cells (Array.replicate 35 (.int .i64 0)) 251)) (by kernel_rfl) ?_
  go_step; go_step; go_step; go_step; go_step
  refine Great.wpList_runTo rfl (some 1) rfl (.agg (srowV 0).toArray) (w.alloc (.cells (Array.replicate 35 (.int .i64 0)) 251)) (by kernel_rfl) ?_
  refine Great.wpList_runTo rfl (some 2) rfl (.agg (srowV 1).toArray) (w.alloc (.cells (Array.replicate 35 (.int .i64 0)) 251)) (by kernel_rfl) ?_
  refine Great.wpList_runTo rfl (some 3) rfl (.agg (srowV 2).toArray) (w.alloc (.cells (Array.replicate 35 (.int .i64 0)) 251)) (by kernel_rfl) ?_
  refine Great.wpList_runTo rfl (some 4) rfl (.agg (srowV 3).toArray) (w.alloc (.cells (Array.replicate 35 (.int .i64 0)) 251)) (by kernel_rfl) ?_
  refine Great.wpList_runTo rfl (some 5) rfl (.agg (srowV 4).toArray) (w.alloc (.cells (Array.replicate 35 (.int .i64 0)) 251)) (by kernel_rfl) ?_
  refine Great.wpList_runTo rfl (some 6) rfl (.agg (srowV 5).toArray) (w.alloc (.cells (Array.replicate 35 (.int .i64 0)) 251)) (by kernel_rfl) ?_
  refine Great.wpList_runTo rfl (some 7) rfl (.agg (srowV 6).toArray) (w.alloc (.cells (Array.replicate 35 (.int .i64 0)) 251)) (by kernel_rfl) ?_
  refine Great.wpList_runTo rfl (some 8) rfl (.agg rowsV.toArray) (w.alloc (.cells (Array.replicate 35 (.int .i64 0)) 251)) (by kernel_rfl) ?_
  refine wpList_store_rowTo rfl 251 (.tmp 0) (.tmp 8) rfl rfl w.heap.size rowsV.toArray (by kernel_rfl) (by kernel_rfl) 251 (Array.replicate 35 (.int .i64 0)) (heap_new w _) (by kernel_rfl) (by kernel_rfl) (by kernel_rfl) ?_
  go_wp2_with fail
  refine bodyPost_ret (v := .agg rowsV.toArray) (results_cell_row rfl _ _ w.heap.size 251 rowsV.toArray (0, 0) _ (by kernel_rfl) (setRow_heap _ _ _ _ _ _ (heap_new w _)) Tryz.underlying251 rfl (by kernel_rfl)) rfl ?_
  exact ⟨rfl, ((Below.refl _ _).alloc (Nat.le_refl _) _).trans ⟨rfl, rfl, rfl, by simp, fun k hk => setRow_other _ _ _ _ (by omega)⟩⟩
end Go.Proofs.YtpkmciohehaboaaGreatDoor
