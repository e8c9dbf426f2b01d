/- The walk of huff.Decode. -/
import Derived.Test.YtfcgacjonekfaaaHuffCode
import Derived.Test.YtfcgacjonekfaaaHuffDecPlain
namespace Go.Proofs.Ytfcgacjonekfaaa
open Go.RowKit

/-- What Decode hands back. -/
def decV : Option (List UInt8) → Value
  | none => .tuple #[.string ByteArray.empty, .int .i64 10]
  | some l => .tuple #[.string ⟨l.toArray⟩, .int .i64 0]
/-- Behind i bits. -/
def DecRel (W : World) (B : Nat) (l : List UInt8) (cv nv ov iv v : Value) (w : World) : Prop :=
  ∃ i c n : Nat, ∃ ones : Bool, ∃ out : List UInt8, iv = .int .i64 i ∧ i ≤ 8 * l.length ∧ cv = .int .u32 c ∧ nv = .int .i64 n ∧ ov = .bool ones ∧ Mid c n ∧ out.length + n ≤ i ∧
    decB l = decGo c n ones out ((bitsB l).drop i) ∧ w.ownsRow (B + 1) 5 1 v out.length (bvs out) ∧ Bk w B ∧ Below W.heap.size W w

set_option maxRecDepth 100000 in
set_option maxHeartbeats 2000000 in
theorem dec_some (b o n cap : Nat) (l : List UInt8) (w : World) (hn0 : 0 < n) (hn16 : n ≤ 1048576) (hn : n = l.length) (hb : b < w.heap.size) (hc : ∀ j, j < n → w.cell? ⟨b, o + j, none⟩ = some (.int .u8 (ba l j : Int))) :
    Calls Try.prog 25 #[.slice (some ⟨b, o, none⟩) n cap] w fun e w' => e = .returned (decV (decB l)) ∧ Below w.heap.size w w' := by
  have HN := Lib.hid hn
  have HC := Lib.hid hc
  clear hn hc
  go_enter Try.func25, Try.ntmps25
  go_wp2_with fail
  refine (open_any w).mono ?_
  rintro e w1 ⟨B, rfl, hbk, hB, hb1⟩
  have HBK := Lib.hid (show Bk w1 B from hbk)
  have hBlt := Book.lt hbk
  clear hbk
  go_wp2
  go_loopw [6, 7, 8, 16, 5] (DecRel w B l) (fun _ _ _ i _ _ => 8 * n - (intOf i).toNat)
  case atStart => exact ⟨0, 0, 0, true, [], rfl, by omega, rfl, rfl, rfl, Mid.zero, by simp, rfl, World.ownsRow_nil _ _ _ _, HBK.out, hb1⟩
  case round =>
    obtain ⟨i, c, d, ones, out, rfl, hi, rfl, rfl, rfl, hmid, hol, hdec, hown, hbk, hbel⟩ := hrel
    have hi' : i ≤ 8 * n := by have := HN.out; omega
    clear hi
    by_cases hlt : i < 8 * n
    · obtain ⟨q, hq⟩ : ∃ q, q = i / 8 := ⟨_, rfl⟩
      obtain ⟨r, hr⟩ : ∃ r, r = i % 8 := ⟨_, rfl⟩
      have eq1 : (i : Int) / 8 = (q : Int) := by omega
      have er1 : (i : Int) % 8 = (r : Int) := by omega
      have hqn : q < n := by omega
      have hr8 : r < 8 := by omega
      have hcell : wr.cell? ⟨b, o + q, none⟩ = some (.int .u8 (ba l q : Int)) := by rw [(bcell hbel).1 b _ hb]; exact HC.out q hqn
      have hx := ba_lt l q
      have hc30 := hmid.pow30
      have hd := hmid.le
      obtain ⟨y, hy⟩ : ∃ y, y = ba l q / 2 ^ (7 - r) := ⟨_, rfl⟩
      have ey : (ba l q : Int) / 2 ^ (7 - r) = (y : Int) := by rw [hy]; simp
      have hy256 : y < 256 := by rw [hy]; exact Nat.lt_of_le_of_lt (Nat.div_le_self _ _) hx
      obtain ⟨bt, hbt⟩ : ∃ bt, bt = bitAt l i := ⟨_, rfl⟩
      have hbt2 : bt < 2 := by rw [hbt]; exact bitAt_lt l i
      have hbty : y % 2 = bt := by rw [hbt, hy, bitAt, hq, hr]
      have eb := and_one y hy256
      rw [hbty] at eb
      have eo := or_bit hc30 hbt2
      have hlt30 := hmid.lt hbt2
      have hge := hmid.ge (b := bt)
      have hc2 : 2 * c + bt < 1073741824 := by omega
      have hstep := hdec
      rw [bitsB_drop (by have := HN.out; omega), ← hbt, decGo, hmid.hit] at hstep
      have hcf := Bk.first hbk (i := d + 1) (by omega)
      have hcm := Bk.many hbk (i := d + 1) (by omega)
      have hnx := hmid.next hbt2
      have hroom := hmid.room (b := bt)
      have hsa : symAt (2 * c + bt) (d + 1) = symT.getD (fromT.getD (d + 1) 0 + (2 * c + bt - firstT.getD (d + 1) 0)) 0 := rfl
      generalize hd1 : d + 1 = d1 at *
      have ed : (d : Int) + 1 = (d1 : Int) := by omega
      have hd31 : (d1 : Int) < 31 := by omega
      generalize firstT.getD d1 0 = f at *
      generalize manyT.getD d1 0 = m at *
      generalize 2 * c + bt = c2 at *
      have HD := Lib.hid hstep
      have HNX := Lib.hid hnx
      have HBK := Lib.hid hbk
      have HOWN := Lib.hid hown
      generalize hx : c2 - f = x at *
      have ew1 : IntKind.u32.wrap ((c2 : Int) - (f : Int)) = (x : Int) := by rw [IntWalk.u32_in _ ⟨by omega, by omega⟩]; omega
      have ew2 : IntKind.i64.wrap (x : Int) = (x : Int) := IntWalk.i64_in _ ⟨by omega, by omega⟩
      have e6 : decide (c2 < f) = false := by simp; omega
      have hcfr := Bk.from_ HBK.out (i := d1) (by omega)
      generalize fromT.getD d1 0 = fr at *
      have hbi : ((bt : Int) == 1) = (bt == 1) := by rw [Bool.eq_iff_iff, beq_iff_eq, beq_iff_eq]; omega
      have HBI := Lib.hid hbi
      clear hdec hstep hmid hbk hown hq hr hy hbt hbty hnx hlt30 hd1 hx hbi
      by_cases hhit : x < m
      · have e7 : decide (m ≤ x) = false := by simp; omega
        have hp := hroom hhit
        have ew3 : IntKind.i64.wrap ((fr : Int) + (x : Int)) = ((fr + x : Nat) : Int) := by rw [IntWalk.i64_in _ ⟨by omega, by omega⟩]; omega
        have hcs := Bk.sym HBK.out hp
        have hsv := sym_le (fr + x)
        have hst := HD.out
        rw [if_pos (decide_eq_true hhit), hsa] at hst
        generalize symT.getD (fr + x) 0 = sv at *
        generalize fr + x = p at *
        have hp257 : (p : Int) < 257 := by omega
        have HST := Lib.hid hst
        clear hst hsa hroom
        by_cases hs : sv = 256
        · subst hs
          have hnone : decB l = none := by rw [HST.out, if_pos rfl]
          have HNO := Lib.hid hnone
          clear hnone
          cases ones <;>
          · go_wp2
            go_quiet (fail)
            go_wp2
            go_quiet (fail)
            go_wp2
            go_ret2
            exact ⟨by rw [HNO.out]; rfl, hbel.drewN _⟩
        · have e8 : ((sv : Int) == 256) = false := by rw [beq_eq_false_iff_ne]; omega
          have hs256 : sv < 256 := by omega
          rw [if_neg hs] at HST
          clear hs
          cases ones <;>
          · go_wp2
            go_quiet (fail)
            go_wp2
            go_quiet (fail)
            clear ew1 ew2 ew3
            go_wp2_with (at_builtin; refine wpList_app (.tmp 90) (.tmp 93) tBytes rfl rfl (World.ownsRow.alloc HOWN.out _) rfl (Rd.one _ _ _) rfl (oneInt _ _) (le_maxLen (by omega)) (by omega) (by have := Book.lt HBK.out; simp; omega) ?_; intro v3 w3 hown3 hg3 _)
            refine ⟨⟨i + 1, 0, 0, true, out ++ [UInt8.ofNat sv], by go_num, by have := HN.out; omega, rfl, rfl, rfl, Mid.zero, by simp; omega, HST.out, ?_, ?_, ?_⟩, by simp [intOf]; omega⟩
            · exact OwnB.snoc hown3 (by rw [bv, toNat_ofNat hs256])
            · exact Bk.grown (Bk.alloc (Bk.drewN HBK.out _) _) hg3 (fun e => by have := (World.ownsRow.lt HOWN.out B e.symm).1; omega)
            · exact Below.app ((hbel.drewN _).alloc hbel.size _) (World.ownsRow.alloc HOWN.out _) hg3 (by omega) (by have := hbel.size; simp; omega)
      · have e7 : decide (m ≤ x) = true := by simp; omega
        have hst := HD.out
        rw [if_neg (by simp; omega)] at hst
        have HST := Lib.hid hst
        clear hst hsa hroom
        cases ones
        · go_wp2
          go_quiet (fail)
          go_wp2
          exact ⟨⟨i + 1, c2, d1, false, out, by go_num, by have := HN.out; omega, rfl, rfl, rfl, HNX.out (by omega), by omega, HST.out, HOWN.out, HBK.out, hbel.drewN _⟩, by simp [intOf]; omega⟩
        · go_wp2
          go_quiet (fail)
          go_wp2
          exact ⟨⟨i + 1, c2, d1, bt == 1, out, by go_num, by have := HN.out; omega, rfl, rfl, by rw [HBI.out], HNX.out (by omega), by omega, HST.out, HOWN.out, HBK.out, hbel.drewN _⟩, by simp [intOf]; omega⟩
    · obtain rfl : i = 8 * n := by omega
      have hnil : (bitsB l).drop (8 * n) = [] := List.drop_eq_nil_of_le (by rw [bitsB_length, HN.out]; exact Nat.le_refl _)
      rw [hnil, decGo] at hdec
      have hlen : (8 * (n : Int)) = ((8 * n : Nat) : Int) := by omega
      obtain ⟨A, cc, rfl, -, -, hrd, -⟩ := own_slice hown
      have hstr := run_str Try.underlying31 Try.underlying5 Try.underlying9 hrd cc
      by_cases h7 : 7 < d
      · rw [if_pos (Or.inl h7)] at hdec
        have HD := Lib.hid hdec
        clear hdec hnil hown hrd hstr hmid hbk hlen
        cases ones <;>
        · go_wp2
          go_ret2
          exact ⟨by rw [HD.out]; rfl, hbel⟩
      · cases ones
        · rw [if_pos (Or.inr rfl)] at hdec
          have HD := Lib.hid hdec
          clear hdec hnil hown hrd hstr hmid hbk hlen
          go_wp2
          go_ret2
          exact ⟨by rw [HD.out]; rfl, hbel⟩
        · rw [if_neg (by simp; omega)] at hdec
          have HD := Lib.hid hdec
          clear hdec hnil hown hrd hmid hbk hlen
          go_wp2
          go_ret2
          exact ⟨by rw [HD.out]; rfl, hbel⟩

set_option maxRecDepth 100000 in
set_option maxHeartbeats 1000000 in
theorem dec_none (A : Option Addr) (cap : Nat) (w : World) : Calls Try.prog 25 #[.slice A 0 cap] w fun e w' => e = .returned (decV (decB [])) ∧ Below w.heap.size w w' := by
  have hd : decB [] = some [] := by decide +kernel
  have HD := Lib.hid hd
  clear hd
  go_enter Try.func25, Try.ntmps25
  go_wp2_with fail
  refine (open_any w).mono ?_
  rintro e w1 ⟨B, rfl, hbk, hB, hb1⟩
  have hstr := run_str (P := Try.prog) (w := w1) Try.underlying31 Try.underlying5 Try.underlying9 (show Rd w1 0 1 none 0 (bvs []) from Rd.none_ w1 0 1 none) 0
  clear hbk
  go_wp2
  refine wp_loop_rounds 1 ?_
  rw [rounds_succ]
  go_wp2
  go_ret2
  exact ⟨by rw [HD.out]; rfl, hb1⟩

/-- Decode, whatever the bytes. -/
theorem dec_any {A : Option Addr} {n cap : Nat} {l : List UInt8} {w : World} (hr : Rd w w.heap.size 1 A n (bvs l)) (hn : n ≤ 1048576) :
    Calls Try.prog 25 #[.slice A n cap] w fun e w' => e = .returned (decV (decB l)) ∧ Below w.heap.size w w' := by
  rcases Nat.eq_zero_or_pos n with rfl | hn0
  · have hl0 : l = [] := List.eq_nil_of_length_eq_zero hr.blen
    subst hl0
    exact dec_none A cap w
  · obtain ⟨hl, b, o, rfl, hb, hc⟩ := hr.bas hn0
    exact dec_some b o n cap l w hn0 hn hl.symm hb hc
end Go.Proofs.Ytfcgacjonekfaaa
