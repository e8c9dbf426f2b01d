/- The walk of huff.Encode. -/
import Derived.Test.YtfcgacjonekfaaaHuffCode
import Derived.Test.YtfcgacjonekfaaaHuffEncPlain
import Derived.Deep.RegionLaw
namespace Go.Proofs.Ytfcgacjonekfaaa
open Go.RowKit

section
variable {P : Program} {w : World}
/-- append as one step of a region that draws. -/
theorem step_app {ops : Array Oper} {o : Oper} {a : Act} {K : Act → World → Prop} {Q : Exit → Act → World → Prop} {E : Prop} (s x : Operand) {t e : TypeId} {z : Value} {size bytes : Nat} (hT : SlT P t e z size bytes)
    (hgd : o.guard = none) (ho : o.op = .call { callee := .builtin .append, args := #[s, x], argTypes := #[t, t] })
    {base : Nat} {v : Value} {n : Nat} {xs : List Value} (hown : w.ownsRow base e size v n xs) (hs : a.eval s = v)
    {B : Nat} {A : Option Addr} {m c : Nat} {news : List Value} (hr : Rd w B size A m news) (hx : a.eval x = .slice A m c) (h1 : ∀ u ∈ news, u.oneCell' = true)
    (h63 : n + m ≤ maxLen) (hbytes : (n + m) * bytes ≤ 140737488355328) (hbase : base ≤ w.heap.size)
    (h : ∀ v' w', w'.ownsRow base e size v' (n + m) (xs ++ news) → w.grownBy w' v.ownBlock → (v'.ownBlock = v.ownBlock ∨ v'.ownBlock = some w.heap.size) → K (a.put o.dst v') w') :
    if Region.wanted o (yielded ops a.tmps) = true then Oper.wp P o a w K Q else E := by
  have hw : Region.wanted o (yielded ops a.tmps) = true := by simp [Region.wanted, hgd]
  rw [if_pos hw]
  obtain ⟨v', w', hrun, h2, h3, h4⟩ := run_app (P := P) o.type hT hown hr (c := c) h1 h63 hbytes hbase
  unfold Oper.wp execOp
  simp only [ho, resolve, invoke, builtin, Sem.run_bind, Sem.run_pure, Result.andThen_ok, List.map_toArray, List.map_cons, List.map_nil, hs, hx, hrun]
  exact h v' w' h2 h3 h4
end

theorem own_mono2 {w : World} {base base' : Nat} {e : TypeId} {size : Nat} {v : Value} {n : Nat} {xs : List Value} (h : w.ownsRow base e size v n xs) (hb : base' ≤ base) : w.ownsRow base' e size v n xs := by
  refine ⟨h.1, ?_⟩
  rcases h.2 with h2 | ⟨g, cap, cur, hv, hg, r⟩
  · exact .inl h2
  · exact .inr ⟨g, cap, cur, hv, by omega, r⟩
theorem own_snoc {w : World} {base m : Nat} {v u : Value} {d d' : List UInt8} {b : UInt8} (h : w.ownsRow base 5 1 v (m + 1) (bvs d ++ [u])) (hu : u = bv b) (hd : d' = d ++ [b]) : w.ownsRow base 5 1 v (m + 1) (bvs d') := by
  subst hu hd
  rw [bvs_append]
  exact h
/-- Behind k bytes of the text. -/
def EncRel (W : World) (B : Nat) (l : List UInt8) (ov hv bv_ iv : Value) (w : World) : Prop :=
  ∃ k h r m : Nat, iv = .int .i64 k ∧ k ≤ l.length ∧ hv = .int .u64 h ∧ bv_ = .int .i64 r ∧ h = vbits (l.take k) % M64 ∧ r = nbits (l.take k) % 8 ∧ m = nbits (l.take k) / 8 ∧ m ≤ 4 * k ∧
    w.ownsRow (B + 1) 5 1 ov m (bvs (dig m (vbits (l.take k) / 2 ^ r))) ∧ Bk w B ∧ Below W.heap.size W w
/-- Emptying: b bits are kept; m bytes are out. -/
def OutRel (W : World) (B V m1 b1 : Nat) (ov bv_ : Value) (w : World) : Prop :=
  ∃ b m : Nat, bv_ = .int .i64 b ∧ 8 * m + b = 8 * m1 + b1 ∧ m1 ≤ m ∧ w.ownsRow (B + 1) 5 1 ov m (bvs (dig m (V / 2 ^ b))) ∧ Bk w B ∧ Below W.heap.size W w

set_option maxRecDepth 100000 in
set_option maxHeartbeats 2000000 in
theorem enc_any (s : ByteArray) (w : World) (hs : s.size ≤ 1048576) : Calls Try.prog 28 #[.string s] w (RetB w (encB s.data.toList)) := by
  have hget := get_ba s
  have hlen := str_len s
  have HL := Lib.hid hlen
  clear hlen
  go_enter Try.func28, Try.ntmps28
  go_wp2_with fail
  refine (open_any w).mono ?_
  rintro e w1 ⟨B, rfl, hbk, hB, hb1⟩
  have HBK := Lib.hid (show Bk w1 B from hbk)
  have hBlt := Book.lt hbk
  clear hbk
  go_wp2
  go_loopw [4, 5, 6, 11] (EncRel w B s.data.toList) (fun _ _ _ i _ => s.size - (intOf i).toNat)
  case atStart => exact ⟨0, 0, 0, 0, rfl, by omega, rfl, rfl, rfl, rfl, by rw [List.take_zero]; rfl, by omega, World.ownsRow_nil _ _ _ _, HBK.out, hb1⟩
  case round =>
    obtain ⟨k, h, r, m, rfl, hk, rfl, rfl, hh, hr, hm, hmk, hown, hbk, hbel⟩ := hrel
    rw [HL.out] at hk
    have hr8 : r < 8 := by omega
    by_cases hlt : k < s.size
    · have hb := ba_lt s.data.toList k
      have hb257 : (ba s.data.toList k : Int) < 257 := by omega
      have hcl := Bk.size hbk (i := ba s.data.toList k) (by omega)
      have hcc := Bk.code hbk (i := ba s.data.toList k) (by omega)
      have hn30 := lens_le (ba s.data.toList k)
      have hc32 := code_lt (ba s.data.toList k)
      have hfit := code_fits (ba s.data.toList k) (by omega)
      have hvn := vbits_take (l := s.data.toList) (k := k) (by rw [HL.out]; exact hlt)
      have hnn := nbits_take (l := s.data.toList) (k := k) (by rw [HL.out]; exact hlt)
      generalize lensN.getD (ba s.data.toList k) 0 = n at *
      generalize codeT.getD (ba s.data.toList k) 0 = c at *
      generalize nbits (s.data.toList.take k) = T at *
      generalize vbits (s.data.toList.take k) = V at *
      have eo := or_code (v := V) (c := c) hn30 hfit
      have ew := wrap_u64 (h * 2 ^ n)
      rw [hh] at ew
      have ew' : IntKind.u64.wrap ((h : Int) * 2 ^ n) = ((V % M64 * 2 ^ n % M64 : Nat) : Int) := by rw [hh, ← ew]; congr 1
      generalize V % M64 * 2 ^ n % M64 = h2 at *
      obtain ⟨h3, hh3⟩ : ∃ h3, h3 = (V * 2 ^ n + c) % M64 := ⟨_, rfl⟩
      rw [← hh3] at eo
      have HO := Lib.hid hown
      have HBK := Lib.hid hbk
      have HV := Lib.hid (And.intro hvn (And.intro hnn (And.intro hr (And.intro hm (And.intro hh (And.intro hh3 hfit))))))
      clear hown hbk hvn hnn hr hm hh hh3 hfit ew
      go_wp2
      go_quiet (fail)
      go_wp2
      go_quiet (fail)
      go_wp2
      clear eo ew'
      obtain ⟨V2, hV2⟩ : ∃ V2, V2 = V * 2 ^ n + c := ⟨_, rfl⟩
      go_loopw [4, 6] (OutRel w B V2 m (r + n)) (fun _ b _ => (intOf b).toNat)
      case atStart =>
        refine ⟨r + n, m, by go_num, rfl, Nat.le_refl _, ?_, Bk.drewN (Bk.drewN HBK.out _) _, (hbel.drewN _).drewN _⟩
        rw [hV2, dig_char m V n c r HV.out.2.2.2.2.2.2]
        exact HO.out
      case round =>
        obtain ⟨b, m2, rfl, hbm, hm2, hown, hbk, hbel⟩ := hrel
        have HO := Lib.hid hown
        have HBK := Lib.hid hbk
        have HV2 := Lib.hid hV2
        have HBM := Lib.hid hbm
        have hb64 : b ≤ 37 := by omega
        have hm2k : m2 ≤ 4 * k + 4 := by omega
        clear hown hbk hV2 hbm
        by_cases h8 : 8 ≤ b
        · obtain ⟨b', rfl⟩ : ∃ b', b = b' + 8 := ⟨b - 8, by omega⟩
          obtain ⟨z, hz⟩ : ∃ z, z = h3 / 2 ^ b' % 256 := ⟨_, rfl⟩
          have ez : (h3 : Int) / 2 ^ b' % 256 = (z : Int) := by rw [hz]; simp
          have hz256 : z < 256 := by omega
          have HZ := Lib.hid hz
          clear hz
          go_wp2_with (at_builtin; refine wpList_app (.tmp 49) (.tmp 54) tBytes rfl rfl (World.ownsRow.alloc HO.out _) rfl (Rd.one _ _ _) rfl (oneInt _ _) (le_maxLen (by omega)) (by omega) (by have := Book.lt HBK.out; simp; omega) ?_; intro v3 w3 hown3 hg3 _)
          refine ⟨⟨b', m2 + 1, by go_num, by have := HBM.out; omega, by omega, ?_, ?_, ?_⟩, by simp [intOf]; omega⟩
          · refine own_snoc (b := UInt8.ofNat z) hown3 (by rw [bv, toNat_ofNat hz256]) ?_
            rw [dig_step, HZ.out, HV.out.2.2.2.2.2.1, ← HV2.out, mid_byte _ _ (by omega)]
          · exact Bk.grown (Bk.alloc HBK.out _) hg3 (fun e => by have := (World.ownsRow.lt HO.out B e.symm).1; omega)
          · exact Below.app (hbel.alloc hbel.size _) (World.ownsRow.alloc HO.out _) hg3 (by omega) (by have := hbel.size; simp; omega)
        · go_wp2
          have hv := HV.out
          have hbm := HBM.out
          refine ⟨⟨k + 1, h3, b, m2, by go_num, by rw [HL.out]; omega, rfl, rfl, ?_, ?_, ?_, by omega, ?_, HBK.out, hbel⟩, by simp [intOf]; omega⟩
          · rw [hv.1, hv.2.2.2.2.2.1]
          · rw [hv.2.1]; have := hv.2.2.1; have := hv.2.2.2.1; omega
          · rw [hv.2.1]; have := hv.2.2.1; have := hv.2.2.2.1; omega
          · rw [hv.1, ← HV2.out]; exact HO.out
    · obtain rfl : k = s.size := by omega
      have hall : s.data.toList.take s.size = s.data.toList := List.take_of_length_le (by rw [HL.out]; exact Nat.le_refl _)
      rw [hall] at hown hh hr hm
      by_cases hr0 : r = 0
      · subst hr0
        have HE := Lib.hid (show encB s.data.toList = dig m (vbits s.data.toList / 2 ^ 0) by unfold encB; rw [if_pos hr.symm, hm, Nat.pow_zero, Nat.div_one])
        have HO := Lib.hid hown
        clear hown hh hr hm hall hbk
        go_wp2
        go_ret
        exact ⟨_, rfl, by rw [HE.out]; unfold OwnB; rw [dig_length]; exact own_mono2 HO.out (by omega), hbel⟩
      · have hr1 : 0 < r := by omega
        have hE : encB s.data.toList = dig m (vbits s.data.toList / 2 ^ r) ++ [UInt8.ofNat (vbits s.data.toList * 2 ^ (8 - r) % 256 + (2 ^ (8 - r) - 1))] := by
          unfold encB
          rw [← hr, if_neg hr0, ← hm, dig_last _ _ _ hr1 hr8]
        obtain ⟨p, hp⟩ : ∃ p, p = 8 - r := ⟨_, rfl⟩
        rw [← hp] at hE
        have ep : IntKind.i64.wrap (8 - (r : Int)) = (p : Int) := by rw [IntWalk.i64_in _ ⟨by omega, by omega⟩]; omega
        obtain ⟨h4, hh4⟩ : ∃ h4, h4 = h * 2 ^ p % M64 := ⟨_, rfl⟩
        have ew := wrap_u64 (h * 2 ^ p)
        rw [← hh4] at ew
        have ew' : IntKind.u64.wrap ((h : Int) * 2 ^ p) = (h4 : Int) := by rw [← ew]; congr 1
        obtain ⟨z, hz⟩ : ∃ z, z = h4 % 256 := ⟨_, rfl⟩
        have ez : IntKind.u8.wrap (h4 : Int) = (z : Int) := by rw [IntKind.wrap_u8]; omega
        obtain ⟨q, hq⟩ : ∃ q, q = 255 / 2 ^ r := ⟨_, rfl⟩
        have eq1 : (255 : Int) / 2 ^ r = (q : Int) := by rw [hq]; simp
        have hq256 : q < 256 := by rw [hq]; exact Nat.lt_of_le_of_lt (Nat.div_le_self _ _) (by omega)
        have eo := u8_or_nat z q (by omega) hq256
        obtain ⟨y, hy⟩ : ∃ y, y = z ||| q := ⟨_, rfl⟩
        rw [← hy] at eo
        have hV := Lib.hid (And.intro hE (And.intro hp (And.intro hh4 (And.intro hz (And.intro hq (And.intro hy (And.intro hh (And.intro hr hm))))))))
        have HO := Lib.hid hown
        have HBK := Lib.hid hbk
        clear hE hp hh4 hz hq hy hh hr hm ew hown hbk hall hr0
        go_wp2
        go_region_law (refine step_app (.tmp 59) (.tmp 68) tBytes rfl rfl (World.ownsRow.alloc HO.out _) rfl (Rd.one _ _ _) rfl (oneInt _ _) (le_maxLen (by omega)) (by omega) (by have := Book.lt HBK.out; simp; omega) ?_; intro v3 w3 hown3 hg3 _)
        go_wp2
        go_ret
        obtain ⟨hE, hp, hh4, hz, hq, hy, hh, hr, hm⟩ := hV.out
        have hl := last_byte (v := vbits s.data.toList) hr1 hr8 hp
        rw [← hh, ← hh4, ← hz, ← hq, ← hy] at hl
        refine ⟨v3, rfl, ?_, Below.app ((hbel.drew).alloc hbel.size _) (World.ownsRow.alloc HO.out _) hg3 (by omega) (by have := hbel.size; simp; omega)⟩
        have hfin := own_snoc (b := UInt8.ofNat y) (d' := encB s.data.toList) hown3 (by rw [bv, toNat_ofNat hl.2, Nat.min_eq_left (show p ≤ 64 by omega), ew', ez, eo]) (by rw [hE, hl.1])
        have hle : (encB s.data.toList).length = m + 1 := by rw [hE, List.length_append, dig_length]; rfl
        unfold OwnB
        rw [hle]
        exact own_mono2 hfin (by omega)
end Go.Proofs.Ytfcgacjonekfaaa
