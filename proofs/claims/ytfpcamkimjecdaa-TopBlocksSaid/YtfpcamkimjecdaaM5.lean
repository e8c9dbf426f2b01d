/- 10 texts in one: HuffCodesPlain, HuffRef, HuffCode, HuffEnc, HuffSize, HuffREnc, Text, RefTake, Laws3b, HuffTreePlain. -/
import Derived.Test.YtfpcamkimjecdaaM2
import Derived.Test.YtfpcamkimjecdaaM4
import Derived.Deep.QuietTactic
import Derived.BigQuiet
import Derived.Deep.RegionLaw
import Derived.Laws.IdiomStrings
import Derived.Lib.AppendStr
/- What drawbridgeref02.Codes makes, step by step, in plain Lean; that it comes to the table. No program in sight. -/
namespace Go.Proofs.Ytfpcamkimjecdaa
open Go.RowKit

structure CSt where
  code : Nat
  last : Nat
  out : List Nat
  deriving DecidableEq
def CSt.zero : CSt := ⟨0, 5, List.replicate 257 0⟩
/-- The code at a length: doubled until it has as many bits. -/
def CSt.up (n : Nat) (st : CSt) : Nat := st.code * 2 ^ (n - st.last) % 4294967296
/-- One symbol. -/
def CSt.sym1 (n : Nat) (st : CSt) (x : Nat × Nat) : CSt := if x.1 = n then ⟨(st.up n + 1) % 4294967296, n, st.out.set x.2 (st.up n)⟩ else st
def CSt.inner (n s : Nat) (st : CSt) : CSt := (lensN.zipIdx.take s).foldl (CSt.sym1 n) st
/-- Behind the lengths 5 to 4 + d. -/
def CSt.at_ (d : Nat) : CSt := (List.range d).foldl (fun st k => CSt.inner (k + 5) 257 st) CSt.zero
theorem codes_end : (CSt.at_ 26).out = codeT := by decide +kernel
theorem cinner_next (n : Nat) (st : CSt) {s : Nat} (h : s < 257) : CSt.inner n (s + 1) st = CSt.sym1 n (CSt.inner n s st) (lensN.getD s 0, s) := by
  have hl : s < lensN.zipIdx.length := by rw [List.length_zipIdx, tab_lengths.1]; exact h
  unfold CSt.inner
  rw [List.take_succ_eq_append_getElem hl, List.foldl_append]
  have hl' : s < lensN.length := by rw [tab_lengths.1]; exact h
  simp [List.getD, List.getElem?_eq_getElem hl']
theorem cat_next (d : Nat) : CSt.at_ (d + 1) = CSt.inner (d + 5) 257 (CSt.at_ d) := by
  unfold CSt.at_
  rw [List.range_succ, List.foldl_append, List.foldl_cons, List.foldl_nil]
structure CSt.Wf (n : Nat) (st : CSt) : Prop where
  out : st.out.length = 257
  code : st.code < 4294967296
  last : st.last ≤ n
  lo : 5 ≤ st.last
theorem CSt.Wf.sym1 {n : Nat} {st : CSt} (h : st.Wf n) (h5 : 5 ≤ n) (x : Nat × Nat) : (CSt.sym1 n st x).Wf n := by
  unfold CSt.sym1
  split
  · exact ⟨by simp [h.out], Nat.mod_lt _ (by decide), Nat.le_refl _, h5⟩
  · exact h
theorem CSt.Wf.inner {n : Nat} {st : CSt} (h : st.Wf n) (h5 : 5 ≤ n) : ∀ {s : Nat}, s ≤ 257 → (CSt.inner n s st).Wf n := by
  intro s
  induction s with
  | zero => intro _; exact h
  | succ s ih => intro hs; rw [cinner_next n st (by omega)]; exact (ih (by omega)).sym1 h5 _
theorem CSt.Wf.up {n : Nat} {st : CSt} (h : st.Wf n) : st.Wf (n + 1) := ⟨h.out, h.code, by have := h.last; omega, h.lo⟩
theorem CSt.Wf.at_ (d : Nat) : (CSt.at_ d).Wf (d + 5) := by
  induction d with
  | zero => exact ⟨by decide +kernel, by decide, by decide, by decide⟩
  | succ d ih => rw [cat_next]; exact (ih.inner (by omega) (Nat.le_refl _)).up
/-- Doubling once more. -/
theorem up_step (c j : Nat) : c * 2 ^ j % 4294967296 * 2 % 4294967296 = c * 2 ^ (j + 1) % 4294967296 := by
  rw [Nat.pow_succ, ← Nat.mul_assoc, Nat.mod_mul_mod]
def u32s (l : List Nat) : List Value := l.map fun n : Nat => Value.int .u32 (n : Int)
def i64s (l : List Nat) : List Value := l.map fun n : Nat => Value.int .i64 (n : Int)
theorem u32s_length (l : List Nat) : (u32s l).length = l.length := by simp [u32s]
theorem i64s_length (l : List Nat) : (i64s l).length = l.length := by simp [i64s]
theorem u32s_get {l : List Nat} {i : Nat} (h : i < l.length) : (u32s l)[i]? = some (.int .u32 ((l.getD i 0 : Nat) : Int)) := by simp [u32s, List.getD, List.getElem?_eq_getElem h]
theorem i64s_get {l : List Nat} {i : Nat} (h : i < l.length) : (i64s l)[i]? = some (.int .i64 ((l.getD i 0 : Nat) : Int)) := by simp [i64s, List.getD, List.getElem?_eq_getElem h]
theorem u32s_set (l : List Nat) (i x : Nat) : (u32s l).set i (.int .u32 (x : Int)) = u32s (l.set i x) := by simp [u32s, List.map_set]
end Go.Proofs.Ytfpcamkimjecdaa

/- The walks of drawbridgeref02.Lengths and Codes. -/
namespace Go.Proofs.Ytfpcamkimjecdaa
open Go.RowKit

/-- The lengths lie in block gl. -/
def LC (w : World) (gl : Nat) : Prop := ∀ i, i < 257 → w.cell? ⟨gl, i, none⟩ = some (.int .i64 ((lensN.getD i 0 : Nat) : Int))
theorem LC.set_ {w : World} {gl g : Nat} (h : LC w gl) (hne : gl ≠ g) (j : Nat) (v : Value) : LC (w.setCell ⟨g, j, none⟩ v) gl :=
  fun i hi => (World.cell?_setCell_other w ⟨g, j, none⟩ ⟨gl, i, none⟩ v (fun e => by injection e with e; exact hne e.symm)).trans (h i hi)
/-- The loop over the lengths, over the symbols, of the doubling. -/
def CLenRel (W : World) (gl g : Nat) (c l n : Value) (w : World) : Prop :=
  ∃ d : Nat, n = .int .i64 ((d : Int) + 5) ∧ d ≤ 26 ∧ c = .int .u32 ((CSt.at_ d).code : Int) ∧ l = .int .i64 ((CSt.at_ d).last : Int) ∧
    w.ownsRow W.heap.size 75 1 (.slice (some ⟨g, 0, none⟩) 257 257) 257 (u32s (CSt.at_ d).out) ∧ LC w gl ∧ Below W.heap.size W w
def CSymRel (W : World) (gl g d : Nat) (c l i : Value) (w : World) : Prop :=
  ∃ s : Nat, i = .int .i64 s ∧ s ≤ 257 ∧ c = .int .u32 ((CSt.inner (d + 5) s (CSt.at_ d)).code : Int) ∧ l = .int .i64 ((CSt.inner (d + 5) s (CSt.at_ d)).last : Int) ∧
    w.ownsRow W.heap.size 75 1 (.slice (some ⟨g, 0, none⟩) 257 257) 257 (u32s (CSt.inner (d + 5) s (CSt.at_ d)).out) ∧ LC w gl ∧ Below W.heap.size W w
def DblUp (code last n : Nat) (c l : Value) : Prop := ∃ j x : Nat, l = .int .i64 ((last : Int) + j) ∧ last + j ≤ n ∧ c = .int .u32 x ∧ x = code * 2 ^ j % 4294967296 ∧ x < 4294967296

end Go.Proofs.Ytfpcamkimjecdaa

/- The walks of huff.Code and drawbridgelaw02.HuffCodes. -/
namespace Go.Proofs.Ytfpcamkimjecdaa
open Go.RowKit

/-- The book as it is when it is made. -/
def Bk (w : World) (B : Nat) : Prop := Book w B manyT (OSt.at_ 31)
section
variable {w : World} {B : Nat} (h : Bk w B)
include h
theorem Bk.size {i : Nat} (hi : i < 257) : w.cell? ⟨B, i, none⟩ = some (.int .u8 ((lensN.getD i 0 : Nat) : Int)) := by rw [Book.cell h, blk_size hi]
theorem Bk.code {i : Nat} (hi : i < 257) : w.cell? ⟨B, 257 + i, none⟩ = some (.int .u32 ((codeT.getD i 0 : Nat) : Int)) := by rw [Book.cell h, blk_code (OSt.Wf.at_ 31) hi, open_end]
theorem Bk.first {i : Nat} (hi : i < 31) : w.cell? ⟨B, 514 + i, none⟩ = some (.int .u32 ((firstT.getD i 0 : Nat) : Int)) := by rw [Book.cell h, blk_first (OSt.Wf.at_ 31) hi, open_end]
theorem Bk.many {i : Nat} (hi : i < 31) : w.cell? ⟨B, 545 + i, none⟩ = some (.int .i64 ((manyT.getD i 0 : Nat) : Int)) := by rw [Book.cell h, blk_many tab_lengths.2.2.2.1 (OSt.Wf.at_ 31) hi]
theorem Bk.from_ {i : Nat} (hi : i < 31) : w.cell? ⟨B, 576 + i, none⟩ = some (.int .i64 ((fromT.getD i 0 : Nat) : Int)) := by rw [Book.cell h, blk_from tab_lengths.2.2.2.1 (OSt.Wf.at_ 31) hi, open_end]
theorem Bk.sym {i : Nat} (hi : i < 257) : w.cell? ⟨B, 607 + i, none⟩ = some (.int .i64 ((symT.getD i 0 : Nat) : Int)) := by rw [Book.cell h, blk_sym tab_lengths.2.2.2.1 (OSt.Wf.at_ 31) hi, open_end]
end
theorem Bk.below {w w' : World} {B B0 : Nat} (h : Bk w B) (hb : Below B0 w w') (hB : B < B0) : Bk w' B := (hb.block B hB).trans h
theorem Bk.grown {w w' : World} {B : Nat} {row : Option Nat} (h : Bk w B) (hg : w.grownBy w' row) (hne : some B ≠ row) : Bk w' B := (hg.block B (Book.lt h) hne).trans h
theorem Bk.drewN {w : World} {B : Nat} (h : Bk w B) (n : Nat) : Bk (w.drewN n) B := h
theorem Bk.alloc {w : World} {B : Nat} (h : Bk w B) (o : Obj) : Bk (w.alloc o) B := (Below.heap_alloc w o B (Book.lt h)).trans h
theorem _root_.Go.RowKit.Below.drewN {B : Nat} {a w : World} (h : Below B a w) (n : Nat) : Below B a (w.drewN n) := ⟨h.os, h.tape, h.output, h.size, h.block⟩
theorem code_lt : ∀ i, codeT.getD i 0 < 1073741824 := by
  intro i
  rcases Nat.lt_or_ge i 257 with h | h
  · have : ∀ i < 257, codeT.getD i 0 < 1073741824 := by decide +kernel
    exact this i h
  · rw [List.getD, List.getElem?_eq_none (by rw [tab_lengths.2.1]; exact h)]; decide

/-- No code is the beginning of another one's. -/
def codesApart : Bool := (codeT.zip (lensN.zip (List.range 257))).all fun x => (codeT.zip (lensN.zip (List.range 257))).all fun y => x.2.2 == y.2.2 || decide (y.2.1 < x.2.1) || (y.1 / 2 ^ (y.2.1 - x.2.1) != x.1)
theorem codes_apart : codesApart = true := by decide +kernel
theorem apart {i j : Nat} (hi : i < 257) (hj : j < 257) (hne : i ≠ j) (hle : lensN.getD i 0 ≤ lensN.getD j 0) : codeT.getD j 0 / 2 ^ (lensN.getD j 0 - lensN.getD i 0) ≠ codeT.getD i 0 := by
  have hget : ∀ k, k < 257 → (codeT.getD k 0, (lensN.getD k 0, k)) ∈ codeT.zip (lensN.zip (List.range 257)) := by
    intro k hk
    have h1 : k < codeT.length := by rw [tab_lengths.2.1]; exact hk
    have h2 : k < lensN.length := by rw [tab_lengths.1]; exact hk
    rw [List.mem_iff_getElem]
    refine ⟨k, by simp [tab_lengths.1, tab_lengths.2.1]; exact hk, ?_⟩
    simp [List.getD, List.getElem?_eq_getElem h1, List.getElem?_eq_getElem h2]
  have h := codes_apart
  unfold codesApart at h
  rw [List.all_eq_true] at h
  have h1 := h _ (hget i hi)
  rw [List.all_eq_true] at h1
  have h2 := h1 _ (hget j hj)
  simp only [Bool.or_eq_true, beq_iff_eq, decide_eq_true_eq, bne_iff_ne] at h2
  rcases h2 with (h2 | h2) | h2
  · exact absurd h2 hne
  · omega
  · exact h2

end Go.Proofs.Ytfpcamkimjecdaa

/- The walk of huff.Encode. -/
namespace Go.Proofs.Ytfpcamkimjecdaa
open Go.RowKit

section
variable {P : Program} {w : World}
/-- append as one step of a region that draws. -/
theorem hstep_app {ops : Array Oper} {o : Oper} {a : Act} {K : Act → World → Prop} {Q : Exit → Act → World → Prop} {E : Prop} (s x : Operand) {t e : TypeId} {z : Value} {size bytes : Nat} (hT : SlT P t e z size bytes)
    (hgd : o.guard = none) (ho : o.op = .call { callee := .builtin .append, args := #[s, x], argTypes := #[t, t] })
    {base : Nat} {v : Value} {n : Nat} {xs : List Value} (hown : w.ownsRow base e size v n xs) (hs : a.eval s = v)
    {B : Nat} {A : Option Addr} {m c : Nat} {news : List Value} (hr : Rd w B size A m news) (hx : a.eval x = .slice A m c) (h1 : ∀ u ∈ news, u.oneCell' = true)
    (h63 : n + m ≤ maxLen) (hbytes : (n + m) * bytes ≤ 140737488355328) (hbase : base ≤ w.heap.size)
    (h : ∀ v' w', w'.ownsRow base e size v' (n + m) (xs ++ news) → w.grownBy w' v.ownBlock → (v'.ownBlock = v.ownBlock ∨ v'.ownBlock = some w.heap.size) → K (a.put o.dst v') w') :
    if Region.wanted o (yielded ops a.tmps) = true then Oper.wp P o a w K Q else E := by
  have hw : Region.wanted o (yielded ops a.tmps) = true := by simp [Region.wanted, hgd]
  rw [if_pos hw]
  obtain ⟨v', w', hrun, h2, h3, h4⟩ := run_app (P := P) o.type hT hown hr (c := c) h1 h63 hbytes hbase
  unfold Oper.wp execOp
  simp only [ho, resolve, invoke, builtin, Sem.run_bind, Sem.run_pure, Result.andThen_ok, List.map_toArray, List.map_cons, List.map_nil, hs, hx, hrun]
  exact h v' w' h2 h3 h4
end

theorem own_mono2 {w : World} {base base' : Nat} {e : TypeId} {size : Nat} {v : Value} {n : Nat} {xs : List Value} (h : w.ownsRow base e size v n xs) (hb : base' ≤ base) : w.ownsRow base' e size v n xs := by
  refine ⟨h.1, ?_⟩
  rcases h.2 with h2 | ⟨g, cap, cur, hv, hg, r⟩
  · exact .inl h2
  · exact .inr ⟨g, cap, cur, hv, by omega, r⟩
theorem own_snoc {w : World} {base m : Nat} {v u : Value} {d d' : List UInt8} {b : UInt8} (h : w.ownsRow base 5 1 v (m + 1) (bvs d ++ [u])) (hu : u = bv b) (hd : d' = d ++ [b]) : w.ownsRow base 5 1 v (m + 1) (bvs d') := by
  subst hu hd
  rw [bvs_append]
  exact h
/-- Behind k bytes of the text. -/
def EncRel (W : World) (B : Nat) (l : List UInt8) (ov hv bv_ iv : Value) (w : World) : Prop :=
  ∃ k h r m : Nat, iv = .int .i64 k ∧ k ≤ l.length ∧ hv = .int .u64 h ∧ bv_ = .int .i64 r ∧ h = vbits (l.take k) % M64 ∧ r = nbits (l.take k) % 8 ∧ m = nbits (l.take k) / 8 ∧ m ≤ 4 * k ∧
    w.ownsRow (B + 1) 5 1 ov m (bvs (dig m (vbits (l.take k) / 2 ^ r))) ∧ Bk w B ∧ Below W.heap.size W w
/-- Emptying: b bits are kept; m bytes are out. -/
def OutRel (W : World) (B V m1 b1 : Nat) (ov bv_ : Value) (w : World) : Prop :=
  ∃ b m : Nat, bv_ = .int .i64 b ∧ 8 * m + b = 8 * m1 + b1 ∧ m1 ≤ m ∧ w.ownsRow (B + 1) 5 1 ov m (bvs (dig m (V / 2 ^ b))) ∧ Bk w B ∧ Below W.heap.size W w

set_option maxRecDepth 100000 in
set_option maxHeartbeats 2000000 in
theorem enc_any (s : ByteArray) (w : World) (hs : s.size ≤ 1048576) : Calls Try.prog 74 #[.string s] w (RetB w (encB s.data.toList)) := by
  have hget := get_ba s
  have hlen := str_len s
  have HL := Lib.hid hlen
  clear hlen
  go_enter Try.func74, Try.ntmps74
  go_wp2_with fail
  refine (open_any w).mono ?_
  rintro e w1 ⟨B, rfl, hbk, hB, hb1⟩
  have HBK := Lib.hid (show Bk w1 B from hbk)
  have hBlt := Book.lt hbk
  clear hbk
  go_wp2
  go_loopw [4, 5, 6, 11] (EncRel w B s.data.toList) (fun _ _ _ i _ => s.size - (intOf i).toNat)
  case atStart => exact ⟨0, 0, 0, 0, rfl, by omega, rfl, rfl, rfl, rfl, by rw [List.take_zero]; rfl, by omega, World.ownsRow_nil _ _ _ _, HBK.out, hb1⟩
  case round =>
    obtain ⟨k, h, r, m, rfl, hk, rfl, rfl, hh, hr, hm, hmk, hown, hbk, hbel⟩ := hrel
    rw [HL.out] at hk
    have hr8 : r < 8 := by omega
    by_cases hlt : k < s.size
    · have hb := ba_lt s.data.toList k
      have hb257 : (ba s.data.toList k : Int) < 257 := by omega
      have hcl := Bk.size hbk (i := ba s.data.toList k) (by omega)
      have hcc := Bk.code hbk (i := ba s.data.toList k) (by omega)
      have hn30 := lens_le (ba s.data.toList k)
      have hc32 := code_lt (ba s.data.toList k)
      have hfit := code_fits (ba s.data.toList k) (by omega)
      have hvn := vbits_take (l := s.data.toList) (k := k) (by rw [HL.out]; exact hlt)
      have hnn := nbits_take (l := s.data.toList) (k := k) (by rw [HL.out]; exact hlt)
      generalize lensN.getD (ba s.data.toList k) 0 = n at *
      generalize codeT.getD (ba s.data.toList k) 0 = c at *
      generalize nbits (s.data.toList.take k) = T at *
      generalize vbits (s.data.toList.take k) = V at *
      have eo := or_code (v := V) (c := c) hn30 hfit
      have ew := wrap_u64 (h * 2 ^ n)
      rw [hh] at ew
      have ew' : IntKind.u64.wrap ((h : Int) * 2 ^ n) = ((V % M64 * 2 ^ n % M64 : Nat) : Int) := by rw [hh, ← ew]; congr 1
      generalize V % M64 * 2 ^ n % M64 = h2 at *
      obtain ⟨h3, hh3⟩ : ∃ h3, h3 = (V * 2 ^ n + c) % M64 := ⟨_, rfl⟩
      rw [← hh3] at eo
      have HO := Lib.hid hown
      have HBK := Lib.hid hbk
      have HV := Lib.hid (And.intro hvn (And.intro hnn (And.intro hr (And.intro hm (And.intro hh (And.intro hh3 hfit))))))
      clear hown hbk hvn hnn hr hm hh hh3 hfit ew
      go_wp2
      go_quiet (fail)
      go_wp2
      go_quiet (fail)
      go_wp2
      clear eo ew'
      obtain ⟨V2, hV2⟩ : ∃ V2, V2 = V * 2 ^ n + c := ⟨_, rfl⟩
      go_loopw [4, 6] (OutRel w B V2 m (r + n)) (fun _ b _ => (intOf b).toNat)
      case atStart =>
        refine ⟨r + n, m, by go_num, rfl, Nat.le_refl _, ?_, Bk.drewN (Bk.drewN HBK.out _) _, (hbel.drewN _).drewN _⟩
        rw [hV2, dig_char m V n c r HV.out.2.2.2.2.2.2]
        exact HO.out
      case round =>
        obtain ⟨b, m2, rfl, hbm, hm2, hown, hbk, hbel⟩ := hrel
        have HO := Lib.hid hown
        have HBK := Lib.hid hbk
        have HV2 := Lib.hid hV2
        have HBM := Lib.hid hbm
        have hb64 : b ≤ 37 := by omega
        have hm2k : m2 ≤ 4 * k + 4 := by omega
        clear hown hbk hV2 hbm
        by_cases h8 : 8 ≤ b
        · obtain ⟨b', rfl⟩ : ∃ b', b = b' + 8 := ⟨b - 8, by omega⟩
          obtain ⟨z, hz⟩ : ∃ z, z = h3 / 2 ^ b' % 256 := ⟨_, rfl⟩
          have ez : (h3 : Int) / 2 ^ b' % 256 = (z : Int) := by rw [hz]; simp
          have hz256 : z < 256 := by omega
          have HZ := Lib.hid hz
          clear hz
          go_wp2_with (at_builtin; refine wpList_app (.tmp 49) (.tmp 54) tBytes rfl rfl (World.ownsRow.alloc HO.out _) rfl (Rd.one _ _ _) rfl (oneInt _ _) (le_maxLen (by omega)) (by omega) (by have := Book.lt HBK.out; simp; omega) ?_; intro v3 w3 hown3 hg3 _)
          refine ⟨⟨b', m2 + 1, by go_num, by have := HBM.out; omega, by omega, ?_, ?_, ?_⟩, by simp [intOf]; omega⟩
          · refine own_snoc (b := UInt8.ofNat z) hown3 (by rw [bv, toNat_ofNat hz256]) ?_
            rw [dig_step, HZ.out, HV.out.2.2.2.2.2.1, ← HV2.out, mid_byte _ _ (by omega)]
          · exact Bk.grown (Bk.alloc HBK.out _) hg3 (fun e => by have := (World.ownsRow.lt HO.out B e.symm).1; omega)
          · exact Below.app (hbel.alloc hbel.size _) (World.ownsRow.alloc HO.out _) hg3 (by omega) (by have := hbel.size; simp; omega)
        · go_wp2
          have hv := HV.out
          have hbm := HBM.out
          refine ⟨⟨k + 1, h3, b, m2, by go_num, by rw [HL.out]; omega, rfl, rfl, ?_, ?_, ?_, by omega, ?_, HBK.out, hbel⟩, by simp [intOf]; omega⟩
          · rw [hv.1, hv.2.2.2.2.2.1]
          · rw [hv.2.1]; have := hv.2.2.1; have := hv.2.2.2.1; omega
          · rw [hv.2.1]; have := hv.2.2.1; have := hv.2.2.2.1; omega
          · rw [hv.1, ← HV2.out]; exact HO.out
    · obtain rfl : k = s.size := by omega
      have hall : s.data.toList.take s.size = s.data.toList := List.take_of_length_le (by rw [HL.out]; exact Nat.le_refl _)
      rw [hall] at hown hh hr hm
      by_cases hr0 : r = 0
      · subst hr0
        have HE := Lib.hid (show encB s.data.toList = dig m (vbits s.data.toList / 2 ^ 0) by unfold encB; rw [if_pos hr.symm, hm, Nat.pow_zero, Nat.div_one])
        have HO := Lib.hid hown
        clear hown hh hr hm hall hbk
        go_wp2
        go_ret
        exact ⟨_, rfl, by rw [HE.out]; unfold OwnB; rw [dig_length]; exact own_mono2 HO.out (by omega), hbel⟩
      · have hr1 : 0 < r := by omega
        have hE : encB s.data.toList = dig m (vbits s.data.toList / 2 ^ r) ++ [UInt8.ofNat (vbits s.data.toList * 2 ^ (8 - r) % 256 + (2 ^ (8 - r) - 1))] := by
          unfold encB
          rw [← hr, if_neg hr0, ← hm, dig_last _ _ _ hr1 hr8]
        obtain ⟨p, hp⟩ : ∃ p, p = 8 - r := ⟨_, rfl⟩
        rw [← hp] at hE
        have ep : IntKind.i64.wrap (8 - (r : Int)) = (p : Int) := by rw [IntWalk.i64_in _ ⟨by omega, by omega⟩]; omega
        obtain ⟨h4, hh4⟩ : ∃ h4, h4 = h * 2 ^ p % M64 := ⟨_, rfl⟩
        have ew := wrap_u64 (h * 2 ^ p)
        rw [← hh4] at ew
        have ew' : IntKind.u64.wrap ((h : Int) * 2 ^ p) = (h4 : Int) := by rw [← ew]; congr 1
        obtain ⟨z, hz⟩ : ∃ z, z = h4 % 256 := ⟨_, rfl⟩
        have ez : IntKind.u8.wrap (h4 : Int) = (z : Int) := by rw [IntKind.wrap_u8]; omega
        obtain ⟨q, hq⟩ : ∃ q, q = 255 / 2 ^ r := ⟨_, rfl⟩
        have eq1 : (255 : Int) / 2 ^ r = (q : Int) := by rw [hq]; simp
        have hq256 : q < 256 := by rw [hq]; exact Nat.lt_of_le_of_lt (Nat.div_le_self _ _) (by omega)
        have eo := u8_or_nat z q (by omega) hq256
        obtain ⟨y, hy⟩ : ∃ y, y = z ||| q := ⟨_, rfl⟩
        rw [← hy] at eo
        have hV := Lib.hid (And.intro hE (And.intro hp (And.intro hh4 (And.intro hz (And.intro hq (And.intro hy (And.intro hh (And.intro hr hm))))))))
        have HO := Lib.hid hown
        have HBK := Lib.hid hbk
        clear hE hp hh4 hz hq hy hh hr hm ew hown hbk hall hr0
        go_wp2
        go_region_law (refine hstep_app (.tmp 59) (.tmp 68) tBytes rfl rfl (World.ownsRow.alloc HO.out _) rfl (Rd.one _ _ _) rfl (oneInt _ _) (le_maxLen (by omega)) (by omega) (by have := Book.lt HBK.out; simp; omega) ?_; intro v3 w3 hown3 hg3 _)
        go_wp2
        go_ret
        obtain ⟨hE, hp, hh4, hz, hq, hy, hh, hr, hm⟩ := hV.out
        have hl := last_byte (v := vbits s.data.toList) hr1 hr8 hp
        rw [← hh, ← hh4, ← hz, ← hq, ← hy] at hl
        refine ⟨v3, rfl, ?_, Below.app ((hbel.drew).alloc hbel.size _) (World.ownsRow.alloc HO.out _) hg3 (by omega) (by have := hbel.size; simp; omega)⟩
        have hfin := own_snoc (b := UInt8.ofNat y) (d' := encB s.data.toList) hown3 (by rw [bv, toNat_ofNat hl.2, Nat.min_eq_left (show p ≤ 64 by omega), ew', ez, eo]) (by rw [hE, hl.1])
        have hle : (encB s.data.toList).length = m + 1 := by rw [hE, List.length_append, dig_length]; rfl
        unfold OwnB
        rw [hle]
        exact own_mono2 hfin (by omega)
end Go.Proofs.Ytfpcamkimjecdaa

/- The walks of huff.Size and drawbridgeref02.Size. -/
namespace Go.Proofs.Ytfpcamkimjecdaa
open Go.RowKit

def SizeRel (l : List UInt8) (v i : Value) : Prop := ∃ k t : Nat, i = .int .i64 k ∧ v = .int .i64 t ∧ k ≤ l.length ∧ t = nbits (l.take k) ∧ t ≤ 30 * k

set_option maxRecDepth 100000 in
set_option maxHeartbeats 1000000 in
theorem hsize_any (s : ByteArray) (w : World) (hs : s.size ≤ 1048576) : Calls Try.prog 73 #[.string s] w fun e w' => e = .returned (.int .i64 (nbytes s.data.toList : Int)) ∧ Below w.heap.size w w' := by
  have hget := get_ba s
  have hlen := str_len s
  have HL := Lib.hid hlen
  clear hlen
  go_enter Try.func73, Try.ntmps73
  go_wp2_with fail
  refine (lengths_any w).mono ?_
  rintro e w1 ⟨rfl, hb1⟩
  simp only []
  go_step
  refine Great.wpList_runTo rfl (some 3) rfl (.pointer (some ⟨w1.heap.size, 0, none⟩)) (w1.alloc (.cells (Array.replicate 257 (.int .u8 0)) 139)) (by kernel_rfl) ?_
  refine wpList_store_rowTo rfl 139 _ _ rfl rfl w1.heap.size lensV.toArray rfl rfl 139 (Array.replicate 257 (.int .u8 0)) (heap_alloc_new w1 _) (by kernel_rfl) (by kernel_rfl) (by kernel_rfl) ?_
  have hcell : ∀ i, i < 257 → ((w1.alloc (.cells (Array.replicate 257 (.int .u8 0)) 139)).setRow w1.heap.size lensV.toArray).cell? ⟨w1.heap.size, i, none⟩ = some (.int .u8 ((lensN.getD i 0 : Nat) : Int)) := fun i hi => by
    rw [cell_setRow_same _ _ _ _ _ _ _ (heap_alloc_new w1 _)]
    simpa using lensV_get hi
  have hbel : Below w.heap.size w ((w1.alloc (.cells (Array.replicate 257 (.int .u8 0)) 139)).setRow w1.heap.size lensV.toArray) :=
    (hb1.alloc hb1.size _).trans ⟨rfl, rfl, rfl, by simp, fun k hk => setRow_other _ _ _ _ (by have := hb1.size; omega)⟩
  generalize (w1.alloc (.cells (Array.replicate 257 (.int .u8 0)) 139)).setRow w1.heap.size lensV.toArray = w2 at *
  generalize w1.heap.size = g at *
  have HC := Lib.hid hcell
  clear hcell
  go_wp2
  go_loop [4, 9] (SizeRel s.data.toList) (fun _ i => s.size - (intOf i).toNat)
  case atStart => exact ⟨0, 0, rfl, rfl, by omega, rfl, by omega⟩
  case round =>
    obtain ⟨k, t, rfl, rfl, hk, ht, ht30⟩ := hrel
    have HT := Lib.hid ht
    rw [HL.out] at hk
    clear ht
    by_cases hlt : k < s.size
    · have hb := ba_lt s.data.toList k
      have hcl := HC.out (ba s.data.toList k) (by omega)
      have hn := lens_le (ba s.data.toList k)
      have hnext := nbits_take (l := s.data.toList) (k := k) (by rw [HL.out]; exact hlt)
      generalize lensN.getD (ba s.data.toList k) 0 = n at *
      have HN := Lib.hid hnext
      have hb257 : (ba s.data.toList k : Int) < 257 := by omega
      clear hnext
      go_wp2
      go_round
      case rel => exact ⟨k + 1, t + n, by go_num, by go_num, by rw [HL.out]; omega, by rw [HN.out, HT.out], by omega⟩
      case measure => simp [intOf]; omega
    · obtain rfl : k = s.size := by omega
      go_wp2
      go_ret
      refine ⟨ret_v ?_, hbel⟩
      have : t = nbits s.data.toList := by rw [HT.out, List.take_of_length_le (by rw [HL.out]; exact Nat.le_refl _)]
      unfold nbytes
      rw [← this]
      congr 1

def UpRel (t : Nat) (v : Value) : Prop := ∃ x : Nat, v = .int .i64 x ∧ t ≤ x ∧ (x - 1) / 8 ≤ (t - 1) / 8 ∧ x ≤ t + 7 ∧ (t + 7) / 8 = (x + 7) / 8
end Go.Proofs.Ytfpcamkimjecdaa

/- The walk of drawbridgeref02.Encode: it makes what huff.Encode makes. -/
namespace Go.Proofs.Ytfpcamkimjecdaa
open Go.RowKit

theorem bvs_put (l : List UInt8) (j : Nat) (c : UInt8) : (bvs l).set j (bv c) = bvs (l.set j c) := by simp [bvs, List.map_set]
/-- The codes lie in block gc. -/
def CC (w : World) (gc : Nat) : Prop := ∀ i, i < 257 → w.cell? ⟨gc, i, none⟩ = some (.int .u32 ((codeT.getD i 0 : Nat) : Int))
theorem CC.set_ {w : World} {gc g : Nat} (h : CC w gc) (hne : gc ≠ g) (j : Nat) (v : Value) : CC (w.setCell ⟨g, j, none⟩ v) gc :=
  fun i hi => (World.cell?_setCell_other w ⟨g, j, none⟩ ⟨gc, i, none⟩ v (fun e => by injection e with e; exact hne e.symm)).trans (h i hi)
/-- The row that fills up. -/
structure Row (W w : World) (gl gc g N T V : Nat) : Prop where
  own : w.ownsRow W.heap.size 5 1 (.slice (some ⟨g, 0, none⟩) N N) N (bvs (fill N T V))
  lc : LC w gl
  cc : CC w gc
  bel : Below W.heap.size W w
theorem Row.bit {W w : World} {gl gc g N T V b : Nat} (h : Row W w gl gc g N T V) (hb : b < 2) (hr : T % 8 < 7) : Row W w gl gc g N (T + 1) (2 * V + b) :=
  ⟨by rw [(fill_bit hb hr).1]; exact h.own, h.lc, h.cc, h.bel⟩
theorem Row.byte {W w : World} {gl gc g N T V b : Nat} (h : Row W w gl gc g N T V) (hb : b < 2) (hr : T % 8 = 7) (hN : T / 8 < N) (h1 : gl ≠ g) (h2 : gc ≠ g) (hg : W.heap.size ≤ g) :
    Row W (w.setCell ⟨g, T / 8, none⟩ (.int .u8 ((V % 2 ^ (T % 8) * 2 + b : Nat) : Int))) gl gc g N (T + 1) (2 * V + b) := by
  obtain ⟨f1, -, f3⟩ := fill_byte (N := N) (V := V) hb hr hN
  have hst := (World.ownsRow.stored h.own (T / 8) (bv (UInt8.ofNat (V % 2 ^ (T % 8) * 2 + b)))).1
  rw [bvs_put, ← f1] at hst
  rw [bv, toNat_ofNat f3] at hst
  exact ⟨hst, h.lc.set_ h1 _ _, h.cc.set_ h2 _ _, h.bel.setCell (p := ⟨g, _, none⟩) hg _⟩
theorem Row.cell {W w : World} {gl gc g N T V : Nat} (h : Row W w gl gc g N T V) {j : Nat} (hj : j < N) (hT : T / 8 ≤ N) : ∃ x : Nat, w.cell? ⟨g, j, none⟩ = some (.int .u8 (x : Int)) := by
  refine ⟨ba (fill N T V) j, ?_⟩
  rw [World.ownsRow.cellAt h.own j (by omega), bvs, List.getElem?_map, List.getElem?_eq_getElem (by rw [fill_length V hT]; exact hj)]
  simp [bv, ba, List.getD, List.getElem?_eq_getElem (show j < (fill N T V).length by rw [fill_length V hT]; exact hj)]
theorem Row.frozen {W w : World} {gl gc g N T V : Nat} (h : Row W w gl gc g N T V) (j : Nat) : w.frozen? ⟨g, j, none⟩ = false := World.ownsRow.frozenAt h.own j

/-- Behind k bytes of the text. -/
def REncRel (W : World) (gl gc g N : Nat) (l : List UInt8) (av pv iv : Value) (w : World) : Prop :=
  ∃ k T V p : Nat, iv = .int .i64 k ∧ k ≤ l.length ∧ av = .int .i64 T ∧ pv = .int .u8 p ∧ T = nbits (l.take k) ∧ V = vbits (l.take k) ∧ p = V % 2 ^ (T % 8) ∧ Row W w gl gc g N T V
/-- j bits of a code are to come. -/
def BitRel (W : World) (gl gc g N T0 V0 n c : Nat) (av pv jv : Value) (w : World) : Prop :=
  ∃ j T V p : Nat, jv = .int .i64 ((j : Int) - 1) ∧ j ≤ n ∧ av = .int .i64 T ∧ pv = .int .u8 p ∧ T = T0 + (n - j) ∧ V = V0 * 2 ^ (n - j) + c / 2 ^ j ∧ p = V % 2 ^ (T % 8) ∧ Row W w gl gc g N T V
/-- q ones are added. -/
def PadRel (W : World) (gl gc g N T0 V0 : Nat) (av pv : Value) (w : World) : Prop :=
  ∃ q T V p : Nat, av = .int .i64 T ∧ pv = .int .u8 p ∧ T = T0 + q ∧ V = V0 * 2 ^ q + (2 ^ q - 1) ∧ T ≤ 8 * N ∧ (T % 8 = 0 ∨ p = V % 2 ^ (T % 8)) ∧ Row W w gl gc g N T V

end Go.Proofs.Ytfpcamkimjecdaa

/- The walks of prefix.PutText and drawbridgeref03.PutText. -/
namespace Go.Proofs.Ytfpcamkimjecdaa
open Go.RowKit

theorem _root_.Go.RowKit.Below.tr2 {w w1 w2 : World} (h : Below w.heap.size w w1) (h2 : Below w1.heap.size w1 w2) : Below w.heap.size w w2 := h.trans (h2.mono h.size)
theorem full7 : Full 7 127 := ⟨by omega, by omega, rfl⟩
theorem strCells_bvs (s : ByteArray) : Lib.strCells s = bvs s.data.toList := rfl
/-- '[]byte(s)'. -/
theorem bytes_of_str {P : Program} {src dst e : TypeId} (hs : P.underlying src = some .string) (hd : P.underlying dst = some (.slice e)) (he : P.underlying e = some (.int .u8)) (w : World) (s : ByteArray) :
    ∃ c w', (convert src dst (.string s)).run P w = .ok (.slice (some ⟨w.heap.size, 0, none⟩) s.size c) w' ∧ Below w.heap.size w w' ∧ Rd w' w'.heap.size 1 (some ⟨w.heap.size, 0, none⟩) s.size (bvs s.data.toList) := by
  refine ⟨_, _, run_bytes_of_string w src dst e s hs hd he, ((Below.refl _ _).drew).alloc (Nat.le_refl _) _, by simp [bvs], fun hn => ⟨_, _, rfl, by simp, fun j hj => ?_⟩⟩
  refine (World.cell?_alloc_mark w.drew _ _ _ _).trans ?_
  have hj' : j < s.data.size := by simpa using hj
  simp only [bytesRow, bvs, Nat.zero_add]
  rw [Array.getElem?_append_left (by simpa using hj')]
  simp
  rfl

section
variable {w w' : World}
theorem own_app {B0 B1 : Nat} {v : Value} {l k : List UInt8} (h : w.ownsRow B1 5 1 v (l.length + k.length) (bvs l ++ bvs k)) (hb : B0 ≤ B1) : OwnB w B0 v (l ++ k) := by
  unfold OwnB
  rw [List.length_append, bvs_append]
  exact own_mono2 h hb
end

set_option maxRecDepth 100000 in
set_option maxHeartbeats 1000000 in
theorem putText_bits (s : ByteArray) (w : World) (hs : s.size ≤ 1048576) (hlt : nbytes s.data.toList < s.size) :
    Calls Try.prog 65 #[.string s] w (RetB w (textB s.data.toList)) := by
  have hE := encB_length s.data.toList
  have hT := textB_bits (l := s.data.toList) (by rw [str_len]; exact hlt)
  have HT := Lib.hid hT
  clear hT
  obtain ⟨c0, w1, hcv, hb1, -⟩ := bytes_of_str Try.underlying9 Try.underlying23 Try.underlying5 w s
  go_enter Try.func65, Try.ntmps65
  go_wp2_with fail
  refine (hsize_any s w1 hs).mono ?_
  rintro e w2 ⟨rfl, hb2⟩
  clear hcv
  go_wp2_with fail
  refine (enc_any s w2 hs).mono ?_
  rintro e w3 ⟨v3, rfl, hown3, hb3⟩
  obtain ⟨A, c, rfl, -, -, hrd, -⟩ := own_slice hown3
  rw [hE] at hrd ⊢
  have HRD := Lib.hid hrd
  have HE := Lib.hid hE
  have hb13 := (hb1.tr2 hb2).tr2 hb3
  have hs3 := hb13.size
  clear hown3 hrd hE
  generalize nbytes s.data.toList = n at *
  go_wp2_with fail
  refine (put_ok 128 7 n 127 w3 full7 (by omega) rfl (by omega)).mono ?_
  rintro e w4 ⟨v4, rfl, hown4, hb4⟩
  have HO4 := Lib.hid hown4
  have hp7 := (putB_length 128 127 n).1
  have hw4 := hb13.tr2 hb4
  have hs4 := hw4.size
  have hs34 := hb4.size
  clear hown4
  go_wp2_with (at_builtin; refine wpList_app (.tmp 24) (.tmp 25) tBytes rfl rfl HO4.out rfl (HRD.out.below hb4 (Nat.le_refl _)) rfl (bvs_one _) (le_maxLen (by omega)) (by omega) hs34 ?_; intro v5 w5 hown5 hg5 _)
  go_ret
  refine ⟨v5, rfl, ?_, Below.app hw4 HO4.out hg5 hs3 hs4⟩
  rw [HT.out]
  exact own_app (by rw [HE.out]; exact hown5) hs3

set_option maxRecDepth 100000 in
set_option maxHeartbeats 1000000 in
theorem putText_raw (s : ByteArray) (w : World) (hs : s.size ≤ 1048576) (hlt : s.size ≤ nbytes s.data.toList) :
    Calls Try.prog 65 #[.string s] w (RetB w (textB s.data.toList)) := by
  have hT := textB_raw (l := s.data.toList) (by rw [str_len]; exact hlt)
  rw [str_len] at hT
  have HT := Lib.hid hT
  clear hT
  have HL := Lib.hid (str_len s)
  obtain ⟨c0, w1, hcv, hb1, hrd⟩ := bytes_of_str Try.underlying9 Try.underlying23 Try.underlying5 w s
  have HRD := Lib.hid hrd
  clear hrd
  go_enter Try.func65, Try.ntmps65
  go_wp2_with fail
  refine (hsize_any s w1 hs).mono ?_
  rintro e w2 ⟨rfl, hb2⟩
  clear hcv
  have hb12 := hb1.tr2 hb2
  have hs2 := hb12.size
  have hs12 := hb2.size
  go_wp2_with fail
  refine (put_ok 0 7 s.size 127 w2 full7 (by omega) rfl (by omega)).mono ?_
  rintro e w4 ⟨v4, rfl, hown4, hb4⟩
  have HO4 := Lib.hid hown4
  have hp7 := (putB_length 0 127 s.size).1
  have hw4 := hb12.tr2 hb4
  have hs4 := hw4.size
  have hs34 := hb4.size
  clear hown4
  go_wp2_with (at_builtin; refine wpList_app (.tmp 24) (.tmp 25) tBytes rfl rfl HO4.out rfl ((HRD.out.below hb2 (Nat.le_refl _)).below hb4 hs12) rfl (bvs_one _) (le_maxLen (by omega)) (by omega) hs34 ?_; intro v5 w5 hown5 hg5 _)
  go_ret
  refine ⟨v5, rfl, ?_, Below.app hw4 HO4.out hg5 hs2 hs4⟩
  rw [HT.out]
  exact own_app (by rw [HL.out]; exact hown5) hs2

theorem putText_any (s : ByteArray) (w : World) (hs : s.size ≤ 1048576) : Calls Try.prog 65 #[.string s] w (RetB w (textB s.data.toList)) := by
  by_cases h : nbytes s.data.toList < s.size
  · exact putText_bits s w hs h
  · exact putText_raw s w hs (by omega)

theorem infoU8 : (Try.prog.info? 5).map (fun i => (i.zero, i.size, i.bytes)) = some (some (.int .u8 0), 1, 1) := by kernel_rfl

end Go.Proofs.Ytfpcamkimjecdaa

/- The walk of drawbridgeref03.TakeInt: it reads what prefix.TakeInt reads. -/
namespace Go.Proofs.Ytfpcamkimjecdaa
open Go.RowKit

/-- Behind k bytes more. -/
def RTakeRel (F : Nat) (l : List UInt8) (x t i : Value) : Prop :=
  ∃ k s T : Nat, i = .int .i64 ((k : Int) + 1) ∧ x = .int .i64 s ∧ t = .int .i64 T ∧ T = 128 ^ k ∧ k ≤ 5 ∧ k + 1 ≤ max l.length 1 ∧ s ≤ 254 + T ∧ takeI F l = takeTail (5 - k) (k + 1) s T (l.drop (k + 1))

end Go.Proofs.Ytfpcamkimjecdaa

/- The walks of drawbridgelaw03.PrefixTakes and PrefixLong. -/
namespace Go.Proofs.Ytfpcamkimjecdaa
open Go.RowKit

/-- What TakeInt says, whatever the size of the head. -/
def takeV (bits : Int) (l : List UInt8) : Nat × Nat × Nat := if bits < 1 ∨ 8 < bits then (0, 0, 1) else takeI (2 ^ bits.toNat - 1) l
theorem takeV_in {bits F : Nat} (hF : Full bits F) (l : List UInt8) : takeV bits l = takeI F l := by
  have h1 := hF.lo
  have h8 := hF.hi
  unfold takeV
  rw [if_neg (by omega), Int.toNat_natCast, ← hF.eq, Nat.add_sub_cancel]
theorem takeV_out {bits : Int} (h : bits < 1 ∨ 8 < bits) (l : List UInt8) : takeV bits l = (0, 0, 1) := if_pos h

set_option maxHeartbeats 400000 in
theorem take_all {A : Option Addr} {B n cap : Nat} {bits : Int} {l : List UInt8} {w : World} (hr : Rd w B 1 A n (bvs l)) (hcap : n ≤ cap) (hm : cap ≤ maxLen) :
    Calls Try.prog 68 #[.slice A n cap, .int .i64 bits] w fun e w' => e = .returned (tri (takeV bits l)) ∧ w = w' := by
  by_cases h : bits < 1 ∨ 8 < bits
  · rw [takeV_out h]
    clear hr
    by_cases h1 : bits < 1
    · go_enter Try.func68, Try.ntmps68
      go_wp2
      go_ret3
      exact ⟨rfl, rfl⟩
    · have h2 : 8 < bits := by omega
      go_enter Try.func68, Try.ntmps68
      go_wp2
      go_ret3
      exact ⟨rfl, rfl⟩
  · obtain ⟨k, rfl⟩ := Int.eq_ofNat_of_zero_le (show 0 ≤ bits by omega)
    obtain ⟨F, hF⟩ := Full.mk' k (by omega) (by omega)
    rw [takeV_in hF]
    exact take_any hF hr hcap hm

/-- '[]T{}': a new block without a cell. -/
theorem own_empty {base size : Nat} {e : TypeId} (w : World) (h : base ≤ w.heap.size) : (w.alloc (.cells #[] e)).ownsRow base e size (.slice (some ⟨w.heap.size, 0, none⟩) 0 0) 0 [] :=
  World.ownsRow_lit w #[] 0 h (Nat.zero_le _) (by simp)

end Go.Proofs.Ytfpcamkimjecdaa

/- The tree of codes that drawbridgeref02.Tree makes, step by step, in plain Lean; that walking down it is reading the codes. No program in sight. -/
namespace Go.Proofs.Ytfpcamkimjecdaa
open Go.RowKit

abbrev Node := Nat × Nat × Int
def newN : Node := (0, 0, -1)
def nxt (x : Node) (b : Nat) : Nat := if b = 0 then x.1 else x.2.1
def setNx (x : Node) (b v : Nat) : Node := if b = 0 then (v, x.2) else (x.1, v, x.2.2)
/-- One bit down, a node made where there is none. -/
def stepBit (st : List Node × Nat) (b : Nat) : List Node × Nat :=
  if nxt (st.1.getD st.2 newN) b = 0 then ((st.1 ++ [newN]).set st.2 (setNx (st.1.getD st.2 newN) b st.1.length), st.1.length) else (st.1, nxt (st.1.getD st.2 newN) b)
/-- The bits j-1 .. 0 of a code. -/
def goBits (c : Nat) : Nat → List Node × Nat → List Node × Nat
  | 0, st => st
  | j + 1, st => goBits c j (stepBit st (c / 2 ^ j % 2))
def setSym (st : List Node × Nat) (s : Nat) : List Node := st.1.set st.2 ((st.1.getD st.2 newN).1, (st.1.getD st.2 newN).2.1, (s : Int))
def treeStep (T : List Node) (s : Nat) : List Node := setSym (goBits (codeT.getD s 0) (lensN.getD s 0) (T, 0)) s
def treeAt (s : Nat) : List Node := (List.range s).foldl treeStep [newN]
theorem treeAt_next (s : Nat) : treeAt (s + 1) = treeStep (treeAt s) s := by unfold treeAt; rw [List.range_succ, List.foldl_append, List.foldl_cons, List.foldl_nil]

/-- Sound: what is behind a bit lies in the row. -/
def WfT (T : List Node) : Prop := ∀ i, (T.getD i newN).1 < T.length ∧ (T.getD i newN).2.1 < T.length
structure WfS (st : List Node × Nat) : Prop where
  wf : WfT st.1
  pos : st.2 < st.1.length
theorem WfS.nxt {st : List Node × Nat} (h : WfS st) (b : Nat) : nxt (st.1.getD st.2 newN) b < st.1.length := by
  unfold Go.Proofs.Ytfpcamkimjecdaa.nxt
  split
  · exact (h.wf _).1
  · exact (h.wf _).2
theorem WfS.step {st : List Node × Nat} (h : WfS st) (b : Nat) : WfS (stepBit st b) ∧ (stepBit st b).1.length ≤ st.1.length + 1 ∧ st.1.length ≤ (stepBit st b).1.length := by
  unfold stepBit
  split
  · refine ⟨⟨?_, ?_⟩, by simp, by simp⟩
    · intro i
      simp only [List.length_set, List.length_append, List.length_singleton]
      have hw := h.wf i
      have hp := h.wf st.2
      have h0 := h.pos
      rw [List.getD, List.getElem?_set]
      by_cases hi : st.2 = i
      · rw [if_pos hi, if_pos (by simp; omega)]
        unfold setNx
        simp only [Option.getD_some]
        split <;> refine ⟨?_, ?_⟩ <;> (dsimp only; omega)
      · rw [if_neg hi]
        rcases Nat.lt_or_ge i st.1.length with hl | hl
        · rw [List.getElem?_append_left hl]
          rw [List.getD] at hw
          exact ⟨by omega, by omega⟩
        · rw [List.getElem?_append_right hl]
          rcases Nat.eq_or_lt_of_le hl with he | hlt
          · rw [← he, Nat.sub_self]; simp [newN]
          · rw [List.getElem?_eq_none (by simp; omega)]; simp [newN]
    · simp
  · exact ⟨⟨h.wf, h.nxt b⟩, by simp, by simp⟩
theorem WfS.go {c : Nat} : ∀ (j : Nat) {st : List Node × Nat}, WfS st → WfS (goBits c j st) ∧ (goBits c j st).1.length ≤ st.1.length + j ∧ st.1.length ≤ (goBits c j st).1.length
  | 0, _, h => ⟨h, Nat.le_refl _, Nat.le_refl _⟩
  | j + 1, st, h => by
    have h1 := h.step (c / 2 ^ j % 2)
    have h2 := WfS.go (c := c) j h1.1
    exact ⟨h2.1, by have := h2.2.1; have := h1.2.1; simp only [goBits]; omega, by have := h2.2.2; have := h1.2.2; simp only [goBits]; omega⟩
theorem WfT.setSym {st : List Node × Nat} (h : WfS st) (s : Nat) : WfT (setSym st s) := by
  intro i
  unfold Go.Proofs.Ytfpcamkimjecdaa.setSym
  rw [List.length_set, List.getD, List.getElem?_set]
  by_cases hi : st.2 = i
  · rw [if_pos hi, if_pos h.pos]; exact h.wf st.2
  · rw [if_neg hi]; exact h.wf i
theorem tree_wf (s : Nat) (hs : s ≤ 257) : WfT (treeAt s) ∧ (treeAt s).length ≤ 1 + 30 * s ∧ 0 < (treeAt s).length := by
  induction s with
  | zero =>
    refine ⟨?_, by decide, by decide⟩
    intro i
    show ([newN].getD i newN).1 < 1 ∧ ([newN].getD i newN).2.1 < 1
    cases i <;> simp [newN, List.getD]
  | succ s ih =>
    obtain ⟨h1, h2, h3⟩ := ih (by omega)
    have hg := WfS.go (c := codeT.getD s 0) (lensN.getD s 0) (st := (treeAt s, 0)) ⟨h1, h3⟩
    have hl := lens_le s
    have hlen : (treeAt (s + 1)).length = (goBits (codeT.getD s 0) (lensN.getD s 0) (treeAt s, 0)).1.length := by rw [treeAt_next]; simp [treeStep, setSym]
    refine ⟨by rw [treeAt_next]; exact WfT.setSym hg.1 s, ?_, ?_⟩
    · have h5 : (goBits (codeT.getD s 0) (lensN.getD s 0) (treeAt s, 0)).1.length ≤ (treeAt s).length + lensN.getD s 0 := hg.2.1
      rw [hlen]; omega
    · have h5 : (treeAt s).length ≤ (goBits (codeT.getD s 0) (lensN.getD s 0) (treeAt s, 0)).1.length := hg.2.2
      rw [hlen]; omega

/-- Nodes as cells. -/
def nodeV (x : Node) : List Value := [.int .i64 (x.1 : Int), .int .i64 (x.2.1 : Int), .int .i64 x.2.2]
def hrowV (T : List Node) : List Value := T.flatMap nodeV
theorem rowV_length (T : List Node) : (hrowV T).length = T.length * 3 := by
  induction T with
  | nil => rfl
  | cons x T ih => rw [hrowV, List.flatMap_cons, List.length_append, show T.flatMap nodeV = hrowV T from rfl, ih]; simp [nodeV]; omega
theorem rowV_append (T U : List Node) : hrowV (T ++ U) = hrowV T ++ hrowV U := by simp [hrowV]
theorem rowV_get (T : List Node) : ∀ (i k : Nat), i < T.length → k < 3 → (hrowV T)[i * 3 + k]? = (nodeV (T.getD i newN))[k]? := by
  induction T with
  | nil => intro i k hi; simp at hi
  | cons x T ih =>
    intro i k hi hk
    rw [hrowV, List.flatMap_cons]
    cases i with
    | zero => rw [List.getElem?_append_left (by simp [nodeV]; omega)]; simp
    | succ i =>
      rw [List.getElem?_append_right (by simp [nodeV]; omega), show (i + 1) * 3 + k - (nodeV x).length = i * 3 + k by simp [nodeV]; omega]
      have := ih i k (by simpa using hi) hk
      rw [hrowV] at this
      rw [this]; rfl
theorem rowV_set (T : List Node) : ∀ (i k : Nat) (v : Value) (y : Node), i < T.length → k < 3 → (nodeV (T.getD i newN)).set k v = nodeV y → (hrowV T).set (i * 3 + k) v = hrowV (T.set i y) := by
  induction T with
  | nil => intro i k v y hi; simp at hi
  | cons x T ih =>
    intro i k v y hi hk hv
    rw [hrowV, List.flatMap_cons]
    cases i with
    | zero =>
      rw [List.set_append_left _ _ (by simp [nodeV]; omega)]
      simp only [Nat.zero_mul, Nat.zero_add]
      rw [show (nodeV x).set k v = nodeV y from hv]
      rfl
    | succ i =>
      rw [List.set_append_right _ _ (by simp [nodeV]; omega), show (i + 1) * 3 + k - (nodeV x).length = i * 3 + k by simp [nodeV]; omega]
      have := ih i k v y (by simpa using hi) hk hv
      rw [hrowV] at this
      rw [this]; rfl
theorem rowV_one (T : List Node) : ∀ u ∈ hrowV T, u.oneCell' = true := by
  intro u hu
  obtain ⟨x, -, hx⟩ := List.mem_flatMap.1 hu
  simp [nodeV] at hx
  rcases hx with rfl | rfl | rfl <;> rfl
theorem node_next (x : Node) {b : Nat} (hb : b < 2) : (nodeV x)[b]? = some (.int .i64 (nxt x b : Int)) := by
  have : b = 0 ∨ b = 1 := by omega
  rcases this with rfl | rfl <;> rfl
theorem node_setNx (x : Node) {b : Nat} (hb : b < 2) (v : Nat) : (nodeV x).set b (.int .i64 (v : Int)) = nodeV (setNx x b v) := by
  have : b = 0 ∨ b = 1 := by omega
  rcases this with rfl | rfl <;> rfl

def okNode (T : List Node) (W : List (Nat × Nat)) (i b : Nat) : Bool :=
  decide (nxt (T.getD i newN) b < T.length) && (W.getD (nxt (T.getD i newN) b) (0, 0) == (2 * (W.getD i (0, 0)).1 + b, (W.getD i (0, 0)).2 + 1)) &&
    (if (T.getD (nxt (T.getD i newN) b) newN).2.2 < 0 then !hitB (2 * (W.getD i (0, 0)).1 + b) ((W.getD i (0, 0)).2 + 1)
      else hitB (2 * (W.getD i (0, 0)).1 + b) ((W.getD i (0, 0)).2 + 1) && ((T.getD (nxt (T.getD i newN) b) newN).2.2 == (symAt (2 * (W.getD i (0, 0)).1 + b) ((W.getD i (0, 0)).2 + 1) : Int)))
def okTree (T : List Node) (W : List (Nat × Nat)) : Bool :=
  ((List.range T.length).all fun i => decide (0 ≤ (T.getD i newN).2.2) || (okNode T W i 0 && okNode T W i 1)) && decide ((T.getD 0 newN).2.2 < 0) && (W.getD 0 (0, 0) == (0, 0))
end Go.Proofs.Ytfpcamkimjecdaa
