/- 24 texts in one: HNew, HRows, FindPlain, RTab5, HEnc1, HEnc2, HEnc3, HEnc4, HEnc5, HEnc6, HEnc7, Fr4, Fr5, Fr6, Fr7, Fr8, Ch0, Ch1, Ch2, Rf, Ch3, Ox0, Ox1, Shelf. -/
import Derived.Test.YtpkmciohehaboaaGreatDoorM6
import Derived.Deep.QuietTactic
import Derived.BigQuiet
import Derived.Test.YtpkmciohehaboaaGreatDoorM5
import Derived.Deep.RegionHeld3
import Derived.Test.YtpkmciohehaboaaGreatDoorM4
import Derived.Deep.RegionLaw
import Derived.Test.YtpkmciohehaboaaGreatDoorM1
import Derived.StillTailTactics
import Derived.Great.BuildSlice
import Derived.RangeFuncNested
import Derived.RangeFuncBound
import Derived.RangeFuncCalls
import Derived.RangeFuncLeaves
import Derived.Shelf.Abstract
import Derived.Shelf.RegionOpen
import Derived.WalkKit
import Derived.OwnWalkIn
import Derived.TacticsInMore
import Derived.LoopNIn
import Derived.LoopIn
import Derived.Lib.SlTrimSet
import Derived.Shelf.Small.Strs
import Derived.Shelf.Strings.Search1
import Derived.Shelf.Strings.Prefix
import Derived.Shelf.Strings.SlTrimAscii
import Derived.Ground.NamesProg
import Derived.Ground.Names2Prog
import Derived.Test.YtpkmciohehaboaaGreatDoorProg
/- The walks of hpack.NewDecoder, rowsOf, Rows; of the document's NewDecoder, bitsOf, Fields. -/
namespace Go.Proofs.YtpkmciohehaboaaGreatDoor
open Go.RowKit

def NewDecPost (mo li : Int) (w : World) (e : Ending) (w' : World) : Prop := ∃ d G, e = .returned (.tuple #[.pointer (some ⟨d, 0, none⟩), .int .i64 0]) ∧ DecIs w' d G 0 mo li ⟨min mo 4096, 0, []⟩ false ∧ (∀ k, G k → w.heap.size ≤ k) ∧ Below w.heap.size w w'
set_option maxHeartbeats 1000000 in
theorem newdec_any (mo li : Int) (w : World) (h0 : 0 ≤ mo) (h1 : mo ≤ 65536) (h2 : 0 ≤ li) :
    Calls Tryz.prog 46 #[.int .i64 mo, .int .i64 li] w (NewDecPost mo li w) := by
  have HT := Lib.hid (tnew_any (min mo 4096) w (by omega) (by omega))
  go_enter Tryz.func46, Tryz.ntmps46
  go_wp2_with fail
  refine HT.out.mono ?_
  rintro e w1 ⟨g, F, rfl, ht, hF, hb⟩
  have H1 := Lib.hid (And.intro ht (And.intro hF hb))
  clear ht hF hb
  go_wp2
  go_ret2
  obtain ⟨ht, hF, hb⟩ := H1.out
  refine ⟨w1.heap.size, fun k => k = w1.heap.size ∨ F k, rfl, ⟨g, F, rfl, heapNew _ _, ht.keep (fun k hk => Below.heap_alloc _ _ _ (ht.lt k hk)), fun hf => Nat.lt_irrefl _ (ht.lt _ hf)⟩, ?_, hb.alloc hb.size _⟩
  rintro k (rfl | hk)
  · exact hb.size
  · exact hF k hk
end Go.Proofs.YtpkmciohehaboaaGreatDoor

/- The walks of hpack.rowsOf, Decoder.Rows; of the document's Fields. -/
namespace Go.Proofs.YtpkmciohehaboaaGreatDoor
open Go.RowKit

theorem fd_at {w : World} {B n : Nat} {A : Option Addr} {l : List Fd} (h : Rd w B 3 A n (fds l)) (hn : 0 < n) : l.length = n ∧ ∃ b o, A = some ⟨b, o, none⟩ ∧ b < B ∧ ∀ j f, l[j]? = some f → w.cell? ⟨b, o + j * 3, none⟩ = some (.string f.1.1) ∧ w.cell? ⟨b, o + j * 3 + 1, none⟩ = some (.string f.1.2) ∧ w.cell? ⟨b, o + j * 3 + 2, none⟩ = some (.bool f.2) := by
  obtain ⟨b, o, hA, hb, hc⟩ := h.2 (by omega)
  have hl := h.1
  rw [fds_length] at hl
  refine ⟨by omega, b, o, hA, hb, fun j f hj => ?_⟩
  have hjl := (List.getElem?_eq_some_iff.1 hj).1
  have e := fds_get hj
  exact ⟨(hc _ (by omega)).trans e.1, (hc (j * 3 + 1) (by omega)).trans e.2.1, (hc (j * 3 + 2) (by omega)).trans e.2.2⟩
end Go.Proofs.YtpkmciohehaboaaGreatDoor

/- What is found: the least number of a row like it, or of its name; and what stands there. No program in sight. -/
namespace Go.Proofs.YtpkmciohehaboaaGreatDoor
open Go.RowKit

/-- Where the first is whose name it is, from 1 on; 0: none. -/
def nearA (l : List Rw) (nm : ByteArray) : Nat := match l.findIdx? (fun r => r.1 = nm) with
  | some i => i + 1
  | none => 0
def findA (l : List Rw) (f : Rw) : Int × Bool := match l.findIdx? (fun r => r = f) with
  | some i => (i + 1, true)
  | none => (((nearA l f.1 : Nat) : Int), false)
end Go.Proofs.YtpkmciohehaboaaGreatDoor

/- The walk of drawbridgeref04.Find. -/
namespace Go.Proofs.YtpkmciohehaboaaGreatDoor
open Go.RowKit

theorem nearA_succ {L : List Rw} {nm : ByteArray} {k : Nat} {r : Rw} (hr : L[k]? = some r) : nearA (L.take (k + 1)) nm = if nearA (L.take k) nm = 0 then (if r.1 = nm then k + 1 else 0) else nearA (L.take k) nm := by
  have hk : k < L.length := (List.getElem?_eq_some_iff.1 hr).1
  unfold nearA
  rw [List.take_add_one, hr]
  simp only [Option.toList_some, List.findIdx?_append]
  cases hf : (L.take k).findIdx? (fun r => r.1 = nm) with
  | some i => simp
  | none =>
    simp only [Option.none_or]
    by_cases h : r.1 = nm
    · simp [h, List.length_take]; omega
    · simp [h]
theorem nearA_le (L : List Rw) (nm : ByteArray) : nearA L nm ≤ L.length := by
  unfold nearA
  cases hf : L.findIdx? (fun r => r.1 = nm) with
  | some i => have := (List.findIdx?_eq_some_iff_getElem.1 hf).1; simp only; omega
  | none => simp
theorem findA_stat {L : List Rw} {f : Rw} {k : Nat} (hk : L[k]? = some f) (hall : ∀ j r, j < k → L[j]? = some r → r ≠ f) : findA L f = ((k : Int) + 1, true) := by
  have hl : k < L.length := (List.getElem?_eq_some_iff.1 hk).1
  have e : L.findIdx? (fun r => r = f) = some k := by
    rw [List.findIdx?_eq_some_iff_getElem]
    refine ⟨hl, by have := (List.getElem?_eq_some_iff.1 hk).2; simp [this], fun j hj => ?_⟩
    have := hall j (L[j]'(by omega)) hj (List.getElem?_eq_getElem (by omega))
    simpa using this
  unfold findA
  rw [e]
theorem findA_none {L : List Rw} {f : Rw} (hall : ∀ j r, j < L.length → L[j]? = some r → r ≠ f) : findA L f = (((nearA L f.1 : Nat) : Int), false) := by
  have e : L.findIdx? (fun r => r = f) = none := by
    rw [List.findIdx?_eq_none_iff]
    intro r hr
    obtain ⟨j, hj, hq⟩ := List.getElem_of_mem hr
    simpa using hall j r hj (by rw [List.getElem?_eq_getElem hj, hq])
  unfold findA
  rw [e]
theorem own_stat (w : World) : (w.alloc (.cells fstatV.toArray 26)).ownsRow w.heap.size 26 3 (.slice (some ⟨w.heap.size, 0, none⟩) 61 61) 61 (fcs statF) :=
  ⟨by rw [fcs_length, statF_length], .inr ⟨_, 61, fstatV.toArray, rfl, Nat.le_refl _, heapNew _ _, Nat.le_refl _, le_maxLen (by omega), by decide +kernel, by rw [show fstatV = fcs statF from rfl]; exact List.take_of_length_le (by rw [fcs_length, statF_length]; exact Nat.le_refl _)⟩⟩
def FndMid (W : World) (L : List Rw) (v : Value) (wx : World) : Prop := ∃ A c, v = .slice A L.length c ∧ Rd wx wx.heap.size 3 A L.length (fcs L) ∧ Below W.heap.size W wx
def RFndRel (W : World) (L : List Rw) (f : Rw) (nv iv : Value) (wr : World) : Prop :=
  ∃ k : Nat, iv = .int .i64 k ∧ nv = .int .i64 (nearA (L.take k) f.1 : Nat) ∧ k ≤ L.length ∧ (∀ j r, j < k → L[j]? = some r → r ≠ f) ∧ Below W.heap.size W wr
end Go.Proofs.YtpkmciohehaboaaGreatDoor

/- What an encoder writes, plain; the walks of hpack.number, named, never, aside. -/
namespace Go.Proofs.YtpkmciohehaboaaGreatDoor
open Go.RowKit

def authB : ByteArray := ⟨#[97, 117, 116, 104, 111, 114, 105, 122, 97, 116, 105, 111, 110]⟩
def cookB : ByteArray := ⟨#[115, 101, 116, 45, 99, 111, 111, 107, 105, 101]⟩
/-- An encoder. -/
structure Enc where
  own : Int
  told : Int
  least : Int
  T : Tb
def neverF (f : Fd) : Bool := f.2 || decide (f.1.1 = authB) || decide (f.1.1 = cookB)
def fnd (T : Tb) (f : Rw) : Int × Bool := findA (statF ++ T.rows.reverse) f
def numT (T : Tb) (f : Rw) : Nat := (fnd T f).1.toNat
def namedB (fl F : Nat) (T : Tb) (f : Rw) : List UInt8 := putB fl F (numT T f) ++ (if numT T f = 0 then textB f.1.data.toList else []) ++ textB f.2.data.toList
/-- One field. -/
def encOne (T : Tb) (f : Fd) : List UInt8 × Tb :=
  if neverF f then (namedB 16 15 T f.1, T)
  else if (fnd T f.1).2 then (putB 128 127 (numT T f.1), T)
  else if T.most < (cost f.1 : Int) then (namedB 0 15 T f.1, T)
  else (namedB 64 63 T f.1, T.add f.1)
def encL : Tb → List Fd → List UInt8 × Tb
  | T, [] => ([], T)
  | T, f :: l => ((encOne T f).1 ++ (encL (encOne T f).2 l).1, (encL (encOne T f).2 l).2)
/-- What must be told of the table's most. -/
def encSz (E : Enc) : List UInt8 :=
  if E.least < E.told ∧ E.least < E.T.most then putB 32 31 E.least.toNat ++ putB 32 31 E.T.most.toNat
  else if E.T.most ≠ E.told then putB 32 31 E.T.most.toNat else []
def Enc.run (E : Enc) (l : List Fd) : List UInt8 × Enc := (encSz E ++ (encL E.T l).1, ⟨E.own, E.T.most, E.T.most, (encL E.T l).2⟩)
def enB (E : Enc) (g : Nat) : Obj := .cells #[.int .i64 E.own, .int .i64 E.told, .int .i64 E.least, .pointer (some ⟨g, 0, none⟩)] 170 (0, 0)
def EncIs (w : World) (e : Nat) (G : Nat → Prop) (N : Nat) (E : Enc) : Prop := ∃ g F, G = (fun k => k = e ∨ F k) ∧ w.heap[e]? = some (enB E g) ∧ TabIs w g F N E.T ∧ ¬ F e
theorem own_base5 {w : World} {v : Value} {base B n : Nat} {e : TypeId} {size : Nat} {xs : List Value} (h : w.ownsRow base e size v n xs) (hB : B ≤ base) : w.ownsRow B e size v n xs := by
  rcases h with ⟨hl, ⟨rfl, h0⟩ | ⟨g, cap, cur, hv, hg, hb, h3⟩⟩
  · exact ⟨hl, .inl ⟨rfl, h0⟩⟩
  · exact ⟨hl, .inr ⟨g, cap, cur, hv, Nat.le_trans hB hg, hb, h3⟩⟩
theorem OwnB.below {w w' : World} {B : Nat} {v : Value} {l : List UInt8} (h : OwnB w B v l) (hb : Below w.heap.size w w') : OwnB w' B v l := own_kept4 h (Kept.of_below (F := fun _ => False) hb) (fun _ _ h => h)
theorem OwnB.base {w : World} {B B' : Nat} {v : Value} {l : List UInt8} (h : OwnB w B v l) (hB : B' ≤ B) : OwnB w B' v l := own_base5 h hB
theorem OwnB.rd {w : World} {B : Nat} {v : Value} {l : List UInt8} (h : OwnB w B v l) : ∃ A c, v = .slice A l.length c ∧ Rd w w.heap.size 1 A l.length (bvs l) := by
  obtain ⟨A, c, hv, -, -, hr, -⟩ := own_slice h
  exact ⟨A, c, hv, hr⟩
theorem textB_le {s : ByteArray} (h : s.size ≤ 1048576) : (textB s.data.toList).length ≤ 1048576 + 7 := by
  have hs := str_len s
  by_cases hb : nbytes s.data.toList < s.data.toList.length
  · rw [textB_bits hb, List.length_append]
    have h1 := (putB_length 128 127 (nbytes s.data.toList)).1
    have h2 := encB_length s.data.toList
    omega
  · rw [textB_raw (by omega), List.length_append]
    have h1 := (putB_length 0 127 s.data.toList.length).1
    omega
end Go.Proofs.YtpkmciohehaboaaGreatDoor

/- The walks of hpack.Encoder's never, aside, found, kept. -/
namespace Go.Proofs.YtpkmciohehaboaaGreatDoor
open Go.RowKit

/-- What writing hands back. -/
def EPost (W : World) (e : Nat) (G : Nat → Prop) (N : Nat) (E' : Enc) (l : List UInt8) (ev : Ending) (w' : World) : Prop :=
  ∃ v, ev = .returned v ∧ OwnB w' W.heap.size v l ∧ ∃ G', EncIs w' e G' N E' ∧ Kept G W w' ∧ Grew W G G' ∧ ∀ k, v.ownBlock = some k → ¬ G' k
section
variable {w w' : World} {e N N' : Nat} {G : Nat → Prop} {E : Enc} {l : List UInt8} {ev : Ending}
theorem EncIs.lt (h : EncIs w e G N E) : ∀ k, G k → k < w.heap.size := by
  obtain ⟨g, F, rfl, hd, ht, hF⟩ := h
  rintro k (rfl | hk)
  · exact (Array.getElem?_eq_some_iff.1 hd).1
  · exact ht.lt k hk
theorem EncIs.keep (h : EncIs w e G N E) (hk : ∀ k, G k → w'.heap[k]? = w.heap[k]?) : EncIs w' e G N E := by
  obtain ⟨g, F, rfl, hd, ht, hF⟩ := h
  exact ⟨g, F, rfl, (hk e (.inl rfl)).trans hd, ht.keep fun k hf => hk k (.inr hf), hF⟩
theorem EncIs.below (h : EncIs w e G N E) (hb : Below w.heap.size w w') : EncIs w' e G N E := h.keep fun k hk => hb.block k (h.lt k hk)
theorem EncIs.more (h : EncIs w e G N E) (hn : N ≤ N') (hN : N' ≤ 1099511627776) : EncIs w e G N' E := by
  obtain ⟨g, F, hG, hd, ht, hF⟩ := h
  exact ⟨g, F, hG, hd, ht.more hn hN, hF⟩
theorem EncIs.tok (h : EncIs w e G N E) : TOk E.T := by
  obtain ⟨g, F, hG, hd, ht, hF⟩ := h
  exact ht.tok
theorem EncIs.ret (h : EncIs w e G N E) (hr : RetB w l ev w') : EPost w e G N E l ev w' := by
  obtain ⟨v, he, ho, hb⟩ := hr
  exact ⟨v, he, ho, G, h.below hb, Kept.of_below hb, Grew.refl _ _, fun k hk hg => by have := (World.ownsRow.lt ho k hk).1; have := h.lt k hg; omega⟩
end
end Go.Proofs.YtpkmciohehaboaaGreatDoor

/- The walks of hpack.Encoder's kept, way, sizes. -/
namespace Go.Proofs.YtpkmciohehaboaaGreatDoor
open Go.RowKit

end Go.Proofs.YtpkmciohehaboaaGreatDoor

/- The walks of hpack.Encoder's way, sizes. -/
namespace Go.Proofs.YtpkmciohehaboaaGreatDoor
open Go.RowKit

end Go.Proofs.YtpkmciohehaboaaGreatDoor

/- The walks of hpack.Encoder's sizes, Limit, Rows; NewEncoder. -/
namespace Go.Proofs.YtpkmciohehaboaaGreatDoor
open Go.RowKit

theorem OwnB.none (w : World) (B : Nat) : OwnB w B (.slice none 0 0) [] := ⟨rfl, .inl ⟨rfl, rfl⟩⟩
end Go.Proofs.YtpkmciohehaboaaGreatDoor

/- The walks of hpack.Encoder's Limit, Rows; NewEncoder. -/
namespace Go.Proofs.YtpkmciohehaboaaGreatDoor
open Go.RowKit

def NewEncPost (own : Int) (w : World) (ev : Ending) (w' : World) : Prop := ∃ e G, ev = .returned (.tuple #[.pointer (some ⟨e, 0, none⟩), .int .i64 0]) ∧ EncIs w' e G 0 ⟨own, 4096, min own 4096, ⟨min own 4096, 0, []⟩⟩ ∧ (∀ k, G k → w.heap.size ≤ k) ∧ Below w.heap.size w w'
set_option maxHeartbeats 1000000 in
theorem newenc_any (own : Int) (w : World) (h0 : 0 ≤ own) (h1 : own ≤ 65536) :
    Calls Tryz.prog 47 #[.int .i64 own] w (NewEncPost own w) := by
  have HT := Lib.hid (tnew_any (min own 4096) w (by omega) (by omega))
  go_enter Tryz.func47, Tryz.ntmps47
  go_wp2_with fail
  refine HT.out.mono ?_
  rintro e w1 ⟨g, F, rfl, ht, hF, hb⟩
  have H1 := Lib.hid (And.intro ht (And.intro hF hb))
  clear ht hF hb
  go_wp2
  go_ret2
  obtain ⟨ht, hF, hb⟩ := H1.out
  refine ⟨w1.heap.size, fun k => k = w1.heap.size ∨ F k, rfl, ⟨g, F, rfl, heapNew _ _, ht.keep (fun k hk => Below.heap_alloc _ _ _ (ht.lt k hk)), fun hf => Nat.lt_irrefl _ (ht.lt _ hf)⟩, ?_, hb.alloc hb.size _⟩
  rintro k (rfl | hk)
  · exact hb.size
  · exact hF k hk
end Go.Proofs.YtpkmciohehaboaaGreatDoor

/- The walk of hpack.Encoder's Encode. -/
namespace Go.Proofs.YtpkmciohehaboaaGreatDoor
open Go.RowKit

theorem namedB_le (fl F : Nat) (T : Tb) (f : Rw) (h1 : f.1.size ≤ 1048576) (h2 : f.2.size ≤ 1048576) : (namedB fl F T f).length ≤ 2097200 := by
  have h3 := (putB_length fl F (numT T f)).1
  have h4 := textB_le h1
  have h5 := textB_le h2
  unfold namedB
  split <;> simp only [List.length_append, List.length_nil] <;> omega
theorem encOne_le (T : Tb) (f : Fd) (h1 : f.1.1.size ≤ 1048576) (h2 : f.1.2.size ≤ 1048576) : (encOne T f).1.length ≤ 2097200 := by
  have h3 := (putB_length 128 127 (numT T f.1)).1
  unfold encOne
  repeat' split
  all_goals first | exact namedB_le _ _ _ _ h1 h2 | (simp only; omega)
theorem encL_le (T : Tb) (l : List Fd) (h : ∀ f ∈ l, f.1.1.size ≤ 1048576 ∧ f.1.2.size ≤ 1048576) : (encL T l).1.length ≤ l.length * 2097200 := by
  induction l generalizing T with
  | nil => simp [encL]
  | cons f l ih =>
    have h1 := ih (encOne T f).2 (fun g hg => h g (List.mem_cons_of_mem _ hg))
    have h2 := encOne_le T f (h f (List.mem_cons_self ..)).1 (h f (List.mem_cons_self ..)).2
    simp only [encL, List.length_append, List.length_cons]
    omega
end Go.Proofs.YtpkmciohehaboaaGreatDoor

/- The walk of frame.payload. -/
namespace Go.Proofs.YtpkmciohehaboaaGreatDoor
open Go.RowKit

def payL (f : Fr) (pd : Bool) : List UInt8 := (if f.ty ≠ 9 ∧ pd = true then [UInt8.ofNat f.pad] else []) ++ f.data.data.toList ++ List.replicate f.pad 0
theorem own_of {w : World} {B n : Nat} {v : Value} {l : List UInt8} (h : w.ownsRow B 5 1 v n (bvs l)) : OwnB w B v l := by
  have h1 := h.1
  rw [bvs_length, Nat.mul_one] at h1
  unfold OwnB
  rw [h1]
  exact h
theorem payL_pad {ty : Nat} (h : ty ≠ 9) (fl st : Nat) (data : ByteArray) (pad : Nat) : payL ⟨ty, fl, st, data, pad⟩ true = [UInt8.ofNat pad] ++ data.data.toList ++ List.replicate pad 0 := by simp [payL, h]
theorem payL_no (ty fl st : Nat) (data : ByteArray) (pad : Nat) : payL ⟨ty, fl, st, data, pad⟩ false = [] ++ data.data.toList ++ List.replicate pad 0 := by simp [payL]
theorem payL_nine (fl st : Nat) (data : ByteArray) (pd : Bool) : payL ⟨9, fl, st, data, 0⟩ pd = [] ++ data.data.toList := by simp [payL]
theorem wp_named {P : Program} {c : Code} {Q : Exit → Act → World → Prop} {a : Act} {W : World} (h : ∀ W3, W3 = W → c.wp P Q a W3) : c.wp P Q a W := h W rfl
structure FrAt (w : World) (x : Nat) (f : Fr) : Prop where
  c0 : w.cell? ⟨x, 0, none⟩ = some (.int .i64 f.ty)
  c1 : w.cell? ⟨x, 1, none⟩ = some (.int .i64 f.fl)
  c2 : w.cell? ⟨x, 2, none⟩ = some (.int .i64 f.st)
  c3 : w.cell? ⟨x, 3, none⟩ = some (.string f.data)
  c4 : w.cell? ⟨x, 4, none⟩ = some (.int .i64 f.pad)
  c5 : w.cell? ⟨x, 5, none⟩ = some (.slice none 0 0)
  c6 : w.cell? ⟨x, 6, none⟩ = some (.int .i64 0)
  c7 : w.cell? ⟨x, 7, none⟩ = some (.int .i64 0)
  c8 : w.cell? ⟨x, 8, none⟩ = some (.int .i64 0)
  c9 : w.cell? ⟨x, 9, none⟩ = some (.int .i64 0)
  c10 : w.cell? ⟨x, 10, none⟩ = some (.int .i64 0)
  c11 : w.cell? ⟨x, 11, none⟩ = some (.bool false)
  lt : x < w.heap.size
theorem FrAt.of {w : World} {x : Nat} {f : Fr} (kx : w.heap[x]? = some (.cells f.cells 52 (0, 0))) : FrAt w x f := by
  refine ⟨?_, ?_, ?_, ?_, ?_, ?_, ?_, ?_, ?_, ?_, ?_, ?_, (Array.getElem?_eq_some_iff.1 kx).1⟩ <;> (unfold World.cell?; rw [kx]; rfl)
theorem FrAt.keep {w w' : World} {x : Nat} {f : Fr} (h : FrAt w x f) (hs : w.heap.size ≤ w'.heap.size) (hb : w'.heap[x]? = w.heap[x]?) : FrAt w' x f := by
  have e : ∀ j, w'.cell? ⟨x, j, none⟩ = w.cell? ⟨x, j, none⟩ := fun j => World.cell?_of_block (a := ⟨x, j, none⟩) hb
  exact ⟨(e _).trans h.c0, (e _).trans h.c1, (e _).trans h.c2, (e _).trans h.c3, (e _).trans h.c4, (e _).trans h.c5, (e _).trans h.c6, (e _).trans h.c7, (e _).trans h.c8, (e _).trans h.c9, (e _).trans h.c10, (e _).trans h.c11, Nat.lt_of_lt_of_le h.lt hs⟩
theorem FrAt.below {w w' : World} {x : Nat} {f : Fr} (h : FrAt w x f) (hb : Below w.heap.size w w') : FrAt w' x f := h.keep hb.size (hb.block x h.lt)
end Go.Proofs.YtpkmciohehaboaaGreatDoor

/- The walk of frame.Put. -/
namespace Go.Proofs.YtpkmciohehaboaaGreatDoor
open Go.RowKit

/-- A frame's bytes. -/
def frB (f : Fr) (pd : Bool) : List UInt8 := be 3 (payL f pd).length ++ [UInt8.ofNat f.ty, UInt8.ofNat f.fl] ++ be 4 f.st ++ payL f pd
theorem bvs_two {a b : Nat} (ha : a < 256) (hb : b < 256) : bvs [UInt8.ofNat a, UInt8.ofNat b] = [Value.int .u8 (a : Int), .int .u8 (b : Int)] := by
  rw [bv_of (by omega) (by omega), bv_of (by omega) (by omega)]; rfl
end Go.Proofs.YtpkmciohehaboaaGreatDoor

/- The walks of frame.misplaced, ahead, missized, unfit (no settings). -/
namespace Go.Proofs.YtpkmciohehaboaaGreatDoor
open Go.RowKit

def faultV (is : Bool) (code st : Int) : Value := .agg #[.bool is, .int .i64 code, .int .i64 st]
theorem infoFault : (Tryz.prog.info? 128).map (·.size) = some 3 := by kernel_rfl
set_option maxRecDepth 100000 in
set_option maxHeartbeats 4000000 in
theorem misplaced_any (ty st : Nat) (w : World) (hty : ty = 0 ∨ ty = 1 ∨ ty = 9) (hst : 0 < st) :
    Calls Tryz.prog 157 #[.int .i64 ty, .int .i64 st] w fun e w' => e = .returned (.bool false) ∧ w = w' := by
  have h1 : ((st : Int) == 0) = false := by rw [beq_eq_false_iff_ne]; omega
  rcases hty with rfl | rfl | rfl
  all_goals
    go_enter Tryz.func157, Tryz.ntmps157
    go_wp2
    go_ret
    exact ⟨rfl, rfl⟩
set_option maxRecDepth 100000 in
set_option maxHeartbeats 4000000 in
theorem ahead_any (ty fl : Nat) (pd : Bool) (w : World) (hty : ty = 0 ∨ ty = 1) (h8 : Go.bits .and .i64 (fl : Int) 8 = if pd then 8 else 0) (h32 : ty = 1 → Go.bits .and .i64 (fl : Int) 32 = 0) :
    Calls Tryz.prog 181 #[.int .i64 ty, .int .i64 fl] w fun e w' => e = .returned (.int .i64 (if pd then 1 else 0)) ∧ w = w' := by
  cases pd
  · simp only [Bool.false_eq_true, if_false] at h8 ⊢
    rcases hty with rfl | rfl
    · clear h32
      go_enter Tryz.func181, Tryz.ntmps181
      go_wp2
      go_ret
      exact ⟨rfl, rfl⟩
    · have h33 := h32 rfl
      clear h32
      go_enter Tryz.func181, Tryz.ntmps181
      go_wp2
      go_ret
      exact ⟨rfl, rfl⟩
  · simp only [if_true] at h8 ⊢
    rcases hty with rfl | rfl
    · clear h32
      go_enter Tryz.func181, Tryz.ntmps181
      go_wp2
      go_ret
      exact ⟨rfl, rfl⟩
    · have h33 := h32 rfl
      clear h32
      go_enter Tryz.func181, Tryz.ntmps181
      go_wp2
      go_ret
      exact ⟨rfl, rfl⟩
set_option maxRecDepth 100000 in
set_option maxHeartbeats 4000000 in
theorem missized_any (ty fl n : Nat) (pd : Bool) (w : World) (hty : ty = 0 ∨ ty = 1 ∨ ty = 9) (h8 : Go.bits .and .i64 (fl : Int) 8 = if pd then 8 else 0) (h32 : ty = 1 → Go.bits .and .i64 (fl : Int) 32 = 0) (hn : ty ≠ 9 → pd = true → 1 ≤ n) :
    Calls Tryz.prog 158 #[.int .i64 ty, .int .i64 fl, .int .i64 n] w fun e w' => e = .returned (.bool false) ∧ Below w.heap.size w w' := by
  by_cases h9 : ty = 9
  · subst h9
    clear h8 h32 hn hty
    go_enter Tryz.func158, Tryz.ntmps158
    go_wp2_with fail
    go_ret
    exact ⟨rfl, (Below.refl _ _).alloc (Nat.le_refl _) _⟩
  · have hty' : ty = 0 ∨ ty = 1 := by omega
    have HA := Lib.hid (fun w => ahead_any ty fl pd w hty' h8 h32)
    have hn2 := hn h9
    clear h8 h32 hn hty h9
    cases pd
    · simp only [Bool.false_eq_true, if_false] at HA
      clear hn2
      rcases hty' with rfl | rfl
      all_goals
        go_enter Tryz.func158, Tryz.ntmps158
        go_wp2_with fail
        refine (HA.out _).mono ?_
        rintro e w1 ⟨rfl, rfl⟩
        go_wp2_with fail
        go_ret
        exact ⟨rfl, (Below.refl _ _).alloc (Nat.le_refl _) _⟩
    · simp only [if_true] at HA
      have hn3 : 1 ≤ (n : Int) := by have := hn2 rfl; omega
      clear hn2
      rcases hty' with rfl | rfl
      all_goals
        go_enter Tryz.func158, Tryz.ntmps158
        go_wp2_with fail
        refine (HA.out _).mono ?_
        rintro e w1 ⟨rfl, rfl⟩
        go_wp2_with fail
        go_ret
        refine ⟨?_, (Below.refl _ _).alloc (Nat.le_refl _) _⟩
        show Ending.returned (.bool (decide ((n : Int) < 1))) = _
        rw [decide_eq_false (by omega)]
def UnRel (W : World) (iv : Value) (wr : World) : Prop := iv = .int .i64 0 ∧ wr = W
set_option maxRecDepth 100000 in
set_option maxHeartbeats 4000000 in
theorem unfit_nil (w : World) :
    Calls Tryz.prog 160 #[.slice none 0 0] w fun e w' => e = .returned (faultV false 0 0) ∧ Below w.heap.size w w' := by
  go_enter Tryz.func160, Tryz.ntmps160
  go_upto_region 1 with fail
  refine wp_named ?_
  intro W0 hW0
  have kx : W0.heap[w.heap.size]? = some (.cells #[.bool false, .int .i64 0, .int .i64 0] 128 (0, 0)) := by rw [hW0]; exact heapNew _ _
  have b0 : Below w.heap.size w W0 := by rw [hW0]; exact (Below.refl _ _).alloc (Nat.le_refl _) _
  have HK := Lib.hid (And.intro kx b0)
  clear hW0 kx b0
  go_wp2_with fail
  go_loopw [4, 7] (fun _ iv wr => UnRel W0 iv wr) (fun _ iv _ => 0)
  case atStart => exact ⟨rfl, rfl⟩
  case round =>
    obtain ⟨rfl, rfl⟩ := hrel
    go_wp2_with (refine wpList_store_rowTo rfl 128 (.tmp 2) (.tmp 45) rfl rfl w.heap.size #[.bool false, .int .i64 0, .int .i64 0] rfl rfl 128 _ HK.out.1 infoFault rfl (by simp [Value.oneCell']) ?_)
    refine bodyPost_ret (results_cell_row rfl _ _ w.heap.size 128 _ (0, 0) _ rfl (setRow_heap _ _ _ _ _ _ HK.out.1) Tryz.underlying128 rfl infoFault) rfl ?_
    exact ⟨rfl, HK.out.2.trans ⟨rfl, rfl, rfl, by simp, fun k hk => setRow_other _ _ _ _ (by omega)⟩⟩
end Go.Proofs.YtpkmciohehaboaaGreatDoor

/- The walk of frame.open. -/
namespace Go.Proofs.YtpkmciohehaboaaGreatDoor
open Go.RowKit

def Fr.bare (f : Fr) : Fr := ⟨f.ty, f.fl, f.st, ⟨#[]⟩, 0⟩
def OpenPost (w : World) (x : Nat) (f : Fr) (e : Ending) (w' : World) : Prop := e = .returned (.bool true) ∧ w'.heap[x]? = some (.cells f.cells 52 (0, 0)) ∧ Kept (fun k => k = x) w w'
theorem toStr (s : ByteArray) : (⟨s.data.toList.toArray⟩ : ByteArray) = s := by cases s; simp
set_option maxRecDepth 100000 in
set_option maxHeartbeats 4000000 in
theorem open_nine {A : Option Addr} {n cap x : Nat} (f : Fr) (pd : Bool) (w : World) (hf : FrOk f pd) (h9 : f.ty = 9) (kx : w.heap[x]? = some (.cells f.bare.cells 52 (0, 0))) (hr : Rd w w.heap.size 1 A n (bvs (payL f pd))) :
    Calls Tryz.prog 159 #[.pointer (some ⟨x, 0, none⟩), .slice A n cap] w (OpenPost w x f) := by
  obtain ⟨ty, fl, st, data, pad⟩ := f
  have hp := hf.c9 h9
  simp only at h9 hp
  subst h9 hp
  rw [payL_nine, List.nil_append] at hr
  have e1 := run_str Tryz.underlying48 Tryz.underlying5 Tryz.underlying9 hr cap
  rw [toStr] at e1
  have HK := Lib.hid kx
  obtain ⟨c0, c1, c2, c3, c4, c5, c6, c7, c8, c9, c10, c11, hxl⟩ := FrAt.of kx
  simp only [Fr.bare] at c0 c1 c2 c3 c4
  have fz : w.frozen? ⟨x, 3, none⟩ = false := by unfold World.frozen?; rw [kx]; rfl
  clear kx hr hf
  go_enter Tryz.func159, Tryz.ntmps159
  go_wp2_with fail
  go_ret
  refine ⟨rfl, ?_, (Kept.refl (fun k => k = x) w).setCell (g := x) rfl 3 _⟩
  rw [set_b7 _ HK.out]
  rfl
set_option maxRecDepth 100000 in
set_option maxHeartbeats 4000000 in
theorem open_plain {A : Option Addr} {n cap x : Nat} (f : Fr) (w : World) (hf : FrOk f false) (h9 : f.ty = 0 ∨ f.ty = 1) (kx : w.heap[x]? = some (.cells f.bare.cells 52 (0, 0))) (hr : Rd w w.heap.size 1 A n (bvs (payL f false))) (hc : n ≤ cap) (hm : cap ≤ maxLen) :
    Calls Tryz.prog 159 #[.pointer (some ⟨x, 0, none⟩), .slice A n cap] w (OpenPost w x f) := by
  obtain ⟨ty, fl, st, data, pad⟩ := f
  have hp := hf.np rfl
  have h8 := hf.f8
  have h32 := hf.f32
  simp only [Bool.false_eq_true, if_false] at h9 hp h8 h32
  subst hp
  rw [payL_no, List.nil_append, List.replicate_zero, List.append_nil] at hr
  have e1 := run_str Tryz.underlying48 Tryz.underlying5 Tryz.underlying9 hr cap
  rw [toStr] at e1
  have HK := Lib.hid kx
  obtain ⟨c0, c1, c2, c3, c4, c5, c6, c7, c8, c9, c10, c11, hxl⟩ := FrAt.of kx
  simp only [Fr.bare] at c0 c1 c2 c3 c4
  have fz : w.frozen? ⟨x, 3, none⟩ = false := by unfold World.frozen?; rw [kx]; rfl
  have hcm : cap ≤ 9223372036854775807 := by unfold maxLen at hm; exact hm
  clear kx hr hf hm
  rcases h9 with rfl | rfl
  · clear h32
    go_enter Tryz.func159, Tryz.ntmps159
    go_wp2_with fail
    go_ret
    refine ⟨rfl, ?_, (Kept.refl (fun k => k = x) w).setCell (g := x) rfl 3 _⟩
    rw [set_b7 _ HK.out]
    rfl
  · have h33 := h32 rfl
    clear h32
    go_enter Tryz.func159, Tryz.ntmps159
    go_wp2_with fail
    go_ret
    refine ⟨rfl, ?_, (Kept.refl (fun k => k = x) w).setCell (g := x) rfl 3 _⟩
    rw [set_b7 _ HK.out]
    rfl
set_option maxRecDepth 100000 in
set_option maxHeartbeats 4000000 in
theorem open_padded {A : Option Addr} {n cap x : Nat} (f : Fr) (w : World) (hf : FrOk f true) (h1 : 1 ≤ f.pad) (h9 : f.ty = 0 ∨ f.ty = 1) (kx : w.heap[x]? = some (.cells f.bare.cells 52 (0, 0))) (hr : Rd w w.heap.size 1 A n (bvs (payL f true))) (hc : n ≤ cap) (hm : cap ≤ maxLen) (hx : ∀ a, A = some a → a.block ≠ x) :
    Calls Tryz.prog 159 #[.pointer (some ⟨x, 0, none⟩), .slice A n cap] w (OpenPost w x f) := by
  obtain ⟨ty, fl, st, data, pad⟩ := f
  have hpad := hf.pad
  have h8 := hf.f8
  have h32 := hf.f32
  simp only [if_true] at h9 h8 h32 h1 hpad
  rw [payL_pad (by omega)] at hr
  have hln := hr.blen
  have hd : data.data.toList.length = data.size := by simp
  simp only [List.length_append, List.length_cons, List.length_nil, List.length_replicate, hd] at hln
  obtain ⟨-, b, o, rfl, hb, hcc⟩ := hr.bas (by omega)
  have hbx : b ≠ x := hx _ rfl
  have p0 : w.cell? ⟨b, o, none⟩ = some (.int .u8 pad) := by
    have := hcc 0 (by omega)
    rw [Nat.add_zero] at this
    rw [this]
    congr 2
    show ((UInt8.ofNat pad).toNat : Int) = pad
    rw [toNat_ofNat (by omega)]
  have hr1 := hr.lh (lo := 1) (hi := 1 + data.size) (by omega) (by omega) hc
  rw [if_neg (by omega), show 1 + data.size - 1 = data.size by omega] at hr1
  have e1 : ((([UInt8.ofNat pad] ++ data.data.toList ++ List.replicate pad 0).drop 1).take data.size) = data.data.toList := by
    simp only [List.cons_append, List.drop_succ_cons, List.drop_zero]
    rw [← hd]; exact List.take_left
  rw [e1] at hr1
  have HK := Lib.hid kx
  obtain ⟨c0, c1, c2, c3, c4, c5, c6, c7, c8, c9, c10, c11, hxl⟩ := FrAt.of kx
  simp only [Fr.bare] at c0 c1 c2 c3 c4
  have fz : ∀ o, w.frozen? ⟨x, o, none⟩ = false := fun o => by unfold World.frozen?; rw [kx]; rfl
  have fz4 := fz 4
  have fz3 := fz 3
  have hcm : cap ≤ 9223372036854775807 := by unfold maxLen at hm; exact hm
  have hcv : (convert 48 9 (.slice (some ⟨b, o + 1, none⟩) (n - 1 - pad) (cap - 1))).run Tryz.prog (w.setCell ⟨x, 4, none⟩ (.int .i64 pad)).drew = .ok (.string data) (w.setCell ⟨x, 4, none⟩ (.int .i64 pad)).drew := by
    have hr2 : Rd (w.setCell ⟨x, 4, none⟩ (.int .i64 pad)).drew w.heap.size 1 (some ⟨b, o + 1, none⟩) (n - 1 - pad) (bvs data.data.toList) := by
      rw [show n - 1 - pad = data.size by omega]
      refine ⟨hr1.1, fun h0 => ?_⟩
      obtain ⟨b', o', he, hb', hc'⟩ := hr1.2 h0
      simp [Addr.add_lit] at he
      obtain ⟨rfl, rfl⟩ := he
      exact ⟨_, _, rfl, hb', fun j hj => (World.cell?_setCell_other w _ ⟨b, o + 1 + j, none⟩ _ (fun e => hbx (by injection e with e1; exact e1.symm))).trans (hc' j hj)⟩
    have := run_str Tryz.underlying48 Tryz.underlying5 Tryz.underlying9 hr2 (cap - 1)
    rwa [toStr] at this
  clear kx hr hf hm hr1 e1 hd hcc hx fz
  rcases h9 with rfl | rfl
  · clear h32
    go_enter Tryz.func159, Tryz.ntmps159
    go_upto_region 5 with fail
    go_region
    all_goals
      go_wp2_with fail
      go_ret
      refine ⟨rfl, ?_, (((Kept.refl (fun k => k = x) w).setCell (g := x) rfl 4 _).setCell (g := x) rfl 3 _).drew⟩
      show ((w.setCell ⟨x, 4, none⟩ (.int .i64 pad)).setCell ⟨x, 3, none⟩ (.string data)).heap[x]? = _
      rw [set_b7 _ (set_b7 (w := w) _ HK.out)]
      rfl
  · have h33 := h32 rfl
    clear h32
    go_enter Tryz.func159, Tryz.ntmps159
    go_upto_region 5 with fail
    go_region
    all_goals
      go_wp2_with fail
      go_ret
      refine ⟨rfl, ?_, (((Kept.refl (fun k => k = x) w).setCell (g := x) rfl 4 _).setCell (g := x) rfl 3 _).drew⟩
      show ((w.setCell ⟨x, 4, none⟩ (.int .i64 pad)).setCell ⟨x, 3, none⟩ (.string data)).heap[x]? = _
      rw [set_b7 _ (set_b7 (w := w) _ HK.out)]
      rfl
end Go.Proofs.YtpkmciohehaboaaGreatDoor

/- The walk of frame.Take, of frames of blocks and of data. -/
namespace Go.Proofs.YtpkmciohehaboaaGreatDoor
open Go.RowKit

theorem open_all {A : Option Addr} {n cap x : Nat} (f : Fr) (pd : Bool) (w : World) (hf : FrOk f pd) (h1 : pd = true → 1 ≤ f.pad) (kx : w.heap[x]? = some (.cells f.bare.cells 52 (0, 0))) (hr : Rd w w.heap.size 1 A n (bvs (payL f pd))) (hc : n ≤ cap) (hm : cap ≤ maxLen) (hx : ∀ a, A = some a → a.block ≠ x) :
    Calls Tryz.prog 159 #[.pointer (some ⟨x, 0, none⟩), .slice A n cap] w (OpenPost w x f) := by
  by_cases h9 : f.ty = 9
  · exact open_nine f pd w hf h9 kx hr
  · have h01 : f.ty = 0 ∨ f.ty = 1 := by have := hf.ty; omega
    cases pd with
    | false => exact open_plain f w hf h01 kx hr hc hm
    | true => exact open_padded f w hf (h1 rfl) h01 kx hr hc hm hx
theorem results_take {tmps : Array Value} {w : World} {g h : Nat} {cs cs2 : Array Value} (hp : tmps.getD 4 undef = .pointer (some ⟨g, 0, none⟩)) (hp2 : tmps.getD 6 undef = .pointer (some ⟨h, 0, none⟩)) (hg : w.heap[g]? = some (.cells cs 52 (0, 0))) (hh : w.heap[h]? = some (.cells cs2 128 (0, 0))) (hs : cs.size = 12) (hs2 : cs2.size = 3) :
    (results Tryz.f130 tmps).run Tryz.prog w = .ok (.tuple #[.agg cs, tmps.getD 5 undef, .agg cs2]) w := by
  have h1 := run_loadVar_row (P := Tryz.prog) w g 52 52 cs (0, 0) _ hg Tryz.underlying52 rfl (by rw [infoFrame, hs])
  have h2 := run_loadVar_row (P := Tryz.prog) w h 128 128 cs2 (0, 0) _ hh Tryz.underlying128 rfl (by rw [infoFault, hs2])
  have hp' : tmps[4]?.getD undef = .pointer (some ⟨g, 0, none⟩) := by simpa using hp
  have hp2' : tmps[6]?.getD undef = .pointer (some ⟨h, 0, none⟩) := by simpa using hp2
  simp [results, Tryz.results130, hp', hp2', asAddr, h1, h2]
theorem two_first (w : World) (a b : Obj) : ((w.alloc a).alloc b).heap[w.heap.size]? = some a := (Below.heap_alloc _ _ _ (by simp)).trans (heapNew _ _)
def zeroFr : Fr := ⟨0, 0, 0, ⟨#[]⟩, 0⟩
def TakePost (w : World) (f : Fr) (n : Nat) (e : Ending) (w' : World) : Prop := e = .returned (.tuple #[frV f, .int .i64 n, faultV false 0 0]) ∧ Below w.heap.size w w'
set_option maxRecDepth 100000 in
set_option maxHeartbeats 4000000 in
theorem ftake_short {A : Option Addr} {n cap : Nat} (most : Int) (w : World) (hn : n < 9) :
    Calls Tryz.prog 130 #[.slice A n cap, .int .i64 most] w (TakePost w zeroFr 0) := by
  go_enter Tryz.func130, Tryz.ntmps130
  go_wp2_with fail
  refine bodyPost_ret (results_take rfl rfl (two_first _ _ _) (heapNew2 _ _ _) rfl rfl) rfl ?_
  exact ⟨rfl, ((Below.refl _ _).alloc (Nat.le_refl _) _).alloc (by simp) _⟩
/-- What the head says: the payload's length is m. -/
structure Head (l : List UInt8) (f : Fr) (pd : Bool) (m : Nat) : Prop where
  ok : FrOk f pd
  p1 : pd = true → 1 ≤ f.pad
  st1 : 0 < f.st
  len : (payL f pd).length = m
  sz : beN ((l.drop 0).take 3) = m
  ty : ba l 3 = f.ty
  fl : ba l 4 = f.fl
  st : beN ((l.drop 5).take 4) = f.st
theorem and31 {st : Nat} (h : st ≤ 2147483647) : Go.bits .and .i64 (st : Int) 2147483647 = st := by
  have key : (BitVec.ofInt 64 (st : Int) &&& BitVec.ofInt 64 (2147483647 : Int)).toNat = st := by
    rw [BitVec.toNat_and, BitVec.toNat_ofInt, BitVec.toNat_ofInt]
    rw [show ((st : Int) % ((2 ^ 64 : Nat) : Int)).toNat = st by omega, show ((2147483647 : Int) % ((2 ^ 64 : Nat) : Int)).toNat = 2 ^ 31 - 1 by decide, Nat.and_two_pow_sub_one_eq_mod]
    omega
  show IntKind.i64.wrap ((BitVec.ofInt 64 (st : Int) &&& BitVec.ofInt 64 (2147483647 : Int)).toNat : Nat) = _
  rw [key]
  exact IntWalk.i64_in _ ⟨by omega, by omega⟩
end Go.Proofs.YtpkmciohehaboaaGreatDoor

/- The head of a frame, read off a prefix of frames' bytes. -/
namespace Go.Proofs.YtpkmciohehaboaaGreatDoor
open Go.RowKit

theorem be_foldl : ∀ (k n a : Nat), (be k n).foldl (fun s c => s * 256 + c.toNat) a = a * 256 ^ k + n % 256 ^ k := by
  intro k
  induction k with
  | zero => intro n a; simp [be, Nat.mod_one]
  | succ k ih =>
    intro n a
    have hd : (UInt8.ofNat (n / 256 ^ k % 256)).toNat = n / 256 ^ k % 256 := by
      rw [UInt8.toNat_ofNat']; omega
    simp only [be, List.foldl_cons, hd, ih]
    rw [Nat.pow_succ, Nat.mod_mul, Nat.add_mul, Nat.mul_assoc, Nat.mul_comm 256 (256 ^ k), Nat.mul_comm (n / 256 ^ k % 256)]
    omega
theorem beN_be {k n : Nat} (h : n < 256 ^ k) : beN (be k n) = n := by
  unfold beN
  rw [be_foldl, Nat.mod_eq_of_lt h]; omega
/-- A frame that may come: a frame of data or of a block; at most 'most' bytes. -/
structure Good (most : Nat) (p : Fr × Bool) : Prop where
  ok : FrOk p.1 p.2
  p1 : p.2 = true → 1 ≤ p.1.pad
  st1 : 0 < p.1.st
  len : (payL p.1 p.2).length ≤ most
def strm (fs : List (Fr × Bool)) : List UInt8 := fs.flatMap fun p => frB p.1 p.2
theorem strm_cons (p : Fr × Bool) (fs : List (Fr × Bool)) : strm (p :: fs) = frB p.1 p.2 ++ strm fs := by simp [strm]
theorem strm_append (fs gs : List (Fr × Bool)) : strm (fs ++ gs) = strm fs ++ strm gs := by simp [strm]
theorem frB_length (f : Fr) (pd : Bool) : (frB f pd).length = 9 + (payL f pd).length := by
  simp [frB, be_length]; omega
/-- The head's nine bytes. -/
def hd9 (f : Fr) (pd : Bool) : List UInt8 := be 3 (payL f pd).length ++ [UInt8.ofNat f.ty, UInt8.ofNat f.fl] ++ be 4 f.st
theorem hd9_length (f : Fr) (pd : Bool) : (hd9 f pd).length = 9 := by simp [hd9, be_length]
theorem frB_hd (f : Fr) (pd : Bool) : frB f pd = hd9 f pd ++ payL f pd := by simp [frB, hd9]
theorem be3 (n : Nat) : be 3 n = [UInt8.ofNat (n / 65536 % 256), UInt8.ofNat (n / 256 % 256), UInt8.ofNat (n % 256)] := by simp [be]
theorem be4 (n : Nat) : be 4 n = [UInt8.ofNat (n / 16777216 % 256), UInt8.ofNat (n / 65536 % 256), UInt8.ofNat (n / 256 % 256), UInt8.ofNat (n % 256)] := by simp [be]
theorem head_of {most : Nat} {p : Fr × Bool} {t : List UInt8} (hg : Good most p) (hm : most ≤ 16777215) : Head (hd9 p.1 p.2 ++ t) p.1 p.2 (payL p.1 p.2).length := by
  have hl := hg.len
  refine ⟨hg.ok, hg.p1, hg.st1, rfl, ?_, ?_, ?_, ?_⟩
  · rw [show ((hd9 p.1 p.2 ++ t).drop 0).take 3 = be 3 (payL p.1 p.2).length by simp [hd9, be3]]
    exact beN_be (by omega)
  · have h1 := hg.ok.ty
    simp [ba, hd9, be3]
    omega
  · have h1 := hg.ok.fl
    simp [ba, hd9, be3]
    omega
  · rw [show ((hd9 p.1 p.2 ++ t).drop 5).take 4 = be 4 p.1.st by simp [hd9, be3, be4]]
    exact beN_be (by have := hg.ok.st; omega)
theorem pre_nine {most : Nat} {p : Fr × Bool} {gs : List (Fr × Bool)} {r : List UInt8} (hg : Good most p) (hm : most ≤ 16777215) (hr : r <+: strm (p :: gs)) (h9 : 9 ≤ r.length) : Head r p.1 p.2 (payL p.1 p.2).length := by
  obtain ⟨u, hu⟩ := hr
  rw [strm_cons, frB_hd, List.append_assoc] at hu
  have h1 : r = hd9 p.1 p.2 ++ r.drop 9 := by
    have h2 : (r ++ u).take 9 = (hd9 p.1 p.2 ++ (payL p.1 p.2 ++ strm gs)).take 9 := by rw [hu]
    rw [List.take_append_of_le_length h9, List.take_left' (hd9_length _ _)] at h2
    rw [← h2, List.take_append_drop]
  rw [h1]
  exact head_of hg hm
/-- A whole frame's bytes at the start: its payload, and what is behind. -/
theorem pre_whole {p : Fr × Bool} {gs : List (Fr × Bool)} {r : List UInt8} (hr : r <+: strm (p :: gs)) (h9 : 9 + (payL p.1 p.2).length ≤ r.length) :
    (r.drop 9).take (payL p.1 p.2).length = payL p.1 p.2 ∧ r = frB p.1 p.2 ++ r.drop (9 + (payL p.1 p.2).length) ∧ r.drop (9 + (payL p.1 p.2).length) <+: strm gs := by
  obtain ⟨u, hu⟩ := hr
  rw [strm_cons] at hu
  have hl := frB_length p.1 p.2
  have h1 : r = frB p.1 p.2 ++ r.drop (9 + (payL p.1 p.2).length) := by
    have h2 : (r ++ u).take (9 + (payL p.1 p.2).length) = (frB p.1 p.2 ++ strm gs).take (9 + (payL p.1 p.2).length) := by rw [hu]
    rw [List.take_append_of_le_length h9, List.take_left' hl] at h2
    rw [← h2, List.take_append_drop]
  obtain ⟨r2, hr2⟩ : ∃ r2, r.drop (9 + (payL p.1 p.2).length) = r2 := ⟨_, rfl⟩
  rw [hr2] at h1 ⊢
  subst h1
  refine ⟨?_, rfl, ⟨u, ?_⟩⟩
  · rw [frB_hd, List.append_assoc, List.drop_left' (hd9_length _ _), List.take_left]
  · rw [List.append_assoc] at hu
    exact List.append_cancel_left hu
end Go.Proofs.YtpkmciohehaboaaGreatDoor

/- The walks of chop.New, Feed.Left, Feed.greet, Feed.items. -/
namespace Go.Proofs.YtpkmciohehaboaaGreatDoor
open Go.RowKit

/-- The feed's cells. -/
def fdC (most : Int) (v : Value) (ov : Bool) : Array Value := #[.int .i64 most, .int .i64 24, v, .bool ov]
def FeedAt (w : World) (x : Nat) (most : Int) (v : Value) : Prop := w.heap[x]? = some (.cells (fdC most v false) 163 (0, 0))
theorem FeedAt.c0 {w : World} {x : Nat} {most : Int} {v : Value} (h : FeedAt w x most v) : w.cell? ⟨x, 0, none⟩ = some (.int .i64 most) := by unfold World.cell?; rw [h]; rfl
theorem FeedAt.c1 {w : World} {x : Nat} {most : Int} {v : Value} (h : FeedAt w x most v) : w.cell? ⟨x, 1, none⟩ = some (.int .i64 24) := by unfold World.cell?; rw [h]; rfl
theorem FeedAt.c2 {w : World} {x : Nat} {most : Int} {v : Value} (h : FeedAt w x most v) : w.cell? ⟨x, 2, none⟩ = some v := by unfold World.cell?; rw [h]; rfl
theorem FeedAt.c3 {w : World} {x : Nat} {most : Int} {v : Value} (h : FeedAt w x most v) : w.cell? ⟨x, 3, none⟩ = some (.bool false) := by unfold World.cell?; rw [h]; rfl
theorem FeedAt.lt {w : World} {x : Nat} {most : Int} {v : Value} (h : FeedAt w x most v) : x < w.heap.size := (Array.getElem?_eq_some_iff.1 h).1
theorem FeedAt.fz {w : World} {x : Nat} {most : Int} {v : Value} (h : FeedAt w x most v) (o : Nat) : w.frozen? ⟨x, o, none⟩ = false := by unfold World.frozen?; rw [h]; rfl
theorem FeedAt.keep {w w' : World} {x : Nat} {most : Int} {v : Value} (h : FeedAt w x most v) (hk : w'.heap[x]? = w.heap[x]?) : FeedAt w' x most v := hk.trans h
theorem FeedAt.set2 {w : World} {x : Nat} {most : Int} {v : Value} (h : FeedAt w x most v) (u : Value) : FeedAt (w.setCell ⟨x, 2, none⟩ u) x most u := set_b7 u h
theorem FeedAt.set3 {w : World} {x : Nat} {most : Int} {v : Value} (h : FeedAt w x most v) : FeedAt (w.setCell ⟨x, 3, none⟩ (.bool false)) x most v := set_b7 _ h
set_option maxRecDepth 100000 in
theorem items_any {p : Option Addr} (w : World) :
    Calls Tryz.prog 96 #[.pointer p] w fun e w' => e = .returned (.func (.func 129) #[] #[.pointer (some ⟨w.heap.size, 0, none⟩)]) ∧ w' = w.alloc (.cells #[.pointer p] 91) := by
  go_enter Tryz.func96, Tryz.ntmps96
  go_wp2
  go_ret
  exact ⟨rfl, rfl⟩
end Go.Proofs.YtpkmciohehaboaaGreatDoor

/- The walk of the feed's iterator. -/
namespace Go.Proofs.YtpkmciohehaboaaGreatDoor
open Go.RowKit

/-- What the feed holds when k frames have come: r is left. -/
structure ItAt (w : World) (x : Nat) (most : Nat) (S : Nat → Prop) (fs : List (Fr × Bool)) (L : List UInt8) (J : Nat → World → Prop) (k : Nat) (r : List UInt8) (A : Option Addr) (n cap : Nat) : Prop where
  feed : FeedAt w x most (.slice A n cap)
  rd : Rd w w.heap.size 1 A n (bvs r)
  blk : 0 < n → ∀ a, A = some a → a.block ≠ x ∧ ¬ S a.block
  nc : n ≤ cap
  cm : cap ≤ maxLen
  kl : k ≤ fs.length
  pre : r <+: strm (fs.drop k)
  all : L = strm (fs.take k) ++ r
  j : J k w
def ItRel (x Bb : Nat) (most : Nat) (S : Nat → Prop) (fs : List (Fr × Bool)) (L : List UInt8) (J : Nat → World → Prop) (w : World) : Prop := w.cell? ⟨Bb, 0, none⟩ = some (.pointer (some ⟨x, 0, none⟩)) ∧ Bb < w.heap.size ∧ ∃ k r A n cap, ItAt w x most S fs L J k r A n cap
def ItMeas (x : Nat) (w : World) : Nat := match w.cell? ⟨x, 2, none⟩ with
  | some (.slice _ n _) => n
  | _ => 0
def ItEnd (x : Nat) (most : Nat) (S : Nat → Prop) (fs : List (Fr × Bool)) (L : List UInt8) (J : Nat → World → Prop) (e : Ending) (w : World) : Prop := (∃ v, e = .returned v) ∧ ∃ k r A n cap, ItAt w x most S fs L J k r A n cap ∧ ∀ p, fs[k]? = some p → n < 9 + (payL p.1 p.2).length
set_option maxRecDepth 100000 in
theorem slice_from7 (A : Option Addr) (nb cap a : Nat) (ha : a ≤ nb) : ∃ A', A' = (if cap = a then A else A.map (·.add a)) ∧ ∀ w, (Instr.slice 48 (.slice A nb cap) (some (.int .i64 (a : Int))) none none).run Tryz.prog w = .ok (.slice A' (nb - a) (cap - a)) w := by
  refine ⟨_, rfl, fun w => ?_⟩
  rw [run_slice_l (P := Tryz.prog) (w := w) 48 A nb cap Tryz.underlying48 .i64 (a : Int) (by omega) (by omega)]
  simp only [Int.toNat_natCast]
  have hs : ∀ w, (sizeOf (Tryz.prog.elem 48)).run Tryz.prog w = .ok 1 w := fun _ => by kernel_rfl
  rw [hs]
  simp [Result.andThen, sliced]
theorem Rd.from7 {w : World} {B nb cap a : Nat} {A A' : Option Addr} {b : List UInt8} (h : Rd w B 1 A nb (bvs b)) (ha : a ≤ nb) (hc : nb ≤ cap) (hA' : A' = (if cap = a then A else A.map (·.add a))) : Rd w B 1 A' (nb - a) (bvs (b.drop a)) := by
  have hb := h.blen
  have h1 := h.lh (lo := a) (hi := nb) ha (Nat.le_refl _) hc
  rw [List.take_of_length_le (by simp; omega)] at h1
  rw [hA']
  exact h1
theorem upon_of_wp {P : Program} {o : Oper} {a : Act} {w : World} {K : Act → World → Prop} {Q : Exit → Act → World → Prop} {R : Result Next} (e : (execOp a.eval o).run P w = R) (h : o.wp P a w K Q) : o.upon P a K Q R := by subst e; exact h
theorem far_row {w : World} {g b o : Nat} {cs : Array Value} (h : b ≠ g) : (w.setRow g cs).cell? ⟨b, o, none⟩ = w.cell? ⟨b, o, none⟩ := World.cell?_of_block (a := ⟨b, o, none⟩) (setRow_other _ _ _ _ h)
theorem far_alloc {w : World} {b o : Nat} {ob : Obj} (h : b < w.heap.size) : (w.alloc ob).cell? ⟨b, o, none⟩ = w.cell? ⟨b, o, none⟩ := World.cell?_alloc_lt w ob ⟨b, o, none⟩ h
theorem below_row {B : Nat} {w w' : World} {g : Nat} {cs : Array Value} (h : Below B w w') (hg : B ≤ g) : Below B w (w'.setRow g cs) := ⟨h.os, h.tape, h.output, by have := h.size; simpa [World.setRow] using this, fun k hk => (setRow_other _ _ _ _ (by omega)).trans (h.block k hk)⟩
theorem fz_of {w : World} {x : Nat} {cs : Array Value} {t : TypeId} (h : w.heap[x]? = some (.cells cs t (0, 0))) (o : Nat) : w.frozen? ⟨x, o, none⟩ = false := by unfold World.frozen?; rw [h]; rfl
theorem flt_of {w : World} {x : Nat} {t : TypeId} (h : w.heap[x]? = some (.cells #[.bool false, .int .i64 0, .int .i64 0] t (0, 0))) : w.cell? ⟨x, 0, none⟩ = some (.bool false) ∧ w.cell? ⟨x, 1, none⟩ = some (.int .i64 0) ∧ w.cell? ⟨x, 2, none⟩ = some (.int .i64 0) := by refine ⟨?_, ?_, ?_⟩ <;> (unfold World.cell?; rw [h]; rfl)
end Go.Proofs.YtpkmciohehaboaaGreatDoor

/- A range over a function whose rounds all go on: two laws over the kit's base law, with the loop's record in sight. -/
namespace Go.Proofs.YtpkmciohehaboaaGreatDoor
open Go.RowKit

/-- The loop's record. -/
def recOf (fn : FuncId) (tmps : Array Value) (ps : Array Tmp) (assign body : Code) (D : Nat) (st : LoopState) (pe : Option Code) : Loop := { state := st, pending := pe, fn := fn, tmps := tmps, params := ps, assign := assign, body := body, defers := D }
def RangeEnd (Q : Exit → Act → World → Prop) (a : Act) (D : Nat) (rec : LoopState → Option Code → Loop) (e : Ending) (W : World) : Prop :=
  (∃ v, e = .returned v) ∧ W.heap[D + 1]? = some (.loop (rec .ready none)) ∧ Q .normal { a with defers := { target := .collected D, args := #[] } :: a.defers } (W.putObj (D + 1) (.loop (rec .exhausted none)))
theorem rng_end {P : Program} {W : World} {l : Nat} {fn : FuncId} {tmps : Array Value} {ps : Array Tmp} {assign body : Code} {D : Nat} (hl : W.heap[l]? = some (.loop (recOf fn tmps ps assign body D .ready none))) : (Instr.endLoop l).run P W = .ok none (W.putObj l (.loop (recOf fn tmps ps assign body D .exhausted none))) := run_endLoop (P := P) hl (by simp [recOf])
theorem rng_post {P : Program} {Q : Exit → Act → World → Prop} {a : Act} {W : World} {l : Nat} {fn : FuncId} {tmps : Array Value} {ps : Array Tmp} {assign body : Code} {D : Nat} (v : Value) (hl : W.heap[l]? = some (.loop (recOf fn tmps ps assign body D .ready none))) (hq : Q .normal a (W.putObj l (.loop (recOf fn tmps ps assign body D .exhausted none)))) : rangePost Fence.wide 1 P l Q a (.returned v) W := ⟨none, _, rng_end hl, hq⟩
set_option maxHeartbeats 400000 in
theorem range_wp {P : Program} {g : Operand} {ps : Array Tmp} {assign body : Code} {Q : Exit → Act → World → Prop} {a : Act} {w : World} {gf : Nat} {lb : Array Value} (hg : a.eval g = .func (.func gf) #[] lb)
    (eg : ∀ args w, (callFunc gf args).run P w = .ok (.enter gf args) w)
    (h : ∀ fn rec, rec = recOf fn a.tmps ps assign body w.heap.size → Calls P gf (#[.func (.yield (w.heap.size + 1)) #[] #[]] ++ lb) ((w.alloc (.deferred (some []))).alloc (.loop (rec .ready none))) (RangeEnd Q a w.heap.size rec)) :
    (Code.rangeFunc g ps assign body).wp P Q a w := by
  refine (wpIn_wide (n := 1)).1 (wpIn_rangeFunc ?_)
  intro fn _
  obtain ⟨W1, hW1⟩ : ∃ W1, (w.alloc (.deferred (some []))).alloc (.loop (recOf fn a.tmps ps assign body w.heap.size .ready none)) = W1 := ⟨_, rfl⟩
  have h2 := h fn _ rfl
  rw [hW1] at h2
  have e1 : (Instr.enterLoop fn a.tmps ps assign body none).run P w = .ok (w.heap.size + 1, [{ target := .collected w.heap.size, args := #[] }]) W1 := by rw [← hW1]; exact run_enterLoop_outer _ _ _ _ _
  have e2 : (resolve a.eval (rangeCall g (w.heap.size + 1)) 0).run P W1 = .ok { target := .fn (.func gf) lb, args := #[.func (.yield (w.heap.size + 1)) #[] #[]] } W1 := by
    simp only [resolve, hg]
    simp [go_sem]
  have e3 : (invoke (.fn (.func gf) lb) #[.func (.yield (w.heap.size + 1)) #[] #[]]).run P W1 = .ok (.enter gf (#[.func (.yield (w.heap.size + 1)) #[] #[]] ++ lb)) W1 := by
    simp [invoke, go_sem, eg]
  have e4 : CallsIn Fence.wide (1 - 1) P gf (#[.func (.yield (w.heap.size + 1)) #[] #[]] ++ lb) W1 (rangePost Fence.wide 1 P (w.heap.size + 1) Q { a with defers := [{ target := .collected w.heap.size, args := #[] }] ++ a.defers }) := by
    refine (callsIn_wide (n := 1 - 1)).2 (h2.mono ?_)
    rintro e W ⟨⟨v, rfl⟩, hl, hq⟩
    exact rng_post v hl hq
  have hro : Fence.wide.round = none := rfl
  rw [hro]
  refine ⟨w.heap.size + 1, [{ target := .collected w.heap.size, args := #[] }], W1, { target := .fn (.func gf) lb, args := #[.func (.yield (w.heap.size + 1)) #[] #[]] }, W1, gf, #[.func (.yield (w.heap.size + 1)) #[] #[]] ++ lb, W1, e1, ?_⟩
  refine ⟨e2, ?_⟩
  refine ⟨fun f' _ => trivial, ?_⟩
  refine ⟨e3, ?_⟩
  refine ⟨fun _ => Nat.le_refl _, ?_⟩
  exact e4
/-- Block l holds the loop's record. -/
def LoopIs (W : World) (l : Nat) (r : Loop) : Prop := W.heap[l]? = some (.loop r)
/-- One round that goes on. -/
theorem yield_at {P : Program} {l m : Nat} {args : Array Value} {W : World} {R : Ending → World → Prop} {fn : FuncId} {tmps : Array Value} {ps : Array Tmp} {assign body : Code} {D : Nat} (hl : W.heap[l]? = some (.loop (recOf fn tmps ps assign body D .ready none))) (hs : args.size = ps.size)
    (h : assign.wpIn (Fence.wide.inRound l) m P (Exit.then (fun a₁ w₁ => LoopIs w₁ l (recOf fn tmps ps assign body D .ready none) ∧ body.wpIn (Fence.wide.inRound l) m P (Exit.then (fun _ w₃ => LoopIs w₃ l (recOf fn tmps ps assign body D .busy none) ∧ R (.returned (.bool true)) (w₃.putObj l (.loop (recOf fn tmps ps assign body D .ready none)))) (fun _ _ _ => False)) a₁ (w₁.putObj l (.loop (recOf fn tmps ps assign body D .busy none)))) (fun _ _ _ => False))
      { tmps := (ps.zip args).foldl (fun t (p, v) => t.setIfInBounds p v) tmps, defers := [] } W) : YieldAt Fence.wide m P l args W R := by
  refine ⟨fn, _, assign, body, run_yield hl hs, roundIn_of_wpIn trivial (wpIn_mono h ?_)⟩
  rintro e a1 w1 h1
  cases e with
  | normal =>
    obtain ⟨hl1, hb⟩ := h1
    refine ⟨_, run_beginRound hl1 rfl, wpIn_mono hb ?_⟩
    rintro e3 a3 w3 h3
    cases e3 with
    | normal => exact ⟨_, _, run_endRound none h3.1, h3.2⟩
    | ret => exact h3.elim
    | exit id => exact h3.elim
    | goto t => exact h3.elim
    | panic c => exact h3.elim
    | outgrown => exact h3.elim
  | ret => exact h1.elim
  | exit id => exact h1.elim
  | goto t => exact h1.elim
  | panic c => exact h1.elim
  | outgrown => exact h1.elim
end Go.Proofs.YtpkmciohehaboaaGreatDoor

/- The walk of Feed.Take. -/
namespace Go.Proofs.YtpkmciohehaboaaGreatDoor
open Go.RowKit
attribute [local go_sem] Oper.semAt_some

def itL (f : Fr) : List Value := [.int .i64 f.ty, .int .i64 f.fl, .int .i64 f.st, .string f.data, .int .i64 f.pad, .slice none 0 0, .int .i64 0, .int .i64 0, .int .i64 0, .int .i64 0, .int .i64 0, .bool false, .bool false, .int .i64 0, .int .i64 0]
def itsL (fs : List (Fr × Bool)) : List Value := fs.flatMap fun p => itL p.1
theorem tItems : SlT Tryz.prog 125 130 (.agg (itL zeroFr).toArray) 15 144 :=
  ⟨Tryz.underlying125, by kernel_rfl, rfl, by decide⟩
theorem wpIn_named {F : Fence} {n : Nat} {P : Program} {c : Code} {Q : Exit → Act → World → Prop} {a : Act} {W : World} (h : ∀ W3, W3 = W → c.wpIn F n P Q a W3) : c.wpIn F n P Q a W := h W rfl
theorem cell_at15 {w : World} {b : Nat} {cs : List Value} {t : TypeId} (h : w.heap[b]? = some (.cells cs.toArray t (0, 0))) : ∀ j u, cs[j]? = some u → w.cell? ⟨b, j, none⟩ = some u := by
  intro j u hu
  unfold World.cell?
  rw [h]
  simpa using hu
theorem Kept.put {F : Nat → Prop} {w w' : World} (h : Kept F w w') {l : Nat} (hl : F l) (o : Obj) : Kept F w (w'.putObj l o) :=
  ⟨h.os, h.tape, h.output, by have := h.size; simpa using this, fun k hk hn => (World.putObj_heap_other (fun e => hn (by rw [e]; exact hl))).trans (h.block k hk hn)⟩
theorem itsL_snoc {fs : List (Fr × Bool)} {k : Nat} {p : Fr × Bool} (h : fs[k]? = some p) : itsL (fs.take (k + 1)) = itsL (fs.take k) ++ itL p.1 := by
  rw [List.take_add_one, h]
  simp [itsL]
theorem own_base {w : World} {B B' n size : Nat} {e : TypeId} {v : Value} {xs : List Value} (h : w.ownsRow B e size v n xs) (hb : B' ≤ B) : w.ownsRow B' e size v n xs :=
  ⟨h.1, h.2.imp id fun ⟨g, cap, cur, h1, h2, h3⟩ => ⟨g, cap, cur, h1, Nat.le_trans hb h2, h3⟩⟩
theorem leaves_mark {F : Fence} {m : Nat} {P : Program} {fn : Func} {R : Ending → World → Prop} {a : Act} {W : World} {D : Nat} {v : Value} (hd : a.defers = [{ target := .collected D, args := #[] }]) (hD : W.heap[D]? = some (.deferred (some []))) (hr : ∀ W, (results fn a.tmps).run P W = .ok v W)
    (h : R (.returned v) (W.putObj D (.deferred none))) : bodyPostM F m P fn R .ret a W := by
  show LeavesInM F m P fn a.tmps R a.defers .returning W
  rw [hd]
  exact ⟨by simp, .inl ⟨D, _, rfl, run_takeDeferred hD, v, hr _, h⟩⟩
def Stop (p : Prop) : Prop := p
theorem of_stop {p : Prop} (h : Stop p) : p := h
theorem wpListIn_app {F : Fence} {m : Nat} {P : Program} {w : World} {ops : Array Oper} {rest : List Oper} {o : Oper} {a : Act} {Q : Exit → Act → World → Prop} (s x : Operand) {t e : TypeId} {z : Value} {size bytes : Nat} (hT : SlT P t e z size bytes)
    (hgd : o.guard = none) (ho : o.op = .call { callee := .builtin .append, args := #[s, x], argTypes := #[t, t] })
    {base : Nat} {v : Value} {k : Nat} {xs : List Value} (hown : w.ownsRow base e size v k xs) (hs : a.eval s = v)
    {g n c : Nat} {news : List Value} (hb : w.heap[g]? = some (.cells news.toArray e (0, 0))) (hx : a.eval x = .slice (some ⟨g, 0, none⟩) n c) (hn : news.length = n * size) (h1 : ∀ u ∈ news, u.oneCell' = true)
    (h63 : k + n ≤ maxLen) (hbytes : (k + n) * bytes ≤ 140737488355328) (hbase : base ≤ w.heap.size)
    (h : ∀ v' w', w'.ownsRow base e size v' (k + n) (xs ++ news) → w.grownBy w' v.ownBlock → wpListIn F m P ops Q rest (a.put o.dst v') w') : wpListIn F m P ops Q (o :: rest) a w := by
  obtain ⟨i, hi, e1⟩ := Option.map_eq_some_iff.1 hT.info
  injection e1 with e1 e2
  injection e2 with e2 e3
  exact wpListIn_append_own w hgd s x t ho base e i z size bytes hT.ht hi e1 e2 e3 hT.hz hT.pos v k xs hs hown ⟨g, 0, none⟩ n c news hx hn (fun j u hu => by
    rw [Addr.add_lit, Nat.zero_add]
    exact cell_at15 hb j u hu) h1 h63 hbytes hbase (fun v' w' h2 h3 _ => h v' w' h2 h3)
/-- What Take hands back. -/
def TkPost (w : World) (x : Nat) (most : Int) (v : Value) (fs : List (Fr × Bool)) (L : List UInt8) (e : Ending) (w' : World) : Prop :=
  ∃ k r V v', e = .returned V ∧ k ≤ fs.length ∧ L = strm (fs.take k) ++ r ∧ r <+: strm (fs.drop k) ∧ (∀ p, fs[k]? = some p → r.length < 9 + (payL p.1 p.2).length) ∧ w'.ownsRow w.heap.size 130 15 V k (itsL (fs.take k)) ∧ OwnB w' w.heap.size v' r ∧ FeedAt w' x most v' ∧ Kept (fun b => b = x ∨ v.ownBlock = some b) w w'
/-- What lies beside the feed while the frames come: k items have come. -/
structure TkJ (P : Program) (w : World) (x ob : Nat) (own : Nat → Prop) (fs : List (Fr × Bool)) (rec : Loop) (k : Nat) (W : World) : Prop where
  lp : W.heap[ob + 3]? = some (.loop rec)
  df : W.heap[ob + 2]? = some (.deferred (some []))
  row : ∃ V, W.heap[ob]? = some (.cells #[V] 125 (0, 0)) ∧ W.ownsRow (ob + 4) 130 15 V k (itsL (fs.take k))
  kp : Kept (fun b => b = x ∨ own b) w W
theorem TkJ.keep {P : Program} {w W W' : World} {x ob : Nat} {own : Nat → Prop} {fs : List (Fr × Bool)} {rec : Loop} {k : Nat} (h : TkJ P w x ob own fs rec k W) (hx : x < ob) (hk : Kept (fun b => b = x) W W') : TkJ P w x ob own fs rec k W' := by
  have h3 := (Array.getElem?_eq_some_iff.1 h.lp).1
  obtain ⟨V, hV, hrow⟩ := h.row
  exact ⟨(hk.block _ h3 (by omega)).trans h.lp, (hk.block _ (by omega) (by omega)).trans h.df, ⟨V, (hk.block _ (by omega) (by omega)).trans hV, own_kept4 hrow hk (fun q hq e => by have := (World.ownsRow.lt hrow q hq).1; omega)⟩, h.kp.same (hk.mono (fun k e => .inl e))⟩
end Go.Proofs.YtpkmciohehaboaaGreatDoor

/- Texts: small letters, tokens, values, blanks, numbers, in plain lists of bytes. -/
namespace Go.Proofs.YtpkmciohehaboaaGreatDoor
open Go.RowKit

/-- A byte in small letters. -/
def lowB (c : UInt8) : UInt8 := if 65 ≤ c ∧ c ≤ 90 then c + 32 else c
def lowL (l : List UInt8) : List UInt8 := l.map lowB
/-- The marks of a token. -/
def marks : List UInt8 := [33, 35, 36, 37, 38, 39, 42, 43, 45, 46, 94, 95, 96, 124, 126]
def tokB (c : UInt8) : Bool := (decide (48 ≤ c) && decide (c ≤ 57)) || (decide (97 ≤ c) && decide (c ≤ 122)) || (decide (65 ≤ c) && decide (c ≤ 90)) || marks.contains c
def tokL (l : List UInt8) : Bool := !l.isEmpty && l.all tokB
def blnk (c : UInt8) : Bool := c == 32 || c == 9
/-- Without the blanks at its ends. -/
def trimL (l : List UInt8) : List UInt8 := Lib.trimS l [32, 9]
def valB (c : UInt8) : Bool := !((decide (c < 32) && !(c == 9)) || c == 127)
def valL (l : List UInt8) : Bool := decide ((trimL l).length = l.length) && l.all valB
end Go.Proofs.YtpkmciohehaboaaGreatDoor

/- The walks of octet.Lower, octet.Same. -/
namespace Go.Proofs.YtpkmciohehaboaaGreatDoor
open Go.RowKit

theorem or32 : ∀ c : Nat, c < 256 → 65 ≤ c → c ≤ 90 → Go.bits .or .u8 (c : Int) 32 = ((c + 32 : Nat) : Int) := by decide +kernel
/-- A row of bytes that '[]byte(s)' has made. -/
structure TxtRow (w : World) (g n : Nat) (l : List UInt8) : Prop where
  row : ∃ cur : Array Value, w.heap[g]? = some (.cells cur 5 (cur.size, cur.size + 1)) ∧ n ≤ cur.size ∧ cur.toList.take n = bvs l
  len : l.length = n
section
variable {w w' : World} {g n : Nat} {l : List UInt8}
theorem TxtRow.cell (h : TxtRow w g n l) {i : Nat} (hi : i < n) : w.cell? ⟨g, i, none⟩ = some (.int .u8 (ba l i : Int)) := by
  obtain ⟨cur, hb, hn, ht⟩ := h.row
  have hl := h.len
  have e : cur[i]? = (bvs l)[i]? := by
    rw [← ht, List.getElem?_take, if_pos hi, Array.getElem?_toList]
  unfold World.cell?
  rw [hb]
  show cur[i]? = _
  rw [e, bvs, List.getElem?_map, List.getElem?_eq_getElem (by omega), ba_get (by omega)]
  rfl
theorem TxtRow.free (h : TxtRow w g n l) {i : Nat} (_hi : i < n) : w.frozen? ⟨g, i, none⟩ = false := by
  obtain ⟨cur, hb, hn, -⟩ := h.row
  unfold World.frozen?
  rw [hb]
  have : ¬ cur.size ≤ i := by omega
  simp [this]
theorem TxtRow.set (h : TxtRow w g n l) {i : Nat} (_hi : i < n) {v : Nat} (hv : v < 256) : TxtRow (w.setCell ⟨g, i, none⟩ (.int .u8 (v : Int))) g n (l.set i (UInt8.ofNat v)) := by
  obtain ⟨cur, hb, hn, ht⟩ := h.row
  refine ⟨⟨cur.setIfInBounds i (.int .u8 (v : Int)), ?_, by simpa using hn, ?_⟩, by simpa using h.len⟩
  · simp only [World.setCell, Array.getElem?_modify, if_true]
    rw [hb]
    simp
  · rw [Array.toList_setIfInBounds, List.take_set, ht, bvs, bvs, List.map_set]
    congr 1
    rw [bv]
    congr 1
    rw [UInt8.toNat_ofNat']
    omega
theorem TxtRow.rd (h : TxtRow w g n l) : Rd w w.heap.size 1 (some ⟨g, 0, none⟩) n (bvs l) := by
  obtain ⟨cur, hb, hn, ht⟩ := h.row
  refine ⟨by rw [bvs_length, h.len]; omega, fun _ => ⟨g, 0, rfl, (Array.getElem?_eq_some_iff.1 hb).1, fun j hj => ?_⟩⟩
  rw [Nat.zero_add, ← ht, List.getElem?_take, if_pos (by omega), Array.getElem?_toList]
  unfold World.cell?
  rw [hb]
  rfl
end
theorem heapNewM (w : World) (cs : Array Value) (t : TypeId) (m : Nat × Nat) : (w.alloc (.cells cs t m)).heap[w.heap.size]? = some (.cells cs t m) := by
  show (w.heap.push (.cells cs t m))[w.heap.size]? = _
  simp
theorem bytesRow_eq (s : ByteArray) (c : Nat) : ∃ z : Array Value, bytesRow s c = (bvs s.data.toList).toArray ++ z := by
  refine ⟨Array.replicate (c - s.size) (.int .u8 0), ?_⟩
  unfold bytesRow
  congr 1
  apply Array.ext'
  simp [bvs, bv]
/-- '[]byte(s)', as a row to be turned. -/
theorem bytes_row {P : Program} {src dst : TypeId} (hs : P.underlying src = some .string) (hd : P.underlying dst = some (.slice 5)) (he : P.underlying 5 = some (.int .u8)) (w : World) (s : ByteArray) :
    ∃ c w', (convert src dst (.string s)).run P w = .ok (.slice (some ⟨w.heap.size, 0, none⟩) s.size c) w' ∧ Below w.heap.size w w' ∧ TxtRow w' w.heap.size s.size s.data.toList := by
  obtain ⟨z, hz⟩ := bytesRow_eq s (grownCap w s.size 0 5)
  have hl : (bvs s.data.toList).length = s.size := by rw [bvs_length, str_len]
  have hr := run_bytes_of_string w src dst 5 s hs hd he
  rw [hz] at hr
  refine ⟨_, _, hr, ((Below.refl _ _).drew).alloc (Nat.le_refl _) _, ⟨_, heapNewM _ _ _ _, ?_, ?_⟩, str_len s⟩
  · rw [Array.size_append, List.size_toArray]; omega
  · rw [Array.toList_append, List.toList_toArray, List.take_left' hl]
theorem lowB_val (c : UInt8) : (lowB c).toNat = if 65 ≤ c.toNat ∧ c.toNat ≤ 90 then c.toNat + 32 else c.toNat := by
  unfold lowB
  have e1 : (65 ≤ c) ↔ 65 ≤ c.toNat := UInt8.le_iff_toNat_le
  have e2 : (c ≤ 90) ↔ c.toNat ≤ 90 := UInt8.le_iff_toNat_le
  by_cases h : 65 ≤ c.toNat ∧ c.toNat ≤ 90
  · rw [if_pos (show 65 ≤ c ∧ c ≤ 90 from ⟨e1.2 h.1, e2.2 h.2⟩), if_pos h, UInt8.toNat_add]
    show (c.toNat + 32) % 256 = _
    omega
  · rw [if_neg (show ¬ (65 ≤ c ∧ c ≤ 90) from fun h' => h ⟨e1.1 h'.1, e2.1 h'.2⟩), if_neg h]
theorem lowL_length (l : List UInt8) : (lowL l).length = l.length := by simp [lowL]
/-- k bytes are in small letters. -/
def lowK (l : List UInt8) (k : Nat) : List UInt8 := lowL (l.take k) ++ l.drop k
theorem lowK_get {l : List UInt8} {k : Nat} (h : k < l.length) : ba (lowK l k) k = ba l k := by
  have e : (lowK l k)[k]? = l[k]? := by
    unfold lowK
    rw [List.getElem?_append_right (by rw [lowL_length, List.length_take]; omega), lowL_length, List.length_take, Nat.min_eq_left (by omega), Nat.sub_self, List.getElem?_drop, Nat.add_zero]
  unfold ba List.getD
  rw [e]
theorem lowK_succ {l : List UInt8} {k : Nat} (h : k < l.length) : lowK l (k + 1) = (lowK l k).set k (lowB (l[k])) := by
  unfold lowK
  have hl : (lowL (l.take k)).length = k := by rw [lowL_length, List.length_take]; omega
  rw [List.set_append, if_neg (by omega), hl, Nat.sub_self, List.drop_eq_getElem_cons h, List.set_cons_zero, List.take_add_one, List.getElem?_eq_getElem h, Option.toList_some]
  unfold lowL
  rw [List.map_append, List.append_assoc]
  rfl
def LwrRel (W : World) (g n : Nat) (l : List UInt8) (iv : Value) (wr : World) : Prop := ∃ k : Nat, iv = .int .i64 k ∧ k ≤ n ∧ TxtRow wr g n (lowK l k) ∧ Below W.heap.size W wr
set_option maxRecDepth 100000 in
set_option maxHeartbeats 4000000 in
theorem lower_any (s : ByteArray) (w : World) (hs : s.size ≤ 140737488355328) : Calls Tryz.prog 36 #[.string s] w fun e w' => e = .returned (.string ⟨(lowL s.data.toList).toArray⟩) ∧ Below w.heap.size w w' := by
  obtain ⟨c0, w1, hcv, hb1, hrow⟩ := bytes_row Tryz.underlying9 Tryz.underlying48 Tryz.underlying5 w s
  have hsl := str_len s
  obtain ⟨l, hl⟩ : ∃ l, s.data.toList = l := ⟨_, rfl⟩
  rw [hl] at hsl hrow ⊢
  obtain ⟨n, hn⟩ : ∃ n, s.size = n := ⟨_, rfl⟩
  rw [hn] at hcv hrow hsl hs
  obtain ⟨g, hg⟩ : ∃ g, w.heap.size = g := ⟨_, rfl⟩
  have HB := Lib.hid hb1
  rw [hg] at hcv hrow
  have H1 := Lib.hid hrow
  have HL := Lib.hid hsl
  have HG := Lib.hid hg
  obtain ⟨R, hR⟩ : ∃ R : ByteArray, ⟨(lowL l).toArray⟩ = R := ⟨_, rfl⟩
  rw [hR]
  have HRR := Lib.hid hR
  clear hb1 hrow hsl hg hl hn hR
  go_enter Tryz.func36, Tryz.ntmps36
  go_wp2_with fail
  go_loopw [10] (fun iv wr => LwrRel w g n l iv wr) (fun iv _ => n - (intOf iv).toNat)
  case atStart => exact ⟨0, rfl, Nat.zero_le _, H1.out, HB.out⟩
  case round =>
    obtain ⟨k, rfl, hk, hrow, hb⟩ := hrel
    have HR := Lib.hid (And.intro hrow hb)
    clear hrow hb
    by_cases hlt : k < n
    · have hkl : k < l.length := by rw [HL.out]; exact hlt
      have z := HR.out.1.cell hlt
      have fz := HR.out.1.free hlt
      rw [lowK_get hkl] at z
      have hv := ba_lt l k
      have hbk : ba l k = (l[k]).toNat := ba_get hkl
      have HS : Hid (∀ v : Nat, v = (lowB (l[k])).toNat → TxtRow (wr.setCell ⟨g, k, none⟩ (.int .u8 (v : Int))) g n (lowK l (k + 1)) ∧ Below w.heap.size w (wr.setCell ⟨g, k, none⟩ (.int .u8 (v : Int)))) := Lib.hid (fun v e => by
        have h2 := HR.out.1.set hlt (v := v) (by rw [e]; exact (lowB (l[k])).toNat_lt)
        rw [e, UInt8.ofNat_toNat, ← lowK_succ hkl] at h2
        rw [e]
        exact ⟨h2, HR.out.2.setCell (by rw [HG.out]; exact Nat.le_refl _) _⟩)
      have HSN : Hid (lowB (l[k]) = l[k] → TxtRow wr g n (lowK l (k + 1))) := Lib.hid (fun e => by
        have h2 : (lowK l k).set k (lowB (l[k])) = lowK l k := by
          rw [e]
          have h3 : (lowK l k)[k]? = some (l[k]) := by
            unfold lowK
            rw [List.getElem?_append_right (by rw [lowL_length, List.length_take]; omega), lowL_length, List.length_take, Nat.min_eq_left (by omega), Nat.sub_self, List.getElem?_drop, Nat.add_zero, List.getElem?_eq_getElem hkl]
          obtain ⟨hh, he⟩ := List.getElem?_eq_some_iff.1 h3
          rw [← he]
          exact List.set_getElem_self hh
        rw [lowK_succ hkl, h2]
        exact HR.out.1)
      have hlv := lowB_val (l[k])
      rw [← hbk] at hlv
      obtain ⟨v, hv2⟩ : ∃ v, ba l k = v := ⟨_, rfl⟩
      rw [hv2] at z hv hlv hbk
      have HLV := Lib.hid (And.intro hlv hbk)
      have k1 : (k : Int) < n := by omega
      clear hlv hv2 hbk
      by_cases hc : 65 ≤ v ∧ v ≤ 90
      · obtain ⟨hc1, hc2⟩ := hc
        have hor := or32 v hv hc1 hc2
        have HE := Lib.hid (HS.out (v + 32) (by rw [HLV.out.1, if_pos ⟨hc1, hc2⟩]))
        have c1 : (65 : Int) ≤ v := by omega
        have c2 : (v : Int) ≤ 90 := by omega
        clear HS HSN
        go_wp2
        go_roundw
        case rel => exact ⟨k + 1, by go_num, hlt, HE.out.1, HE.out.2⟩
        case measure => simp [intOf]; omega
      · have HE : Hid (TxtRow wr g n (lowK l (k + 1))) := Lib.hid (HSN.out (by
          apply UInt8.toNat_inj.1
          rw [HLV.out.1, if_neg hc]
          exact HLV.out.2))
        clear HS HSN
        by_cases c1 : (65 : Int) ≤ v
        · have c2 : (90 : Int) < v := by omega
          go_wp2
          go_roundw
          case rel => exact ⟨k + 1, by go_num, hlt, HE.out, HR.out.2⟩
          case measure => simp [intOf]; omega
        · go_wp2
          go_roundw
          case rel => exact ⟨k + 1, by go_num, hlt, HE.out, HR.out.2⟩
          case measure => simp [intOf]; omega
    · obtain rfl : k = n := by omega
      have hrd := HR.out.1.rd
      have e1 : lowK l k = lowL l := by unfold lowK; rw [List.take_of_length_le (by rw [HL.out]; exact Nat.le_refl _), List.drop_of_length_le (by rw [HL.out]; exact Nat.le_refl _), List.append_nil]
      rw [e1] at hrd
      have hst := run_str Tryz.underlying48 Tryz.underlying5 Tryz.underlying9 hrd c0
      rw [HRR.out] at hst
      clear hrd e1
      go_wp2
      go_ret
      exact ⟨rfl, HR.out.2⟩
end Go.Proofs.YtpkmciohehaboaaGreatDoor

/-
  DERIVED: THE SHELF's CONTRACTS AT THIS DUMP, IN PLAIN WORDS (tools/lay-plain.mjs out of 'YtpkmciohehaboaaGreatDoorShelfT.lean', which tools/lay-shelf.mjs wrote): THE SAME DECLARATIONS UNDER THE SAME NAMES: 'import', 'namespace', 'open', 'def', 'theorem' AND NOTHING ELSE: no command of the shelf's: FOR A HAND-IN. Each laying: the table of numbers ('.._ren') and one theorem, a field a fact of the dump's own or the kernel's comparison; each contract: ONE APPLICATION.
-/
namespace Go.Proofs
open Go.Shelf
def Tryz.lays99_ren : Go.Shelf.Ren := ⟨fun | 99 => 119 | 206 => 149 | n => n, fun | 9 => 9 | 4 => 4 | 3 => 3 | n => n, fun | n => n⟩
theorem Tryz.lays99 : Go.Proofs.Lays.n99 Tryz.prog Tryz.lays99_ren := {
  mixed := by kernel_rfl
  f99 := Tryz.func119.trans (congrArg some (by kernel_rfl))
  f206 := Tryz.func149.trans (congrArg some (by kernel_rfl))
  t3 := Tryz.underlying3
  a3 := Tryz.isAgg3
  z3 := Tryz.sizeOf3
  v3 := Tryz.zeroValue3
  t4 := Tryz.underlying4
  a4 := Tryz.isAgg4
  z4 := Tryz.sizeOf4
  v4 := Tryz.zeroValue4
  t9 := Tryz.underlying9
  a9 := Tryz.isAgg9
  z9 := Tryz.sizeOf9
  v9 := Tryz.zeroValue9 }
def Tryz.lays137_ren : Go.Shelf.Ren := ⟨fun | 137 => 195 | 217 => 211 | 266 => 220 | n => n, fun | 9 => 9 | 5 => 5 | 3 => 3 | n => n, fun | n => n⟩
theorem Tryz.lays137 : Go.Proofs.Lays.n137 Tryz.prog Tryz.lays137_ren := {
  mixed := by kernel_rfl
  f137 := Tryz.func195.trans (congrArg some (by kernel_rfl))
  f217 := Tryz.func211.trans (congrArg some (by kernel_rfl))
  f266 := Tryz.func220.trans (congrArg some (by kernel_rfl))
  t3 := Tryz.underlying3
  a3 := Tryz.isAgg3
  z3 := Tryz.sizeOf3
  v3 := Tryz.zeroValue3
  t5 := Tryz.underlying5
  a5 := Tryz.isAgg5
  z5 := Tryz.sizeOf5
  v5 := Tryz.zeroValue5
  t9 := Tryz.underlying9
  a9 := Tryz.isAgg9
  z9 := Tryz.sizeOf9
  v9 := Tryz.zeroValue9 }
def Tryz.lays160_ren : Go.Shelf.Ren := ⟨fun | 160 => 148 | 232 => 175 | 231 => 174 | 227 => 176 | 234 => 178 | 233 => 177 | 236 => 180 | 235 => 179 | 228 => 196 | 271 => 199 | 151 => 198 | 197 => 197 | 120 => 214 | 152 => 213 | 260 => 212 | 137 => 195 | 119 => 221 | 224 => 222 | 225 => 223 | 217 => 211 | 266 => 220 | n => n, fun | 9 => 9 | 4 => 4 | 3 => 3 | 5 => 5 | 117 => 241 | 116 => 240 | 0 => 0 | 124 => 244 | 21 => 21 | 105 => 265 | 46 => 246 | 119 => 282 | 139 => 285 | 138 => 284 | n => n, fun | 3 => 1 | 4 => 2 | n => n⟩
theorem Tryz.lays160 : Go.Proofs.Lays.n160 Tryz.prog Tryz.lays160_ren := {
  mixed := by kernel_rfl
  f119 := Tryz.func221.trans (congrArg some (by kernel_rfl))
  f120 := Tryz.func214.trans (congrArg some (by kernel_rfl))
  f137 := Tryz.func195.trans (congrArg some (by kernel_rfl))
  f151 := Tryz.func198.trans (congrArg some (by kernel_rfl))
  f152 := Tryz.func213.trans (congrArg some (by kernel_rfl))
  f160 := Tryz.func148.trans (congrArg some (by kernel_rfl))
  f197 := Tryz.func197.trans (congrArg some (by kernel_rfl))
  f217 := Tryz.func211.trans (congrArg some (by kernel_rfl))
  f224 := Tryz.func222.trans (congrArg some (by kernel_rfl))
  f225 := Tryz.func223.trans (congrArg some (by kernel_rfl))
  f227 := Tryz.func176.trans (congrArg some (by kernel_rfl))
  f228 := Tryz.func196.trans (congrArg some (by kernel_rfl))
  f231 := Tryz.func174.trans (congrArg some (by kernel_rfl))
  f232 := Tryz.func175.trans (congrArg some (by kernel_rfl))
  f233 := Tryz.func177.trans (congrArg some (by kernel_rfl))
  f234 := Tryz.func178.trans (congrArg some (by kernel_rfl))
  f235 := Tryz.func179.trans (congrArg some (by kernel_rfl))
  f236 := Tryz.func180.trans (congrArg some (by kernel_rfl))
  f260 := Tryz.func212.trans (congrArg some (by kernel_rfl))
  f266 := Tryz.func220.trans (congrArg some (by kernel_rfl))
  f271 := Tryz.func199.trans (congrArg some (by kernel_rfl))
  t0 := Tryz.underlying0
  a0 := Tryz.isAgg0
  z0 := Tryz.sizeOf0
  v0 := Tryz.zeroValue0
  t3 := Tryz.underlying3
  a3 := Tryz.isAgg3
  z3 := Tryz.sizeOf3
  v3 := Tryz.zeroValue3
  t4 := Tryz.underlying4
  a4 := Tryz.isAgg4
  z4 := Tryz.sizeOf4
  v4 := Tryz.zeroValue4
  t5 := Tryz.underlying5
  a5 := Tryz.isAgg5
  z5 := Tryz.sizeOf5
  v5 := Tryz.zeroValue5
  t9 := Tryz.underlying9
  a9 := Tryz.isAgg9
  z9 := Tryz.sizeOf9
  v9 := Tryz.zeroValue9
  t21 := Tryz.underlying21
  a21 := Tryz.isAgg21
  z21 := Tryz.sizeOf21
  v21 := Tryz.zeroValue21
  t46 := Tryz.underlying246
  a46 := Tryz.isAgg246
  z46 := Tryz.sizeOf246
  v46 := Tryz.zeroValue246
  t105 := Tryz.underlying265
  a105 := Tryz.isAgg265
  z105 := Tryz.sizeOf265
  v105 := Tryz.zeroValue265
  t116 := Tryz.underlying240
  a116 := Tryz.isAgg240
  z116 := Tryz.sizeOf240
  t117 := Tryz.underlying241
  a117 := Tryz.isAgg241
  z117 := Tryz.sizeOf241
  v117 := Tryz.zeroValue241
  t119 := Tryz.underlying282
  a119 := Tryz.isAgg282
  z119 := Tryz.sizeOf282
  t124 := Tryz.underlying244
  a124 := Tryz.isAgg244
  z124 := Tryz.sizeOf244
  v124 := Tryz.zeroValue244
  t138 := Tryz.underlying284
  a138 := Tryz.isAgg284
  z138 := Tryz.sizeOf284
  v138 := Tryz.zeroValue284
  t139 := Tryz.underlying285
  a139 := Tryz.isAgg285
  z139 := Tryz.sizeOf285
  v139 := Tryz.zeroValue285
  g3 := by kernel_rfl
  g4 := by kernel_rfl }
end Go.Proofs
