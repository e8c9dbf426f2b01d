/- 9 texts in one: MapG, Hd3, Hd4, TnPlain, Hd5, Hd6, Hd7, Hp1, Hp2. -/
import Derived.Test.YtpkmciohehaboaaGreatDoorM9
import Derived.Maps.OwnSet
import Derived.Maps.OwnOps
import Derived.Maps.Views
import Derived.MapViews
import Derived.ChangeSame
import Derived.Test.YtpkmciohehaboaaGreatDoorM10
import Derived.Test.YtpkmciohehaboaaGreatDoorM8
import Derived.Deep.Cut
import Derived.Deep.CutRange
import Derived.Deep.DeepCutAuto
import Derived.BigQuiet
import Derived.Deep.WholeRow
import Derived.Great.BuildSlice
import Derived.Deep.RegionHeld3
/- A map in memory, as a function: for any kind of keys and of elements. -/
namespace Go.Proofs.YtpkmciohehaboaaGreatDoor
open Go.RowKit Go.Maps

/-- A kind of maps: its types, how keys and elements are values. -/
structure MK (κ ε : Type) where
  t : TypeId
  k : TypeId
  e : TypeId
  kv : κ → Value
  kl : κ → Lit
  okk : κ → Prop
  ev : ε → Value
  el : ε → Lit
  z : ε
section
variable {κ ε : Type}
open Classical in
/-- How an element reads. -/
noncomputable def MK.R (M : MK κ ε) (v : Value) : Option (DataW Unit × List MemPlace) := if h : ∃ x, v = M.ev x then some (.lit (M.el h.choose), []) else none
structure MKok (M : MK κ ε) : Prop where
  ht : Tryz.prog.underlying M.t = some (.map M.k M.e)
  keyed : Keyed Tryz.prog M.k
  key : ∀ x, M.okk x → keyOf Tryz.prog M.k (M.kv x) = some (M.kl x)
  kinj : ∀ x y, M.kl x = M.kl y → x = y
  einj : ∀ x y, M.ev x = M.ev y → x = y
  linj : ∀ x y, M.el x = M.el y → x = y
  zero : ∀ w, (zeroValue M.e).run Tryz.prog w = .ok (M.ev M.z) w
variable {M : MK κ ε}
theorem MKok.R_ev (h : MKok M) (x : ε) : M.R (M.ev x) = some (.lit (M.el x), []) := by
  unfold MK.R
  have h1 : ∃ y, M.ev x = M.ev y := ⟨x, rfl⟩
  rw [dif_pos h1, ← h.einj _ _ h1.choose_spec]
theorem MKok.R_inv (h : MKok M) {v : Value} {x : ε} {ps : List MemPlace} (hv : M.R v = some (.lit (M.el x), ps)) : v = M.ev x := by
  unfold MK.R at hv
  split at hv
  · rename_i h1
    injection hv with hv
    injection hv with hv
    injection hv with hv
    rw [h1.choose_spec, h.linj _ _ hv]
  · cases hv
theorem MKok.lit (h : MKok M) {x : κ} (hx : M.okk x) : WideAt.IsKeyLit (M.kl x) := Keyed.key h.keyed (h.key x hx)
/-- The map in block mb reads as f, and has n entries. -/
def GMap (M : MK κ ε) (w : World) (mb N : Nat) (f : κ → Option ε) (n : Nat) : Prop :=
  ∃ D : DataW Unit, w.ownsMap Tryz.prog M.k M.R mb N D ∧ (∀ i, M.okk i → has D (M.kl i) = (f i).isSome) ∧ (∀ i b, M.okk i → f i = some b → D.atKey (M.kl i) (.lit (M.el M.z)) = .lit (M.el b)) ∧ size D = n
/-- What 'v, ok := m[k]' hands back. -/
def gLook (M : MK κ ε) (o : Option ε) : Value := .tuple #[M.ev (o.getD M.z), .bool o.isSome]
variable {w w' : World} {mb N n : Nat} {f f' : κ → Option ε}
theorem GMap.lt (h : GMap M w mb N f n) : mb < w.heap.size := by obtain ⟨D, hD, _⟩ := h; exact hD.lt
theorem GMap.keep (h : GMap M w mb N f n) (hk : w'.heap[mb]? = w.heap[mb]?) : GMap M w' mb N f n := by
  obtain ⟨D, ⟨es, cl, hb, h2⟩, h3⟩ := h
  exact ⟨D, ⟨es, cl, hk.trans hb, h2⟩, h3⟩
theorem GMap.below {B : Nat} (h : GMap M w mb N f n) (hb : Below B w w') (hB : mb < B) : GMap M w' mb N f n := h.keep (hb.block mb hB)
theorem GMap.more (h : GMap M w mb N f n) {N' : Nat} (hn : N ≤ N') : GMap M w mb N' f n := by
  obtain ⟨D, h1, h2⟩ := h
  exact ⟨D, h1.mono hn, h2⟩
theorem GMap.congr (h : GMap M w mb N f n) (hf : ∀ i, M.okk i → f' i = f i) : GMap M w mb N f' n := by
  obtain ⟨D, h1, h2, h3, h4⟩ := h
  exact ⟨D, h1, fun i hi => by rw [hf i hi]; exact h2 i hi, fun i b hi hb => h3 i b hi (by rw [← hf i hi]; exact hb), h4⟩
theorem GMap.look (ok : MKok M) (h : GMap M w mb N f n) {i : κ} (hi : M.okk i) : (Instr.lookup M.t (.map (some mb)) (M.kv i) true).run Tryz.prog w = .ok (gLook M (f i)) w := by
  obtain ⟨D, h1, h2, h3, h4⟩ := h
  obtain ⟨v, ps, hrun, hR⟩ := h1.look_ok ok.keyed ok.ht (ok.zero _) (zd := .lit (M.el M.z)) (zp := []) (ok.R_ev _) (ok.key i hi)
  rw [hrun, h2 i hi]
  cases hf : f i with
  | some b =>
    rw [h3 i b hi hf] at hR
    rw [ok.R_inv hR]; rfl
  | none =>
    rw [atKey_of_not_has (by rw [h2 i hi, hf]; rfl)] at hR
    rw [ok.R_inv hR]; rfl
theorem GMap.len (h : GMap M w mb N f n) (ok : MKok M) (ty : TypeId) : (Builtin.len_ #[M.t] ty #[.map (some mb)]).run Tryz.prog w = .ok (.int .i64 n) w := by
  obtain ⟨D, h1, h2, h3, h4⟩ := h
  rw [h1.len ok.ht ty, h4]
open Classical in
theorem GMap.put (ok : MKok M) (h : GMap M w mb N f n) {i : κ} (hi : M.okk i) (hN : N < maxLen) (b : ε) :
    ∃ w', (Instr.mapUpdate M.t (.map (some mb)) (M.kv i) (M.ev b)).run Tryz.prog w = .ok () w' ∧ GMap M w' mb (N + 1) (fun j => if j = i then some b else f j) (if (f i).isSome then n else n + 1) ∧ w.grownBy w' (some mb) := by
  obtain ⟨D, h1, h2, h3, h4⟩ := h
  obtain ⟨w', hrun, ho, hg⟩ := h1.update ok.keyed ok.ht hN (ok.key i hi) (ok.R_ev b)
  have ht := h1.tidy ok.keyed
  refine ⟨w', hrun, ⟨_, ho, fun j hj => ?_, fun j c hj hc => ?_, ?_⟩, hg⟩
  · by_cases e : j = i
    · subst e; rw [has_put_same ht.isMap (ok.lit hj)]; simp
    · rw [has_put_other (fun e2 => e (ok.kinj _ _ e2)), h2 j hj]; simp [e]
  · by_cases e : j = i
    · subst e
      simp only [if_true] at hc
      have hc2 : b = c := Option.some.inj hc
      rw [← hc2]
      exact atKey_put_same ht.isMap (ok.lit hj) _ _
    · simp only [if_neg e] at hc
      rw [atKey_put_other (fun e2 => e (ok.kinj _ _ e2))]
      exact h3 j c hj hc
  · rw [size_put ht, h2 i hi, h4]
theorem gmap_made (M : MK κ ε) (w : World) : GMap M (w.alloc (.map #[] 0)) w.heap.size 0 (fun _ => none) 0 := ⟨.map [], World.ownsMap_made _ _ _ _, fun _ _ => rfl, (fun _ _ _ h => by cases h), rfl⟩
end
/-- Texts to texts in a struct of their own. -/
def mWords : MK ByteArray ByteArray := { t := 83, k := 9, e := 87, kv := .string, kl := fun s => .string s.data.toList, okk := fun s => s.size ≤ maxLen, ev := fun s => .agg #[.string s], el := fun s => .string s.data.toList, z := ⟨#[]⟩ }
theorem okWords : MKok mWords where
  ht := Tryz.underlying83
  keyed := string_keyed Tryz.underlying9
  key x h := WideMaps.keyOf_string_mk Tryz.underlying9 h
  kinj x y h := by injection h with h; exact Go.WideShapes.bytes_inj h
  einj x y h := by
    have h1 : (Value.agg #[.string x]) = .agg #[.string y] := h
    injection h1 with h1
    injection h1 with h1
    injection h1 with h1 h2
    injection h1
  linj x y h := by injection h with h; exact Go.WideShapes.bytes_inj h
  zero w := by kernel_rfl
/-- Texts to places. -/
def mPlaces : MK ByteArray Int := { t := 157, k := 9, e := 3, kv := .string, kl := fun s => .string s.data.toList, okk := fun s => s.size ≤ maxLen, ev := fun i => .int .i64 i, el := fun i => .int .i64 i, z := 0 }
theorem okPlaces : MKok mPlaces where
  ht := Tryz.underlying157
  keyed := string_keyed Tryz.underlying9
  key x h := WideMaps.keyOf_string_mk Tryz.underlying9 h
  kinj x y h := by injection h with h; exact Go.WideShapes.bytes_inj h
  einj x y h := by injection h
  linj x y h := by injection h
  zero w := by kernel_rfl
end Go.Proofs.YtpkmciohehaboaaGreatDoor

/- The walk of gather's closure 'known'. -/
namespace Go.Proofs.YtpkmciohehaboaaGreatDoor
open Go.RowKit Go.Maps

/-- Is a pseudo-field known, and not said yet? -/
def knownB (names : List ByteArray) (f : ByteArray → Option ByteArray) (s : ByteArray) : Bool := names.any (fun t => decide (t = s)) && !(f s).isSome
theorem known_in {names : List ByteArray} {f : ByteArray → Option ByteArray} {s : ByteArray} (h : s ∈ names) : knownB names f s = !(f s).isSome := by
  unfold knownB
  rw [List.any_eq_true.2 ⟨s, h, by simp⟩, Bool.true_and]
theorem known_out {names : List ByteArray} {f : ByteArray → Option ByteArray} {s : ByteArray} (h : s ∉ names) : knownB names f s = false := by
  unfold knownB
  rw [List.any_eq_false.2 fun x hx => by simp; rintro rfl; exact h hx, Bool.false_and]
set_option maxRecDepth 100000 in
set_option maxHeartbeats 4000000 in
theorem known_any {A : Option Addr} {n c b1 b2 mb N k : Nat} {names : List ByteArray} {f : ByteArray → Option ByteArray} (s : ByteArray) (w : World)
    (hr : Rd w w.heap.size 1 A n (strs names)) (hn : n ≤ 1048576)
    (h1 : w.cell? ⟨b1, 0, none⟩ = some (.slice A n c)) (h2 : w.cell? ⟨b2, 0, none⟩ = some (.map (some mb)))
    (hm : GMap mWords w mb N f k) (hs : s.size ≤ maxLen) :
    Calls Tryz.prog 79 #[.string s, .pointer (some ⟨b1, 0, none⟩), .pointer (some ⟨b2, 0, none⟩)] w fun e w' => e = .returned (.bool (knownB names f s)) ∧ Below w.heap.size w w' := by
  have HL := Lib.hid (hm.look okWords (i := s) hs)
  have HR := Lib.hid hr
  obtain ⟨R, hR⟩ : ∃ R, knownB names f s = R := ⟨_, rfl⟩
  rw [hR]
  have HRR := Lib.hid hR
  clear hr hm hR
  go_enter Tryz.func79, Tryz.ntmps79
  go_wp2_with fail
  go_loopw [11] (fun iv wr => wr = w ∧ ∃ j : Nat, iv = .int .i64 j ∧ j ≤ n ∧ s ∉ names.take j) (fun iv _ => n - (intOf iv).toNat)
  case atStart => exact ⟨rfl, 0, rfl, Nat.zero_le _, by simp⟩
  case round =>
    obtain ⟨rfl, j, rfl, hj, hnot⟩ := hrel
    have HN := Lib.hid hnot
    clear hnot
    have HK : Hid (∀ t, names[j]? = some t → names.take (j + 1) = names.take j ++ [t]) := Lib.hid (fun t ht => by rw [List.take_add_one, ht, Option.toList_some])
    by_cases hlt : j < n
    · obtain ⟨hl, b, o, rfl, hbl, hc⟩ := str_at HR.out (by omega)
      obtain ⟨t, ht⟩ : ∃ t, names[j]? = some t := ⟨_, List.getElem?_eq_getElem (by omega)⟩
      have hcell := hc j t ht
      have HT := Lib.hid ht
      have HHL := Lib.hid hl
      clear hc ht hl
      have e0 : ((j : Int) < n) := by omega
      by_cases hst : t = s
      · have e1 : (t.toList == s.toList) = true := by rw [hst]; simp
        have HM : Hid (s ∈ names) := Lib.hid (by rw [← hst]; exact List.mem_of_getElem? HT.out)
        clear hst
        obtain ⟨F, hF⟩ : ∃ F, f s = F := ⟨_, rfl⟩
        have HF := Lib.hid hF
        have hr : R = !F.isSome := by rw [← HRR.out, known_in HM.out, hF]
        have hlk : (Instr.lookup 83 (.map (some mb)) (.string s) true).run Tryz.prog wr = .ok (.tuple #[.agg #[.string (F.getD ⟨#[]⟩)], .bool F.isSome]) wr := by
          have := HL.out
          rw [hF] at this
          exact this
        obtain ⟨x, hx⟩ : ∃ x : ByteArray, F.getD ⟨#[]⟩ = x := ⟨_, rfl⟩
        obtain ⟨y, hy⟩ : ∃ y, F.isSome = y := ⟨_, rfl⟩
        rw [hx, hy] at hlk
        rw [hy] at hr
        subst hr
        clear hF hx hy
        go_wp2
        go_ret
        exact ⟨rfl, (Below.refl _ _).alloc (Nat.le_refl _) _⟩
      · have e1 : (t.toList == s.toList) = false := (Lib.bytes_beq_false_iff t s).2 hst
        have HM : Hid (s ∉ names.take (j + 1)) := Lib.hid (by rw [HK.out t HT.out]; simp [HN.out]; exact fun h => hst h.symm)
        clear hst
        go_wp2
        go_roundw
        case rel => exact ⟨trivial, j + 1, by go_num, by omega, HM.out⟩
        case measure => simp [intOf]; omega
    · have hr : R = false := by
        rw [← HRR.out]
        refine known_out ?_
        have := HN.out
        rwa [List.take_of_length_le (by have := HR.out.1; rw [strs_length] at this; omega)] at this
      subst hr
      go_wp2
      go_ret
      exact ⟨rfl, Below.refl _ _⟩
end Go.Proofs.YtpkmciohehaboaaGreatDoor

/- What gather holds between two fields: its boxes, its map, its row; the plain step. -/
namespace Go.Proofs.YtpkmciohehaboaaGreatDoor
open Go.RowKit Go.Maps

/-- What gather has gathered: what was said, the other fields; or an error. -/
abbrev Gt := (ByteArray → Option ByteArray) × List Fd
def Gt.none : Gt := (fun _ => .none, [])
open Classical in
/-- One field more. -/
noncomputable def askG (names : List ByteArray) (G : Gt) (f : Fd) : Gt × Nat :=
  if pseuB f.1.1 then
    if !G.2.isEmpty || !knownB names G.1 f.1.1 then (G, 100) else ((fun j => if j = f.1.1 then some f.1.2 else G.1 j, G.2), 0)
  else if plainB f then ((G.1, G.2 ++ [f]), 0) else (G, 101)
/-- The state in memory: the boxes lie in the blocks B (names), B + 2 (said), B + 3 (rest), B + 4 (known), the map in B + 1, the row above. -/
structure GAt (B : Nat) (A : Option Addr) (n c : Nat) (names : List ByteArray) (v : Value) (N k : Nat) (G : Gt) (w : World) : Prop where
  sz : B + 5 ≤ w.heap.size
  rd : Rd w B 1 A n (strs names)
  cn : w.heap[B]? = some (.cells #[.slice A n c] 80 (0, 0))
  mp : GMap mWords w (B + 1) N G.1 k
  cs : w.heap[B + 2]? = some (.cells #[.map (some (B + 1))] 83 (0, 0))
  cr : w.heap[B + 3]? = some (.cells #[v] 22 (0, 0))
  ck : w.heap[B + 4]? = some (.cells #[.func (.func 79) #[] #[.pointer (some ⟨B, 0, none⟩), .pointer (some ⟨B + 2, 0, none⟩)]] 77 (0, 0))
  row : w.ownsRow (B + 5) 26 3 v G.2.length (fds G.2)
variable {B n c N k : Nat} {A : Option Addr} {names : List ByteArray} {v : Value} {G : Gt} {w w' : World}
/-- Nothing that lies here was touched. -/
theorem GAt.below (h : GAt B A n c names v N k G w) (hb : Below w.heap.size w w') : GAt B A n c names v N k G w' where
  sz := Nat.le_trans h.sz hb.size
  rd := h.rd.below hb (by have := h.sz; omega)
  cn := (hb.block _ (by have := h.sz; omega)).trans h.cn
  mp := h.mp.below hb (by have := h.sz; omega)
  cs := (hb.block _ (by have := h.sz; omega)).trans h.cs
  cr := (hb.block _ (by have := h.sz; omega)).trans h.cr
  ck := (hb.block _ (by have := h.sz; omega)).trans h.ck
  row := by
    obtain ⟨h1, h2⟩ := h.row
    refine ⟨h1, ?_⟩
    rcases h2 with h2 | ⟨g, cap, cur, e1, e2, e3, e4⟩
    · exact .inl h2
    · exact .inr ⟨g, cap, cur, e1, e2, (hb.block g (Array.getElem?_eq_some_iff.1 e3).1).trans e3, e4⟩
end Go.Proofs.YtpkmciohehaboaaGreatDoor

/- What TopNames says, in plain lists: lines of fields, elements, what a connection keeps, answers. -/
namespace Go.Proofs.YtpkmciohehaboaaGreatDoor
open Go.RowKit

/-- How many bytes stand ahead of the first colon. -/
def colN (l : List UInt8) : Nat := (l.takeWhile fun c => decide (c ≠ 58)).length
/-- The field that a line says. -/
def lineF (l : List UInt8) : Fd × Bool :=
  if colN l = l.length ∨ tokL (l.take (colN l)) = false then (((mkS [], mkS []), false), false)
  else (((mkS (lowL (l.take (colN l))), mkS (trimL (l.drop (colN l + 1)))), false), valL (trimL (l.drop (colN l + 1))))
/-- What an origin's fields say. -/
def ownF (l : List Fd) : List Fd := l.filterMap fun f => let r := lineF (f.1.1.data.toList ++ 58 :: f.1.2.data.toList); if r.2 then some r.1 else none
/-- The state of the walk through a value: where the element began, in quotes, behind a backslash; the elements. -/
structure ElS where
  from_ : Nat
  q : Bool
  t : Bool
  out : List ByteArray
def ElS.put (v : List UInt8) (s : ElS) (k : Nat) : ElS :=
  { s with from_ := k + 1, out := if trimL ((v.take k).drop s.from_) = [] then s.out else s.out ++ [mkS (trimL ((v.take k).drop s.from_))] }
def ElS.step (v : List UInt8) (s : ElS) (k : Nat) : ElS :=
  if s.t then { s with t := false }
  else if s.q && decide (ba v k = 92) then { s with t := true }
  else if ba v k = 34 then { s with q := !s.q }
  else if decide (ba v k = 44) && !s.q then s.put v k
  else s
def ElS.run (v : List UInt8) : Nat → ElS
  | 0 => ⟨0, false, false, []⟩
  | k + 1 => (ElS.run v k).step v k
/-- What stands between a value's commas. -/
def elems (v : List UInt8) : List ByteArray := ((ElS.run v v.length).put v v.length).out
def sameVals (l : List Fd) (name : ByteArray) : List ByteArray := (l.filter fun f => sameL f.1.1.data.toList name.data.toList).map fun f => f.1.2
def allF (l : List Fd) (name : ByteArray) : List ByteArray := (sameVals l name).flatMap fun v => elems v.data.toList
def hasF (l : List Fd) (name e : ByteArray) : Bool := (allF l name).any fun x => sameL x.data.toList e.data.toList
def withoutF (l : List Fd) (names : List ByteArray) : List Fd := l.filter fun f => !(names.any fun n => sameL n.data.toList f.1.1.data.toList)
def con6 : ByteArray := ⟨#[116, 114, 97, 105, 108, 101, 114]⟩
def con7 : ByteArray := ⟨#[112, 114, 111, 120, 121, 45, 97, 117, 116, 104, 101, 110, 116, 105, 99, 97, 116, 101]⟩
def con8 : ByteArray := ⟨#[112, 114, 111, 120, 121, 45, 97, 117, 116, 104, 111, 114, 105, 122, 97, 116, 105, 111, 110]⟩
def nine : List ByteArray := [con1, con2, con3, con4, con5, teB, con6, con7, con8]
def stripF (l : List Fd) : List Fd := withoutF l (nine ++ allF l con1)
def viaB : ByteArray := ⟨#[118, 105, 97]⟩
def whoB : ByteArray := ⟨#[49, 46, 49, 32, 100, 114, 97, 119, 98, 114, 105, 100, 103, 101]⟩
def viaD : Fd := ((viaB, whoB), false)
def statB : ByteArray := ⟨#[58, 115, 116, 97, 116, 117, 115]⟩
def ansF (n : Nat) (l : List Fd) : List Fd := ((statB, mkS (decS n)), false) :: l.map fun f => ((mkS (lowL f.1.1.data.toList), f.1.2), f.2)
/-- Each field in turn, up to an error. -/
noncomputable def gathF (names : List ByteArray) : Gt → List Fd → Gt × Nat
  | G, [] => (G, 0)
  | G, f :: r => if (askG names G f).2 = 0 then gathF names (askG names G f).1 r else askG names G f
/-- The status, the fields; or an error. -/
noncomputable def readA (l : List Fd) : Nat × List Fd × Nat :=
  let G := gathF [statB] Gt.none l
  if G.2 ≠ 0 then (0, [], G.2)
  else
    let s := (G.1.1 statB).getD ⟨#[]⟩
    if (decRes s.data.toList).2 ≠ 0 ∨ s.size ≠ 3 ∨ (decRes s.data.toList).1 < 100 then (0, [], 100)
    else if lenF G.1.2 = none then (0, [], 102)
    else ((decRes s.data.toList).1, G.1.2, 0)

theorem byte_all {p : UInt8 → Prop} (h : ∀ n : Nat, n < 256 → p (UInt8.ofNat n)) (c : UInt8) : p c := by
  have := h c.toNat (UInt8.toNat_lt c)
  rwa [UInt8.ofNat_toNat] at this
theorem lowB_idem : ∀ c, lowB (lowB c) = lowB c := byte_all (p := fun c => lowB (lowB c) = lowB c) (by decide +kernel)
theorem tokB_low : ∀ c, tokB (lowB c) = tokB c := byte_all (p := fun c => tokB (lowB c) = tokB c) (by decide +kernel)
theorem tokB_58 : tokB 58 = false := by decide +kernel
theorem lowL_idem (l : List UInt8) : lowL (lowL l) = lowL l := by simp [lowL, lowB_idem, Function.comp_def]
theorem tokL_low (l : List UInt8) : tokL (lowL l) = tokL l := by
  unfold tokL lowL
  rw [List.isEmpty_map, List.all_map]
  simp [Function.comp_def, tokB_low]
theorem pseuB_tok {s : ByteArray} (h : tokL s.data.toList = true) : pseuB s = false := by
  unfold pseuB
  unfold tokL at h
  cases hs : s.data.toList with
  | nil => rfl
  | cons c r =>
    rw [hs] at h
    simp at h
    have hc : c ≠ 58 := by rintro rfl; rw [tokB_58] at h; cases h.1
    simp [Lib.hasPrefix, List.isPrefixOf, Ne.symm hc]
/-- What a field of an origin is. -/
structure OwnOk (f : Fd) : Prop where
  tok : tokL f.1.1.data.toList = true
  low : lowL f.1.1.data.toList = f.1.1.data.toList
  val : valL f.1.2.data.toList = true
  nv : f.2 = false
theorem line_ok {l : List UInt8} (h : (lineF l).2 = true) : OwnOk (lineF l).1 := by
  unfold lineF at h ⊢
  split at h
  · cases h
  · rename_i hc
    rw [if_neg hc]
    refine ⟨?_, ?_, ?_, rfl⟩
    · rw [mkS_list, tokL_low]; cases ht : tokL (l.take (colN l)) with
      | true => rfl
      | false => exact absurd (.inr ht) hc
    · rw [mkS_list, lowL_idem]
    · rw [mkS_list]; exact h
theorem own_ok {l : List Fd} {f : Fd} (h : f ∈ ownF l) : OwnOk f := by
  unfold ownF at h
  obtain ⟨g, hg, h2⟩ := List.mem_filterMap.1 h
  dsimp only at h2
  split at h2
  · rename_i hc
    injection h2 with h2
    rw [← h2]
    exact line_ok hc
  · cases h2
theorem strip_mem {l : List Fd} {f : Fd} (h : f ∈ stripF l) : f ∈ l ∧ ∀ n ∈ nine ++ allF l con1, sameL n.data.toList f.1.1.data.toList = false := by
  unfold stripF withoutF at h
  obtain ⟨h1, h2⟩ := List.mem_filter.1 h
  refine ⟨h1, fun n hn => ?_⟩
  rw [Bool.not_eq_true', List.any_eq_false] at h2
  have := h2 n hn
  simpa using this
theorem sameL_refl (l : List UInt8) : sameL l l = true := by simp [sameL]
theorem strip_ne {l : List Fd} {f : Fd} (h : f ∈ stripF l) {n : ByteArray} (hn : n ∈ nine) : f.1.1 ≠ n := by
  rintro e
  have := (strip_mem h).2 n (List.mem_append_left _ hn)
  rw [e, sameL_refl] at this
  cases this
theorem strip_plain {l : List Fd} {f : Fd} (h : f ∈ stripF (ownF l)) : plainB f = true ∧ pseuB f.1.1 = false := by
  have ho := own_ok (strip_mem h).1
  refine ⟨?_, pseuB_tok ho.tok⟩
  have hc : conB f.1.1 = false := by
    unfold conB
    simp only [decide_eq_false_iff_not]
    rintro (e | e | e | e | e)
    · exact strip_ne h (by simp [nine]) e
    · exact strip_ne h (by simp [nine]) e
    · exact strip_ne h (by simp [nine]) e
    · exact strip_ne h (by simp [nine]) e
    · exact strip_ne h (by simp [nine]) e
  have ht : f.1.1 ≠ teB := strip_ne h (by simp [nine])
  unfold plainB
  simp [ho.tok, ho.low, ho.val, hc, ht]
theorem via_plain : plainB viaD = true ∧ pseuB viaD.1.1 = false := by
  constructor <;> decide +kernel
theorem gath_plain {names : List ByteArray} : ∀ (l : List Fd) (G : Gt), (∀ f ∈ l, plainB f = true ∧ pseuB f.1.1 = false) → gathF names G l = ((G.1, G.2 ++ l), 0)
  | [], G, _ => by simp [gathF]
  | f :: r, G, h => by
    obtain ⟨h1, h2⟩ := h f (List.mem_cons_self ..)
    have e : askG names G f = ((G.1, G.2 ++ [f]), 0) := by unfold askG; simp [h1, h2]
    rw [gathF, e]
    simp only [if_true]
    rw [gath_plain r _ fun g hg => h g (List.mem_cons_of_mem _ hg)]
    simp
theorem dec3 : ∀ n : Nat, n < 1000 → 100 ≤ n → decRes [UInt8.ofNat (48 + n / 10 / 10), UInt8.ofNat (48 + n / 10 % 10), UInt8.ofNat (48 + n % 10)] = (n, 0) := by decide +kernel
theorem decS3 {n : Nat} (h1 : 100 ≤ n) (h2 : n < 1000) : decS n = [UInt8.ofNat (48 + n / 10 / 10), UInt8.ofNat (48 + n / 10 % 10), UInt8.ofNat (48 + n % 10)] := by
  rw [decS_big (by omega), decS_big (by omega), decS_small (by omega)]
  rfl
theorem low_map {l : List Fd} (h : ∀ f ∈ l, lowL f.1.1.data.toList = f.1.1.data.toList) : (l.map fun f => (((mkS (lowL f.1.1.data.toList), f.1.2), f.2) : Fd)) = l := by
  conv => rhs; rw [← List.map_id l]
  refine List.map_congr_left fun f hf => ?_
  rw [h f hf, mkS_of]
  rfl
theorem len_via (l : List Fd) : lenF (l ++ [viaD]) = lenF l := by
  unfold lenF valsF
  rw [List.filter_append]
  have : (List.filter (fun f : Fd => decide (f.1.1 = clB)) [viaD]) = [] := by decide +kernel
  rw [this, List.append_nil]
/-- An answer is read as it was told. -/
theorem read_answer {n : Nat} (l : List Fd) (h1 : 100 ≤ n) (h2 : n < 1000) :
    readA (ansF n (stripF (ownF l) ++ [viaD])) = if lenF (stripF (ownF l)) = none then (0, [], 102) else (n, stripF (ownF l) ++ [viaD], 0) := by
  have hlow : ∀ f ∈ stripF (ownF l) ++ [viaD], lowL f.1.1.data.toList = f.1.1.data.toList := by
    intro f hf
    rcases List.mem_append.1 hf with hf | hf
    · exact (own_ok (strip_mem hf).1).low
    · rw [List.mem_singleton.1 hf]; decide +kernel
  have hpl : ∀ f ∈ stripF (ownF l) ++ [viaD], plainB f = true ∧ pseuB f.1.1 = false := by
    intro f hf
    rcases List.mem_append.1 hf with hf | hf
    · exact strip_plain hf
    · rw [List.mem_singleton.1 hf]; exact via_plain
  have hp : pseuB statB = true := by decide +kernel
  have hk : knownB [statB] Gt.none.1 statB = true := by rw [known_in (by simp)]; rfl
  have e1 : askG [statB] Gt.none ((statB, mkS (decS n)), false) = ((fun j => if j = statB then some (mkS (decS n)) else Gt.none.1 j, []), 0) := by
    unfold askG
    simp only [hp, hk, if_true]
    simp [Gt.none]
  unfold readA ansF
  rw [low_map hlow, gathF, e1]
  simp only [if_true]
  rw [gath_plain _ _ hpl]
  simp only [ne_eq, not_true_eq_false, if_false, if_true, Option.getD_some, List.nil_append]
  rw [mkS_list, mkS_size, decS3 h1 h2, dec3 n h2 h1, len_via]
  simp [show ¬ n < 100 by omega]
/-- Nothing of the connection is told. -/
theorem told_apart {l : List Fd} {k : Nat} {f : Fd} (h : (stripF l ++ [viaD])[k]? = some f) : f.1.1 ≠ con1 ∧ f.1.1 ≠ con4 ∧ (k + 1 < (stripF l ++ [viaD]).length → hasF l con1 f.1.1 = false) := by
  have hor : f ∈ stripF l ∨ f = viaD := by
    rcases List.mem_append.1 (List.mem_of_getElem? h) with h | h
    · exact .inl h
    · exact .inr (List.mem_singleton.1 h)
  refine ⟨?_, ?_, fun hk => ?_⟩
  · rcases hor with h | rfl
    · exact strip_ne h (by simp [nine])
    · decide +kernel
  · rcases hor with h | rfl
    · exact strip_ne h (by simp [nine])
    · decide +kernel
  · have hm : f ∈ stripF l := by
      rw [List.getElem?_append_left (by simp at hk; omega)] at h
      exact List.mem_of_getElem? h
    unfold hasF
    rw [List.any_eq_false]
    intro x hx
    have := (strip_mem hm).2 x (List.mem_append_right _ hx)
    simp [this]
end Go.Proofs.YtpkmciohehaboaaGreatDoor

/- The walk of gather's closure 'ask'. (under way) -/
namespace Go.Proofs.YtpkmciohehaboaaGreatDoor
open Go.RowKit Go.Maps

/-- What 'ask' leaves: the state of what it gathered; nothing below B was touched. -/
def AskPost (w : World) (B : Nat) (A : Option Addr) (n c : Nat) (names : List ByteArray) (N k : Nat) (R : Gt × Nat) (e : Ending) (w' : World) : Prop :=
  e = .returned (.int .i64 (R.2 : Int)) ∧ (∃ v k', k' ≤ k + 1 ∧ GAt B A n c names v (N + 1) k' R.1 w') ∧ Below B w w'
theorem GAt.more {B n c N N' k : Nat} {A : Option Addr} {names : List ByteArray} {v : Value} {G : Gt} {w : World} (h : GAt B A n c names v N k G w) (hN : N ≤ N') : GAt B A n c names v N' k G w := ⟨h.sz, h.rd, h.cn, h.mp.more hN, h.cs, h.cr, h.ck, h.row⟩
theorem GAt.grow {B n c N N' k k' : Nat} {A : Option Addr} {names : List ByteArray} {v : Value} {G : Gt} {w w' : World} {f : ByteArray → Option ByteArray} (h : GAt B A n c names v N k G w) (hm : GMap mWords w' (B + 1) N' f k') (hg : w.grownBy w' (some (B + 1))) : GAt B A n c names v N' k' (f, G.2) w' := by
  have hs := h.sz
  have hk : ∀ j, j < w.heap.size → j ≠ B + 1 → w'.heap[j]? = w.heap[j]? := fun j hj hne => hg.block j hj (fun e => by injection e with e; omega)
  refine ⟨Nat.le_trans hs hg.size, h.rd.keep fun b o hb => World.cell?_of_block (a := ⟨b, o, none⟩) (hk b (by omega) (by omega)), (hk _ (by omega) (by omega)).trans h.cn, hm, (hk _ (by omega) (by omega)).trans h.cs, (hk _ (by omega) (by omega)).trans h.cr, (hk _ (by omega) (by omega)).trans h.ck, ?_⟩
  obtain ⟨h1, h2⟩ := h.row
  refine ⟨h1, ?_⟩
  rcases h2 with h2 | ⟨g, cap, cur, e1, e2, e3, e4⟩
  · exact .inl h2
  · exact .inr ⟨g, cap, cur, e1, e2, (hk g (Array.getElem?_eq_some_iff.1 e3).1 (by omega)).trans e3, e4⟩
/-- One plain field more. -/
theorem GAt.app {B n c N k : Nat} {A : Option Addr} {names : List ByteArray} {v v3 : Value} {G : Gt} {w w3 : World} {o : Obj} (fd : Fd) (h : GAt B A n c names v N k G w)
    (hown : w3.ownsRow (B + 5) 26 3 v3 (G.2.length + 1) (fds G.2 ++ [.string fd.1.1, .string fd.1.2, .bool fd.2])) (hg : (w.alloc o).grownBy w3 v.ownBlock) :
    GAt B A n c names v3 N k (G.1, G.2 ++ [fd]) (w3.setCell ⟨B + 3, 0, none⟩ v3) ∧ Below B w (w3.setCell ⟨B + 3, 0, none⟩ v3) := by
  have hs := h.sz
  have hb3 : Below (B + 5) w w3 := Below.app ((Below.refl _ _).alloc hs _) (own_kept4 h.row ((Kept.refl (fun _ => False) w).alloc o) (fun _ _ h => h)) hg (Nat.le_refl _) (by simp; omega)
  have hk : ∀ j, j < B + 5 → j ≠ B + 3 → (w3.setCell ⟨B + 3, 0, none⟩ v3).heap[j]? = w.heap[j]? := fun j hj hne => (Below.heap_setCell _ _ _ _ hne).trans (hb3.block j hj)
  refine ⟨⟨?_, h.rd.keep fun b o hb => World.cell?_of_block (a := ⟨b, o, none⟩) (hk b (by omega) (by omega)), (hk _ (by omega) (by omega)).trans h.cn, h.mp.keep (hk _ (by omega) (by omega)), (hk _ (by omega) (by omega)).trans h.cs, ?_, (hk _ (by omega) (by omega)).trans h.ck, ?_⟩, ?_⟩
  · have := hb3.size; simp [World.setCell]; omega
  · have h3 : w3.heap[B + 3]? = some (.cells #[v] 22 (0, 0)) := (hb3.block _ (by omega)).trans h.cr
    rw [set_b _ h3]; rfl
  · rw [List.length_append, fds_app]
    exact own_kept4 hown ((Kept.refl (fun k => k = B + 3) w3).setCell rfl 0 v3) (fun q hq e => by have := (World.ownsRow.lt hown q hq).1; omega)
  · exact (hb3.mono (by omega)).setCell (by show B ≤ B + 3; omega) _
set_option maxRecDepth 100000 in
set_option maxHeartbeats 8000000 in
theorem ask_any {B n c N k : Nat} {A : Option Addr} {names : List ByteArray} {v : Value} {G : Gt} (fd : Fd) (w : World) (hg : GAt B A n c names v N k G w)
    (hn : n ≤ 1048576) (hN : N < 1048576) (hl : G.2.length < 1048576) (h1 : fd.1.1.size ≤ 140737488351232) (h2 : fd.1.2.size ≤ 140737488351232) :
    Calls Tryz.prog 80 #[fdv fd, .pointer (some ⟨B + 3, 0, none⟩), .pointer (some ⟨B + 4, 0, none⟩), .pointer (some ⟨B + 2, 0, none⟩)] w (AskPost w B A n c names N k (askG names G fd)) := by
  obtain ⟨R, hR⟩ : ∃ R, askG names G fd = R := ⟨_, rfl⟩
  rw [hR]
  have HR := Lib.hid hR
  have HG := Lib.hid hg
  have HP := Lib.hid (fun w => pseudo_any fd w)
  have HPL := Lib.hid (fun w => plain_any fd w h1 h2)
  clear hR hg
  obtain ⟨⟨nm, vl⟩, nv⟩ := fd
  unfold fdv at HP HPL ⊢
  dsimp only at HP HPL h1 h2 ⊢
  have hblk := heap_alloc_new w (.cells #[.string nm, .string vl, .bool nv] 26)
  have hqa : w.heap.size < (w.alloc (.cells #[.string nm, .string vl, .bool nv] 26)).heap.size := by rw [World.alloc, Array.size_push]; exact Nat.lt_succ_self _
  have HW := Lib.hid ((Below.refl w.heap.size w).alloc (Nat.le_refl _) (.cells #[.string nm, .string vl, .bool nv] 26))
  go_enter Tryz.func80, Tryz.ntmps80
  go_wp2_with fail
  generalize hq : w.heap.size = q at *
  generalize hwa : w.alloc (.cells #[.string nm, .string vl, .bool nv] 26) = wa at *
  have c0 : wa.cell? ⟨q, 0, none⟩ = some (.string nm) := by unfold World.cell?; rw [hblk]; rfl
  have c1 : wa.cell? ⟨q, 1, none⟩ = some (.string vl) := by unfold World.cell?; rw [hblk]; rfl
  refine (HP.out wa).mono ?_
  rintro e w1 ⟨rfl, hb1⟩
  have C0 := Lib.hid ((hb1.cell (p := ⟨q, 0, none⟩) hqa).trans c0)
  have C1 := Lib.hid ((hb1.cell (p := ⟨q, 1, none⟩) hqa).trans c1)
  have CH := Lib.hid ((hb1.block q hqa).trans hblk)
  have HB := Lib.hid (HW.out.trans (hb1.mono (Nat.le_of_lt hqa)))
  have HG1 := Lib.hid (HG.out.below (by rw [hq]; exact HB.out))
  have HBB := Lib.hid (HB.out.mono (B' := B) (by have := HG.out.sz; omega))
  have HQ := Lib.hid (And.intro hq (Nat.lt_of_lt_of_le hqa hb1.size))
  clear hb1 c0 c1 hblk hqa hq hwa HP HG HW
  obtain ⟨a, cap, hv⟩ : ∃ a cap, v = .slice a G.2.length cap := by
    rcases HG1.out.row.2 with ⟨e1, e2⟩ | ⟨g, cap, cur, e1, _⟩
    · exact ⟨none, 0, by rw [e1, e2]⟩
    · exact ⟨_, _, e1⟩
  have cr : w1.cell? ⟨B + 3, 0, none⟩ = some (.slice a G.2.length cap) := by rw [← hv]; unfold World.cell?; rw [HG1.out.cr]; rfl
  have ck : w1.cell? ⟨B + 4, 0, none⟩ = some (.func (.func 79) #[] #[.pointer (some ⟨B, 0, none⟩), .pointer (some ⟨B + 2, 0, none⟩)]) := by unfold World.cell?; rw [HG1.out.ck]; rfl
  have cs : w1.cell? ⟨B + 2, 0, none⟩ = some (.map (some (B + 1))) := by unfold World.cell?; rw [HG1.out.cs]; rfl
  have cn : w1.cell? ⟨B, 0, none⟩ = some (.slice A n c) := by unfold World.cell?; rw [HG1.out.cn]; rfl
  have HKN := Lib.hid (known_any nm w1 ⟨HG1.out.rd.1, fun h => by obtain ⟨b, o, e1, e2, e3⟩ := HG1.out.rd.2 h; exact ⟨b, o, e1, by have := HG1.out.sz; omega, e3⟩⟩ hn cn cs HG1.out.mp (by unfold maxLen; omega))
  obtain ⟨L, hL⟩ : ∃ L, G.2.length = L := ⟨_, rfl⟩
  have HV := Lib.hid hv
  have HLL := Lib.hid hL
  rw [hL] at cr
  clear hv hL cn
  have c0 := C0.out
  have c1 := C1.out
  obtain ⟨P, hP⟩ : ∃ P, pseuB nm = P := ⟨_, rfl⟩
  have HPB := Lib.hid hP
  rw [hP]
  clear hP
  cases P with
  | true =>
    by_cases hz : 0 < L
    · have hr : R = (G, 100) := by
        rw [← HR.out]
        unfold askG
        have hne : G.2.isEmpty = false := by
          cases hG : G.2 with
          | nil => have := HLL.out; rw [hG] at this; simp at this; omega
          | cons x y => rfl
        simp [HPB.out, hne]
      have HRR := Lib.hid hr
      clear hr
      have e0 : ((L : Int) > 0) := by omega
      go_wp2_with fail
      go_ret
      rw [HRR.out]
      exact ⟨rfl, ⟨v, k, by omega, HG1.out.more (by omega)⟩, HBB.out⟩
    · have e0 : ¬ ((L : Int) > 0) := by omega
      go_wp2_with fail
      refine HKN.out.mono ?_
      rintro e w2 ⟨rfl, hb2⟩
      have HG2 := Lib.hid (HG1.out.below hb2)
      have HB2 := Lib.hid (HBB.out.trans (hb2.mono (by have := HG1.out.sz; omega)))
      have C02 := Lib.hid ((hb2.cell (p := ⟨q, 0, none⟩) HQ.out.2).trans C0.out)
      have C12 := Lib.hid ((hb2.cell (p := ⟨q, 1, none⟩) HQ.out.2).trans C1.out)
      obtain ⟨KB, hkb⟩ : ∃ KB, knownB names G.1 nm = KB := ⟨_, rfl⟩
      have HKB := Lib.hid hkb
      rw [hkb]
      have hL0 : G.2.isEmpty = true := by
        have := HLL.out
        rw [List.isEmpty_iff, ← List.length_eq_zero_iff]; omega
      have HL0 := Lib.hid hL0
      clear hkb hb2 hL0 c0 c1 cr ck cs
      cases KB with
      | false =>
        have hr : R = (G, 100) := by
          rw [← HR.out]
          unfold askG
          simp [HPB.out, HKB.out]
        have HRR := Lib.hid hr
        clear hr
        go_wp2_with fail
        go_ret
        rw [HRR.out]
        exact ⟨rfl, ⟨v, k, by omega, HG2.out.more (by omega)⟩, HB2.out⟩
      | true =>
        have c0 := C02.out
        have c1 := C12.out
        have cs : w2.cell? ⟨B + 2, 0, none⟩ = some (.map (some (B + 1))) := by unfold World.cell?; rw [HG2.out.cs]; rfl
        obtain ⟨w3, hput, hmp, hgr⟩ := HG2.out.mp.put okWords (i := nm) (by show nm.size ≤ maxLen; unfold maxLen; omega) (by unfold maxLen; omega) vl
        have hput2 : (Instr.mapUpdate 83 (.map (some (B + 1))) (.string nm) (.agg #[.string vl])).run Tryz.prog w2 = .ok () w3 := hput
        have hmp2 := hmp.congr (f' := fun j => if j = nm then some vl else G.1 j) (fun i _ => by by_cases h : i = nm <;> simp [h])
        have HM := Lib.hid (And.intro hmp2 hgr)
        clear hput hmp hmp2 hgr
        have hr : R = ((fun j => if j = nm then some vl else G.1 j, G.2), 0) := by
          rw [← HR.out]
          unfold askG
          simp [HPB.out, HKB.out, HL0.out]
        have HRR := Lib.hid hr
        clear hr
        go_wp2_with fail
        go_ret
        rw [HRR.out]
        refine ⟨rfl, ⟨v, _, ?_, HG2.out.grow HM.out.1 HM.out.2⟩, HB2.out.grown HM.out.2 (by have := HG2.out.sz; omega) (fun j hj => by injection hj with hj; omega)⟩
        split <;> omega
  | false =>
    have c2 : w1.cell? ⟨q, 2, none⟩ = some (.bool nv) := by unfold World.cell?; rw [CH.out]; rfl
    go_wp2_with fail
    refine (HPL.out w1).mono ?_
    rintro e w2 ⟨rfl, hb2⟩
    have HG2 := Lib.hid (HG1.out.below hb2)
    have HB2 := Lib.hid (HBB.out.trans (hb2.mono (by have := HG1.out.sz; omega)))
    have CH2 := Lib.hid ((hb2.block q HQ.out.2).trans CH.out)
    obtain ⟨PB, hpb⟩ : ∃ PB, plainB ((nm, vl), nv) = PB := ⟨_, rfl⟩
    have HPP := Lib.hid hpb
    rw [hpb]
    clear hpb hb2 c0 c1 c2 cr ck cs
    cases PB with
    | false =>
      have hr : R = (G, 101) := by
        rw [← HR.out]
        unfold askG
        simp [HPB.out, HPP.out]
      have HRR := Lib.hid hr
      clear hr
      go_wp2_with fail
      go_ret
      rw [HRR.out]
      exact ⟨rfl, ⟨v, k, by omega, HG2.out.more (by omega)⟩, HB2.out⟩
    | true =>
      have c0 : w2.cell? ⟨q, 0, none⟩ = some (.string nm) := by unfold World.cell?; rw [CH2.out]; rfl
      have c1 : w2.cell? ⟨q, 1, none⟩ = some (.string vl) := by unfold World.cell?; rw [CH2.out]; rfl
      have c2 : w2.cell? ⟨q, 2, none⟩ = some (.bool nv) := by unfold World.cell?; rw [CH2.out]; rfl
      have cr : w2.cell? ⟨B + 3, 0, none⟩ = some v := by unfold World.cell?; rw [HG2.out.cr]; rfl
      have HRW := Lib.hid HG2.out.row
      have hr : R = ((G.1, G.2 ++ [((nm, vl), nv)]), 0) := by
        rw [← HR.out]
        unfold askG
        simp [HPB.out, HPP.out]
      have HRR := Lib.hid hr
      clear hr
      go_wp2_with (at_builtin; refine of_stop ?_)
      unfold Stop
      refine wpList_app (.tmp 27) (.tmp 29) tFields rfl rfl (own_kept4 HRW.out ((Kept.refl (fun _ => False) w2).alloc _) (fun _ _ h => h)) rfl (Rd.one3 _ _ _ _ _) rfl (by simp [Value.oneCell']) (le_maxLen (by omega)) (by omega) (by simp; have := HG2.out.sz; omega) ?_
      intro v3 w3 hown hg3 _
      have HFIN := Lib.hid (HG2.out.app ((nm, vl), nv) hown hg3)
      have h3 : w3.frozen? ⟨B + 3, 0, none⟩ = false ∧ (w3.cell? ⟨B + 3, 0, none⟩) = some v := by
        have hs := HG2.out.sz
        have hb3 : Below (B + 5) w2 w3 := Below.app ((Below.refl _ _).alloc hs _) (own_kept4 HRW.out ((Kept.refl (fun _ => False) w2).alloc _) (fun _ _ h => h)) hg3 (Nat.le_refl _) (by simp; omega)
        have h3 : w3.heap[B + 3]? = some (.cells #[v] 22 (0, 0)) := (hb3.block _ (by omega)).trans HG2.out.cr
        constructor
        · unfold World.frozen?; rw [h3]; rfl
        · unfold World.cell?; rw [h3]; rfl
      obtain ⟨hfz, hcl⟩ := h3
      obtain ⟨A3, c3, hv3, -, -, -, -⟩ := own_slice hown
      subst hv3
      clear hown hg3 c0 c1 c2 cr
      go_wp2_with fail
      go_ret
      rw [HRR.out]
      exact ⟨rfl, ⟨_, k, by omega, HFIN.out.1.more (by omega)⟩, HB2.out.trans HFIN.out.2⟩
end Go.Proofs.YtpkmciohehaboaaGreatDoor

/- The walk of head.gather. -/
namespace Go.Proofs.YtpkmciohehaboaaGreatDoor
open Go.RowKit Go.Maps

/-- What gather hands back. -/
def GPost (w : World) (n : Nat) (R : Gt × Nat) (e : Ending) (w' : World) : Prop :=
  (∃ mv rv, e = .returned (.tuple #[mv, rv, .int .i64 (R.2 : Int)]) ∧
    (R.2 = 0 → ∃ mb k, mv = .map (some mb) ∧ w.heap.size ≤ mb ∧ GMap mWords w' mb n R.1.1 k ∧ w'.ownsRow w.heap.size 26 3 rv R.1.2.length (fds R.1.2)) ∧
    (R.2 ≠ 0 → mv = .map none ∧ rv = .slice none 0 0)) ∧ Below w.heap.size w w'
theorem ask_err {names : List ByteArray} {G : Gt} {f : Fd} (h : (askG names G f).2 ≠ 0) : (askG names G f).1 = G := by
  unfold askG at h ⊢
  split
  · split
    · rfl
    · rename_i h1 h2; simp [h1, h2] at h
  · split
    · rename_i h1 h2; simp [h1, h2] at h
    · rfl
theorem gath_split {names : List ByteArray} : ∀ (l : List Fd) (r : List Fd) (G : Gt), (gathF names G l).2 = 0 → gathF names G (l ++ r) = gathF names (gathF names G l).1 r
  | [], r, G, _ => by simp [gathF]
  | f :: l, r, G, h => by
    rw [List.cons_append, gathF, gathF]
    rw [gathF] at h
    by_cases e : (askG names G f).2 = 0
    · rw [if_pos e] at h
      rw [if_pos e, if_pos e]
      exact gath_split l r _ h
    · rw [if_neg e] at h
      exact absurd h e
theorem gath_snoc {names : List ByteArray} {l : List Fd} {k : Nat} {f : Fd} {G0 G : Gt} (hf : l[k]? = some f) (h : gathF names G0 (l.take k) = (G, 0)) : gathF names G0 (l.take (k + 1)) = askG names G f := by
  rw [List.take_add_one, hf, Option.toList_some, gath_split _ _ _ (by rw [h]), h, gathF, gathF]
  by_cases e : (askG names G f).2 = 0
  · rw [if_pos e]; exact Prod.ext rfl e.symm
  · rw [if_neg e]
theorem gath_stop {names : List ByteArray} : ∀ (l : List Fd) (G0 : Gt) (k : Nat), (gathF names G0 (l.take k)).2 ≠ 0 → gathF names G0 l = gathF names G0 (l.take k)
  | [], G0, k, h => by simp
  | f :: l, G0, 0, h => by simp [gathF] at h
  | f :: l, G0, k + 1, h => by
    rw [List.take_succ_cons, gathF] at h ⊢
    rw [gathF]
    by_cases e : (askG names G0 f).2 = 0
    · rw [if_pos e] at h
      rw [if_pos e, if_pos e]
      exact gath_stop l _ k h
    · rw [if_neg e, if_neg e]
/-- The state of gather's loop. -/
def GaRel (w : World) (A : Option Addr) (n1 c1 n : Nat) (names : List ByteArray) (l : List Fd) (iv : Value) (wr : World) : Prop :=
  ∃ k G v m, iv = .int .i64 (k : Nat) ∧ k ≤ n ∧ m ≤ k ∧ gathF names Gt.none (l.take k) = (G, 0) ∧ GAt w.heap.size A n1 c1 names v k m G wr ∧ Below w.heap.size w wr ∧ G.2.length ≤ k
theorem ask_len {names : List ByteArray} {G : Gt} {f : Fd} : (askG names G f).1.2.length ≤ G.2.length + 1 := by
  unfold askG
  repeat' split
  all_goals simp
/-- The value of 'known'. -/
def knV (B : Nat) : Value := .func (.func 79) #[] #[.pointer (some ⟨B, 0, none⟩), .pointer (some ⟨B + 2, 0, none⟩)]
/-- The boxes as they are made. -/
def gaW (A : Option Addr) (n c : Nat) (w : World) : World := (((w.alloc (.cells #[.slice A n c] 80)).alloc (.map #[] 0)).alloc (.cells #[.map (some (w.heap.size + 1))] 83)).alloc (.cells #[.slice none 0 0] 22)
theorem gaW_size (A : Option Addr) (n c : Nat) (w : World) : (gaW A n c w).heap.size = w.heap.size + 4 := by simp [gaW]
theorem gat_made {A : Option Addr} {n c : Nat} {names : List ByteArray} (w : World) (hr : Rd w w.heap.size 1 A n (strs names)) :
    GAt w.heap.size A n c names (.slice none 0 0) 0 0 Gt.none ((gaW A n c w).alloc (.cells #[knV w.heap.size] 77)) ∧ Below w.heap.size w ((gaW A n c w).alloc (.cells #[knV w.heap.size] 77)) := by
  have hb : Below w.heap.size w ((gaW A n c w).alloc (.cells #[knV w.heap.size] 77)) := by
    unfold gaW
    exact (((((Below.refl _ _).alloc (Nat.le_refl _) _).alloc (by simp) _).alloc (by simp; omega) _).alloc (by simp; omega) _).alloc (by simp; omega) _
  have e0 : ∀ o, ((gaW A n c w).alloc o).heap[w.heap.size]? = some (.cells #[.slice A n c] 80 (0, 0)) := fun o => by
    unfold gaW World.alloc
    simp only [Array.getElem?_push, Array.size_push]
    repeat (first | rw [if_pos (by omega)] | rw [if_neg (by omega)] | rw [if_pos trivial])
  have e1 : ∀ o, ((gaW A n c w).alloc o).heap[w.heap.size + 1]? = some (.map #[] 0) := fun o => by
    unfold gaW World.alloc
    simp only [Array.getElem?_push, Array.size_push]
    repeat (first | rw [if_pos (by omega)] | rw [if_neg (by omega)] | rw [if_pos trivial])
  have e2 : ∀ o, ((gaW A n c w).alloc o).heap[w.heap.size + 2]? = some (.cells #[.map (some (w.heap.size + 1))] 83 (0, 0)) := fun o => by
    unfold gaW World.alloc
    simp only [Array.getElem?_push, Array.size_push]
    repeat (first | rw [if_pos (by omega)] | rw [if_neg (by omega)] | rw [if_pos trivial])
  have e3 : ∀ o, ((gaW A n c w).alloc o).heap[w.heap.size + 3]? = some (.cells #[.slice none 0 0] 22 (0, 0)) := fun o => by
    unfold gaW World.alloc
    simp only [Array.getElem?_push, Array.size_push]
    repeat (first | rw [if_pos (by omega)] | rw [if_neg (by omega)] | rw [if_pos trivial])
  have e4 : ∀ o, ((gaW A n c w).alloc o).heap[w.heap.size + 4]? = some o := fun o => by
    rw [← gaW_size A n c w]; exact heap_alloc_new _ _
  refine ⟨⟨?_, hr.below hb (Nat.le_refl _), e0 _, ?_, e2 _, e3 _, e4 _, World.ownsRow_nil _ _ _ _⟩, hb⟩
  · rw [World.alloc, Array.size_push, gaW_size]
    omega
  · have h0 := gmap_made mWords (w.alloc (.cells #[.slice A n c] 80))
    have hs : (w.alloc (.cells #[.slice A n c] 80)).heap.size = w.heap.size + 1 := by simp
    rw [hs] at h0
    refine h0.keep ?_
    rw [e1, ← hs]
    exact (heap_alloc_new _ _).symm
set_option maxRecDepth 100000 in
set_option maxHeartbeats 8000000 in
theorem gather_any {A A1 : Option Addr} {n c n1 c1 : Nat} {l : List Fd} {names : List ByteArray} (w : World) (hl : Rd w w.heap.size 3 A n (fds l)) (hn : n ≤ 1048575) (hz : Tx l)
    (hr : Rd w w.heap.size 1 A1 n1 (strs names)) (hn1 : n1 ≤ 1048576) :
    Calls Tryz.prog 39 #[.slice A n c, .slice A1 n1 c1] w (GPost w n (gathF names Gt.none l)) := by
  have HL := Lib.hid hl
  have HR := Lib.hid hr
  have HZ := Lib.hid hz
  obtain ⟨R, hR⟩ : ∃ R, gathF names Gt.none l = R := ⟨_, rfl⟩
  rw [hR]
  have HRR := Lib.hid hR
  clear hl hr hR hz
  have hmm := @run_makeMap Tryz.prog
  have hmf : ∀ fn first cap w, (Instr.makeFunc fn first cap).run Tryz.prog w = .ok (.func fn first cap) w := fun _ _ _ _ => rfl
  go_enter Tryz.func39, Tryz.ntmps39
  go_wp2_with (refine wpList_store_oneTo rfl 77 (.tmp 9) (.tmp 15) rfl rfl (w.heap.size + 4) (knV w.heap.size) rfl rfl rfl 77 .nilFunc (by rw [← gaW_size A1 n1 c1 w]; exact heap_alloc_new (gaW A1 n1 c1 w) _) (by kernel_rfl) ?_)
  rw [show ∀ o, ((((w.alloc (.cells #[.slice A1 n1 c1] 80)).alloc (.map #[] 0)).alloc (.cells #[.map (some (w.heap.size + 1))] 83)).alloc (.cells #[.slice none 0 0] 22)).alloc o = (gaW A1 n1 c1 w).alloc o from fun _ => rfl]
  rw [← gaW_size A1 n1 c1 w, World.setRow_alloc_new]
  have HG0 := Lib.hid (gat_made (c := c1) w HR.out)
  generalize ((gaW A1 n1 c1 w).alloc (.cells #[knV w.heap.size] 77)) = W0 at *
  rw [gaW_size]
  go_loopw [19] (fun iv wr => GaRel w A1 n1 c1 n names l iv wr) (fun iv _ => n - (intOf iv).toNat)
  case atStart => exact ⟨0, Gt.none, _, 0, rfl, Nat.zero_le _, Nat.le_refl _, by simp [gathF], HG0.out.1, HG0.out.2, Nat.le_refl _⟩
  case round =>
    obtain ⟨k, G, v, m, rfl, hk, hm, hga, hg, hb, hgl⟩ := hrel
    have HG := Lib.hid hg
    have HB := Lib.hid hb
    have HGA := Lib.hid hga
    have HGL := Lib.hid hgl
    have hsr := hb.size
    clear hg hb hga hgl
    by_cases hlt : k < n
    · obtain ⟨hll, b, o, rfl, hbl, hc⟩ := fd_at (HL.out.below HB.out (Nat.le_refl _)) (by omega)
      obtain ⟨f, hf⟩ : ∃ f, l[k]? = some f := ⟨_, List.getElem?_eq_getElem (by omega)⟩
      obtain ⟨z0, z1, z2⟩ := hc k f hf
      have n0 : (k : Int) < n := by omega
      have HF := Lib.hid hf
      have hbw : b < wr.heap.size := by omega
      have hsz := HG.out.sz
      clear hc hf hll
      obtain ⟨⟨nm, vl⟩, nv⟩ := f
      simp only at z0 z1 z2
      have hask := ask_any ((nm, vl), nv) (wr.alloc (.cells #[.string nm, .string vl, .bool nv] 26)) (HG.out.below ((Below.refl _ _).alloc (Nat.le_refl _) _)) hn1 (by omega) (by have := HGL.out; omega) ((HZ.out _ (List.mem_of_getElem? HF.out)).1) ((HZ.out _ (List.mem_of_getElem? HF.out)).2)
      have HASK := Lib.hid hask
      clear hask
      go_wp2_with fail
      refine HASK.out.mono ?_
      rintro e w2 ⟨rfl, ⟨v2, k2, hk2, hg2⟩, hb2⟩
      have hsn := gath_snoc HF.out HGA.out
      have hln := ask_len (names := names) (G := G) (f := ((nm, vl), nv))
      have herr := ask_err (names := names) (G := G) (f := ((nm, vl), nv))
      obtain ⟨⟨G2, e2⟩, hR2⟩ : ∃ R2, askG names G ((nm, vl), nv) = R2 := ⟨_, rfl⟩
      rw [hR2] at hsn hg2 hln herr
      rw [hR2]
      have HB2 : Hid (Below w.heap.size w w2) := Lib.hid ((HB.out.alloc (by omega) _).trans hb2)
      have HH := Lib.hid (And.intro hsn (And.intro hg2 (And.intro hk2 (And.intro hln herr))))
      clear hsn hg2 hk2 hln herr hR2 hb2 HASK
      by_cases h0 : e2 = 0
      · subst h0
        have hn0 : (((0 : Nat) : Int) == 0) = true := rfl
        go_wp2_with fail
        go_roundw
        case rel =>
          obtain ⟨h1, h2, h3, h4, h5⟩ := HH.out
          exact ⟨k + 1, G2, v2, k2, by go_num, by omega, by omega, h1, h2, HB2.out, by have := HGL.out; omega⟩
        case measure => simp [intOf]; omega
      · have hn0 : ((e2 : Int) == 0) = false := by simp; omega
        have HR2 : Hid (R = (G2, e2)) := Lib.hid (by
          obtain ⟨h1, h2, h3, h4, h5⟩ := HH.out
          rw [← HRR.out, gath_stop l Gt.none (k + 1) (by rw [h1]; exact h0), h1])
        go_wp2_with fail
        have HE : GPost w n R (.returned (.tuple #[.map none, .slice none 0 0, .int .i64 (e2 : Int)])) w2 := by
          rw [HR2.out]
          exact ⟨⟨_, _, rfl, fun h => absurd h h0, fun _ => ⟨rfl, rfl⟩⟩, HB2.out⟩
        exact bodyPost_ret (v := .tuple #[.map none, .slice none 0 0, .int .i64 (e2 : Int)]) (by simp [results, Tryz.results39, go_sem]) rfl HE
    · have hkn : k = n := by omega
      have hll : l.length = n := by have := HL.out.1; rw [fds_length] at this; omega
      have HR2 : Hid (R = (G, 0)) := Lib.hid (by
        have := HGA.out
        rwa [List.take_of_length_le (by omega), HRR.out] at this)
      obtain ⟨a, cap, hv⟩ : ∃ a cap, v = .slice a G.2.length cap := by
        rcases HG.out.row.2 with ⟨e1, e2⟩ | ⟨g, cap, cur, e1, _⟩
        · exact ⟨none, 0, by rw [e1, e2]⟩
        · exact ⟨_, _, e1⟩
      have cs : wr.cell? ⟨w.heap.size + 1 + 1, 0, none⟩ = some (.map (some (w.heap.size + 1))) := by unfold World.cell?; rw [show w.heap.size + 1 + 1 = w.heap.size + 2 from rfl, HG.out.cs]; rfl
      have cr : wr.cell? ⟨w.heap.size + 1 + 1 + 1, 0, none⟩ = some v := by unfold World.cell?; rw [show w.heap.size + 1 + 1 + 1 = w.heap.size + 3 from rfl, HG.out.cr]; rfl
      have HE : Hid (GPost w n R (.returned (.tuple #[.map (some (w.heap.size + 1)), v, .int .i64 0])) wr.drew) := Lib.hid (by
        rw [HR2.out]
        refine ⟨⟨_, _, rfl, fun _ => ⟨_, m, rfl, by omega, (HG.out.mp.more (by omega)).keep rfl, ?_⟩, fun h => absurd rfl h⟩, HB.out.trans (by exact ⟨rfl, rfl, rfl, Nat.le_refl _, fun _ _ => rfl⟩)⟩
        exact own_base HG.out.row (by omega))
      rw [hv] at HE cr
      clear hv hll
      go_wp2_with fail
      go_region
      go_wp2
      exact bodyPost_ret (v := .tuple #[.map (some (w.heap.size + 1)), .slice a G.2.length cap, .int .i64 0]) (by simp [results, Tryz.results39, go_sem]) rfl HE.out
end Go.Proofs.YtpkmciohehaboaaGreatDoor

/- The walk of head.Answer. -/
namespace Go.Proofs.YtpkmciohehaboaaGreatDoor
open Go.RowKit Go.Maps

/-- An own row of fields. -/
def OwnFds (w : World) (l : List Fd) (v : Value) (w' : World) : Prop := w'.ownsRow w.heap.size 26 3 v l.length (fds l) ∧ Below w.heap.size w w'
theorem ansF_take {n : Nat} {l : List Fd} {k : Nat} {f : Fd} (h : l[k]? = some f) : ansF n (l.take (k + 1)) = ansF n (l.take k) ++ [((mkS (lowL f.1.1.data.toList), f.1.2), f.2)] := by
  unfold ansF
  rw [List.take_add_one, h, Option.toList_some, List.map_append]
  rfl
theorem ansF_len {n : Nat} {l : List Fd} : (ansF n l).length = l.length + 1 := by simp [ansF]
def AnRel (w : World) (n s : Nat) (l : List Fd) (ov iv : Value) (wr : World) : Prop := ∃ k : Nat, iv = .int .i64 k ∧ k ≤ n ∧ OwnFds w (ansF s (l.take k)) ov wr
/-- A new row of one field. -/
theorem ownFds_one (w w1 : World) (f : Fd) (hb : Below w.heap.size w w1) : OwnFds w [f] (.slice (some ⟨w1.heap.size, 0, none⟩) 1 1) (w1.alloc (.cells #[.string f.1.1, .string f.1.2, .bool f.2] 26)) :=
  ⟨own_one w1 w.heap.size _ _ _ _ hb.size, hb.alloc hb.size _⟩
/-- One field more. -/
theorem OwnFds.app {w wr w2 w3 : World} {l : List Fd} {v v3 : Value} (f : Fd) (h : OwnFds w l v wr) (h2 : Below wr.heap.size wr w2) (o : Obj) (hown : w3.ownsRow w.heap.size 26 3 v3 (l.length + 1) (fds l ++ [.string f.1.1, .string f.1.2, .bool f.2])) (hg : (w2.alloc o).grownBy w3 v.ownBlock) :
    OwnFds w (l ++ [f]) v3 w3 := by
  have hs := h.2.size
  have hs2 := h2.size
  refine ⟨?_, Below.app ((h.2.trans (h2.mono hs)).alloc (by omega) o) (own_kept4 h.1 (((Kept.of_below h2).alloc o).mono (G := fun _ => False) (fun _ h => h)) (fun _ _ h => h)) hg (Nat.le_refl _) (by simp; omega)⟩
  rw [List.length_append, fds_app]
  exact hown
/-- The row lives on where only newer blocks turn. -/
theorem own_later {w wr w2 : World} {l : List Fd} {v : Value} (h : OwnFds w l v wr) (h2 : Below wr.heap.size wr w2) (o : Obj) : (w2.alloc o).ownsRow w.heap.size 26 3 v l.length (fds l) :=
  own_kept4 h.1 ((Kept.of_below h2).alloc o) (fun _ _ h => h)
set_option maxRecDepth 100000 in
set_option maxHeartbeats 8000000 in
theorem answer_any {A : Option Addr} {n c s : Nat} {l : List Fd} (w : World) (hl : Rd w w.heap.size 3 A n (fds l)) (hn : n ≤ 1048575) (hz : Tx l) (h1 : 100 ≤ s) (h2 : s ≤ 999) :
    Calls Tryz.prog 8 #[.int .i64 (s : Int), .slice A n c] w (fun e w' => ∃ v, e = .returned (.tuple #[v, .int .i64 0]) ∧ OwnFds w (ansF s l) v w') := by
  have HL := Lib.hid hl
  have HZ := Lib.hid hz
  have HD := Lib.hid (fun w => odigits_any s w (by omega))
  clear hl hz
  have s1 : ¬ ((s : Int) < 100) := by omega
  have s2 : ¬ ((s : Int) > 999) := by omega
  go_enter Tryz.func8, Tryz.ntmps8
  go_wp2_with fail
  refine (HD.out w).mono ?_
  rintro e w1 ⟨rfl, hb1⟩
  have H0 := Lib.hid (ownFds_one w w1 ((statB, mkS (decS s)), false) hb1)
  unfold statB at H0
  dsimp only at H0
  clear hb1
  go_wp2_with fail
  generalize (w1.alloc (.cells #[.string ⟨#[58, 115, 116, 97, 116, 117, 115]⟩, .string (mkS (decS s)), .bool false] 26)) = w2 at *
  go_loopw [6, 21] (fun ov iv wr => AnRel w n s l ov iv wr) (fun _ iv _ => n - (intOf iv).toNat)
  case atStart => exact ⟨0, rfl, Nat.zero_le _, H0.out⟩
  case round =>
    obtain ⟨k, rfl, hk, hown⟩ := hrel
    have HO := Lib.hid hown
    have hsr := hown.2.size
    clear hown
    by_cases hlt : k < n
    · obtain ⟨hll, b, o, rfl, hbl, hc⟩ := fd_at (HL.out.below HO.out.2 (Nat.le_refl _)) (by omega)
      obtain ⟨f, hf⟩ : ∃ f, l[k]? = some f := ⟨_, List.getElem?_eq_getElem (by omega)⟩
      obtain ⟨z0, z1, z2⟩ := hc k f hf
      have n0 : (k : Int) < n := by omega
      have hbw : b < wr.heap.size := by omega
      have HA := Lib.hid (ansF_take (n := s) hf)
      have hlen : (ansF s (l.take k)).length = k + 1 := by rw [ansF_len, List.length_take]; omega
      have HLO := Lib.hid (fun w => lower_any f.1.1 w (by have := (HZ.out f (List.mem_of_getElem? hf)).1; omega))
      clear hc hf hll
      obtain ⟨⟨nm, vl⟩, nv⟩ := f
      simp only at z0 z1 z2 HLO HA
      go_wp2_with fail
      refine (HLO.out _).mono ?_
      rintro e w2' ⟨rfl, hb2⟩
      have hqs : (wr.alloc (.cells #[.string nm, .string vl, .bool nv] 26)).heap.size = wr.heap.size + 1 := by simp
      have hq := (hb2.block wr.heap.size (by omega)).trans (heap_alloc_new wr _)
      have hb3 : Below wr.heap.size wr w2' := ((Below.refl _ _).alloc (Nat.le_refl _) _).trans (hb2.mono (by omega))
      have c0 : w2'.cell? ⟨wr.heap.size, 0, none⟩ = some (.string nm) := by unfold World.cell?; rw [hq]; rfl
      have c1 : w2'.cell? ⟨wr.heap.size, 1, none⟩ = some (.string vl) := by unfold World.cell?; rw [hq]; rfl
      have c2 : w2'.cell? ⟨wr.heap.size, 2, none⟩ = some (.bool nv) := by unfold World.cell?; rw [hq]; rfl
      have hfz : w2'.frozen? ⟨wr.heap.size, 0, none⟩ = false := by unfold World.frozen?; rw [hq]; rfl
      have HB3 : Hid (Below wr.heap.size wr (w2'.setCell ⟨wr.heap.size, 0, none⟩ (.string (mkS (lowL nm.data.toList))))) := Lib.hid (hb3.setCell (Nat.le_refl _) _)
      have hsz2 := hb3.size
      clear hq hb2 hb3 HLO
      rw [show (⟨(lowL nm.data.toList).toArray⟩ : ByteArray) = mkS (lowL nm.data.toList) from rfl]
      go_wp2_with (at_builtin; refine of_stop ?_)
      unfold Stop
      have hs4 : (w2'.setCell ⟨wr.heap.size, 0, none⟩ (.string (mkS (lowL nm.data.toList)))).heap.size = w2'.heap.size := by simp
      generalize (w2'.setCell ⟨wr.heap.size, 0, none⟩ (.string (mkS (lowL nm.data.toList)))) = w4 at *
      have hsz4 := HB3.out.size
      have hrd1 := Rd.one3 w4 (.string (mkS (lowL nm.data.toList))) (.string vl) (.bool nv) 26
      rw [hs4] at hrd1
      refine wpList_app (.tmp 29) (.tmp 31) tFields rfl rfl (own_later HO.out HB3.out _) rfl hrd1 rfl (by simp [Value.oneCell']) (le_maxLen (by omega)) (by omega) (by simp; omega) ?_
      intro v5 w5 hown5 hg5 _
      have HN : Hid (AnRel w n s l v5 (.int .i64 (k + 1 : Nat)) w5) := Lib.hid (by
        refine ⟨k + 1, rfl, hlt, ?_⟩
        rw [HA.out]
        exact HO.out.app ((mkS (lowL nm.data.toList), vl), nv) HB3.out _ hown5 hg5)
      obtain ⟨A5, c5, hv5, -, -, -, -⟩ := own_slice hown5
      rw [hv5] at HN ⊢
      clear hown5 hg5 hv5 c0 c1 c2 hfz
      go_wp2
      go_roundw
      case rel => have := HN.out; rw [hlen] at this; exact this
      case measure => simp [intOf]; omega
    · have hkn : k = n := by omega
      have hll : l.length = n := by have := HL.out.1; rw [fds_length] at this; omega
      have HE : Hid (OwnFds w (ansF s l) u6 wr) := Lib.hid (by
        have h1 := HO.out
        rwa [List.take_of_length_le (by omega)] at h1)
      clear hll
      go_wp2
      exact bodyPost_ret (v := .tuple #[u6, .int .i64 0]) (by simp [results, Tryz.results8, go_sem]) rfl ⟨_, rfl, HE.out⟩
end Go.Proofs.YtpkmciohehaboaaGreatDoor

/- The walk of hop.Values. -/
namespace Go.Proofs.YtpkmciohehaboaaGreatDoor
open Go.RowKit Go.Maps

theorem sameVals_snoc {l : List Fd} {k : Nat} {f : Fd} (h : l[k]? = some f) (name : ByteArray) : sameVals (l.take (k + 1)) name = sameVals (l.take k) name ++ (if sameL f.1.1.data.toList name.data.toList = true then [f.1.2] else []) := by
  rw [List.take_add_one, h, Option.toList_some]
  unfold sameVals
  rw [List.filter_append, List.map_append]
  congr 1
  by_cases hn : sameL f.1.1.data.toList name.data.toList <;> simp [hn]
theorem sameVals_le (l : List Fd) (name : ByteArray) : (sameVals l name).length ≤ l.length := by
  unfold sameVals
  rw [List.length_map]
  exact List.length_filter_le _ _
theorem sameVals_mem {l : List Fd} {name s : ByteArray} (h : s ∈ sameVals l name) : ∃ f ∈ l, f.1.2 = s := by
  unfold sameVals at h
  obtain ⟨f, hf, rfl⟩ := List.mem_map.1 h
  exact ⟨f, (List.mem_filter.1 hf).1, rfl⟩
def SvRel (w : World) (n : Nat) (l : List Fd) (name : ByteArray) (ov iv : Value) (wr : World) : Prop := ∃ k : Nat, iv = .int .i64 k ∧ k ≤ n ∧ wr.ownsRow w.heap.size 9 1 ov (sameVals (l.take k) name).length (strs (sameVals (l.take k) name)) ∧ Below w.heap.size w wr
set_option maxRecDepth 100000 in
set_option maxHeartbeats 8000000 in
theorem values_any {A : Option Addr} {n c : Nat} {l : List Fd} (name : ByteArray) (w : World) (hr : Rd w w.heap.size 3 A n (fds l)) (hn : n ≤ 1048576) (hz : Tx l) (hnm : name.size ≤ 140737488355328) :
    Calls Tryz.prog 76 #[.slice A n c, .string name] w (OwnStr w (sameVals l name)) := by
  have H1 := Lib.hid hr
  have HZ := Lib.hid hz
  clear hr hz
  go_enter Tryz.func76, Tryz.ntmps76
  go_wp2_with fail
  go_loopw [5, 10] (fun ov iv wr => SvRel w n l name ov iv wr) (fun _ iv _ => n - (intOf iv).toNat)
  case atStart => exact ⟨0, rfl, Nat.zero_le _, World.ownsRow_nil _ _ _ _, Below.refl _ _⟩
  case round =>
    obtain ⟨k, rfl, hk, hown, hb⟩ := hrel
    have HO := Lib.hid (And.intro hown hb)
    have hsr := hb.size
    clear hown hb
    by_cases hlt : k < n
    · obtain ⟨hl, b, o, rfl, hbl, hc⟩ := fd_at (H1.out.below HO.out.2 (Nat.le_refl _)) (by omega)
      obtain ⟨f, hf⟩ : ∃ f, l[k]? = some f := ⟨_, List.getElem?_eq_getElem (by omega)⟩
      obtain ⟨z0, z1, z2⟩ := hc k f hf
      have n1 : (k : Int) < n := by omega
      have hsn := sameVals_snoc hf name
      have hvl := sameVals_le (l.take k) name
      rw [List.length_take] at hvl
      have HS := Lib.hid hsn
      have hbw : b < wr.heap.size := by omega
      have HSM := Lib.hid (fun w => same_any f.1.1 name w (by have := (HZ.out f (List.mem_of_getElem? hf)).1; omega) hnm)
      clear hc hsn hf
      obtain ⟨⟨nm, vl⟩, nv⟩ := f
      simp only at z0 z1 z2 HSM HS
      go_wp2_with fail
      refine (HSM.out _).mono ?_
      rintro e w2 ⟨rfl, hb2⟩
      have hqs : (wr.alloc (.cells #[.string nm, .string vl, .bool nv] 26)).heap.size = wr.heap.size + 1 := by simp
      have hq := (hb2.block wr.heap.size (by omega)).trans (heap_alloc_new wr _)
      have hb3 : Below wr.heap.size wr w2 := ((Below.refl _ _).alloc (Nat.le_refl _) _).trans (hb2.mono (by omega))
      have c1 : w2.cell? ⟨wr.heap.size, 1, none⟩ = some (.string vl) := by unfold World.cell?; rw [hq]; rfl
      have HB3 := Lib.hid hb3
      have hsz2 := hb3.size
      have HAL : Hid (∀ ob, (w2.alloc ob).ownsRow w.heap.size 9 1 u5 (sameVals (l.take k) name).length (strs (sameVals (l.take k) name))) := Lib.hid (fun ob => own_kept4 HO.out.1 ((Kept.of_below (F := fun _ => False) hb3).alloc ob) (fun _ _ h => h))
      have HBW : Hid (Below w.heap.size w w2) := Lib.hid (HO.out.2.trans (hb3.mono hsr))
      clear hq hb2 hb3 HSM
      obtain ⟨S, hS⟩ : ∃ S, sameL nm.data.toList name.data.toList = S := ⟨_, rfl⟩
      rw [hS] at HS ⊢
      clear hS
      cases S with
      | true =>
        go_wp2_with (at_builtin; refine of_stop ?_)
        unfold Stop
        refine wpList_app (.tmp 18) (.tmp 21) tStrs rfl rfl (HAL.out _) rfl (Rd.one _ _ _) rfl (by simp [Value.oneCell']) (le_maxLen (by omega)) (by omega) (by simp; omega) ?_
        intro v6 w6 hown6 hg6 _
        obtain ⟨A6, c6, hv6, -, -, -, -⟩ := own_slice hown6
        have HN : Hid (SvRel w n l name v6 (.int .i64 (k + 1 : Nat)) w6) := Lib.hid (by
          refine ⟨k + 1, rfl, hlt, ?_, Below.app (HBW.out.alloc (by omega) _) (HAL.out _) hg6 (Nat.le_refl _) (by simp; omega)⟩
          rw [HS.out]
          simp only [if_true]
          rw [List.length_append, strs_snoc]
          exact hown6)
        rw [hv6] at HN ⊢
        clear hown6 hg6 hv6 c1
        go_wp2
        go_roundw
        case rel => exact HN.out
        case measure => simp [intOf]; omega
      | false =>
        have HN : Hid (SvRel w n l name u5 (.int .i64 (k + 1 : Nat)) w2) := Lib.hid (by
          refine ⟨k + 1, rfl, hlt, ?_, HBW.out⟩
          rw [HS.out, if_neg (by simp), List.append_nil]
          exact own_kept4 HO.out.1 (Kept.of_below (F := fun _ => False) HB3.out) (fun _ _ h => h))
        clear c1
        go_wp2
        go_roundw
        case rel => exact HN.out
        case measure => simp [intOf]; omega
    · have hkn : k = n := by omega
      have hll : l.length = n := by have := H1.out.1; rw [fds_length] at this; omega
      have HE : Hid (OwnStr w (sameVals l name) (.returned u5) wr) := Lib.hid (by
        have h1 := HO.out.1
        rw [List.take_of_length_le (by omega)] at h1
        exact ⟨_, rfl, h1, HO.out.2⟩)
      subst hkn
      clear hll
      go_wp2
      go_ret
      exact HE.out
end Go.Proofs.YtpkmciohehaboaaGreatDoor

/- The walk of hop.Elements' closure 'put'. -/
namespace Go.Proofs.YtpkmciohehaboaaGreatDoor
open Go.RowKit Go.Maps

/-- Elements' boxes: the value in block B, the elements in B + 1, where the element began in B + 2. -/
structure ElAt (B : Nat) (v : ByteArray) (s : ElS) (ov : Value) (w : World) : Prop where
  sz : B + 3 ≤ w.heap.size
  cv : w.heap[B]? = some (.cells #[.string v] 9 (0, 0))
  co : w.heap[B + 1]? = some (.cells #[ov] 80 (0, 0))
  cf : w.heap[B + 2]? = some (.cells #[.int .i64 (s.from_ : Int)] 3 (0, 0))
  row : w.ownsRow (B + 3) 9 1 ov s.out.length (strs s.out)
variable {B : Nat} {v : ByteArray} {s : ElS} {ov : Value} {w w' : World}
theorem ElAt.below (h : ElAt B v s ov w) (hb : Below w.heap.size w w') : ElAt B v s ov w' where
  sz := Nat.le_trans h.sz hb.size
  cv := (hb.block _ (by have := h.sz; omega)).trans h.cv
  co := (hb.block _ (by have := h.sz; omega)).trans h.co
  cf := (hb.block _ (by have := h.sz; omega)).trans h.cf
  row := own_kept4 h.row (Kept.of_below (F := fun _ => False) hb) (fun _ _ h => h)
/-- The element began elsewhere. -/
theorem ElAt.next (h : ElAt B v s ov w) (k : Nat) : ElAt B v { s with from_ := k } ov (w.setCell ⟨B + 2, 0, none⟩ (.int .i64 (k : Int))) where
  sz := by simp; exact h.sz
  cv := (Below.heap_setCell _ _ _ _ (by show B ≠ B + 2; omega)).trans h.cv
  co := (Below.heap_setCell _ _ _ _ (by show B + 1 ≠ B + 2; omega)).trans h.co
  cf := by rw [set_b _ h.cf]; rfl
  row := own_kept4 h.row ((Kept.refl (fun k => k = B + 2) w).setCell rfl 0 _) (fun q hq e => by have := (World.ownsRow.lt h.row q hq).1; omega)
/-- An element more. -/
theorem ElAt.app {v3 : Value} {w3 : World} {o : Obj} {x : ByteArray} (h : ElAt B v s ov w)
    (hown : w3.ownsRow (B + 3) 9 1 v3 (s.out.length + 1) (strs s.out ++ [.string x])) (hg : (w.alloc o).grownBy w3 ov.ownBlock) :
    ElAt B v { s with out := s.out ++ [x] } v3 (w3.setCell ⟨B + 1, 0, none⟩ v3) ∧ Below B w (w3.setCell ⟨B + 1, 0, none⟩ v3) ∧ w3.heap[B + 1]? = some (.cells #[ov] 80 (0, 0)) := by
  have hs := h.sz
  have hb3 : Below (B + 3) w w3 := Below.app ((Below.refl _ _).alloc hs _) (own_kept4 h.row ((Kept.refl (fun _ => False) w).alloc o) (fun _ _ h => h)) hg (Nat.le_refl _) (by simp; omega)
  have hk : ∀ j, j < B + 3 → j ≠ B + 1 → (w3.setCell ⟨B + 1, 0, none⟩ v3).heap[j]? = w.heap[j]? := fun j hj hne => (Below.heap_setCell _ _ _ _ hne).trans (hb3.block j hj)
  have h3 : w3.heap[B + 1]? = some (.cells #[ov] 80 (0, 0)) := (hb3.block _ (by omega)).trans h.co
  refine ⟨⟨?_, (hk _ (by omega) (by omega)).trans h.cv, ?_, (hk _ (by omega) (by omega)).trans h.cf, ?_⟩, (hb3.mono (by omega)).setCell (by show B ≤ B + 1; omega) _, h3⟩
  · have := hb3.size; simp; omega
  · rw [set_b _ h3]; rfl
  · dsimp only
    rw [List.length_append, strs_snoc]
    exact own_kept4 hown ((Kept.refl (fun k => k = B + 1) w3).setCell rfl 0 v3) (fun q hq e => by have := (World.ownsRow.lt hown q hq).1; omega)
/-- What 'put' leaves. -/
def PutEl (w : World) (B : Nat) (v : ByteArray) (s : ElS) (e : Ending) (w' : World) : Prop := e = .returned (.tuple #[]) ∧ (∃ ov, ElAt B v s ov w') ∧ Below B w w'
set_option maxRecDepth 100000 in
set_option maxHeartbeats 8000000 in
theorem putel_any (k : Nat) (h : ElAt B v s ov w) (hv : v.size ≤ 1048576) (hf : s.from_ ≤ k) (hk : k ≤ v.size) (hl : s.out.length ≤ 1048576) :
    Calls Tryz.prog 117 #[.int .i64 (k : Int), .pointer (some ⟨B, 0, none⟩), .pointer (some ⟨B + 2, 0, none⟩), .pointer (some ⟨B + 1, 0, none⟩)] w (PutEl w B v (s.put v.data.toList k)) := by
  have H := Lib.hid h
  have hsz := h.sz
  have c0 : w.cell? ⟨B, 0, none⟩ = some (.string v) := by unfold World.cell?; rw [h.cv]; rfl
  have c2 : w.cell? ⟨B + 2, 0, none⟩ = some (.int .i64 (s.from_ : Int)) := by unfold World.cell?; rw [h.cf]; rfl
  obtain ⟨a, cap, hov⟩ : ∃ a cap, ov = .slice a s.out.length cap := by
    rcases h.row.2 with ⟨e1, e2⟩ | ⟨g, cap, cur, e1, _⟩
    · exact ⟨none, 0, by rw [e1, e2]⟩
    · exact ⟨_, _, e1⟩
  obtain ⟨R, hR⟩ : ∃ R, s.put v.data.toList k = R := ⟨_, rfl⟩
  rw [hR]
  have hex := extract_list v s.from_ k
  obtain ⟨T, hT⟩ : ∃ T, trimL ((v.data.toList.take k).drop s.from_) = T := ⟨_, rfl⟩
  have HTR : Hid (∀ w, Calls Tryz.prog 118 #[.string (v.extract s.from_ k)] w fun e w' => e = .returned (.string (mkS T)) ∧ Below w.heap.size w w') := Lib.hid (fun w => by
    have h1 := trim_any (v.extract s.from_ k) w (by rw [hex, mkS_size]; simp; omega)
    rw [hex, mkS_list, hT] at h1
    rw [hex]
    exact h1)
  unfold ElS.put at hR
  rw [hT] at hR
  have HR := Lib.hid hR
  have HOV := Lib.hid hov
  obtain ⟨L, hL⟩ : ∃ L, s.out.length = L := ⟨_, rfl⟩
  have HL := Lib.hid hL
  obtain ⟨F, hF⟩ : ∃ F, s.from_ = F := ⟨_, rfl⟩
  have HF := Lib.hid hF
  rw [hF] at HTR c2 hf
  clear h hex hT hR hov hL hF
  go_enter Tryz.func117, Tryz.ntmps117
  go_wp2_with fail
  refine (HTR.out _).mono ?_
  rintro e w2 ⟨rfl, hb2⟩
  have H2 := Lib.hid (H.out.below hb2)
  have HB2 : Hid (Below B w w2) := Lib.hid (hb2.mono (by omega))
  have hsz2 := H2.out.sz
  have co : w2.cell? ⟨B + 1, 0, none⟩ = some ov := by unfold World.cell?; rw [H2.out.co]; rfl
  clear c0 c2 hb2 H
  by_cases hT : T = []
  · subst hT
    have e0 : ((mkS []).toList == []) = true := by decide +kernel
    have HE := Lib.hid (H2.out.next (k + 1))
    have c2 : w2.cell? ⟨B + 2, 0, none⟩ = some (.int .i64 (F : Int)) := by unfold World.cell?; rw [H2.out.cf, HF.out]; rfl
    have hfz : w2.frozen? ⟨B + 2, 0, none⟩ = false := by unfold World.frozen?; rw [H2.out.cf]; rfl
    clear co
    go_wp2_with fail
    go_end0
    refine ⟨rfl, ⟨ov, ?_⟩, HB2.out.setCell (by show B ≤ B + 2; omega) _⟩
    rw [← HR.out]
    simp only [if_true]
    exact HE.out
  · obtain ⟨e1, -, -⟩ := str_some (s := mkS T) (by rw [mkS_list]; exact hT)
    go_wp2_with (at_builtin; refine of_stop ?_)
    unfold Stop
    refine wpList_app (.tmp 13) (.tmp 15) tStrs rfl rfl (own_kept4 H2.out.row ((Kept.refl (fun _ => False) w2).alloc _) (fun _ _ h => h)) rfl (Rd.one _ _ _) rfl (by simp [Value.oneCell']) (le_maxLen (by omega)) (by omega) (by simp; omega) ?_
    intro v3 w3 hown hg3 _
    obtain ⟨h3, hb3, h3o⟩ := H2.out.app hown hg3
    have H3 := Lib.hid h3
    have HB3 := Lib.hid (HB2.out.trans hb3)
    obtain ⟨A3, c3, hv3, -, -, -, -⟩ := own_slice hown
    subst hv3
    have hfo : w3.frozen? ⟨B + 1, 0, none⟩ = false := by unfold World.frozen?; rw [h3o]; rfl
    have hco : w3.cell? ⟨B + 1, 0, none⟩ = some ov := by unfold World.cell?; rw [h3o]; rfl
    clear hown hg3 h3 hb3 h3o co
    have c2 : w3.cell? ⟨B + 2, 0, none⟩ = some (.int .i64 (F : Int)) := by
      have := H3.out.cf
      rw [Below.heap_setCell _ _ _ _ (by show B + 2 ≠ B + 1; omega)] at this
      unfold World.cell?; rw [this]; dsimp only; rw [HF.out]; rfl
    have hfz : w3.frozen? ⟨B + 2, 0, none⟩ = false := by
      have := H3.out.cf
      rw [Below.heap_setCell _ _ _ _ (by show B + 2 ≠ B + 1; omega)] at this
      unfold World.frozen?; rw [this]; rfl
    have HE := Lib.hid (H3.out.next (k + 1))
    go_wp2_with fail
    go_end0
    refine ⟨rfl, ⟨.slice A3 (s.out.length + 1) c3, ?_⟩, ?_⟩
    · rw [← HR.out, if_neg hT]
      exact HE.out
    · exact HB3.out.setCell (p := ⟨B + 2, 0, none⟩) (by show B ≤ B + 2; omega) _
end Go.Proofs.YtpkmciohehaboaaGreatDoor
