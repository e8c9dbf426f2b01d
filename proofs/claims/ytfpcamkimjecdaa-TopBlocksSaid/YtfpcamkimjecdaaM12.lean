/- 6 texts in one: BackPlain, HBackPlain, HFew, HDuo, Tp0, Tp1. -/
import Derived.Test.YtfpcamkimjecdaaM2
import Derived.Test.YtfpcamkimjecdaaM10
import Derived.Test.YtfpcamkimjecdaaM11
/- A text that is written is read as it was; without its last byte it is short. In plain Lean. No program in sight. -/
namespace Go.Proofs.Ytfpcamkimjecdaa
open Go.RowKit

theorem ba_putB {f n : Nat} (hf : f + 127 < 256) (rest : List UInt8) : ba (putB f 127 n ++ rest) 0 = f + min n 127 := by
  unfold putB
  by_cases h : n < 127
  · rw [if_pos h, Nat.min_eq_left (by omega)]
    simp only [ba, List.cons_append, List.getD_cons_zero, toNat_ofNat (show f + n < 256 by omega)]
  · rw [if_neg h, Nat.min_eq_right (by omega)]
    simp only [ba, List.cons_append, List.getD_cons_zero, toNat_ofNat (show f + 127 < 256 by omega)]

section
variable {f : Nat} {body rest : List UInt8} (hf : f = 0 ∨ f = 128) (hb : body.length ≤ 4096)
include hf hb
theorem takeI_text : takeI 127 (putB f 127 body.length ++ body ++ rest) = (body.length, (putB f 127 body.length).length, 0) := by
  rw [List.append_assoc]
  exact takeI_putB ⟨by omega, by omega⟩ (by omega) (by omega) (by omega) _
theorem cut_text : takeT ((putB f 127 body.length ++ body).take ((putB f 127 body.length ++ body).length - 1)) = ([], 0, 12) := by
  rcases Nat.eq_zero_or_pos body.length with h0 | h0
  · have hn : body = [] := List.eq_nil_of_length_eq_zero h0
    subst hn
    rw [List.append_nil]
    exact takeT_err (m := 0) (a := 0) (takeI_cut ⟨by omega, by omega⟩ (by omega) (by omega) (by omega)) (by omega)
  · have e : (putB f 127 body.length ++ body).take ((putB f 127 body.length ++ body).length - 1) = putB f 127 body.length ++ body.take (body.length - 1) := by
      rw [List.length_append, List.take_append, List.take_of_length_le (by omega)]
      congr 2
      omega
    rw [e]
    refine takeT_short (takeI_putB (F := 127) ⟨by omega, by omega⟩ (by omega) (by omega) (by omega) _) rfl hb ?_
    simp; omega
end

theorem piece_text (p body rest : List UInt8) : ((p ++ body ++ rest).drop p.length).take body.length = body := by
  rw [List.append_assoc, List.drop_left, List.take_left]

theorem back_text {l : List UInt8} (h : l.length ≤ 4096) (rest : List UInt8) : takeT (textB l ++ rest) = (l, (textB l).length, 0) := by
  by_cases hb : nbytes l < l.length
  · rw [textB_bits hb]
    have hE := encB_length l
    rw [← hE] at hb ⊢
    have ht := takeI_text (f := 128) (body := encB l) (rest := rest) (.inr rfl) (by omega)
    rw [takeT_bits ht rfl (by omega) (by simp) (by rw [List.append_assoc, ba_putB (by omega)]; omega), piece_text, dec_enc]
    simp only
    rw [if_neg (by omega), List.length_append]
  · rw [textB_raw (by omega)]
    have ht := takeI_text (f := 0) (body := l) (rest := rest) (.inl rfl) h
    rw [takeT_raw ht rfl h (by simp) (by rw [List.append_assoc, ba_putB (by omega)]; omega), piece_text, List.length_append]
theorem back_cut {l : List UInt8} (h : l.length ≤ 4096) : takeT ((textB l).take ((textB l).length - 1)) = ([], 0, 12) := by
  by_cases hb : nbytes l < l.length
  · rw [textB_bits hb]
    have hE := encB_length l
    rw [← hE] at hb ⊢
    exact cut_text (.inr rfl) (by omega)
  · rw [textB_raw (by omega)]
    exact cut_text (.inl rfl) h
theorem textB_length (l : List UInt8) (h : l.length ≤ 4096) : 1 ≤ (textB l).length ∧ (textB l).length ≤ l.length + 7 := by
  by_cases hb : nbytes l < l.length
  · rw [textB_bits hb, List.length_append, encB_length]
    have := putB_length 128 127 (nbytes l)
    omega
  · rw [textB_raw (by omega), List.length_append]
    have := putB_length 0 127 l.length
    omega
end Go.Proofs.Ytfpcamkimjecdaa

/- What an encoder of header blocks writes a decoder reads as it was, and both tables are alike: in plain Lean. No program in sight. -/
namespace Go.Proofs.Ytfpcamkimjecdaa
open Go.RowKit

/-- A field as it is told. -/
def told (f : Fd) : Fd := (f.1, neverF f)
theorem ba_put {f F n : Nat} (hf : f + F < 256) (rest : List UInt8) : ba (putB f F n ++ rest) 0 = f + min n F := by
  unfold putB
  by_cases h : n < F
  · rw [if_pos h, Nat.min_eq_left (by omega)]
    simp only [ba, List.cons_append, List.getD_cons_zero, toNat_ofNat (show f + n < 256 by omega)]
  · rw [if_neg h, Nat.min_eq_right (by omega)]
    simp only [ba, List.cons_append, List.getD_cons_zero, toNat_ofNat (show f + F < 256 by omega)]
theorem str_back5 (s : ByteArray) : (⟨s.data.toList.toArray⟩ : ByteArray) = s := by cases s; simp
theorem takeS_text {s : ByteArray} (h : s.size ≤ 4096) (rest : List UInt8) : takeS (textB s.data.toList ++ rest) = .ok (s, rest) := by
  have hl : s.data.toList.length ≤ 4096 := by have : s.data.toList.length = s.size := by simp
                                              omega
  unfold takeS
  rw [back_text hl rest]
  simp only [ne_eq, not_true_eq_false, if_false, List.drop_left, str_back5]
theorem litP_back {T : Tb} (f : Rw) (h1 : f.1.size ≤ 4096) (h2 : f.2.size ≤ 4096) (rest : List UInt8) :
    litP T (numT T f) ((if numT T f = 0 then textB f.1.data.toList else []) ++ textB f.2.data.toList ++ rest) = .ok (f, rest) := by
  unfold litP takeN numT fnd
  rcases findA_at T.rows f with ⟨h0, -⟩ | ⟨g, hg1, hat, hg, -⟩
  · rw [h0]
    simp only [Int.toNat_zero, if_true, Nat.lt_irrefl, if_false, List.append_assoc]
    rw [takeS_text h1]
    simp only
    rw [takeS_text h2]
  · generalize (findA (statF ++ T.rows.reverse) f).1 = z at hg1 hat ⊢
    have hk : z.toNat ≠ 0 := by omega
    have hz : (z.toNat : Int) = z := by omega
    simp only [hk, if_false, Nat.pos_of_ne_zero hk, if_true, hz, hat, List.nil_append]
    rw [takeS_text h2, hg]
theorem part_back {mo : Int} {T : Tb} {f : Fd} (hT : TOk T) (h1 : f.1.1.size ≤ 4096) (h2 : f.1.2.size ≤ 4096) (rest : List UInt8) (fs : List Fd) (c ch : Nat) :
    partP mo ⟨T, (encOne T f).1 ++ rest, fs, c, ch⟩ = .ok ⟨(encOne T f).2, rest, fs ++ [told f], c + cost f.1, ch⟩ := by
  have hn := (numT_bd hT f.1).1
  have hlit : ∀ (fl F : Nat), fl % (F + 1) = 0 → fl + F < 256 → 1 ≤ F → prefF (fl + min (numT T f.1) F) = F → fl + F < 128 →
      ∃ k, takeI (prefF (ba (namedB fl F T f.1 ++ rest) 0)) (namedB fl F T f.1 ++ rest) = (numT T f.1, k, 0) ∧ ba (namedB fl F T f.1 ++ rest) 0 = fl + min (numT T f.1) F ∧
        litP T (numT T f.1) ((namedB fl F T f.1 ++ rest).drop k) = .ok (f.1, rest) := by
    intro fl F hfl hs hF hp _
    have e : namedB fl F T f.1 ++ rest = putB fl F (numT T f.1) ++ ((if numT T f.1 = 0 then textB f.1.1.data.toList else []) ++ textB f.1.2.data.toList ++ rest) := by
      unfold namedB; simp only [List.append_assoc]
    refine ⟨(putB fl F (numT T f.1)).length, ?_, ?_, ?_⟩
    · rw [e, ba_put hs, hp]
      exact takeI_putB ⟨hF, by omega⟩ hfl hs (by omega) _
    · rw [e, ba_put hs]
    · rw [e, List.drop_left]
      exact litP_back f.1 h1 h2 rest
  unfold encOne partP afterP told
  by_cases c1 : neverF f = true
  · rw [if_pos c1, c1]
    simp only
    obtain ⟨k, e1, e2, e3⟩ := hlit 16 15 (by omega) (by omega) (by omega) (by unfold prefF; rw [if_neg (by omega), if_neg (by omega), if_neg (by omega)]) (by omega)
    rw [e1, e2]
    simp only [ne_eq, not_true_eq_false, if_false]
    rw [if_neg (by omega), if_neg (by omega), if_neg (by omega), e3]
    simp only [HSt.put]
    rw [decide_eq_true (show 16 ≤ 16 + min (numT T f.1) 15 by omega)]
  · have c1' : neverF f = false := by simpa using c1
    rw [if_neg c1, c1']
    by_cases c2 : (fnd T f.1).2 = true
    · rw [if_pos c2]
      simp only
      have hat : atRows T.rows (numT T f.1) = some f.1 := by
        unfold numT
        unfold fnd at c2 ⊢
        rcases findA_at T.rows f.1 with ⟨-, h0⟩ | ⟨g, hg1, hat, hg, hd⟩
        · rw [h0] at c2; cases c2
        · rw [Int.toNat_of_nonneg (by omega), hat]
          rw [c2] at hd
          have := of_decide_eq_true hd
          obtain ⟨a, b⟩ := g
          simp only at hg this
          rw [hg, this]
      have e1 : takeI 127 (putB 128 127 (numT T f.1) ++ rest) = (numT T f.1, (putB 128 127 (numT T f.1)).length, 0) := takeI_putB ⟨by omega, by omega⟩ (by omega) (by omega) (by omega) _
      rw [ba_put (by omega), show prefF (128 + min (numT T f.1) 127) = 127 by unfold prefF; rw [if_pos (by omega)], e1]
      simp only [ne_eq, not_true_eq_false, if_false]
      rw [if_pos (by omega), hat, List.drop_left]
      rfl
    · rw [if_neg c2]
      by_cases c3 : T.most < (cost f.1 : Int)
      · rw [if_pos c3]
        simp only
        obtain ⟨k, e1, e2, e3⟩ := hlit 0 15 (by omega) (by omega) (by omega) (by unfold prefF; rw [if_neg (by omega), if_neg (by omega), if_neg (by omega)]) (by omega)
        rw [e1, e2]
        simp only [ne_eq, not_true_eq_false, if_false]
        rw [if_neg (by omega), if_neg (by omega), if_neg (by omega), e3]
        simp only [HSt.put]
        rw [decide_eq_false (show ¬ 16 ≤ 0 + min (numT T f.1) 15 by omega)]
      · rw [if_neg c3]
        simp only
        obtain ⟨k, e1, e2, e3⟩ := hlit 64 63 (by omega) (by omega) (by omega) (by unfold prefF; rw [if_neg (by omega), if_pos (by omega)]) (by omega)
        rw [e1, e2]
        simp only [ne_eq, not_true_eq_false, if_false]
        rw [if_neg (by omega), if_pos (by omega), e3]
        rfl
theorem encOne_pos (T : Tb) (f : Fd) : 1 ≤ (encOne T f).1.length := by
  unfold encOne namedB
  repeat' split
  all_goals simp only [List.length_append]
  all_goals have h1 := (putB_length 16 15 (numT T f.1)).2; have h2 := (putB_length 128 127 (numT T f.1)).2; have h3 := (putB_length 0 15 (numT T f.1)).2; have h4 := (putB_length 64 63 (numT T f.1)).2; omega
def sumF (l : List Fd) : Nat := (l.map fun f => cost f.1).sum
theorem list_back {mo : Int} (hmo : mo ≤ 65536) : ∀ (l : List Fd) (L : Nat) (T : Tb) (fs : List Fd) (c ch : Nat), HOk L ⟨T, (encL T l).1, fs, c, ch⟩ → (∀ f ∈ l, f.1.1.size ≤ 4096 ∧ f.1.2.size ≤ 4096) →
    decP mo (encL T l).1.length ⟨T, (encL T l).1, fs, c, ch⟩ = .ok ⟨(encL T l).2, [], fs ++ l.map told, c + sumF l, ch⟩ ∧ HOk L ⟨(encL T l).2, [], fs ++ l.map told, c + sumF l, ch⟩
  | [], L, T, fs, c, ch, hok, _ => by
    refine ⟨?_, ?_⟩
    · simp [encL, decP, sumF]
    · simpa [encL, sumF] using hok
  | f :: l, L, T, fs, c, ch, hok, hf => by
    have hb := hf f (by simp)
    have hp : partP mo ⟨T, (encL T (f :: l)).1, fs, c, ch⟩ = .ok ⟨(encOne T f).2, (encL (encOne T f).2 l).1, fs ++ [told f], c + cost f.1, ch⟩ := by
      show partP mo ⟨T, (encOne T f).1 ++ (encL (encOne T f).2 l).1, fs, c, ch⟩ = _
      exact part_back hok.tok hb.1 hb.2 _ _ _ _
    have h0 : 0 < (encL T (f :: l)).1.length := by
      show 0 < ((encOne T f).1 ++ (encL (encOne T f).2 l).1).length
      have := encOne_pos T f
      rw [List.length_append]; omega
    have hs := decP_step hmo hok h0 hp
    obtain ⟨hok', -⟩ := hok.part hmo hp
    obtain ⟨ih, ih2⟩ := list_back hmo l L _ _ _ _ hok' fun g hg => hf g (by simp [hg])
    have e1 : (fs ++ [told f]) ++ l.map told = fs ++ (f :: l).map told := by simp
    have e2 : c + cost f.1 + sumF l = c + sumF (f :: l) := by simp [sumF]; omega
    rw [e1, e2] at ih ih2
    exact ⟨hs.trans ih, ih2⟩
/-- The change of a table's size, read. -/
theorem size_back {mo : Int} {T : Tb} {n : Nat} (hn : (n : Int) ≤ mo) (hmo : mo ≤ 65536) (rest : List UInt8) (c ch : Nat) (hc : ch < 2) :
    partP mo ⟨T, putB 32 31 n ++ rest, [], c, ch⟩ = .ok ⟨T.resize n, rest, [], c, ch + 1⟩ := by
  unfold partP afterP
  have e1 : takeI 31 (putB 32 31 n ++ rest) = (n, (putB 32 31 n).length, 0) := takeI_putB ⟨by omega, by omega⟩ (by omega) (by omega) (by omega) _
  rw [ba_put (by omega), show prefF (32 + min n 31) = 31 by unfold prefF; rw [if_neg (by omega), if_neg (by omega), if_pos (by omega)], e1]
  simp only [ne_eq, not_true_eq_false, if_false]
  rw [if_neg (by omega), if_neg (by omega), if_pos (by omega), if_neg (by simp; omega), List.drop_left]

/-- What holds between an encoder and its decoder, behind a block and any limits. -/
structure Pair (E : Enc) (T : Tb) : Prop where
  tok : TOk T
  etok : TOk E.T
  tol : T.most = E.told
  l0 : 0 ≤ E.least
  l1 : E.least ≤ E.T.most
  same : (E.T.gone, E.T.rows) = shrunk E.least T.gone T.rows
theorem shrunk_shrunk {a b : Int} : ∀ (l : List Rw) (g : Int), shrunk a (shrunk b g l).1 (shrunk b g l).2 = shrunk (min a b) g l
  | [], g => rfl
  | r :: l, g => by
    by_cases h : b < ((((r :: l).map cost).sum : Nat) : Int)
    · rw [shrunk_go h, shrunk_shrunk l (g + 1), shrunk_go (m := min a b) (by omega)]
    · rw [shrunk_stop (m := b) (by omega)]
      simp only
      by_cases h2 : a < ((((r :: l).map cost).sum : Nat) : Int)
      · rw [Int.min_eq_left (by omega)]
      · rw [shrunk_stop (m := a) (by omega), shrunk_stop (m := min a b) (by omega)]
theorem Pair.new {own mo : Int} (h0 : 0 ≤ own) (h1 : own ≤ 65536) (hmo : 4096 ≤ mo) : Pair (Enc.mk own 4096 (min own 4096) ⟨min own 4096, 0, []⟩) ⟨min mo 4096, 0, []⟩ := by
  refine ⟨⟨by simp only; omega, by simp only; omega, by simp only; show sumc [] ≤ _; simp [sumc]; omega, fun r hr => by cases hr⟩, ⟨by simp only; omega, by simp only; omega, by simp only; show sumc [] ≤ _; simp [sumc]; omega, fun r hr => by cases hr⟩, by simp only; omega, by simp only; omega, by simp only; omega, rfl⟩
theorem Pair.limit {E : Enc} {T : Tb} (h : Pair E T) {n : Int} (hn : 0 ≤ n) (ho0 : 0 ≤ E.own) (ho1 : E.own ≤ 65536) : Pair (E.limit n) T := by
  have hl := h.l0
  refine ⟨h.tok, h.etok.resize (by omega) (by omega), h.tol, ?_, ?_, ?_⟩
  · show 0 ≤ min E.least (min n E.own); omega
  · show min E.least (min n E.own) ≤ min n E.own; omega
  · show ((shrunk (min n E.own) E.T.gone E.T.rows).1, (shrunk (min n E.own) E.T.gone E.T.rows).2) = shrunk (min E.least (min n E.own)) T.gone T.rows
    have hs := h.same
    have e1 : E.T.gone = (shrunk E.least T.gone T.rows).1 := congrArg Prod.fst hs
    have e2 : E.T.rows = (shrunk E.least T.gone T.rows).2 := congrArg Prod.snd hs
    rw [e1, e2, shrunk_shrunk, Int.min_comm]
theorem Tb.ext' {T U : Tb} (h1 : T.most = U.most) (h2 : (T.gone, T.rows) = (U.gone, U.rows)) : T = U := by
  cases T; cases U
  simp at h1 h2
  simp [h1, h2]
theorem TOk.still {T : Tb} (h : TOk T) {m : Int} (hm : T.most ≤ m) : shrunk m T.gone T.rows = (T.gone, T.rows) := shrunk_stop (by have := h.fits; unfold sumc at this; omega)
/-- The changes of size that are told make the decoder's table the encoder's. -/
theorem sizes_back {mo : Int} {E : Enc} {T : Tb} (h : Pair E T) (hm : E.T.most ≤ mo) (hmo : mo ≤ 65536) (rest : List UInt8) :
    ∃ ch, ch ≤ 2 ∧ (∀ L, HOk L ⟨T, encSz E ++ rest, [], 0, 0⟩ → HOk L ⟨E.T, rest, [], 0, ch⟩ ∧ decP mo (encSz E ++ rest).length ⟨T, encSz E ++ rest, [], 0, 0⟩ = decP mo rest.length ⟨E.T, rest, [], 0, ch⟩) := by
  have hs := h.same
  have e1 : E.T.gone = (shrunk E.least T.gone T.rows).1 := congrArg Prod.fst hs
  have e2 : E.T.rows = (shrunk E.least T.gone T.rows).2 := congrArg Prod.snd hs
  have hl0 := h.l0
  have hl1 := h.l1
  have htol := h.tol
  have hp1 : ∀ n, 0 < (putB 32 31 n).length := fun n => (putB_length 32 31 n).2
  unfold encSz
  by_cases c1 : E.least < E.told ∧ E.least < E.T.most
  · rw [if_pos c1]
    refine ⟨2, by omega, fun L hok => ?_⟩
    simp only [List.append_assoc] at hok ⊢
    have a1 : partP mo ⟨T, putB 32 31 E.least.toNat ++ (putB 32 31 E.T.most.toNat ++ rest), [], 0, 0⟩ = .ok ⟨T.resize E.least.toNat, putB 32 31 E.T.most.toNat ++ rest, [], 0, 1⟩ := size_back (by omega) hmo _ 0 0 (by omega)
    have a2 : partP mo ⟨T.resize E.least.toNat, putB 32 31 E.T.most.toNat ++ rest, [], 0, 1⟩ = .ok ⟨(T.resize E.least.toNat).resize E.T.most.toNat, rest, [], 0, 2⟩ := size_back (by omega) hmo _ 0 1 (by omega)
    have eT : (T.resize E.least.toNat).resize E.T.most.toNat = E.T := by
      refine Tb.ext' ?_ ?_
      · show (E.T.most.toNat : Int) = E.T.most; omega
      · show ((shrunk (E.T.most.toNat : Int) (shrunk (E.least.toNat : Int) T.gone T.rows).1 (shrunk (E.least.toNat : Int) T.gone T.rows).2).1, (shrunk (E.T.most.toNat : Int) (shrunk (E.least.toNat : Int) T.gone T.rows).1 (shrunk (E.least.toNat : Int) T.gone T.rows).2).2) = _
        rw [shrunk_shrunk, Int.toNat_of_nonneg (by omega), Int.toNat_of_nonneg (by omega), Int.min_eq_right (by omega), hs]
    rw [eT] at a2
    have s1 := decP_step hmo hok (by rw [List.length_append]; have := hp1 E.least.toNat; omega) a1
    obtain ⟨hok1, -⟩ := hok.part hmo a1
    have s2 := decP_step hmo hok1 (by rw [List.length_append]; have := hp1 E.T.most.toNat; omega) a2
    obtain ⟨hok2, -⟩ := hok1.part hmo a2
    exact ⟨hok2, s1.trans s2⟩
  · rw [if_neg c1]
    by_cases c2 : E.T.most ≠ E.told
    · rw [if_pos c2]
      refine ⟨1, by omega, fun L hok => ?_⟩
      have a1 : partP mo ⟨T, putB 32 31 E.T.most.toNat ++ rest, [], 0, 0⟩ = .ok ⟨T.resize E.T.most.toNat, rest, [], 0, 1⟩ := size_back (by omega) hmo _ 0 0 (by omega)
      have eT : T.resize E.T.most.toNat = E.T := by
        refine Tb.ext' ?_ ?_
        · show (E.T.most.toNat : Int) = E.T.most; omega
        · show ((shrunk (E.T.most.toNat : Int) T.gone T.rows).1, (shrunk (E.T.most.toNat : Int) T.gone T.rows).2) = _
          rw [Int.toNat_of_nonneg (by omega)]
          by_cases c3 : E.least < E.told
          · rw [show E.T.most = E.least by omega, hs]
          · rw [h.tok.still (by omega), hs, h.tok.still (by omega)]
      rw [eT] at a1
      have s1 := decP_step hmo hok (by rw [List.length_append]; have := hp1 E.T.most.toNat; omega) a1
      obtain ⟨hok1, -⟩ := hok.part hmo a1
      exact ⟨hok1, s1⟩
    · rw [if_neg c2]
      refine ⟨0, by omega, fun L hok => ?_⟩
      have eT : T = E.T := by
        refine Tb.ext' (by omega) ?_
        rw [hs, h.tok.still (by omega)]
      rw [List.nil_append, ← eT]
      rw [List.nil_append] at hok
      exact ⟨hok, rfl⟩
/-- The block is read as it was; the tables are alike. -/
theorem block_back {mo li : Int} {E : Enc} {T : Tb} (h : Pair E T) (hm : E.T.most ≤ mo) (hmo : mo ≤ 65536) {l : List Fd} (hf : ∀ f ∈ l, f.1.1.size ≤ 4096 ∧ f.1.2.size ≤ 4096) :
    outD mo li T (E.run l).1 = (if li < (sumF l : Int) then ([], 51, some (E.run l).2.T) else (l.map told, 0, some (E.run l).2.T)) ∧ Pair (E.run l).2 (E.run l).2.T := by
  have hok := HOk.start h.tok (E.run l).1
  obtain ⟨ch, -, hsz⟩ := sizes_back (mo := mo) h hm hmo (encL E.T l).1
  obtain ⟨hok2, hd⟩ := hsz _ hok
  obtain ⟨hl, hok3⟩ := list_back hmo l _ _ _ _ _ hok2 hf
  have hd2 : decP mo (E.run l).1.length ⟨T, (E.run l).1, [], 0, 0⟩ = .ok ⟨(encL E.T l).2, [], l.map told, sumF l, ch⟩ := by
    have := hd.trans hl
    rw [List.nil_append, Nat.zero_add] at this
    exact this
  refine ⟨?_, ?_⟩
  · split
    · rename_i hc; exact outD_list hd2 hc
    · rename_i hc; exact outD_ok hd2 hc
  · have htk : TOk (encL E.T l).2 := hok3.tok
    have hmost := encL_most E.T l
    have h0 := h.etok.most0
    refine ⟨htk, htk, hmost, h0, by show E.T.most ≤ (encL E.T l).2.most; rw [hmost]; exact Int.le_refl _, ?_⟩
    show ((encL E.T l).2.gone, (encL E.T l).2.rows) = shrunk E.T.most (encL E.T l).2.gone (encL E.T l).2.rows
    exact (htk.still (by have : (encL E.T l).2.most = E.T.most := hmost; omega)).symm
end Go.Proofs.Ytfpcamkimjecdaa

/- The walks of the document's Bytes, of law05.short; how long a block is. -/
namespace Go.Proofs.Ytfpcamkimjecdaa
open Go.RowKit

def bytesA : Nat → List Fd → Nat
  | n, [] => n
  | n, f :: l => bytesA (if n < 1073741824 then n + cost f.1 else n) l
/-- Of a list, together, up to a bound. -/
def bytesV (l : List Fd) : Nat := bytesA 0 l
theorem bytesA_snoc (l : List Fd) (f : Fd) : ∀ n, bytesA n (l ++ [f]) = if bytesA n l < 1073741824 then bytesA n l + cost f.1 else bytesA n l := by
  induction l with
  | nil => intro n; rfl
  | cons g l ih => intro n; exact ih _
theorem bytesA_ge (l : List Fd) : ∀ n, n ≤ bytesA n l := by
  induction l with
  | nil => intro n; exact Nat.le_refl _
  | cons g l ih => intro n; show n ≤ bytesA _ l; have := ih (if n < 1073741824 then n + cost g.1 else n); split at this <;> simp only [*, if_true, if_false] <;> omega
theorem bytesA_sum (l : List Fd) : ∀ n, bytesA n l < 1073741824 → bytesA n l = n + sumF l := by
  induction l with
  | nil => intro n _; rfl
  | cons g l ih =>
    intro n h
    have h' : bytesA (if n < 1073741824 then n + cost g.1 else n) l < 1073741824 := h
    have hg := bytesA_ge l (if n < 1073741824 then n + cost g.1 else n)
    have e := ih _ h'
    show bytesA (if n < 1073741824 then n + cost g.1 else n) l = n + ((g :: l).map fun f => cost f.1).sum
    rw [e]
    by_cases hn : n < 1073741824
    · rw [if_pos hn]; simp only [List.map_cons, List.sum_cons, sumF]; omega
    · rw [if_neg hn] at hg h'; omega
theorem bytesV_sum {l : List Fd} (h : bytesV l < 1073741824) : bytesV l = sumF l := by have := bytesA_sum l 0 h; unfold bytesV; omega
theorem bytesA_le (l : List Fd) (hz : ∀ f ∈ l, f.1.1.size ≤ 140737488351232 ∧ f.1.2.size ≤ 140737488351232) : ∀ n, n ≤ 281476050452000 → bytesA n l ≤ 281476050452000 := by
  induction l with
  | nil => intro n h; exact h
  | cons g l ih =>
    intro n h
    have hg := hz g (by simp)
    refine ih (fun f hf => hz f (by simp [hf])) _ ?_
    have : cost g.1 = g.1.1.size + g.1.2.size + 32 := rfl
    split <;> omega
theorem bytesV_le {l : List Fd} (hz : ∀ f ∈ l, f.1.1.size ≤ 140737488351232 ∧ f.1.2.size ≤ 140737488351232) : bytesV l ≤ 281476050452000 := bytesA_le l hz 0 (by omega)
def BRel (w : World) (n : Nat) (l : List Fd) (sv jv : Value) (wr : World) : Prop := ∃ k d : Nat, jv = .int .i64 k ∧ sv = .int .i64 (bytesV (l.take k) : Nat) ∧ k ≤ n ∧ wr = w.drewN d
set_option maxRecDepth 100000 in
set_option maxHeartbeats 2000000 in
theorem bytes_any {A : Option Addr} {B n c : Nat} {l : List Fd} (w : World) (hr : Rd w B 3 A n (fds l)) (hn : n ≤ 140737488351232) (hz : ∀ f ∈ l, f.1.1.size ≤ 140737488351232 ∧ f.1.2.size ≤ 140737488351232) :
    Calls Try.prog 5 #[.slice A n c] w fun e w' => e = .returned (.int .i64 (bytesV l : Nat)) ∧ ∃ d, w' = w.drewN d := by
  have H1 := Lib.hid hr
  have HZ := Lib.hid hz
  clear hr hz
  go_enter Try.func5, Try.ntmps5
  go_wp2
  go_loopw [3, 4] (fun sv jv wr => BRel w n l sv jv wr) (fun _ jv _ => n - (intOf jv).toNat)
  case atStart => exact ⟨0, 0, rfl, rfl, Nat.zero_le _, rfl⟩
  case round =>
    obtain ⟨k, d, rfl, rfl, hk, rfl⟩ := hrel
    obtain ⟨v, hv⟩ : ∃ v, bytesV (l.take k) = v := ⟨_, rfl⟩
    have hvle : (v : Int) ≤ 281476050452000 := by have : v ≤ 281476050452000 := by { rw [← hv]; exact bytesV_le fun f hf => HZ.out f (List.mem_of_mem_take hf) }
                                                  omega
    have HV := Lib.hid hv
    rw [hv]
    clear hv
    by_cases hlt : k < n
    · obtain ⟨hl, b, o, rfl, hb, hc⟩ := fd_at H1.out (by omega)
      obtain ⟨f, hf⟩ : ∃ f, l[k]? = some f := ⟨_, List.getElem?_eq_getElem (by omega)⟩
      obtain ⟨q0, q1, q2⟩ := hc k f hf
      have z0 : ∀ d, (w.drewN d).cell? ⟨b, o + k * 3, none⟩ = some (.string f.1.1) := fun _ => q0
      have z1 : ∀ d, (w.drewN d).cell? ⟨b, o + k * 3 + 1, none⟩ = some (.string f.1.2) := fun _ => q1
      obtain ⟨s1, s2⟩ := HZ.out f (List.mem_of_getElem? hf)
      have n1 : (k : Int) < n := by omega
      have HS : Hid (bytesV (l.take (k + 1)) = if v < 1073741824 then v + cost f.1 else v) := Lib.hid (by rw [List.take_add_one, hf, Option.toList_some]; unfold bytesV at HV ⊢; rw [bytesA_snoc, HV.out])
      clear hc hf hl
      obtain ⟨a, ha⟩ : ∃ a, f.1.1.size = a := ⟨_, rfl⟩
      obtain ⟨a', ha'⟩ : ∃ a', f.1.2.size = a' := ⟨_, rfl⟩
      have HC : Hid (cost f.1 = a + a' + 32) := Lib.hid (by rw [← ha, ← ha']; rfl)
      by_cases hv30 : (v : Int) < 1073741824
      · go_wp2
        go_quiet (fail)
        go_wp2
        go_roundw
        case rel => exact ⟨k + 1, _, by go_num, by rw [HS.out, if_pos (by omega), HC.out]; congr 1; omega, by omega, rfl⟩
        case measure => simp [intOf]; omega
      · go_wp2
        go_roundw
        case rel => exact ⟨k + 1, _, by go_num, by rw [HS.out, if_neg (by omega)], by omega, rfl⟩
        case measure => simp [intOf]; omega
    · obtain rfl : k = n := by omega
      have hl := H1.out.1
      rw [fds_length] at hl
      have HT : Hid (l.take k = l) := Lib.hid (List.take_of_length_le (by omega))
      clear hl
      go_wp2
      go_ret
      exact ⟨by rw [← HV.out, HT.out]; rfl, _, rfl⟩
/-- May its texts be read? -/
def shortB (l : List Fd) : Bool := l.all fun f => decide (f.1.1.size ≤ 4096) && decide (f.1.2.size ≤ 4096)
theorem shortB_iff {l : List Fd} (h : shortB l = true) : ∀ f ∈ l, f.1.1.size ≤ 4096 ∧ f.1.2.size ≤ 4096 := by
  intro f hf
  have := List.all_eq_true.1 h f hf
  simpa using this
def ShRel (w : World) (n : Nat) (l : List Fd) (jv : Value) (wr : World) : Prop := ∃ k d : Nat, jv = .int .i64 k ∧ k ≤ n ∧ wr = w.drewN d ∧ shortB (l.take k) = true
/-! ### How long a block is -/
theorem tailF_three {k x : Nat} (h : x < 2097152) : (tailF (k + 2) x).length ≤ 3 := by
  by_cases h1 : x < 128
  · rw [tailF_small _ _ h1]; simp
  · rw [tailF_big _ _ (by omega)]
    by_cases h2 : x / 128 < 128
    · rw [tailF_small _ _ h2]; simp
    · rw [tailF_big _ _ (by omega), tailF_small _ _ (by omega)]; simp
theorem putB_four {f F n : Nat} (h : n < 2097152) : (putB f F n).length ≤ 4 := by
  unfold putB
  split
  · simp
  · have : (tailF 5 (n - F)).length ≤ 3 := tailF_three (k := 3) (show n - F < 2097152 by omega)
    simp only [List.length_cons]; omega
theorem textB_four {l : List UInt8} (h : l.length ≤ 4096) : (textB l).length ≤ l.length + 4 := by
  by_cases hb : nbytes l < l.length
  · rw [textB_bits hb, List.length_append, encB_length]
    have := putB_four (f := 128) (F := 127) (n := nbytes l) (by omega)
    omega
  · rw [textB_raw (by omega), List.length_append]
    have := putB_four (f := 0) (F := 127) (n := l.length) (by omega)
    omega
theorem encOne_short {T : Tb} (hT : TOk T) (f : Fd) (h1 : f.1.1.size ≤ 4096) (h2 : f.1.2.size ≤ 4096) : (encOne T f).1.length + 20 ≤ cost f.1 := by
  have hn := (numT_bd hT f.1).1
  have a1 := putB_four (f := 16) (F := 15) (n := numT T f.1) (by omega)
  have a2 := putB_four (f := 128) (F := 127) (n := numT T f.1) (by omega)
  have a3 := putB_four (f := 0) (F := 15) (n := numT T f.1) (by omega)
  have a4 := putB_four (f := 64) (F := 63) (n := numT T f.1) (by omega)
  have l1 : f.1.1.data.toList.length = f.1.1.size := by simp
  have l2 : f.1.2.data.toList.length = f.1.2.size := by simp
  have t1 := textB_four (l := f.1.1.data.toList) (by omega)
  have t2 := textB_four (l := f.1.2.data.toList) (by omega)
  have hc : cost f.1 = f.1.1.size + f.1.2.size + 32 := rfl
  have hi : (if numT T f.1 = 0 then textB f.1.1.data.toList else []).length ≤ f.1.1.size + 4 := by
    split
    · omega
    · exact Nat.zero_le _
  have e : ∀ fl F, (namedB fl F T f.1).length = (putB fl F (numT T f.1)).length + (if numT T f.1 = 0 then textB f.1.1.data.toList else []).length + (textB f.1.2.data.toList).length := fun fl F => by unfold namedB; simp only [List.length_append]
  unfold encOne
  split
  · simp only [e]; omega
  · split
    · simp only; omega
    · split
      · simp only [e]; omega
      · simp only [e]; omega
theorem encOne_tok {T : Tb} (hT : TOk T) (f : Fd) (h1 : f.1.1.size ≤ 4096) (h2 : f.1.2.size ≤ 4096) : TOk (encOne T f).2 := by
  unfold encOne
  repeat' split
  · exact hT
  · exact hT
  · exact hT
  · exact hT.add (by omega) (by omega)
theorem encL_short : ∀ (l : List Fd) (T : Tb), TOk T → (∀ f ∈ l, f.1.1.size ≤ 4096 ∧ f.1.2.size ≤ 4096) → (encL T l).1.length + 20 * l.length ≤ sumF l
  | [], _, _, _ => by simp [encL, sumF]
  | f :: l, T, hT, hf => by
    have hb := hf f (by simp)
    have h1 := encOne_short hT f hb.1 hb.2
    have h2 := encL_short l _ (encOne_tok hT f hb.1 hb.2) fun g hg => hf g (by simp [hg])
    show ((encOne T f).1 ++ (encL (encOne T f).2 l).1).length + 20 * (f :: l).length ≤ ((f :: l).map fun f => cost f.1).sum
    unfold sumF at h2
    simp only [List.length_append, List.length_cons, List.map_cons, List.sum_cons]
    omega
theorem run_short {E : Enc} (hT : TOk E.T) (hl1 : E.least ≤ 65536) {l : List Fd} (hf : ∀ f ∈ l, f.1.1.size ≤ 4096 ∧ f.1.2.size ≤ 4096) : (E.run l).1.length ≤ 8 + sumF l ∧ (sumF l ≤ 1048576 → (E.run l).1.length ≤ 1048576) := by
  have h := encL_short l E.T hT hf
  have hm := hT.most1
  have a1 := putB_four (f := 32) (F := 31) (n := E.least.toNat) (by omega)
  have a2 := putB_four (f := 32) (F := 31) (n := E.T.most.toNat) (by omega)
  have hs : (encSz E).length ≤ 8 := by
    unfold encSz
    split
    · rw [List.length_append]; omega
    · split
      · omega
      · exact Nat.zero_le _
  have e : (E.run l).1.length = (encSz E).length + (encL E.T l).1.length := by show (encSz E ++ (encL E.T l).1).length = _; rw [List.length_append]
  refine ⟨by omega, fun h2 => ?_⟩
  cases l with
  | nil =>
    have h0 : (encL E.T []).1.length = 0 := rfl
    omega
  | cons f l => simp only [List.length_cons] at h; omega
end Go.Proofs.Ytfpcamkimjecdaa

/- An encoder and a decoder side by side in memory: what each call keeps of the other. -/
namespace Go.Proofs.Ytfpcamkimjecdaa
open Go.RowKit

theorem own_at {w : World} {base n c m size : Nat} {e : TypeId} {A : Option Addr} {xs : List Value} (h : w.ownsRow base e size (.slice A n c) m xs) : ∀ a, A = some a → base ≤ a.block ∧ a.block < w.heap.size := by
  intro a ha
  subst ha
  rcases h.2 with ⟨h1, -⟩ | ⟨g, cap, cur, h1, h2, h3, -⟩
  · injection h1 with h1; cases h1
  · injection h1 with h1; injection h1 with h1; subst h1
    exact ⟨h2, (Array.getElem?_eq_some_iff.1 h3).1⟩
/-- The block where a slice lies. -/
def atB (A : Option Addr) (k : Nat) : Prop := ∃ a : Addr, A = some a ∧ a.block = k
/-- An encoder, a decoder, and blocks X that both leave alone; all new since W. -/
structure Duo (W w : World) (e d : Nat) (G H X : Nat → Prop) (N M : Nat) (mo li : Int) (E : Enc) (T : Tb) : Prop where
  enc : EncIs w e G N E
  dec : DecIs w d H M mo li T false
  nG : ∀ k, G k → W.heap.size ≤ k
  nH : ∀ k, H k → W.heap.size ≤ k
  nX : ∀ k, X k → W.heap.size ≤ k ∧ k < w.heap.size
  aGH : ∀ k, G k → ¬ H k
  aGX : ∀ k, G k → ¬ X k
  aHX : ∀ k, H k → ¬ X k
  bel : Below W.heap.size W w
section
variable {W w w' : World} {e d x : Nat} {G H X : Nat → Prop} {N M : Nat} {mo li : Int} {E : Enc} {T : Tb}
/-- Where nothing of it is turned. -/
theorem Duo.still (h : Duo W w e d G H X N M mo li E T) (hb : Below w.heap.size w w') : Duo W w' e d G H X N M mo li E T :=
  ⟨h.enc.below hb, h.dec.keep (fun k hk => hb.block k (h.dec.lt k hk)), h.nG, h.nH, fun k hk => ⟨(h.nX k hk).1, Nat.lt_of_lt_of_le (h.nX k hk).2 hb.size⟩, h.aGH, h.aGX, h.aHX, h.bel.trans (hb.mono h.bel.size)⟩
theorem Duo.drewN (h : Duo W w e d G H X N M mo li E T) (n : Nat) : Duo W (w.drewN n) e d G H X N M mo li E T := h.still (below_dN (Below.refl _ _) n)
/-- One more block that is left alone. -/
theorem Duo.also (h : Duo W w e d G H X N M mo li E T) {Y : Nat → Prop} (h1 : ∀ k, Y k → W.heap.size ≤ k ∧ k < w.heap.size) (h2 : ∀ k, Y k → ¬ G k) (h3 : ∀ k, Y k → ¬ H k) : Duo W w e d G H (fun k => X k ∨ Y k) N M mo li E T :=
  { h with nX := fun k hk => hk.elim (h.nX k) (h1 k), aGX := fun k hk hx => hx.elim (h.aGX k hk) (fun hy => h2 k hy hk), aHX := fun k hk hx => hx.elim (h.aHX k hk) (fun hy => h3 k hy hk) }
theorem Duo.with (h : Duo W w e d G H X N M mo li E T) {A : Option Addr} (hA : ∀ a, A = some a → W.heap.size ≤ a.block ∧ a.block < w.heap.size ∧ ¬ G a.block ∧ ¬ H a.block) : Duo W w e d G H (fun k => X k ∨ atB A k) N M mo li E T :=
  h.also (fun k ⟨a, ha, hk⟩ => by subst hk; exact ⟨(hA a ha).1, (hA a ha).2.1⟩) (fun k ⟨a, ha, hk⟩ => by subst hk; exact (hA a ha).2.2.1) (fun k ⟨a, ha, hk⟩ => by subst hk; exact (hA a ha).2.2.2)
theorem Duo.rdG (h : Duo W w e d G H X N M mo li E T) (hk : Kept G w w') {s n : Nat} {A : Option Addr} {xs : List Value} (hr : Rd w w.heap.size s A n xs) (hX : ∀ k, atB A k → X k) : Rd w' w'.heap.size s A n xs :=
  hr.kept hk fun _ a ha hg => h.aGX _ hg (hX _ ⟨a, ha, rfl⟩)
theorem Duo.rdH (h : Duo W w e d G H X N M mo li E T) (hk : Kept H w w') {s n : Nat} {A : Option Addr} {xs : List Value} (hr : Rd w w.heap.size s A n xs) (hX : ∀ k, atB A k → X k) : Rd w' w'.heap.size s A n xs :=
  hr.kept hk fun _ a ha hg => h.aHX _ hg (hX _ ⟨a, ha, rfl⟩)
theorem Duo.notG (h : Duo W w e d G H X N M mo li E T) {n : Nat} {A : Option Addr} (hX : ∀ k, atB A k → X k) : 0 < n → ∀ a, A = some a → ¬ G a.block := fun _ a ha hg => h.aGX _ hg (hX _ ⟨a, ha, rfl⟩)
theorem Duo.notH (h : Duo W w e d G H X N M mo li E T) {n : Nat} {A : Option Addr} (hX : ∀ k, atB A k → X k) : 0 < n → ∀ a, A = some a → ¬ H a.block := fun _ a ha hg => h.aHX _ hg (hX _ ⟨a, ha, rfl⟩)
theorem Duo.less (h : Duo W w e d G H X N M mo li E T) {Y : Nat → Prop} (hy : ∀ k, Y k → X k) : Duo W w e d G H Y N M mo li E T :=
  { h with nX := fun k hk => h.nX k (hy k hk), aGX := fun k hk hx => h.aGX k hk (hy k hx), aHX := fun k hk hx => h.aHX k hk (hy k hx) }
theorem Duo.more (h : Duo W w e d G H X N M mo li E T) {N' M' : Nat} (hN : N ≤ N') (hM : M ≤ M') (hN' : N' ≤ 1099511627776) (hM' : M' ≤ 1099511627776) : Duo W w e d G H X N' M' mo li E T :=
  { h with enc := h.enc.more hN hN', dec := h.dec.more hM hM' }
/-- Another decoder in the first one's place. -/
theorem Duo.swap {K Y : Nat → Prop} {M' : Nat} {li' : Int} {T' : Tb} (h : Duo W w e d G H X N M mo li E T) (h2 : DecIs w x K M' mo li' T' false) (hK : ∀ k, K k → X k) (hY : ∀ k, Y k → X k) (hKY : ∀ k, K k → ¬ Y k) : Duo W w e x G K (fun k => H k ∨ Y k) N M' mo li' E T' :=
  ⟨h.enc, h2, h.nG, fun k hk => (h.nX k (hK k hk)).1, fun k hk => hk.elim (fun hh => ⟨h.nH k hh, h.dec.lt k hh⟩) (fun hy => h.nX k (hY k hy)), fun k hg hk => h.aGX k hg (hK k hk), fun k hg hk => hk.elim (h.aGH k hg) (fun hy => h.aGX k hg (hY k hy)),
    fun k hk hx => hx.elim (fun hh => h.aHX k hh (hK k hk)) (hKY k hk), h.bel⟩
theorem Duo.decG {K : Nat → Prop} {M' : Nat} {li' : Int} {T' : Tb} (h : Duo W w e d G H X N M mo li E T) (hk : Kept G w w') (h2 : DecIs w x K M' mo li' T' false) (hK : ∀ k, K k → X k) : DecIs w' x K M' mo li' T' false :=
  h2.keep fun k hk' => hk.block k (h2.lt k hk') (fun hg => h.aGX k hg (hK k hk'))
theorem Duo.decH {K : Nat → Prop} {M' : Nat} {li' : Int} {T' : Tb} (h : Duo W w e d G H X N M mo li E T) (hk : Kept H w w') (h2 : DecIs w x K M' mo li' T' false) (hK : ∀ k, K k → X k) : DecIs w' x K M' mo li' T' false :=
  h2.keep fun k hk' => hk.block k (h2.lt k hk') (fun hg => h.aHX k hg (hK k hk'))
/-- What came later lies apart from what was there. -/
theorem apart_at {K : Nat → Prop} {M' : Nat} {li' : Int} {T' : Tb} {A : Option Addr} (h2 : DecIs w x K M' mo li' T' false) (hA : ∀ a, A = some a → w.heap.size ≤ a.block) : ∀ k, K k → ¬ atB A k := by
  rintro k hk ⟨a, ha, rfl⟩
  have := h2.lt _ hk
  have := hA a ha
  omega
theorem fds_rows (l : List Rw) : fds (l.map fun r => (r, false)) = fcs l := by
  induction l with
  | nil => rfl
  | cons r l ih => rw [List.map_cons, fds_cons, ih]; rfl
def DuoEnc (W w : World) (e d : Nat) (G H X : Nat → Prop) (N M : Nat) (mo li : Int) (E' : Enc) (T : Tb) (b : List UInt8) (ev : Ending) (w' : World) : Prop :=
  ∃ A c G', ev = .returned (.slice A b.length c) ∧ b.length ≤ c ∧ c ≤ maxLen ∧ Rd w' w'.heap.size 1 A b.length (bvs b) ∧ Duo W w' e d G' H (fun k => X k ∨ atB A k) N M mo li E' T ∧ Kept G w w' ∧ ∀ a, A = some a → w.heap.size ≤ a.block
theorem Duo.encode (h : Duo W w e d G H X N M mo li E T) {n c : Nat} {A : Option Addr} (l : List Fd) (hr : Rd w w.heap.size 3 A n (fds l)) (hAG : 0 < n → ∀ a, A = some a → ¬ G a.block) (hl0 : 0 ≤ E.least) (hl1 : E.least ≤ 65536) (hN : N + n ≤ 1099511627776) (hn : n ≤ 1048576)
    (hf : ∀ f ∈ l, f.1.1.size ≤ 1048576 ∧ f.1.2.size ≤ 1048576) :
    Calls Try.prog 10 #[.pointer (some ⟨e, 0, none⟩), .slice A n c] w (DuoEnc W w e d G H X (N + n) M mo li (E.run l).2 T (E.run l).1) := by
  have hln : l.length = n := by have := hr.1; rw [fds_length] at this; omega
  refine (encode_any (c := c) l w h.enc hr hAG hl0 hl1 hN hn hln hf).mono ?_
  rintro ev w' ⟨v, rfl, ho, G', he, hk, hg, hv⟩
  obtain ⟨A', c', rfl, hc, hm, hr', hA'⟩ := own_slice ho
  have hs := hk.size
  have hown := own_at ho
  refine ⟨A', c', G', rfl, hc, hm, hr', Duo.with (X := X) ⟨he, h.dec.keep fun k hk' => hk.block k (h.dec.lt k hk') (fun hG => h.aGH k hG hk'), fun k hk' => (hg k hk').elim (h.nG k) (fun h2 => Nat.le_trans h.bel.size h2), h.nH, fun k hk' => ⟨(h.nX k hk').1, Nat.lt_of_lt_of_le (h.nX k hk').2 hs⟩,
    fun k hk' hH => (hg k hk').elim (fun hG => h.aGH k hG hH) (fun h2 => by have := h.dec.lt k hH; omega), fun k hk' hX => (hg k hk').elim (fun hG => h.aGX k hG hX) (fun h2 => by have := (h.nX k hX).2; omega), h.aHX, h.bel.trans (hk.below h.nG h.bel.size)⟩ (fun a ha => ?_), hk, fun a ha => (hown a ha).1⟩
  have h1 := hown a ha
  refine ⟨Nat.le_trans h.bel.size h1.1, h1.2, ?_, fun hH => by have := h.dec.lt _ hH; omega⟩
  subst ha
  refine hv a.block ?_
  rcases ho.2 with ⟨h1, h2⟩ | ⟨g, cap, cur, h1, h2, h3⟩
  · injection h1 with h1; cases h1
  · injection h1 with h1; injection h1 with h1; subst h1; rfl
def DuoDec (W w : World) (e d : Nat) (G H X : Nat → Prop) (N M : Nat) (mo li : Int) (E : Enc) (T' : Tb) (fl : List Fd) (er : Nat) (ev : Ending) (w' : World) : Prop :=
  ∃ A c H', ev = .returned (.tuple #[.slice A fl.length c, .int .i64 (er : Int)]) ∧ Rd w' w'.heap.size 3 A fl.length (fds fl) ∧ Duo W w' e d G H' (fun k => X k ∨ atB A k) N M mo li E T' ∧ Kept H w w' ∧ ∀ a, A = some a → w.heap.size ≤ a.block
theorem Duo.decode (h : Duo W w e d G H X N M mo li E T) {n cap : Nat} {A : Option Addr} {b : List UInt8} {fl : List Fd} {er : Nat} {T' : Tb} (hr : Rd w w.heap.size 1 A n (bvs b)) (hcap : n ≤ cap) (hm : cap ≤ maxLen) (hn : n ≤ 1048576) (hA : 0 < n → ∀ a, A = some a → ¬ H a.block) (hmo : mo ≤ 65536) (hM : M + n ≤ 1099511627776)
    (ho : outD mo li T b = (fl, er, some T')) :
    Calls Try.prog 21 #[.pointer (some ⟨d, 0, none⟩), .slice A n cap] w (DuoDec W w e d G H X N (M + n) mo li E T' fl er) := by
  refine (decode_any w h.dec hr hcap hm hn hA hmo hM).mono ?_
  rw [ho]
  rintro ev w' ⟨A', c', rfl, hown, H', T1, hd, hT, hA', hk, hg⟩
  have e1 := hT T' rfl
  subst e1
  obtain ⟨A2, c2, hv, hc, hm2, hr', hb'⟩ := own_slice hown
  injection hv with hv1 hv2 hv3
  subst hv1
  have hs := hk.size
  have hat := own_at hown
  exact ⟨A', c', H', rfl, hr', Duo.with (X := X) ⟨h.enc.keep fun k hk' => hk.block k (h.enc.lt k hk') (fun hH => h.aGH k hk' hH), hd, h.nG, fun k hk' => (hg k hk').elim (h.nH k) (fun h2 => Nat.le_trans h.bel.size h2), fun k hk' => ⟨(h.nX k hk').1, Nat.lt_of_lt_of_le (h.nX k hk').2 hs⟩,
    fun k hG hH' => (hg k hH').elim (h.aGH k hG) (fun h2 => by have := h.enc.lt k hG; omega), h.aGX, fun k hH' hX => (hg k hH').elim (fun hH => h.aHX k hH hX) (fun h2 => by have := (h.nX k hX).2; omega), h.bel.trans (hk.below h.nH h.bel.size)⟩
    (fun a ha => ⟨Nat.le_trans h.bel.size (hat a ha).1, (hat a ha).2, fun hG => by have := h.enc.lt _ hG; have := (hat a ha).1; omega, hA' a ha⟩), hk, fun a ha => (hat a ha).1⟩
end
end Go.Proofs.Ytfpcamkimjecdaa

/- Blocks of fields in frames: what the frames are, and what they hold, in plain lists. -/
namespace Go.Proofs.Ytfpcamkimjecdaa
open Go.RowKit

def sizeAt (sz : List UInt8) (i : Nat) : Nat := if sz.length = 0 then 17 else max 1 (ba sz (i % sz.length))
def padAt (pd : List UInt8) (s : Nat) : Nat := ba pd (s % pd.length)
def padB (pd : List UInt8) (s : Nat) : Bool := decide (0 < pd.length) && decide (padAt pd s % 2 = 1)
/-- Is this frame padded? -/
def padK (pd : List UInt8) (st kind : Nat) : Bool := decide (kind = 1) && padB pd st
def frAt (sz pd : List UInt8) (st i kind : Nat) (b : List UInt8) : Fr × Bool :=
  (⟨kind, (if padK pd st kind then 8 else 0) + (if b.length ≤ sizeAt sz (st + i) then 4 else 0), st, ⟨(b.take (sizeAt sz (st + i))).toArray⟩, if padK pd st kind then padAt pd st else 0⟩, padK pd st kind)
def laidF (sz pd : List UInt8) (st : Nat) : Nat → Nat → Nat → List UInt8 → List (Fr × Bool)
  | 0, _, _, _ => []
  | n + 1, i, kind, b => if b.length ≤ sizeAt sz (st + i) then [frAt sz pd st i kind b] else frAt sz pd st i kind b :: laidF sz pd st n (i + 1) 9 (b.drop (sizeAt sz (st + i)))
def laidL (sz pd : List UInt8) (st : Nat) (b : List UInt8) : List (Fr × Bool) := laidF sz pd st (b.length + 1) 0 1 b
theorem sizeAt_pos (sz : List UInt8) (i : Nat) : 1 ≤ sizeAt sz i := by
  unfold sizeAt
  split
  · omega
  · exact Nat.le_max_left _ _
theorem sizeAt_le (sz : List UInt8) (i : Nat) : sizeAt sz i ≤ 255 := by
  unfold sizeAt
  split
  · omega
  · have := ba_lt sz (i % sz.length)
    omega
theorem bits8 (pk : Bool) {k : Nat} (h : k = 0 ∨ k = 4) : Go.bits .and .i64 (((if pk then 8 else 0) + k : Nat) : Int) 8 = if pk then 8 else 0 := by
  rcases h with rfl | rfl <;> cases pk <;> decide
theorem bits32 (pk : Bool) {k : Nat} (h : k = 0 ∨ k = 4) : Go.bits .and .i64 (((if pk then 8 else 0) + k : Nat) : Int) 32 = 0 := by
  rcases h with rfl | rfl <;> cases pk <;> decide
theorem frAt_good (sz pd : List UInt8) {st i kind : Nat} {b : List UInt8} (hk : kind = 1 ∨ kind = 9) (h1 : 0 < st) (h2 : st ≤ 2147483647) : Good 16384 (frAt sz pd st i kind b) := by
  have hs := sizeAt_le sz (st + i)
  have hp := ba_lt pd (st % pd.length)
  have hpad : padK pd st kind = true → 1 ≤ padAt pd st := by
    intro h
    simp only [padK, padB, Bool.and_eq_true, decide_eq_true_eq] at h
    omega
  have hk9 : kind = 9 → padK pd st kind = false := by intro h; simp [padK, h]
  have hple : padAt pd st ≤ 255 := by unfold padAt; omega
  have hdl : (⟨(b.take (sizeAt sz (st + i))).toArray⟩ : ByteArray).size ≤ 255 := by
    show (b.take (sizeAt sz (st + i))).toArray.size ≤ 255
    simp only [List.size_toArray, List.length_take]
    omega
  obtain ⟨pk, hpk⟩ : ∃ pk, padK pd st kind = pk := ⟨_, rfl⟩
  obtain ⟨lst, hlst⟩ : ∃ lst, (if b.length ≤ sizeAt sz (st + i) then 4 else 0 : Nat) = lst := ⟨_, rfl⟩
  have hl4 : lst = 0 ∨ lst = 4 := by rw [← hlst]; split <;> simp
  unfold frAt
  rw [hpk, hlst]
  rw [hpk] at hpad hk9
  have hpf : (if pk = true then padAt pd st else 0) ≤ 255 := by split <;> omega
  have hok : FrOk ⟨kind, (if pk = true then 8 else 0) + lst, st, ⟨(b.take (sizeAt sz (st + i))).toArray⟩, if pk = true then padAt pd st else 0⟩ pk := by
    refine ⟨by rcases hk with h | h <;> simp [h], ?_, h2, hpf, ?_, ?_, ?_, ?_, ?_⟩
    · show (if pk = true then 8 else 0) + lst < 256
      split <;> omega
    · rintro rfl; rfl
    · intro h; rw [hk9 h]; rfl
    · exact bits8 pk hl4
    · exact fun _ => bits32 pk hl4
    · exact Nat.le_trans hdl (by omega)
  refine ⟨hok, ?_, h1, ?_⟩
  · intro h
    have h' : pk = true := h
    subst h'
    exact hpad rfl
  · refine Nat.le_trans (payL_length _ _) ?_
    show (⟨(b.take (sizeAt sz (st + i))).toArray⟩ : ByteArray).size + (if pk = true then padAt pd st else 0) + 1 ≤ 16384
    omega
theorem laidF_good (sz pd : List UInt8) {st : Nat} (h1 : 0 < st) (h2 : st ≤ 2147483647) : ∀ (n i kind : Nat) (b : List UInt8), (kind = 1 ∨ kind = 9) → ∀ p ∈ laidF sz pd st n i kind b, Good 16384 p
  | 0, _, _, _, _, p, hp => by cases hp
  | n + 1, i, kind, b, hk, p, hp => by
    unfold laidF at hp
    split at hp
    · obtain rfl : p = frAt sz pd st i kind b := by simpa using hp
      exact frAt_good sz pd hk h1 h2
    · rcases List.mem_cons.1 hp with rfl | hp
      · exact frAt_good sz pd hk h1 h2
      · exact laidF_good sz pd h1 h2 n _ _ _ (.inr rfl) p hp
theorem laidF_len (sz pd : List UInt8) (st : Nat) : ∀ (n i kind : Nat) (b : List UInt8), (laidF sz pd st n i kind b).length ≤ n
  | 0, _, _, _ => Nat.le_refl _
  | n + 1, i, kind, b => by
    unfold laidF
    split
    · simp
    · have := laidF_len sz pd st n (i + 1) 9 (b.drop (sizeAt sz (st + i)))
      simp only [List.length_cons]
      omega
/-- What frames carry: these blocks, of the first one of which 'cur' came before. -/
def Fin : List (Fr × Bool) → List (List UInt8) → List UInt8 → Prop
  | [], bs, cur => bs = [] ∧ cur = []
  | p :: fs, bs, cur => if p.1.fl / 4 % 2 = 1 then ∃ b bs', bs = b :: bs' ∧ cur ++ p.1.data.data.toList = b ∧ Fin fs bs' [] else bs ≠ [] ∧ Fin fs bs (cur ++ p.1.data.data.toList)
theorem Fin.le : ∀ {fs : List (Fr × Bool)} {b : List UInt8} {bs : List (List UInt8)} {cur : List UInt8}, Fin fs (b :: bs) cur → cur.length ≤ b.length
  | [], b, bs, cur, h => by cases h.1
  | p :: fs, b, bs, cur, h => by
    unfold Fin at h
    split at h
    · obtain ⟨b', bs', e, h2, -⟩ := h
      injection e with e1 e2
      subst e1
      rw [← h2, List.length_append]
      omega
    · have := Fin.le h.2
      rw [List.length_append] at this
      omega
theorem frAt_fl (sz pd : List UInt8) (st i kind : Nat) (b : List UInt8) : (frAt sz pd st i kind b).1.fl / 4 % 2 = if b.length ≤ sizeAt sz (st + i) then 1 else 0 := by
  show ((if padK pd st kind = true then 8 else 0) + (if b.length ≤ sizeAt sz (st + i) then 4 else 0)) / 4 % 2 = _
  split <;> split <;> rfl
theorem frAt_data (sz pd : List UInt8) (st i kind : Nat) (b : List UInt8) : (frAt sz pd st i kind b).1.data.data.toList = b.take (sizeAt sz (st + i)) := by simp [frAt]
theorem laidF_fin (sz pd : List UInt8) (st : Nat) {gs : List (Fr × Bool)} {bs : List (List UInt8)} (hg : Fin gs bs []) : ∀ (n i kind : Nat) (b cur : List UInt8), b.length < n → Fin (laidF sz pd st n i kind b ++ gs) ((cur ++ b) :: bs) cur
  | 0, _, _, _, _, h => by omega
  | n + 1, i, kind, b, cur, h => by
    have hp := sizeAt_pos sz (st + i)
    unfold laidF
    split
    · rename_i hle
      show Fin (frAt sz pd st i kind b :: gs) _ _
      unfold Fin
      rw [frAt_fl, if_pos hle, if_pos rfl, frAt_data, List.take_of_length_le hle]
      exact ⟨_, _, rfl, rfl, hg⟩
    · rename_i hle
      show Fin (frAt sz pd st i kind b :: (laidF sz pd st n (i + 1) 9 (b.drop (sizeAt sz (st + i))) ++ gs)) _ _
      unfold Fin
      rw [frAt_fl, if_neg hle, if_neg (by omega), frAt_data]
      have ih := laidF_fin sz pd st hg n (i + 1) 9 (b.drop (sizeAt sz (st + i))) (cur ++ b.take (sizeAt sz (st + i))) (by rw [List.length_drop]; omega)
      rw [List.append_assoc, List.take_append_drop] at ih
      exact ⟨by simp, ih⟩
/-- The frames of all blocks, the i-th one's on the stream 2 * i + 1. -/
def allF (sz pd : List UInt8) : Nat → List (List UInt8) → List (Fr × Bool)
  | _, [] => []
  | i, b :: bs => laidL sz pd (2 * i + 1) b ++ allF sz pd (i + 1) bs
theorem allF_snoc (sz pd : List UInt8) (b : List UInt8) : ∀ (bs : List (List UInt8)) (i : Nat), allF sz pd i (bs ++ [b]) = allF sz pd i bs ++ laidL sz pd (2 * (i + bs.length) + 1) b
  | [], i => by simp [allF]
  | c :: bs, i => by
    show laidL sz pd (2 * i + 1) c ++ allF sz pd (i + 1) (bs ++ [b]) = (laidL sz pd (2 * i + 1) c ++ allF sz pd (i + 1) bs) ++ _
    rw [allF_snoc sz pd b bs (i + 1), List.append_assoc, List.length_cons, show i + 1 + bs.length = i + (bs.length + 1) by omega]
theorem allF_fin (sz pd : List UInt8) : ∀ (bs : List (List UInt8)) (i : Nat), Fin (allF sz pd i bs) bs []
  | [], _ => ⟨rfl, rfl⟩
  | b :: bs, i => by
    have := laidF_fin sz pd (2 * i + 1) (allF_fin sz pd bs (i + 1)) (b.length + 1) 0 1 b [] (by omega)
    exact this
theorem allF_good (sz pd : List UInt8) : ∀ (bs : List (List UInt8)) (i : Nat), i + bs.length ≤ 1000 → ∀ p ∈ allF sz pd i bs, Good 16384 p
  | [], _, _, p, hp => by cases hp
  | b :: bs, i, hi, p, hp => by
    simp only [List.length_cons] at hi
    rcases List.mem_append.1 hp with h | h
    · exact laidF_good sz pd (by omega) (by omega) _ _ _ _ (.inl rfl) p h
    · exact allF_good sz pd bs (i + 1) (by omega) p h
def lens (bs : List (List UInt8)) : Nat := (bs.map List.length).sum
theorem lens_cons (b : List UInt8) (bs : List (List UInt8)) : lens (b :: bs) = b.length + lens bs := by simp [lens]
theorem lens_snoc (b : List UInt8) (bs : List (List UInt8)) : lens (bs ++ [b]) = lens bs + b.length := by simp [lens]
theorem allF_len (sz pd : List UInt8) : ∀ (bs : List (List UInt8)) (i : Nat), (allF sz pd i bs).length ≤ lens bs + bs.length
  | [], _ => Nat.zero_le _
  | b :: bs, i => by
    have h1 := laidF_len sz pd (2 * i + 1) (b.length + 1) 0 1 b
    have h2 := allF_len sz pd bs (i + 1)
    show (laidL sz pd (2 * i + 1) b ++ allF sz pd (i + 1) bs).length ≤ _
    rw [lens_cons, List.length_append, List.length_cons]
    unfold laidL
    omega
theorem strm_len {most : Nat} : ∀ (fs : List (Fr × Bool)), (∀ p ∈ fs, Good most p) → (strm fs).length ≤ fs.length * (9 + most)
  | [], _ => by simp [strm]
  | p :: fs, h => by
    have h1 := strm_len fs (fun q hq => h q (by simp [hq]))
    have h2 := (h p (by simp)).len
    rw [strm_cons, List.length_append, frB_length, List.length_cons, Nat.add_mul]
    omega
/-- A decoder reads these blocks as these lists, one behind the other. -/
def Decs (mo li : Int) : Tb → List (List UInt8) → List (List Fd) → Tb → Prop
  | T, [], ls, T' => ls = [] ∧ T = T'
  | T, b :: bs, ls, T' => ∃ l ls' T1, ls = l :: ls' ∧ b.length ≤ 1048576 ∧ outD mo li T b = (l.map told, 0, some T1) ∧ Decs mo li T1 bs ls' T'
theorem Decs.snoc {mo li : Int} {b : List UInt8} {l : List Fd} {T1 T2 : Tb} (hb : b.length ≤ 1048576) (ho : outD mo li T1 b = (l.map told, 0, some T2)) : ∀ {bs : List (List UInt8)} {ls : List (List Fd)} {T : Tb}, Decs mo li T bs ls T1 → Decs mo li T (bs ++ [b]) (ls ++ [l]) T2
  | [], ls, T, h => by
    obtain ⟨rfl, rfl⟩ := h
    exact ⟨l, [], T2, rfl, hb, ho, rfl, rfl⟩
  | c :: bs, ls, T, h => by
    obtain ⟨l1, ls1, T3, rfl, h1, h2, h3⟩ := h
    exact ⟨l1, ls1 ++ [l], T3, rfl, h1, h2, Decs.snoc hb ho h3⟩
theorem Decs.len {mo li : Int} : ∀ {bs : List (List UInt8)} {ls : List (List Fd)} {T T' : Tb}, Decs mo li T bs ls T' → bs.length = ls.length
  | [], ls, T, T', h => by obtain ⟨rfl, -⟩ := h; rfl
  | c :: bs, ls, T, T', h => by
    obtain ⟨l1, ls1, T3, rfl, -, -, h3⟩ := h
    have := Decs.len h3
    simp only [List.length_cons]
    omega
end Go.Proofs.Ytfpcamkimjecdaa

/- The walks of drawbridgetop.readable, drawbridgetop.frames. -/
namespace Go.Proofs.Ytfpcamkimjecdaa
open Go.RowKit

def ReRel (w : World) (n : Nat) (l : List Fd) (jv : Value) (wr : World) : Prop := ∃ k d : Nat, jv = .int .i64 k ∧ k ≤ n ∧ wr = w.drewN d ∧ shortB (l.take k) = true
set_option maxRecDepth 100000 in
set_option maxHeartbeats 2000000 in
theorem readable_any {A : Option Addr} {B n c : Nat} {l : List Fd} (w : World) (hr : Rd w B 3 A n (fds l)) (hn : n ≤ 140737488351232) (hz : ∀ f ∈ l, f.1.1.size ≤ 140737488351232 ∧ f.1.2.size ≤ 140737488351232) :
    Calls Try.prog 6 #[.slice A n c] w fun e w' => e = .returned (.bool (shortB l)) ∧ ∃ d, w' = w.drewN d := by
  have H1 := Lib.hid hr
  have HZ := Lib.hid hz
  clear hr hz
  go_enter Try.func6, Try.ntmps6
  go_wp2
  go_loopw [3] (fun jv wr => ReRel w n l jv wr) (fun jv _ => n - (intOf jv).toNat)
  case atStart => exact ⟨0, 0, rfl, Nat.zero_le _, rfl, rfl⟩
  case round =>
    obtain ⟨k, d, rfl, hk, rfl, hs⟩ := hrel
    have HS := Lib.hid hs
    clear hs
    by_cases hlt : k < n
    · obtain ⟨hl, b, o, rfl, hb, hc⟩ := fd_at H1.out (by omega)
      obtain ⟨f, hf⟩ : ∃ f, l[k]? = some f := ⟨_, List.getElem?_eq_getElem (by omega)⟩
      obtain ⟨q0, q1, q2⟩ := hc k f hf
      have z0 : ∀ d, (w.drewN d).cell? ⟨b, o + k * 3, none⟩ = some (.string f.1.1) := fun _ => q0
      have z1 : ∀ d, (w.drewN d).cell? ⟨b, o + k * 3 + 1, none⟩ = some (.string f.1.2) := fun _ => q1
      obtain ⟨s1, s2⟩ := HZ.out f (List.mem_of_getElem? hf)
      have n1 : (k : Int) < n := by omega
      have HT : Hid (f.1.1.size ≤ 4096 → f.1.2.size ≤ 4096 → shortB (l.take (k + 1)) = true) := Lib.hid fun a b => by
        unfold shortB at HS ⊢
        rw [List.take_add_one, hf, Option.toList_some, List.all_append, HS.out]
        simp [a, b]
      have HN : Hid (¬ (f.1.1.size ≤ 4096 ∧ f.1.2.size ≤ 4096) → shortB l = false) := Lib.hid fun h => by
        cases hb : shortB l with
        | false => rfl
        | true => exact absurd (shortB_iff hb f (List.mem_of_getElem? hf)) h
      clear hc hf hl
      obtain ⟨a, ha⟩ : ∃ a, f.1.1.size = a := ⟨_, rfl⟩
      obtain ⟨a', ha'⟩ : ∃ a', f.1.2.size = a' := ⟨_, rfl⟩
      rw [ha, ha'] at HT HN
      by_cases h1 : a ≤ 4096
      · by_cases h2 : a' ≤ 4096
        · go_wp2
          go_roundw
          case rel => exact ⟨k + 1, _, by go_num, by omega, rfl, HT.out h1 h2⟩
          case measure => simp [intOf]; omega
        · go_wp2
          go_ret
          exact ⟨by rw [HN.out (by omega)]; rfl, _, rfl⟩
      · go_wp2
        go_ret
        exact ⟨by rw [HN.out (by omega)]; rfl, _, rfl⟩
    · obtain rfl : k = n := by omega
      have hl := H1.out.1
      rw [fds_length] at hl
      have HT : Hid (shortB l = true) := Lib.hid (by have := HS.out; rwa [List.take_of_length_le (by omega)] at this)
      clear hl
      go_wp2
      go_ret
      exact ⟨by rw [HT.out]; rfl, _, rfl⟩
theorem itL_length (f : Fr) : (itL f).length = 15 := rfl
theorem itsL_length (fs : List (Fr × Bool)) : (itsL fs).length = fs.length * 15 := by
  induction fs with
  | nil => rfl
  | cons p fs ih => show (itL p.1 ++ itsL fs).length = _; rw [List.length_append, ih, itL_length, List.length_cons]; omega
theorem itsL_get {fs : List (Fr × Bool)} : ∀ {j : Nat} {p : Fr × Bool}, fs[j]? = some p → ∀ i, i < 15 → (itsL fs)[j * 15 + i]? = (itL p.1)[i]? := by
  induction fs with
  | nil => intro j p h; cases h
  | cons q fs ih =>
    intro j p h i hi
    show (itL q.1 ++ itsL fs)[j * 15 + i]? = _
    cases j with
    | zero =>
      obtain rfl : q = p := by simpa using h
      rw [Nat.zero_mul, Nat.zero_add, List.getElem?_append_left (by rw [itL_length]; exact hi)]
    | succ j =>
      rw [List.getElem?_append_right (by rw [itL_length]; omega), itL_length, show (j + 1) * 15 + i - 15 = j * 15 + i by omega]
      exact ih (by simpa using h) i hi
theorem it_at {w : World} {B n : Nat} {A : Option Addr} {fs : List (Fr × Bool)} (h : Rd w B 15 A n (itsL fs)) (hn : 0 < n) : fs.length = n ∧ ∃ b o, A = some ⟨b, o, none⟩ ∧ b < B ∧ ∀ j p, fs[j]? = some p → ∀ i, i < 15 → w.cell? ⟨b, o + j * 15 + i, none⟩ = (itL p.1)[i]? := by
  have hl := h.1
  rw [itsL_length] at hl
  obtain ⟨b, o, hA, hb, hc⟩ := h.2 hn
  refine ⟨by omega, b, o, hA, hb, fun j p hj i hi => ?_⟩
  have hjl := (List.getElem?_eq_some_iff.1 hj).1
  rw [Nat.add_assoc, hc (j * 15 + i) (by omega), itsL_get hj i hi]
def hiF : Fr := ⟨0, 0, 1, ⟨#[104, 105]⟩, 0⟩
theorem hi_good : Good 100 (hiF, false) := by
  refine ⟨⟨.inl rfl, by decide, by decide, by decide, fun _ => rfl, fun _ => rfl, by decide, (fun h => by cases h), by decide⟩, (fun h => by cases h), by decide, by decide⟩
set_option maxRecDepth 100000 in
set_option maxHeartbeats 4000000 in
theorem frames_any (w : World) : Calls Try.prog 4 #[] w fun e w' => e = .returned (.bool true) ∧ Below w.heap.size w w' := by
  have HP := Lib.hid (fput_any hiF false w hi_good.ok)
  go_enter Try.func4, Try.ntmps4
  go_wp2_with fail
  refine HP.out.mono ?_
  rintro e1 w1 ⟨v1, rfl, ho1, hb1⟩
  have HN := Lib.hid (newfeed_any 100 w1 (by omega) (by omega))
  obtain ⟨A1, c1, rfl, hrd1⟩ := ho1.rd
  have H1 := Lib.hid (And.intro ho1 (And.intro hb1 hrd1))
  clear ho1 hb1 hrd1
  go_wp2_with fail
  refine HN.out.mono ?_
  rintro e2 w2 ⟨rfl, hf2, hb2⟩
  have hx : w1.heap.size < w2.heap.size := hf2.lt
  obtain ⟨m, hm⟩ : ∃ m, (frB hiF false).length = m := ⟨_, rfl⟩
  rw [hm] at H1 ⊢
  have hrd2 : Rd w2 w2.heap.size 1 A1 m (bvs (frB hiF false)) := (H1.out.2.2.below hb2 (Nat.le_refl _)).more hb2.size
  have hA1 : 0 < m → ∀ a, A1 = some a → a.block ≠ w1.heap.size ∧ (Value.slice none 0 0).ownBlock ≠ some a.block := by
    intro _ a ha
    subst ha
    have := World.ownsRow.lt H1.out.1 a.block rfl
    exact ⟨by omega, by simp [Value.ownBlock]⟩
  have hnil : OwnB w2 w2.heap.size (.slice none 0 0) [] := ⟨rfl, .inl ⟨rfl, rfl⟩⟩
  have hml : m = 11 := by rw [← hm]; decide
  have HT := Lib.hid (fdtake_any (x := w1.heap.size) (most := 100) (cap := c1) (left := []) [(hiF, false)] w2 (by omega) (by simp only [List.mem_singleton, forall_eq]; exact hi_good) hf2 hnil hx (Nat.le_refl _) hrd2 hA1 (by simp [strm]) (by simp; omega) (by simp))
  have H2 := Lib.hid (And.intro hf2 (And.intro hb2 hm))
  have HX := Lib.hid hx
  clear hf2 hb2 hrd2 hA1 hnil hx hm HN hml
  go_wp2_with fail
  refine HT.out.mono ?_
  rintro e3 w3 ⟨k, r, V, v', rfl, hk, hL, hpre, hlast, hrow, hv', hf3, hk3⟩
  obtain rfl : k = 1 := by
    have hk1 : k ≤ 1 := hk
    rcases Nat.lt_or_ge k 1 with h | h
    · exfalso
      obtain rfl : k = 0 := by omega
      have h1 := hlast (hiF, false) rfl
      have h2 := congrArg List.length hL
      simp [strm] at h2
      have h3 : (frB hiF false).length = 9 + (payL hiF false).length := frB_length _ _
      dsimp only at h1
      omega
    · omega
  obtain ⟨A3, c3, rfl, -, -, hr3, -⟩ := own_slice hrow
  obtain ⟨-, b, o, rfl, -, hc⟩ := it_at hr3 (by omega)
  have y3 : w3.cell? ⟨b, o + 3, none⟩ = some (.string ⟨#[104, 105]⟩) := hc 0 (hiF, false) rfl 3 (by omega)
  have HB : Hid (Below w.heap.size w w3) := Lib.hid ((H1.out.2.1.trans (H2.out.2.1.mono H1.out.2.1.size)).trans (hk3.below (fun q hq => by
    rcases hq with h | h
    · rw [h]; exact H1.out.2.1.size
    · simp [Value.ownBlock] at h) (by have := H1.out.2.1.size; have := HX.out; omega)))
  clear hc hr3 hrow hv' hf3 hk3 hL hpre hlast hk HT HP
  go_wp2
  go_ret
  exact ⟨rfl, HB.out⟩
end Go.Proofs.Ytfpcamkimjecdaa
