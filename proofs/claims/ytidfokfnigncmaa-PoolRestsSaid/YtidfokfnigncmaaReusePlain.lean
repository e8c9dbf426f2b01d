/- Where each connection is put back at once, there is one of each origin. No program in sight. -/
import Derived.Test.YtidfokfnigncmaaPoolPlain
namespace Go.Proofs.Ytidfokfnigncmaa
open Go.RowKit

def one (x : Int) : Nat := if x = 0 then 0 else 1
def numI (ids : Nat → Int) : Nat := one (ids 0) + one (ids 1) + one (ids 2) + one (ids 3)
structure RInv (ids : Nat → Int) (P : Pl) : Prop where
  own : ∀ x ∈ P.L, 0 ≤ x.sn ∧ ids x.org.toNat = x.id
  has : ∀ o, o < 4 → ids o ≠ 0 → ∃ x ∈ P.L, x.org = (o : Int)
  len : P.L.length = numI ids
def updI (ids : Nat → Int) (o : Nat) (v : Int) (k : Nat) : Int := if k = o then v else ids k
theorem setSn_find {L : List Ln} (hs : L.Pairwise (fun a b => a.id < b.id)) {x : Ln} (hx : x ∈ L) (s : Int) : findId (setSn L x.id s) x.id = some ⟨x.id, x.org, s⟩ := by
  have := findId_mem (setSn_sorted hs x.id s) (e := ⟨x.id, x.org, s⟩) (List.mem_map.2 ⟨x, hx, by simp⟩)
  exact this
theorem setSn_twice (L : List Ln) (id s t : Int) : setSn (setSn L id s) id t = setSn L id t := by
  unfold setSn
  rw [List.map_map]
  refine List.map_congr_left fun x _ => ?_
  simp only [Function.comp]
  by_cases h : x.id = id <;> simp [h]
theorem RInv.put {ids : Nat → Int} {P : Pl} (h : RInv ids P) {id s : Int} (hs : 0 ≤ s) : RInv ids { P with L := setSn P.L id s } := by
  refine ⟨fun x hx => ?_, fun o ho hi => ?_, by simpa [setSn] using h.len⟩
  · obtain ⟨y, hy, e1, e2, e3⟩ := mem_setSn hx
    obtain ⟨a, b⟩ := h.own y hy
    exact ⟨by omega, by rw [e1, e2]; exact b⟩
  · obtain ⟨x, hx, e⟩ := h.has o ho hi
    refine ⟨_, List.mem_map.2 ⟨x, hx, rfl⟩, ?_⟩
    split <;> exact e
theorem reuse_old {N o : Nat} {P : Pl} {ids : Nat → Int} {now : Int} (hok : PlOk N P) (h : RInv ids P) (ho : o < 4) (hid : ids o ≠ 0) (h0 : 0 ≤ now) (h1 : now ≤ 1099511627776) :
    ∃ P1 P2, P.get o now = ((ids o, false, 0), P1) ∧ P1.put (ids o) now = (0, P2) ∧ RInv ids P2 := by
  obtain ⟨x, hx, hxo⟩ := h.has o ho hid
  obtain ⟨hs, hi⟩ := h.own x hx
  rw [hxo, Int.toNat_natCast] at hi
  have hb : IsBest P.L o x := ⟨hx, hxo, hs, fun y hy hyo hys => by
    have := (h.own y hy).2
    rw [hyo, Int.toNat_natCast] at this
    rw [sorted_inj hok.sorted hy hx (this.symm.trans hi)]
    exact lnLe_refl _⟩
  refine ⟨{ P with L := setSn P.L x.id (-1) }, { P with L := setSn P.L x.id now }, ?_, ?_, h.put h0⟩
  · unfold Pl.get
    rw [if_neg (by omega), bestOf_some hok.sorted hb, hi]
  · unfold Pl.put
    rw [if_neg (by omega), hi]
    simp only
    rw [setSn_find hok.sorted hx]
    simp only
    rw [if_neg (by omega), setSn_twice]
theorem numI_upd {ids : Nat → Int} {o : Nat} {v : Int} (ho : o < 4) (h0 : ids o = 0) (hv : v ≠ 0) : numI (updI ids o v) = numI ids + 1 := by
  unfold numI updI one
  match o, ho with
  | 0, _ => simp [h0, hv]; omega
  | 1, _ => simp [h0, hv]; omega
  | 2, _ => simp [h0, hv]; omega
  | 3, _ => simp [h0, hv]
theorem reuse_new {N o : Nat} {P : Pl} {ids : Nat → Int} {now : Int} (hok : PlOk N P) (h : RInv ids P) (ho : o < 4) (hid : ids o = 0) (h0 : 0 ≤ now) (h1 : now ≤ 1099511627776) :
    ∃ P1 P2, P.get o now = ((P.la + 1, true, 0), P1) ∧ P1.put (P.la + 1) now = (0, P2) ∧ RInv (updI ids o (P.la + 1)) P2 := by
  have hno : ∀ x ∈ P.L, x.org ≠ o := fun x hx e => by
    have h1 := (h.own x hx).2
    rw [e, Int.toNat_natCast, hid] at h1
    have := (hok.each x hx).1
    omega
  have hcn : cnt P.L o = 0 := List.countP_eq_zero.2 fun x hx => by simpa using hno x hx
  have hla := hok.la0
  have hmo := hok.mo0
  have hfr : ∀ x ∈ P.L, x.id ≠ P.la + 1 := fun x hx e => by have := (hok.each x hx).2.1; omega
  have hset : setSn (P.L ++ [⟨P.la + 1, o, -1⟩]) (P.la + 1) now = P.L ++ [⟨P.la + 1, o, now⟩] := by
    unfold setSn
    rw [List.map_append]
    congr 1
    · conv => rhs; rw [← List.map_id P.L]
      exact List.map_congr_left fun x hx => by rw [if_neg (hfr x hx)]; rfl
    · simp
  have hfind : findId (P.L ++ [⟨P.la + 1, o, -1⟩]) (P.la + 1) = some ⟨P.la + 1, o, -1⟩ := by
    unfold findId
    rw [List.find?_append, List.find?_eq_none.2 (fun x hx => by simpa using hfr x hx)]
    simp
  refine ⟨{ P with la := P.la + 1, L := P.L ++ [⟨P.la + 1, o, -1⟩] }, { P with la := P.la + 1, L := P.L ++ [⟨P.la + 1, o, now⟩] }, ?_, ?_, ?_⟩
  · unfold Pl.get
    rw [if_neg (by omega), bestOf_none hok.sorted (fun x hx e => absurd e (hno x hx))]
    simp only
    rw [if_neg (by rw [hcn]; omega)]
  · unfold Pl.put
    rw [if_neg (by omega)]
    simp only
    rw [hfind]
    simp only
    rw [if_neg (by omega), hset]
  · refine ⟨fun x hx => ?_, fun k hk hkk => ?_, ?_⟩
    · rcases List.mem_append.1 hx with h2 | h2
      · obtain ⟨a, b⟩ := h.own x h2
        have h3 := hok.each x h2
        refine ⟨a, ?_⟩
        unfold updI
        rw [if_neg (fun e => hno x h2 (by omega))]
        exact b
      · have : x = ⟨P.la + 1, o, now⟩ := by simpa using h2
        subst this
        exact ⟨h0, by simp [updI]⟩
    · by_cases e : k = o
      · subst e; exact ⟨⟨P.la + 1, k, now⟩, List.mem_append.2 (.inr (by simp)), rfl⟩
      · unfold updI at hkk
        rw [if_neg e] at hkk
        obtain ⟨x, hx, hxo⟩ := h.has k hk hkk
        exact ⟨x, List.mem_append.2 (.inl hx), hxo⟩
    · rw [numI_upd ho hid (by omega), List.length_append, h.len]; rfl
end Go.Proofs.Ytidfokfnigncmaa
