/- The walk of drawbridgeref16.Expire. -/
import Derived.Test.YtidfokfnigncmaaRPool4
import Derived.Deep.LoopGhost
namespace Go.Proofs.Ytidfokfnigncmaa
open Go.RowKit

theorem own_kept2 {w w' : World} {base n : Nat} {e : TypeId} {size : Nat} {v : Value} {xs : List Value} {F : Nat → Prop} (h : w.ownsRow base e size v n xs) (hk : Kept F w w') (hF : ∀ q, v.ownBlock = some q → ¬ F q) : w'.ownsRow base e size v n xs := by
  rcases h with ⟨hl, ⟨rfl, h0⟩ | ⟨g, cap, cur, hv, hg, hb, h3⟩⟩
  · exact ⟨hl, .inl ⟨rfl, h0⟩⟩
  · exact ⟨hl, .inr ⟨g, cap, cur, hv, hg, (hk.block g (Array.getElem?_eq_some_iff.1 hb).1 (hF g (by rw [hv]; rfl))).trans hb, h3⟩⟩
theorem own_below2 {w w' : World} {base n : Nat} {e : TypeId} {size : Nat} {v : Value} {xs : List Value} (h : w.ownsRow base e size v n xs) (hb : Below w.heap.size w w') : w'.ownsRow base e size v n xs :=
  own_kept2 (F := fun _ => False) h (Kept.of_below hb) (fun _ _ h => h)
def RExpRel (W : World) (q : Nat) (F : Nat → Prop) (P : Pl) (now : Int) (k : Nat) (ov : Value) (wr : World) : Prop :=
  ∃ (outs : List Int) (Pc : Pl) (F' : Nat → Prop), k = Pc.L.length ∧ wr.ownsRow W.heap.size 3 1 ov outs.length (iv outs) ∧ RPool wr q F' Pc ∧ (∀ b, ov.ownBlock = some b → ¬ F' b) ∧ Kept F W wr ∧ Grew W F F' ∧ P.expire now = (outs ++ (Pc.expire now).1, (Pc.expire now).2) ∧ outs.length + Pc.L.length ≤ 1099511627776 ∧ Pc.idl = P.idl ∧ Pc.L.Pairwise (fun a b => a.id < b.id)
def RPExp (W : World) (q : Nat) (F : Nat → Prop) (P : Pl) (now : Int) (e : Ending) (w' : World) : Prop :=
  ∃ ov F', e = .returned ov ∧ w'.ownsRow W.heap.size 3 1 ov (P.expire now).1.length (iv (P.expire now).1) ∧ RPool w' q F' (P.expire now).2 ∧ (∀ b, ov.ownBlock = some b → ¬ F' b) ∧ Kept F W w' ∧ Grew W F F'
theorem RExpRel.stop {W wr w' : World} {q : Nat} {F F' : Nat → Prop} {P Pc : Pl} {now : Int} {outs : List Int} {ov : Value} {e : Ending} (h1 : wr.ownsRow W.heap.size 3 1 ov outs.length (iv outs)) (h2 : RPool wr q F' Pc) (h3 : ∀ b, ov.ownBlock = some b → ¬ F' b) (h4 : Kept F W wr) (hg : Grew W F F')
    (h5 : P.expire now = (outs ++ (Pc.expire now).1, (Pc.expire now).2)) (h6 : Pc.expire now = ([], Pc)) (hb : Below wr.heap.size wr w') (he : e = .returned ov) : RPExp W q F P now e w' := by
  rw [h6] at h5
  simp only [List.append_nil] at h5
  unfold RPExp
  rw [h5]
  exact ⟨ov, F', he, own_below2 h1 hb, h2.keep (fun k hk => hb.block k (h2.lt k hk)), h3, h4.trans (Kept.of_below (F := F) hb) (Grew.refl _ _), hg⟩
def RInRel (W : World) (L : List Ln) (lim : Int) (bv kv : Value) (wr : World) : Prop :=
  ∃ (k : Nat) (j : Int), kv = .int .i64 k ∧ bv = .int .i64 j ∧ k ≤ L.length ∧ PlaceV L k ((L.take k).foldl (minStep lim) none) j ∧ Below W.heap.size W wr
set_option maxRecDepth 100000 in
set_option maxHeartbeats 4000000 in
theorem rexpire_any {q : Nat} {F : Nat → Prop} {P : Pl} (now : Int) (w : World) (h : RPool w q F P) (hs : P.L.Pairwise (fun a b => a.id < b.id)) (hl : P.L.length ≤ 1099511627776) (hi0 : 1 ≤ P.idl) (hi1 : P.idl ≤ 1099511627776) (hn1 : now ≤ 9223372036854775807) :
    Calls Try.prog 19 #[.pointer (some ⟨q, 0, none⟩), .int .i64 now] w (RPExp w q F P now) := by
  have HH := Lib.hid h
  have HS := Lib.hid hs
  have HLT := Lib.hid h.lt
  obtain ⟨idl, hid⟩ : ∃ idl, P.idl = idl := ⟨_, rfl⟩
  have HID := Lib.hid hid
  rw [hid] at hi0 hi1
  clear h hs hid
  go_enter Try.func19, Try.ntmps19
  go_wp2_with fail
  go_loopg [5] P.L.length (fun k ov wr => RExpRel w q F P now k ov wr)
  case atStart => exact ⟨[], P, F, rfl, World.ownsRow_nil _ _ _ _, HH.out, (fun b hb => by cases hb), Kept.refl _ _, Grew.refl _ _, by simp, by simpa using hl, rfl, HS.out⟩
  case round =>
    obtain ⟨outs, Pc, F', hk, hown, hpi, hdis, hkp, hgr, hexp, hlen, hidl, hsrt⟩ := hrel
    have HPI := Lib.hid hpi
    obtain ⟨A, c, hF', hm⟩ := hpi
    obtain ⟨-, d1, -, c3⟩ := hm.cells
    rw [hidl, HID.out] at d1
    obtain ⟨n, hn⟩ : ∃ n, Pc.L.length = n := ⟨_, rfl⟩
    rw [hn] at c3 hlen
    have HN := Lib.hid hn
    have HM := Lib.hid hm
    have HF' := Lib.hid hF'
    have HR := Lib.hid (And.intro hown (And.intro hdis (And.intro hkp (And.intro hgr (And.intro hexp (And.intro hidl (And.intro hsrt hk)))))))
    have hwz : w.heap.size ≤ wr.heap.size := hkp.size
    have hon : outs.length ≤ 1099511627776 := by omega
    clear hk hown hdis hkp hgr hexp hidl hsrt hm hF' hn
    by_cases hge : idl ≤ now
    · obtain ⟨wo, rfl⟩ : ∃ wo : World, wo = wr := ⟨_, rfl⟩
      have s1 : IntKind.i64.wrap (now - idl) = now - idl := IntWalk.i64_in _ ⟨by omega, by omega⟩
      go_wp2_with fail
      go_loopw [6, 7] (fun bv kv wi => RInRel wo Pc.L (now - idl) bv kv wi) (fun _ kv _ => n - (intOf kv).toNat)
      case atStart => exact ⟨0, -1, rfl, rfl, Nat.zero_le _, rfl, Below.refl _ _⟩
      case round =>
        obtain ⟨k, j, rfl, rfl, hk, hpl, hbel⟩ := hrel
        rw [HN.out] at hk
        have hm := HM.out.keep (w' := wr) (fun k hk => hbel.block k (HM.out.lt k hk))
        have HM9 := Lib.hid hm
        obtain ⟨-, g1, -, g3⟩ := hm.cells
        have g1' : wr.cell? ⟨q, 1, none⟩ = some (.int .i64 idl) := by rw [g1, HR.out.2.2.2.2.2.1, HID.out]
        rw [HN.out] at g3
        have HPL := Lib.hid hpl
        have HB := Lib.hid hbel
        have hsz := hbel.size
        have hql := hm.lt q (.inl rfl)
        clear hm hpl hbel d1 c3 g1
        by_cases hlt : k < n
        · obtain ⟨x, hx⟩ : ∃ x, Pc.L[k]? = some x := ⟨_, List.getElem?_eq_getElem (by rw [HN.out]; exact hlt)⟩
          obtain ⟨b, oo, rfl, hb, q0, q1, q2⟩ := HM9.out.at_ hx
          have HFD := Lib.hid (fold_take (minStep (now - idl)) hx)
          have HX := Lib.hid hx
          have n1 : (k : Int) < n := by omega
          have n0 : (0 : Int) ≤ k := by omega
          have HE2 : Hid (∀ ob m, Below wo.heap.size wo ((wr.alloc ob).drewN m)) := Lib.hid fun ob m => below_dN (HB.out.alloc hsz ob) m
          clear hx
          by_cases hs : 0 ≤ x.sn
          · by_cases hls : x.sn ≤ now - idl
            · cases hacc : (Pc.L.take k).foldl (minStep (now - idl)) none with
              | none =>
                have hj := HPL.out
                rw [hacc] at hj
                have hj1 : j = -1 := hj
                have HBS : Hid ((Pc.L.take (k + 1)).foldl (minStep (now - idl)) none = some x) := Lib.hid (by rw [HFD.out, hacc]; unfold minStep; rw [if_pos ⟨hs, hls⟩])
                have hsd : decide (0 ≤ x.sn) = true := by simpa using hs
                have hld : decide (x.sn ≤ now - idl) = true := by simpa using hls
                subst hj1
                clear hacc hj
                go_wp2_with fail
                go_quiet (fail)
                go_wp2_with fail
                go_roundw
                case rel => exact ⟨k + 1, k, by go_num, rfl, by rw [HN.out]; omega, by rw [HBS.out]; exact ⟨k, rfl, HX.out, by omega⟩, HE2.out _ _⟩
                case measure => simp [intOf]; omega
              | some e =>
                have hj := HPL.out
                rw [hacc] at hj
                obtain ⟨i, hji, hi, hik⟩ := hj
                obtain ⟨b', o', hA', hb', -, -, p2⟩ := HM9.out.at_ hi
                cases hA'
                have i0 : (0 : Int) ≤ i := by omega
                have i1 : (i : Int) < n := by omega
                have id0 : decide ((i : Int) < 0) = false := by simp
                have hsd : decide (0 ≤ x.sn) = true := by simpa using hs
                have hld : decide (x.sn ≤ now - idl) = true := by simpa using hls
                have HI := Lib.hid hi
                subst hji
                by_cases hle : x.sn < e.sn
                · have HBS : Hid ((Pc.L.take (k + 1)).foldl (minStep (now - idl)) none = some x) := Lib.hid (by rw [HFD.out, hacc]; unfold minStep; rw [if_pos ⟨hs, hls⟩]; exact if_pos hle)
                  have hlt2 : decide (x.sn < e.sn) = true := by simpa using hle
                  clear hacc hi
                  go_wp2_with fail
                  go_quiet (fail)
                  go_wp2_with fail
                  go_roundw
                  case rel => exact ⟨k + 1, k, by go_num, rfl, by rw [HN.out]; omega, by rw [HBS.out]; exact ⟨k, rfl, HX.out, by omega⟩, HE2.out _ _⟩
                  case measure => simp [intOf]; omega
                · have HBS : Hid ((Pc.L.take (k + 1)).foldl (minStep (now - idl)) none = some e) := Lib.hid (by rw [HFD.out, hacc]; unfold minStep; rw [if_pos ⟨hs, hls⟩]; exact if_neg hle)
                  have hlt2 : decide (x.sn < e.sn) = false := by simpa using hle
                  clear hacc hi
                  go_wp2_with fail
                  go_quiet (fail)
                  go_wp2_with fail
                  go_roundw
                  case rel => exact ⟨k + 1, i, by go_num, rfl, by rw [HN.out]; omega, by rw [HBS.out]; exact ⟨i, rfl, HI.out, by omega⟩, HE2.out _ _⟩
                  case measure => simp [intOf]; omega
            · have HBS : Hid ((Pc.L.take (k + 1)).foldl (minStep (now - idl)) none = (Pc.L.take k).foldl (minStep (now - idl)) none) := Lib.hid (by rw [HFD.out]; unfold minStep; rw [if_neg (fun h => hls h.2)])
              have hsd : decide (0 ≤ x.sn) = true := by simpa using hs
              have hld : decide (x.sn ≤ now - idl) = false := by simpa using hls
              go_wp2_with fail
              go_quiet (fail)
              go_wp2_with fail
              go_roundw
              case rel => exact ⟨k + 1, j, by go_num, rfl, by rw [HN.out]; omega, by rw [HBS.out]; exact HPL.out.more, HE2.out _ _⟩
              case measure => simp [intOf]; omega
          · have HBS : Hid ((Pc.L.take (k + 1)).foldl (minStep (now - idl)) none = (Pc.L.take k).foldl (minStep (now - idl)) none) := Lib.hid (by rw [HFD.out]; unfold minStep; rw [if_neg (fun h => hs h.1)])
            have hsd : decide (0 ≤ x.sn) = false := by simpa using hs
            go_wp2_with fail
            go_quiet (fail)
            go_wp2_with fail
            go_roundw
            case rel => exact ⟨k + 1, j, by go_num, rfl, by rw [HN.out]; omega, by rw [HBS.out]; exact HPL.out.more, HE2.out _ _⟩
            case measure => simp [intOf]; omega
        · obtain rfl : k = n := by omega
          have hpl := HPL.out
          rw [show Pc.L.take k = Pc.L from List.take_of_length_le (by rw [HN.out]; exact Nat.le_refl _)] at hpl
          have hmo : Pc.L.foldl (minStep (now - idl)) none = minOf Pc.L (now - idl) := rfl
          rw [hmo] at hpl
          have hmg := minOf_good (lim := now - idl) HR.out.2.2.2.2.2.2.1
          clear hmo
          cases hmin : minOf Pc.L (now - idl) with
          | none =>
            rw [hmin] at hpl
            have hj1 : j = -1 := hpl
            have HST : Hid (Pc.expire now = ([], Pc)) := Lib.hid (Pl.expire_none fun _ => by rw [HR.out.2.2.2.2.2.1, HID.out]; exact hmin)
            subst hj1
            clear hpl hmg hmin
            go_wp2_with fail
            go_ret
            exact RExpRel.stop HR.out.1 HPI.out HR.out.2.1 HR.out.2.2.1 HR.out.2.2.2.1 HR.out.2.2.2.2.1 HST.out HB.out rfl
          | some e =>
            rw [hmin] at hpl hmg
            obtain ⟨i, hji, hi, hik⟩ := hpl
            obtain ⟨b, oo, rfl, hb, q0, q1, q2⟩ := HM9.out.at_ hi
            have i0 : (0 : Int) ≤ i := by omega
            have i1 : (i : Int) < k := by omega
            have id0 : ¬ (i : Int) < 0 := by omega
            have HI := Lib.hid hi
            have HMG := Lib.hid hmg
            have hown9 : wr.ownsRow w.heap.size 3 1 u5 outs.length (iv outs) := own_below2 HR.out.1 HB.out
            have HO9 := Lib.hid hown9
            subst hji
            clear hi hmin hmg hown9
            go_wp2_with (at_builtin; refine wpList_app (.tmp 66) (.tmp 75) tInts rfl rfl (World.ownsRow.alloc HO9.out _) rfl (Rd.one _ _ _) rfl (oneInt _ _) (le_maxLen (by omega)) (by omega) (by simp; omega) ?_; intro v4 w4 hown4 hg4 hv4; have hqk : ∀ j, F' j → w4.heap[j]? = wr.heap[j]? := (fun j hj => (hg4.block j (by have := HPI.out.lt j hj; simp; omega) (fun e => HR.out.2.1 j e.symm hj)).trans (Below.heap_alloc wr _ j (by have := HPI.out.lt j hj; omega))); have hp4 : RPool w4 q F' Pc := ⟨_, c, HF'.out, HM9.out.keep (fun j hj => hqk j (by rw [HF'.out]; exact hj))⟩; have m3 : w4.cell? ⟨q, 3, none⟩ = some (.slice (some ⟨b, oo, none⟩) k c) := (World.cell?_of_block (a := ⟨q, 3, none⟩) (hqk q (by rw [HF'.out]; exact .inl rfl))).trans g3; have m0 : w4.cell? ⟨b, oo + i * 3, none⟩ = some (.int .i64 e.id) := (World.cell?_of_block (a := ⟨b, oo + i * 3, none⟩) (hqk b (by rw [HF'.out]; exact .inr ⟨_, rfl, rfl⟩))).trans q0; have HDR := Lib.hid (rdrop_any e.id w4 hp4 (by rw [HN.out]; omega) HR.out.2.2.2.2.2.2.1); have H4 := Lib.hid (And.intro hown4 (And.intro hg4 (And.intro hv4 hp4))); clear hown4 hg4 hv4 hp4 hqk)
            refine HDR.out.mono ?_
            rintro ee w5 ⟨rfl, F5, hp5, hk5, hg5⟩
            have H5 := Lib.hid (And.intro hp5 (And.intro hk5 hg5))
            clear hp5 hk5 hg5 m3 m0
            go_wp2_with fail
            go_roundg (dropId Pc.L e.id).length
            case rel =>
              obtain ⟨hp5, hk5, hg5⟩ := H5.out
              obtain ⟨hown4, hg4, hv4, hp4⟩ := H4.out
              obtain ⟨r1, r2, r3, r4, r5, r6, r7, r8⟩ := HR.out
              obtain ⟨him, hle⟩ := HMG.out
              have hdr : Pc.drop e.id = (0, { Pc with L := dropId Pc.L e.id }) := by unfold Pl.drop; rw [findId_mem r7 him.1]
              rw [hdr] at hp5
              have hex := Pl.expire_some (now := now) r7 him (by rw [r6, HID.out]; exact hle)
              have hF's : ∀ j, F' j → j < wr.heap.size := fun j hj => by have := HPI.out.lt j hj; omega
              have hv4n : ∀ j, v4.ownBlock = some j → ¬ F' j := fun j hj hf => by
                rcases hv4 with h9 | h9
                · exact r2 j (h9 ▸ hj) hf
                · rw [h9] at hj
                  have := hF's j hf
                  simp at hj; omega
              have hkw4 : Kept F w w4 := ((r3.trans (Kept.of_below (F := F) HB.out) (Grew.refl _ _)).alloc _).grown hg4 (fun j hj => .inr (r1.lt j hj).1)
              refine ⟨outs ++ [e.id], _, F5, rfl, ?_, hp5, fun j hj hf => ?_, hkw4.trans hk5 r4, r4.trans hg5 hkw4.size, ?_, ?_, r6, r7.filter _⟩
              · rw [List.length_append, show iv (outs ++ [e.id]) = iv outs ++ [.int .i64 e.id] by simp [iv]]; exact own_kept2 hown4 hk5 hv4n
              · rcases hg5 j hf with h9 | h9
                · exact hv4n j hj h9
                · have := (hown4.lt j hj).2; omega
              · rw [r5, hex]; simp
              · have e1 := drop_count (f := fun e : Ln => e.id) (fun _ => true) r7 him.1
                rw [List.countP_true] at e1
                have := HN.out
                simp only [List.length_append, List.length_singleton]
                unfold dropId
                simp at e1 ⊢
                omega
            case measure =>
              have e1 := drop_count (f := fun e : Ln => e.id) (fun _ => true) HR.out.2.2.2.2.2.2.1 HMG.out.1.1
              rw [List.countP_true] at e1
              have := HR.out.2.2.2.2.2.2.2
              unfold dropId
              simp at e1 ⊢
              omega
    · have hst : Pc.expire now = ([], Pc) := Pl.expire_none fun hh => by rw [HR.out.2.2.2.2.2.1, HID.out] at hh; omega
      have HST := Lib.hid hst
      clear hst
      go_wp2_with fail
      go_ret
      exact RExpRel.stop HR.out.1 HPI.out HR.out.2.1 HR.out.2.2.1 HR.out.2.2.2.1 HR.out.2.2.2.2.1 HST.out (Below.refl _ _) rfl
end Go.Proofs.Ytidfokfnigncmaa
