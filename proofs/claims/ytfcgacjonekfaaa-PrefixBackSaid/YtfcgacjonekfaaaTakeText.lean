/- The walks of prefix.TakeText and drawbridgeref03.TakeText. -/
import Derived.Test.YtfcgacjonekfaaaText
import Derived.Test.YtfcgacjonekfaaaLaws3b
import Derived.Test.YtfcgacjonekfaaaHuffRDec
namespace Go.Proofs.Ytfcgacjonekfaaa
open Go.RowKit

theorem Rd.cut {w : World} {B b o n a m : Nat} {l : List UInt8} (h : Rd w B 1 (some ⟨b, o, none⟩) n (bvs l)) (h1 : a + m ≤ n) : Rd w B 1 (some ⟨b, o + a, none⟩) m (bvs ((l.drop a).take m)) := by
  have hl := h.blen
  refine ⟨by simp [bvs]; omega, fun hm => ?_⟩
  obtain ⟨b', o', e, hb, hc⟩ := h.2 (by omega)
  injection e with e; injection e with e1 e2 e3; subst e1 e2
  refine ⟨_, _, rfl, hb, fun j hj => ?_⟩
  rw [Nat.add_assoc, hc (a + j) (by omega)]
  simp only [bvs, List.getElem?_map, List.getElem?_take, List.getElem?_drop]
  rw [if_pos (by omega)]
/-- 'own[at:end]' of a slice whose room ends there: nothing. -/
theorem Rd.end_ {w : World} {B n : Nat} {A : Option Addr} {l : List UInt8} (_hl : l.length = n) : Rd w B 1 A 0 (bvs ((l.drop n).take 0)) := by
  rw [List.take_zero]; exact Rd.none_ _ _ _ _

set_option maxRecDepth 100000 in
set_option maxHeartbeats 2000000 in
theorem takeText_any {A : Option Addr} {n cap : Nat} {l : List UInt8} {w : World} (hr : Rd w w.heap.size 1 A n (bvs l)) (hcap : n ≤ cap) (hm : cap ≤ maxLen) (hn : n ≤ 1048576) :
    Calls Try.prog 32 #[.slice A n cap] w fun e w' => e = .returned (triT (takeT l)) ∧ Below w.heap.size w w' := by
  have HL := Lib.hid hr.blen
  have hcm := hm
  unfold maxLen at hcm
  obtain ⟨⟨m, a, z⟩, hv⟩ : ∃ r, takeI 127 l = r := ⟨_, rfl⟩
  have hbd := takeI_bd (F := 127) (by omega) l
  have hze := takeI_err 127 l
  rw [hv] at hbd hze
  simp only at hbd hze
  have HV := Lib.hid hv
  have ht := take_any (w := w) full7 hr hcap hm
  rw [hv] at ht
  simp only [tri] at ht
  have HT := Lib.hid ht
  have HR := Lib.hid hr
  clear hv ht hr
  by_cases hz : z = 0
  · have hbd1 := hbd hz
    subst hz
    clear hbd hze
    obtain ⟨h31, ha1, han, ha6⟩ := hbd1
    rw [HL.out] at han
    by_cases hm4 : 4096 < m
    · go_enter Try.func32, Try.ntmps32
      go_wp2_with fail
      refine HT.out.mono ?_
      rintro e w1 ⟨rfl, rfl⟩
      go_wp2
      go_ret3
      exact ⟨by rw [takeT_long HV.out rfl hm4]; rfl, Below.refl _ _⟩
    · by_cases hl : n < a + m
      · go_enter Try.func32, Try.ntmps32
        go_wp2_with fail
        refine HT.out.mono ?_
        rintro e w1 ⟨rfl, rfl⟩
        go_wp2
        go_ret3
        exact ⟨by rw [takeT_short HV.out rfl (by omega) (by rw [HL.out]; exact hl)]; rfl, Below.refl _ _⟩
      · obtain ⟨-, b, o, rfl, hb, hc⟩ := HR.out.bas (by omega)
        have hc0 : w.cell? ⟨b, o, none⟩ = some (.int .u8 (ba l 0 : Int)) := hc 0 (by omega)
        clear hc
        by_cases hca : cap = a
        · obtain rfl : cap = n := by omega
          obtain rfl : a = cap := by omega
          obtain rfl : m = 0 := by omega
          have hp := Rd.end_ (w := w) (B := w.heap.size) (A := some ⟨b, o, none⟩) HL.out
          have e1 := run_str Try.underlying31 Try.underlying5 Try.underlying9 hp (a - a)
          simp only [Nat.sub_self] at e1
          have E1 := Lib.hid e1
          have HP := Lib.hid hp
          clear e1 hp
          by_cases hb0 : ba l 0 < 128
          · have e1 := E1.out
            go_enter Try.func32, Try.ntmps32
            go_wp2_with fail
            refine HT.out.mono ?_
            rintro e w1 ⟨rfl, rfl⟩
            go_wp2
            go_ret3
            exact ⟨by rw [takeT_raw HV.out rfl (by omega) (by rw [HL.out]; omega) hb0]; rfl, Below.refl _ _⟩
          · have hT := takeT_bits HV.out rfl (by omega) (by rw [HL.out]; omega) (by omega)
            have hd := dec_any HP.out (by omega) (cap := a - a)
            simp only [Nat.sub_self] at hd
            generalize decB ((l.drop a).take 0) = D at *
            have HD := Lib.hid hd
            have HTT := Lib.hid hT
            clear hd hT
            go_enter Try.func32, Try.ntmps32
            go_wp2_with fail
            refine HT.out.mono ?_
            rintro e w1 ⟨rfl, rfl⟩
            go_wp2_with fail
            refine HD.out.mono ?_
            rintro e w2 ⟨rfl, hb2⟩
            cases D with
            | none =>
              simp only [decV]
              go_wp2
              go_ret3
              exact ⟨by rw [HTT.out]; rfl, hb2⟩
            | some t =>
              simp only [decV]
              have hsz : (ByteArray.mk t.toArray).size = t.length := by simp [ByteArray.size]
              have hfin := HTT.out
              simp only at hfin
              obtain ⟨s, hs⟩ : ∃ s : ByteArray, s = ⟨t.toArray⟩ := ⟨_, rfl⟩
              rw [← hs] at hsz ⊢
              have HS := Lib.hid hs
              have HSZ := Lib.hid hsz
              have HF := Lib.hid hfin
              clear hs hsz hfin
              by_cases hbig : 4096 < s.size
              · go_wp2
                go_ret3
                exact ⟨by rw [HF.out, if_pos (by rw [← HSZ.out]; exact hbig)]; rfl, hb2⟩
              · go_wp2
                go_ret3
                exact ⟨by rw [HF.out, if_neg (by rw [← HSZ.out]; exact hbig), HS.out]; rfl, hb2⟩
        · have hp := Rd.cut (a := a) (m := m) HR.out (by omega)
          have e1 := run_str Try.underlying31 Try.underlying5 Try.underlying9 hp (cap - a)
          have E1 := Lib.hid e1
          have HP := Lib.hid hp
          clear e1 hp
          by_cases hb0 : ba l 0 < 128
          · have e1 := E1.out
            go_enter Try.func32, Try.ntmps32
            go_wp2_with fail
            refine HT.out.mono ?_
            rintro e w1 ⟨rfl, rfl⟩
            go_wp2
            go_ret3
            exact ⟨by rw [takeT_raw HV.out rfl (by omega) (by rw [HL.out]; omega) hb0]; rfl, Below.refl _ _⟩
          · have hT := takeT_bits HV.out rfl (by omega) (by rw [HL.out]; omega) (by omega)
            have hd := dec_any HP.out (by omega) (cap := cap - a)
            generalize decB ((l.drop a).take m) = D at *
            have HD := Lib.hid hd
            have HTT := Lib.hid hT
            clear hd hT
            go_enter Try.func32, Try.ntmps32
            go_wp2_with fail
            refine HT.out.mono ?_
            rintro e w1 ⟨rfl, rfl⟩
            go_wp2_with fail
            refine HD.out.mono ?_
            rintro e w2 ⟨rfl, hb2⟩
            cases D with
            | none =>
              simp only [decV]
              go_wp2
              go_ret3
              exact ⟨by rw [HTT.out]; rfl, hb2⟩
            | some t =>
              simp only [decV]
              have hsz : (ByteArray.mk t.toArray).size = t.length := by simp [ByteArray.size]
              have hfin := HTT.out
              simp only at hfin
              obtain ⟨s, hs⟩ : ∃ s : ByteArray, s = ⟨t.toArray⟩ := ⟨_, rfl⟩
              rw [← hs] at hsz ⊢
              have HS := Lib.hid hs
              have HSZ := Lib.hid hsz
              have HF := Lib.hid hfin
              clear hs hsz hfin
              by_cases hbig : 4096 < s.size
              · go_wp2
                go_ret3
                exact ⟨by rw [HF.out, if_pos (by rw [← HSZ.out]; exact hbig)]; rfl, hb2⟩
              · go_wp2
                go_ret3
                exact ⟨by rw [HF.out, if_neg (by rw [← HSZ.out]; exact hbig), HS.out]; rfl, hb2⟩
  · go_enter Try.func32, Try.ntmps32
    go_wp2_with fail
    refine HT.out.mono ?_
    rintro e w1 ⟨rfl, rfl⟩
    go_wp2
    go_ret3
    exact ⟨by rw [takeT_err HV.out hz]; rfl, Below.refl _ _⟩
theorem rtake_full {A : Option Addr} {B n cap : Nat} {l : List UInt8} {w : World} (hr : Rd w B 1 A n (bvs l)) (hcap : n ≤ cap) (hm : cap ≤ maxLen) :
    Calls Try.prog 23 #[.slice A n cap, .int .i64 ((7 : Nat) : Int)] w fun e w' => e = .returned (tri (takeI 127 l)) ∧ w = w' := by
  have h := rtake_all (bits := ((7 : Nat) : Int)) hr hcap hm
  rw [takeV_in full7] at h
  exact h
set_option maxRecDepth 100000 in
set_option maxHeartbeats 2000000 in
theorem rtakeText_any {A : Option Addr} {n cap : Nat} {l : List UInt8} {w : World} (hr : Rd w w.heap.size 1 A n (bvs l)) (hcap : n ≤ cap) (hm : cap ≤ maxLen) (hn : n ≤ 1048576) :
    Calls Try.prog 33 #[.slice A n cap] w fun e w' => e = .returned (triT (takeT l)) ∧ Below w.heap.size w w' := by
  have HL := Lib.hid hr.blen
  have hcm := hm
  unfold maxLen at hcm
  obtain ⟨⟨m, a, z⟩, hv⟩ : ∃ r, takeI 127 l = r := ⟨_, rfl⟩
  have hbd := takeI_bd (F := 127) (by omega) l
  have hze := takeI_err 127 l
  rw [hv] at hbd hze
  simp only at hbd hze
  have HV := Lib.hid hv
  have ht := rtake_full (w := w) hr hcap hm
  rw [hv] at ht
  simp only [tri] at ht
  have HT := Lib.hid ht
  have HR := Lib.hid hr
  clear hv ht hr
  by_cases hz : z = 0
  · have hbd1 := hbd hz
    subst hz
    clear hbd hze
    obtain ⟨h31, ha1, han, ha6⟩ := hbd1
    rw [HL.out] at han
    by_cases hm4 : 4096 < m
    · go_enter Try.func33, Try.ntmps33
      go_wp2_with fail
      refine HT.out.mono ?_
      rintro e w1 ⟨rfl, rfl⟩
      go_wp2
      go_ret3
      exact ⟨by rw [takeT_long HV.out rfl hm4]; rfl, Below.refl _ _⟩
    · by_cases hl : n < a + m
      · go_enter Try.func33, Try.ntmps33
        go_wp2_with fail
        refine HT.out.mono ?_
        rintro e w1 ⟨rfl, rfl⟩
        go_wp2
        go_ret3
        exact ⟨by rw [takeT_short HV.out rfl (by omega) (by rw [HL.out]; exact hl)]; rfl, Below.refl _ _⟩
      · obtain ⟨-, b, o, rfl, hb, hc⟩ := HR.out.bas (by omega)
        have hc0 : w.cell? ⟨b, o, none⟩ = some (.int .u8 (ba l 0 : Int)) := hc 0 (by omega)
        clear hc
        by_cases hca : cap = a
        · obtain rfl : cap = n := by omega
          obtain rfl : a = cap := by omega
          obtain rfl : m = 0 := by omega
          have hp := Rd.end_ (w := w) (B := w.heap.size) (A := some ⟨b, o, none⟩) HL.out
          have e1 := run_str Try.underlying31 Try.underlying5 Try.underlying9 hp (a - a)
          simp only [Nat.sub_self] at e1
          have E1 := Lib.hid e1
          have HP := Lib.hid hp
          clear e1 hp
          by_cases hb0 : ba l 0 < 128
          · have e1 := E1.out
            go_enter Try.func33, Try.ntmps33
            go_wp2_with fail
            refine HT.out.mono ?_
            rintro e w1 ⟨rfl, rfl⟩
            go_wp2
            go_ret3
            exact ⟨by rw [takeT_raw HV.out rfl (by omega) (by rw [HL.out]; omega) hb0]; rfl, Below.refl _ _⟩
          · have hT := takeT_bits HV.out rfl (by omega) (by rw [HL.out]; omega) (by omega)
            have e1 := E1.out
            have hd := rdec_any HP.out (by omega) (cap := a - a)
            simp only [Nat.sub_self] at hd
            generalize decB ((l.drop a).take 0) = D at *
            have HD := Lib.hid hd
            have HTT := Lib.hid hT
            clear hd hT
            go_enter Try.func33, Try.ntmps33
            go_wp2_with fail
            refine HT.out.mono ?_
            rintro e w1 ⟨rfl, rfl⟩
            go_wp2_with fail
            refine HD.out.mono ?_
            rintro e w2 ⟨rfl, hb2⟩
            cases D with
            | none =>
              simp only [decV]
              go_wp2
              go_ret3
              exact ⟨by rw [HTT.out]; rfl, hb2⟩
            | some t =>
              simp only [decV]
              have hsz : (ByteArray.mk t.toArray).size = t.length := by simp [ByteArray.size]
              have hfin := HTT.out
              simp only at hfin
              obtain ⟨s, hs⟩ : ∃ s : ByteArray, s = ⟨t.toArray⟩ := ⟨_, rfl⟩
              rw [← hs] at hsz ⊢
              have HS := Lib.hid hs
              have HSZ := Lib.hid hsz
              have HF := Lib.hid hfin
              clear hs hsz hfin
              by_cases hbig : 4096 < s.size
              · go_wp2
                go_ret3
                exact ⟨by rw [HF.out, if_pos (by rw [← HSZ.out]; exact hbig)]; rfl, hb2⟩
              · go_wp2
                go_ret3
                exact ⟨by rw [HF.out, if_neg (by rw [← HSZ.out]; exact hbig), HS.out]; rfl, hb2⟩
        · have hp := Rd.cut (a := a) (m := m) HR.out (by omega)
          have e1 := run_str Try.underlying31 Try.underlying5 Try.underlying9 hp (cap - a)
          have E1 := Lib.hid e1
          have HP := Lib.hid hp
          clear e1 hp
          by_cases hb0 : ba l 0 < 128
          · have e1 := E1.out
            go_enter Try.func33, Try.ntmps33
            go_wp2_with fail
            refine HT.out.mono ?_
            rintro e w1 ⟨rfl, rfl⟩
            go_wp2
            go_ret3
            exact ⟨by rw [takeT_raw HV.out rfl (by omega) (by rw [HL.out]; omega) hb0]; rfl, Below.refl _ _⟩
          · have hT := takeT_bits HV.out rfl (by omega) (by rw [HL.out]; omega) (by omega)
            have e1 := E1.out
            have hd := rdec_any HP.out (by omega) (cap := cap - a)
            generalize decB ((l.drop a).take m) = D at *
            have HD := Lib.hid hd
            have HTT := Lib.hid hT
            clear hd hT
            go_enter Try.func33, Try.ntmps33
            go_wp2_with fail
            refine HT.out.mono ?_
            rintro e w1 ⟨rfl, rfl⟩
            go_wp2_with fail
            refine HD.out.mono ?_
            rintro e w2 ⟨rfl, hb2⟩
            cases D with
            | none =>
              simp only [decV]
              go_wp2
              go_ret3
              exact ⟨by rw [HTT.out]; rfl, hb2⟩
            | some t =>
              simp only [decV]
              have hsz : (ByteArray.mk t.toArray).size = t.length := by simp [ByteArray.size]
              have hfin := HTT.out
              simp only at hfin
              obtain ⟨s, hs⟩ : ∃ s : ByteArray, s = ⟨t.toArray⟩ := ⟨_, rfl⟩
              rw [← hs] at hsz ⊢
              have HS := Lib.hid hs
              have HSZ := Lib.hid hsz
              have HF := Lib.hid hfin
              clear hs hsz hfin
              by_cases hbig : 4096 < s.size
              · go_wp2
                go_ret3
                exact ⟨by rw [HF.out, if_pos (by rw [← HSZ.out]; exact hbig)]; rfl, hb2⟩
              · go_wp2
                go_ret3
                exact ⟨by rw [HF.out, if_neg (by rw [← HSZ.out]; exact hbig), HS.out]; rfl, hb2⟩
  · go_enter Try.func33, Try.ntmps33
    go_wp2_with fail
    refine HT.out.mono ?_
    rintro e w1 ⟨rfl, rfl⟩
    go_wp2
    go_ret3
    exact ⟨by rw [takeT_err HV.out hz]; rfl, Below.refl _ _⟩
end Go.Proofs.Ytfcgacjonekfaaa
