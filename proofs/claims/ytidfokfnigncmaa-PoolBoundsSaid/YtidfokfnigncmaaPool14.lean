/- The walk of pool.Expire. -/
import Derived.Test.YtidfokfnigncmaaPool12
import Derived.Deep.LoopGhost
namespace Go.Proofs.Ytidfokfnigncmaa
open Go.RowKit

theorem tInts : SlT Try.prog 28 3 (.int .i64 0) 1 8 := ⟨Try.underlying28, by kernel_rfl, rfl, by decide⟩
def iv (l : List Int) : List Value := l.map (Value.int .i64)
theorem Pl.expire_none {P : Pl} {now : Int} (h : P.idl ≤ now → minOf P.L (now - P.idl) = none) : P.expire now = ([], P) := by
  unfold Pl.expire
  split
  · rfl
  · rw [expL_none (h (by omega))]
theorem Pl.expire_some {P : Pl} {now : Int} {x : Ln} (hs : P.L.Pairwise (fun a b => a.id < b.id)) (h : IsMin P.L x) (hl : x.sn ≤ now - P.idl) :
    P.expire now = (x.id :: (({ P with L := dropId P.L x.id } : Pl).expire now).1, (({ P with L := dropId P.L x.id } : Pl).expire now).2) := by
  have h0 := h.2.1
  have e1 := drop_count (f := fun e : Ln => e.id) (fun _ => true) hs h.1
  rw [List.countP_true] at e1
  have e2 : P.L.length = (dropId P.L x.id).length + 1 := by unfold dropId; simp at e1 ⊢; omega
  unfold Pl.expire
  rw [if_neg (by omega), if_neg (by simp only; omega)]
  simp only
  rw [e2, expL_some (minOf_some hs h hl)]
def ExpRel (W : World) (g N : Nat) (F : Nat → Prop) (P : Pl) (now : Int) (k : Nat) (ov : Value) (wr : World) : Prop :=
  ∃ (outs : List Int) (Pc : Pl) (F' : Nat → Prop), k = Pc.L.length ∧ wr.ownsRow W.heap.size 3 1 ov outs.length (iv outs) ∧ PoolIs wr g F' N Pc ∧ (∀ q, F' q → F q) ∧ Kept F W wr ∧ P.expire now = (outs ++ (Pc.expire now).1, (Pc.expire now).2) ∧ outs.length + Pc.L.length ≤ N ∧ Pc.idl = P.idl
def PExp (W : World) (g N : Nat) (F : Nat → Prop) (P : Pl) (now : Int) (e : Ending) (w' : World) : Prop :=
  ∃ ov F', e = .returned ov ∧ w'.ownsRow W.heap.size 3 1 ov (P.expire now).1.length (iv (P.expire now).1) ∧ PoolIs w' g F' N (P.expire now).2 ∧ (∀ q, F' q → F q) ∧ Kept F W w'
theorem ExpRel.stop {W wr : World} {g N : Nat} {F F' : Nat → Prop} {P Pc : Pl} {now : Int} {outs : List Int} {ov : Value} {e : Ending} (n : Nat) (h1 : wr.ownsRow W.heap.size 3 1 ov outs.length (iv outs)) (h2 : PoolIs wr g F' N Pc) (h3 : ∀ q, F' q → F q) (h4 : Kept F W wr)
    (h5 : P.expire now = (outs ++ (Pc.expire now).1, (Pc.expire now).2)) (h6 : Pc.expire now = ([], Pc)) (he : e = .returned ov) : PExp W g N F P now e (wr.drewN n) := by
  rw [h6] at h5
  simp only [List.append_nil] at h5
  unfold PExp
  rw [h5]
  exact ⟨ov, F', he, h1, h2.keep (fun _ _ => rfl), h3, h4.drewN n⟩
theorem heap_min {w : World} {g mb c N : Nat} {A : Option Addr} {H : List Nat} {m : Nat → Lk} {E : List (Nat × Ln)} {B : Bk} {P : Pl} (h : PM w g mb A c N H m E B P) {b : Nat} (hb : H[0]? = some b) : ∃ x, (b, x) ∈ E ∧ IsMin P.L x ∧ (m b).sn = x.sn := by
  obtain ⟨x, hx⟩ := h.hE b (List.mem_of_getElem? hb)
  obtain ⟨e1, e2, ⟨_, e3, _⟩ | ⟨e3, e4, _⟩⟩ := h.ent b x hx
  · exact absurd (List.mem_of_getElem? hb) e3
  refine ⟨x, hx, ⟨h.org hx, e3, fun y hy hs => ?_⟩, e4⟩
  obtain ⟨⟨b', y'⟩, hy', rfl⟩ := List.mem_map.1 (by rw [h.eL]; exact hy : y ∈ E.map (·.2))
  obtain ⟨f1, f2, ⟨f3, _⟩ | ⟨_, f4, f5⟩⟩ := h.ent b' y' hy'
  · simp only at hs; omega
  obtain ⟨i, hi⟩ := List.getElem?_of_mem f5
  have := h.hp.min i (List.getElem?_eq_some_iff.1 hi).1
  have k0 : key m H 0 = m b := by unfold key; rw [List.getD_eq_getElem?_getD, hb]; rfl
  have k1 : key m H i = m b' := by unfold key; rw [List.getD_eq_getElem?_getD, hi]; rfl
  rw [k0, k1] at this
  unfold lkLe at this
  unfold lnLe
  simp only
  omega
theorem heap_empty {w : World} {g mb c N : Nat} {A : Option Addr} {H : List Nat} {m : Nat → Lk} {E : List (Nat × Ln)} {B : Bk} {P : Pl} (h : PM w g mb A c N H m E B P) (hz : H.length = 0) : ∀ x ∈ P.L, x.sn < 0 := by
  intro y hy
  obtain ⟨⟨b', y'⟩, hy', rfl⟩ := List.mem_map.1 (by rw [h.eL]; exact hy : y ∈ E.map (·.2))
  obtain ⟨f1, f2, ⟨f3, _⟩ | ⟨_, f4, f5⟩⟩ := h.ent b' y' hy'
  · exact f3
  · rw [List.length_eq_zero_iff.1 hz] at f5; cases f5
theorem own_new_block {w w' : World} {base n : Nat} {e : TypeId} {size : Nat} {v : Value} {xs : List Value} {F : Nat → Prop} (h : w.ownsRow base e size v n xs) (hk : Kept F w w') (hF : ∀ q, F q → q < base) : w'.ownsRow base e size v n xs := by
  rcases h with ⟨hl, ⟨rfl, h0⟩ | ⟨g, cap, cur, hv, hg, hb, h3⟩⟩
  · exact ⟨hl, .inl ⟨rfl, h0⟩⟩
  · exact ⟨hl, .inr ⟨g, cap, cur, hv, hg, (hk.block g (Array.getElem?_eq_some_iff.1 hb).1 (fun hf => by have := hF g hf; omega)).trans hb, h3⟩⟩
set_option maxRecDepth 100000 in
set_option maxHeartbeats 4000000 in
theorem pexpire_any {g N : Nat} {F : Nat → Prop} {P : Pl} (now : Int) (w : World) (h : PoolIs w g F N P) (h0 : -9223372036854775808 ≤ now) (h1 : now ≤ 9223372036854775807) (hN : N ≤ 549755813888) :
    Calls Try.prog 13 #[.pointer (some ⟨g, 0, none⟩), .int .i64 now] w (PExp w g N F P now) := by
  have HFW := Lib.hid h.lt
  have HH := Lib.hid h
  clear h
  go_enter Try.func13, Try.ntmps13
  go_wp2_with fail
  go_loopg [5] P.L.length (fun k ov wr => ExpRel w g N F P now k ov wr)
  case atStart => exact ⟨[], P, F, rfl, World.ownsRow_nil _ _ _ _, HH.out, fun _ h => h, Kept.refl _ _, by simp, by have := HH.out.ok.len; simpa using this, rfl⟩
  case round =>
    obtain ⟨outs, Pc, F', hk, hown, hpi, hsub, hkp, hexp, hlen, hidl⟩ := hrel
    have HIS := Lib.hid hpi
    obtain ⟨mb, A, c, H, m, E, B, hF', h⟩ := hpi
    obtain ⟨-, d1, -, -, d4⟩ := h.hm.cells
    rw [h.bk.2.1] at d1
    have hi0 := h.ok.idl0
    have hi1 := h.ok.idl1
    have HR := Lib.hid (And.intro hown (And.intro hsub (And.intro hkp (And.intro hexp (And.intro hlen (And.intro hidl hk))))))
    have HPM := Lib.hid h
    have HF' := Lib.hid hF'
    obtain ⟨n, hn⟩ : ∃ n, H.length = n := ⟨_, rfl⟩
    have HN := Lib.hid hn
    rw [hn] at d4
    have hll := h.len
    rw [hn] at hll
    obtain ⟨idl, hid⟩ : ∃ idl, Pc.idl = idl := ⟨_, rfl⟩
    have HID := Lib.hid hid
    rw [hid] at d1 hi0 hi1
    clear hown hsub hkp hexp hlen hidl hk hn h hF' hid
    by_cases hz : n = 0
    · subst hz
      have hst : Pc.expire now = ([], Pc) := Pl.expire_none fun _ => minOf_none HPM.out.ok.sorted fun x hx hs => by have := heap_empty HPM.out HN.out x hx; omega
      have HST := Lib.hid hst
      clear hst
      go_wp2_with fail
      go_quiet (fail)
      go_wp2_with fail
      go_ret
      exact ExpRel.stop _ HR.out.1 HIS.out HR.out.2.1 HR.out.2.2.1 HR.out.2.2.2.1 HST.out rfl
    · obtain ⟨qq, oo, b, hAq, hq, hb, q0⟩ := HPM.out.hm.at_ (i := 0) (by have := HN.out; omega)
      rw [hAq] at d4
      have HAQ := Lib.hid hAq
      clear hAq
      obtain ⟨x, hx, hmin, hsn⟩ := heap_min HPM.out hb
      obtain ⟨-, -, x2, -⟩ := lk_cells (HPM.out.hm.lk 0 b hb)
      rw [hsn] at x2
      have hx0 := hmin.2.1
      have hx1 := (HPM.out.ok.each x hmin.1).2.2.2.2.2
      have HX := Lib.hid (And.intro hx (And.intro hmin hb))
      have hn0 : (0 : Int) < n := by omega
      have hnn : 0 < n := by omega
      have hnd : decide (0 < n) = true := by simpa using hnn
      clear hx hmin hsn hb
      rw [show oo + 0 = oo from rfl] at q0
      by_cases hnow : 0 < now
      · have s1 : IntKind.i64.wrap (now - idl) = now - idl := IntWalk.i64_in _ ⟨by omega, by omega⟩
        by_cases hle : x.sn ≤ now - idl
        · go_wp2_with fail
          go_quiet (fail)
          go_wp2_with fail
          generalize hWq : wr.drewN _ = Wq
          have hpq : PM Wq g mb A c N H m E B Pc := HPM.out.keep (fun _ _ => by rw [← hWq]; rfl)
          obtain ⟨n1, hn1⟩ : ∃ n1, n = n1 + 1 := ⟨n - 1, by omega⟩
          have HPO := Lib.hid (hpop_any (n := n1) Wq hpq.hm hpq.hp HX.out.2.2 (HN.out.trans hn1) (by omega))
          have HPQ := Lib.hid hpq
          have hq0 : Wq.ownsRow w.heap.size 3 1 u5 outs.length (iv outs) := by rw [← hWq]; exact HR.out.1
          have hkq : Kept F w Wq := by rw [← hWq]; exact HR.out.2.2.1.drewN _
          have HQ := Lib.hid (And.intro hq0 hkq)
          clear hpq hWq hq0 hkq q0 x2 d1 d4
          refine HPO.out.mono ?_
          rintro e w1 ⟨rfl, H', hp1, hh1, hm1, hb1, hk1⟩
          have hnd : (H' ++ [b]).Nodup := hp1.nodup_iff.2 HPQ.out.hm.nodup
          have hbn : b ∉ H' := fun hh => by
            rw [List.nodup_append] at hnd
            exact hnd.2.2 b hh b (by simp) rfl
          have hin : ∀ q, q ≠ b → (q ∈ H' ↔ q ∈ H) := fun q hq => by
            rw [← hp1.mem_iff, List.mem_append]; simp [hq]
          have HFO := Lib.hid (forget_pm HPQ.out HX.out.1 hm1 hh1 hin hbn hb1 hk1)
          have HB1 := Lib.hid hb1
          clear hp1 hh1 hm1 hb1 hk1 hnd hbn hin
          go_wp2_with fail
          refine HFO.out.mono ?_
          rintro e w2 ⟨rfl, hk2, ⟨B', hpm2⟩, hb2⟩
          obtain ⟨z0, -, -, -⟩ := lk_cells (hb2.trans HB1.out)
          rw [(HPQ.out.ent b x HX.out.1).1] at z0
          have hlt : ∀ q, pfoot g mb A E q → q < w.heap.size := fun q hq => HFW.out q (HR.out.2.1 q (by rw [HF'.out]; exact hq))
          have hown2 : w2.ownsRow w.heap.size 3 1 u5 outs.length (iv outs) := own_new_block HQ.out.1 hk2 hlt
          have hkF2 : Kept F w w2 := HQ.out.2.same (hk2.mono fun q hq => HR.out.2.1 q (by rw [HF'.out]; exact hq))
          have H2 := Lib.hid (And.intro hown2 (And.intro hkF2 (And.intro hpm2 hlt)))
          have hsz2 : w.heap.size ≤ w2.heap.size := hkF2.size
          have hol : outs.length ≤ N := by have := HR.out.2.2.2.2.1; omega
          obtain ⟨A5, c5, rfl, -⟩ := own_slice hown2
          clear hown2 hkF2 hpm2 hlt hk2 hb2
          go_wp2_with (at_builtin; refine wpList_app (.tmp 53) (.tmp 58) tInts rfl rfl (World.ownsRow.alloc H2.out.1 _) rfl (Rd.one _ _ _) rfl (oneInt _ _) (le_maxLen (by omega)) (by omega) (by simp; omega) ?_; intro v4 w4 hown4 hg4 _)
          go_roundg (dropId Pc.L x.id).length
          case rel =>
            obtain ⟨hown2, hkF2, hpm2, hlt⟩ := H2.out
            obtain ⟨r1, r2, r3, r4, r5, r6, r7⟩ := HR.out
            have hex := Pl.expire_some HPM.out.ok.sorted HX.out.2.1 (by rw [HID.out]; exact hle)
            have hrow : ∀ q, (Value.slice A5 outs.length c5).ownBlock = some q → w.heap.size ≤ q := fun q hq => (hown2.lt q hq).1
            refine ⟨outs ++ [x.id], _, _, rfl, ?_, ⟨mb, A, c, H', m, _, B', rfl, hpm2.keep (fun q hq => ?_)⟩, fun q hq => r2 q (by rw [HF'.out]; exact dropE_foot hq), (hkF2.alloc _).grown hg4 (fun q hq => .inr (hrow q hq)), ?_, ?_, r6⟩
            · rw [List.length_append, show iv (outs ++ [x.id]) = iv outs ++ [.int .i64 x.id] by simp [iv]]; exact hown4
            · have hql := hlt q (dropE_foot hq)
              exact (hg4.block q (by simp; omega) (fun e => by have := hrow q e.symm; omega)).trans (Below.heap_alloc _ _ _ (by omega))
            · rw [r4, hex]; simp
            · have e1 := drop_count (f := fun e : Ln => e.id) (fun _ => true) HPM.out.ok.sorted HX.out.2.1.1
              rw [List.countP_true] at e1
              simp only [List.length_append, List.length_singleton]
              unfold dropId
              simp at e1 ⊢
              omega
          case measure =>
            have e1 := drop_count (f := fun e : Ln => e.id) (fun _ => true) HPM.out.ok.sorted HX.out.2.1.1
            rw [List.countP_true] at e1
            have := HR.out.2.2.2.2.2.2
            unfold dropId
            simp at e1 ⊢
            omega
        · have hst : Pc.expire now = ([], Pc) := Pl.expire_none fun _ => minOf_none HPM.out.ok.sorted fun y hy hs => by
            have := HX.out.2.1.2.2 y hy hs
            rw [HID.out]
            unfold lnLe at this; omega
          have HST := Lib.hid hst
          have hld : decide (x.sn ≤ now - idl) = false := by simpa using hle
          clear hst
          go_wp2_with fail
          go_quiet (fail)
          go_wp2_with fail
          go_ret
          exact ExpRel.stop _ HR.out.1 HIS.out HR.out.2.1 HR.out.2.2.1 HR.out.2.2.2.1 HST.out rfl
      · have hst : Pc.expire now = ([], Pc) := Pl.expire_none fun hh => by rw [HID.out] at hh; omega
        have HST := Lib.hid hst
        clear hst
        have hnd2 : decide (0 < now) = false := by simpa using hnow
        by_cases hle : x.sn ≤ IntKind.i64.wrap (now - idl)
        · have hld : decide (x.sn ≤ IntKind.i64.wrap (now - idl)) = true := by simpa using hle
          go_wp2_with fail
          go_quiet (fail)
          go_wp2_with fail
          go_ret
          exact ExpRel.stop _ HR.out.1 HIS.out HR.out.2.1 HR.out.2.2.1 HR.out.2.2.2.1 HST.out rfl
        · have hld : decide (x.sn ≤ IntKind.i64.wrap (now - idl)) = false := by simpa using hle
          go_wp2_with fail
          go_quiet (fail)
          go_wp2_with fail
          go_ret
          exact ExpRel.stop _ HR.out.1 HIS.out HR.out.2.1 HR.out.2.2.1 HR.out.2.2.2.1 HST.out rfl
end Go.Proofs.Ytidfokfnigncmaa
