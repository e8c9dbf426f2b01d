/- 3 texts in one: Tn1, HOpen, LiftC. -/
import Derived.Test.YtpkmciohehaboaaGreatDoorM12
import Derived.Test.YtpkmciohehaboaaGreatDoorM19
import Derived.Test.YtpkmciohehaboaaGreatDoorM14
import Derived.Test.YtpkmciohehaboaaGreatDoorM5
import Derived.Deep.Slices
import Derived.Deep.Fields
import Derived.ChangeSame
import Derived.Test.YtpkmciohehaboaaGreatDoorRows
import Derived.Handed
import Derived.LaidMore
import Derived.LaidLaws
import Derived.Lay
import Derived.Stop.Joined
/- The walk of TopNames. -/
namespace Go.Proofs.YtpkmciohehaboaaGreatDoor
open Go.RowKit Go.Maps

def TlRel (w : World) (n : Nat) (l : List Fd) (ov iv : Value) (wr : World) : Prop := ∃ k : Nat, iv = .int .i64 k ∧ k ≤ n ∧ OwnFds w (ownF (l.take k)) ov wr
theorem own_snoc9 {l : List Fd} {k : Nat} {f : Fd} (h : l[k]? = some f) : ownF (l.take (k + 1)) = ownF (l.take k) ++ (if (lineF (f.1.1.data.toList ++ 58 :: f.1.2.data.toList)).2 then [(lineF (f.1.1.data.toList ++ 58 :: f.1.2.data.toList)).1] else []) := by
  unfold ownF
  rw [List.take_add_one, h, Option.toList_some, List.filterMap_append]
  congr 1
  cases hb : (lineF (f.1.1.data.toList ++ 58 :: f.1.2.data.toList)).2 <;> simp [hb]
def LbRel (w8 : World) (ss : Nat) (iv : Value) (wx : World) : Prop := ∃ k : Nat, iv = .int .i64 k ∧ k ≤ ss + 1 ∧ Below w8.heap.size w8 wx
theorem tx_strip {l : List Fd} (h : Tx l) : Tx (stripF l) := fun f hf => h f (strip_mem hf).1
theorem tx_via {l : List Fd} (h : Tx l) : Tx (l ++ [((viaB, whoB), false)]) := fun f hf => by
  rcases List.mem_append.1 hf with hf | hf
  · exact h f hf
  · rw [List.mem_singleton.1 hf]; exact ⟨by decide +kernel, by decide +kernel⟩
theorem tx_ans {l : List Fd} {n : Nat} (h : Tx l) (hn : n ≤ 999 := by omega) : Tx (ansF n l) := fun f hf => by
  unfold ansF at hf
  rcases List.mem_cons.1 hf with rfl | hf
  · refine ⟨by show statB.size ≤ _; decide +kernel, ?_⟩
    show (mkS (decS n)).size ≤ _
    rw [mkS_size]
    by_cases h1 : n < 100
    · by_cases h2 : n < 10
      · rw [decS_small h2]; simp
      · rw [decS_big h2, decS_small (by omega)]; simp
    · rw [decS3 (by omega) (by omega)]; simp
  · obtain ⟨g, hg, rfl⟩ := List.mem_map.1 hf
    refine ⟨?_, (h g hg).2⟩
    show (mkS (lowL g.1.1.data.toList)).size ≤ _
    rw [mkS_size, lowL_len]
    have := (h g hg).1
    show g.1.1.data.toList.length ≤ _
    rw [Array.length_toList]
    exact this
set_option maxRecDepth 100000 in
set_option maxHeartbeats 8000000 in
theorem topnames_any {A : Option Addr} {n c : Nat} {l : List Fd} (s : Int) (w : World) (hl : Rd w w.heap.size 3 A n (fds l)) (hn : n ≤ 140737488351232) (hz : Tx l) :
    Calls Tryz.prog 3 #[.int .i64 s, .slice A n c] w fun e w' => e = .returned (.bool true) ∧ Below w.heap.size w w' := by
  have hll : l.length = n := by have := hl.1; rw [fds_length] at this; omega
  have HM := Lib.hid (meets_any w)
  have HBY := Lib.hid (fun (w1 : World) (h : Rd w1 w.heap.size 3 A n (fds l)) => bytes_any (c := c) w1 h hn hz)
  have HL := Lib.hid hl
  have HLL := Lib.hid hll
  clear hl hz hll hn
  go_enter Tryz.func3, Tryz.ntmps3
  go_wp2_with fail
  refine HM.out.mono ?_
  rintro e w1 ⟨rfl, hb1⟩
  have HB1 := Lib.hid hb1
  clear hb1 HM
  go_wp2_with fail
  refine (HBY.out w1 (HL.out.below HB1.out (Nat.le_refl _))).mono ?_
  rintro e w2 ⟨rfl, dd, hw2⟩
  have hb2 : Below w.heap.size w w2 := by rw [hw2]; exact HB1.out.trans (by exact ⟨rfl, rfl, rfl, Nat.le_refl _, fun _ _ => rfl⟩)
  have HB2 := Lib.hid hb2
  clear hw2 hb2 HBY
  by_cases hby : 10000 < bytesV l
  · have t1 : ((bytesV l : Nat) : Int) > 10000 := by omega
    go_wp2_with fail
    go_ret
    exact ⟨rfl, HB2.out⟩
  have t1 : ¬ ((bytesV l : Nat) : Int) > 10000 := by omega
  by_cases hs1 : s < 200
  · go_wp2_with fail
    go_ret
    exact ⟨rfl, HB2.out⟩
  by_cases hs2 : s > 999
  · go_wp2_with fail
    go_ret
    exact ⟨rfl, HB2.out⟩
  have HTN := Lib.hid (tn_ok (l := l) (by omega))
  obtain ⟨S, rfl⟩ : ∃ S : Nat, s = (S : Int) := ⟨s.toNat, by omega⟩
  have HS := Lib.hid (And.intro (show 200 ≤ S by omega) (show S ≤ 999 by omega))
  have hnn : n ≤ 1000 := by have := HTN.out.n; have := HLL.out; omega
  go_wp2_with fail
  go_loopw [5, 6] (fun ov iv wr => TlRel w n l ov iv wr) (fun _ iv _ => n - (intOf iv).toNat)
  case atStart => exact ⟨0, rfl, Nat.zero_le _, ownFds_nil HB2.out⟩
  case round =>
    obtain ⟨k, rfl, hk, hown⟩ := hrel
    have HO := Lib.hid hown
    have hsr := hown.2.size
    clear hown
    by_cases hlt : k < n
    · obtain ⟨hll, b, o, rfl, hbl, hc⟩ := fd_at (HL.out.below HO.out.2 (Nat.le_refl _)) (by omega)
      obtain ⟨f, hf⟩ : ∃ f, l[k]? = some f := ⟨_, List.getElem?_eq_getElem (by omega)⟩
      obtain ⟨z0, z1, z2⟩ := hc k f hf
      have n0 : (k : Int) < n := by omega
      have hbw0 : b < wr.heap.size := by omega
      have HE := Lib.hid (HTN.out.each f (List.mem_of_getElem? hf))
      have HA := Lib.hid (own_snoc9 hf)
      clear hc hf hll z2
      obtain ⟨⟨nm, vl⟩, nv⟩ := f
      simp only at z0 z1 HE HA
      have HF := Lib.hid (fun w' => fieldline_any (nm ++ ⟨#[58]⟩ ++ vl) w' (by simp [ByteArray.size_append]; have := HE.out; have : (⟨#[58]⟩ : ByteArray).size = 1 := rfl; omega))
      have hs58 : (⟨#[58]⟩ : ByteArray).size = 1 := rfl
      have add1 : ∀ w', (Op.stringOp .add nm ⟨#[58]⟩).run Tryz.prog w' = .ok (.string (nm ++ ⟨#[58]⟩)) w' := fun w' => run_string_add_sum (P := Tryz.prog) w' nm ⟨#[58]⟩ (by have := HE.out; omega)
      have add2 : ∀ w', (Op.stringOp .add (nm ++ ⟨#[58]⟩) vl).run Tryz.prog w' = .ok (.string (nm ++ ⟨#[58]⟩ ++ vl)) w' := fun w' => run_string_add_sum (P := Tryz.prog) w' (nm ++ ⟨#[58]⟩) vl (by have := HE.out; rw [ByteArray.size_append]; omega)
      clear hs58
      obtain ⟨R, hR⟩ : ∃ R, lineF (nm.data.toList ++ 58 :: vl.data.toList) = R := ⟨_, rfl⟩
      have hcat : (nm ++ ⟨#[58]⟩ ++ vl).data.toList = nm.data.toList ++ 58 :: vl.data.toList := by simp
      rw [hcat, hR] at HF
      rw [hR] at HA
      obtain ⟨⟨⟨rn, rv⟩, rb⟩, ok⟩ := R
      dsimp only at HA
      unfold FlPost at HF
      dsimp only at HF
      clear hcat hR
      go_upto_region 9 with fail
      go_cut [7, 8] (fun y7 y8 wx => ∃ g, y7 = .pointer (some ⟨g, 0, none⟩) ∧ y8 = .bool ok ∧ wx.heap[g]? = some (.cells #[.string rn, .string rv, .bool rb] 26 (0, 0)) ∧ wr.heap.size ≤ g ∧ Below wr.heap.size wr wx)
      case first =>
        go_region_held3 (fun w' => w'.cell? ⟨b, o + k * 3, none⟩ = some (.string nm) ∧ w'.cell? ⟨b, o + k * 3 + 1, none⟩ = some (.string vl))
          (first | exact ⟨z0, z1⟩ | exact ⟨k0, k1⟩ | (refine ⟨?_, ?_⟩ <;> (repeat (first | refine (far_row (by omega)).trans ?_ | refine (far_alloc (by first | omega | (simp only [World.size_alloc]; omega))).trans ?_)) <;> (first | exact k0 | exact k1 | exact z0 | exact z1)))
          (first
            | (go_at_call 7; refine calls_named ?_; intro W2 hW2; have hbw : Below wr.heap.size wr W2 := (by rw [hW2]; repeat (first | exact Below.refl _ _ | apply Below.drew | refine Below.alloc ?_ (by simp) _)); refine (HF.out W2).mono ?_; rintro e3 w3 ⟨rfl, hb3⟩; have hbw3 := hbw.trans (hb3.mono hbw.size); have hs3 := hbw3.size; have k0 := (hbw3.cell (p := ⟨b, o + k * 3, none⟩) hbw0).trans z0; have k1 := (hbw3.cell (p := ⟨b, o + k * 3 + 1, none⟩) hbw0).trans z1; (try (have hz := ((hb3.block wr.heap.size (by rw [hW2]; simp <;> omega)).trans (by rw [hW2]; exact heapNew wr _) : w3.heap[wr.heap.size]? = some (.cells #[.string ⟨#[]⟩, .string ⟨#[]⟩, .bool false] 26 (0, 0))))); (try (have hl0 : wr.heap.size < w3.heap.size := (by have := hb3.size; rw [hW2] at this; simp at this; omega))))
            | (refine upon_of_wp (w := w3) ?_ (wp_store_row 26 (.tmp 7) (.tmp 51) rfl wr.heap.size _ rfl rfl 26 #[.string ⟨#[]⟩, .string ⟨#[]⟩, .bool false] hz infoField rfl (by simp [Value.oneCell']) ?_); focus (go_simp; done)))
        all_goals
          try go_wp2_with fail
          go_meet
          first
            | exact ⟨_, rfl, rfl, heapNew w3 _, by omega, hbw3.alloc (by omega) _⟩
            | exact ⟨_, rfl, rfl, setRow_heap _ _ _ _ _ _ hz, Nat.le_refl _, hbw3.trans ⟨rfl, rfl, rfl, by simp, fun k hk => setRow_other _ _ _ _ (by omega)⟩⟩
      case rest =>
      obtain ⟨g, rfl, rfl, hkg, hge, hbc⟩ := hcut
      have hsc := hbc.size
      have hgl := (Array.getElem?_eq_some_iff.1 hkg).1
      have HBC := Lib.hid hbc
      have hol := own_cost (l.take k)
      have hvl : (ownF (l.take k)).length ≤ k := by have := hol.2; rw [List.length_take] at this; omega
      have g0 : wc.cell? ⟨g, 0, none⟩ = some (.string rn) := by unfold World.cell?; rw [hkg]; rfl
      have g1 : wc.cell? ⟨g, 1, none⟩ = some (.string rv) := by unfold World.cell?; rw [hkg]; rfl
      have g2 : wc.cell? ⟨g, 2, none⟩ = some (.bool rb) := by unfold World.cell?; rw [hkg]; rfl
      clear hkg hbc hol HF add1 add2 z0 z1
      cases ok with
      | true =>
        go_wp2_with (at_builtin; refine of_stop ?_)
        unfold Stop
        refine wpList_app (.tmp 54) (.tmp 56) tFields rfl rfl (own_later HO.out HBC.out _) rfl (Rd.one3 _ _ _ _ _) rfl (by simp [Value.oneCell']) (le_maxLen (by omega)) (by omega) (by simp; omega) ?_
        intro v5 w5 hown5 hg5 _
        have HE2 : Hid (TlRel w n l v5 (.int .i64 (k + 1 : Nat)) w5) := Lib.hid (by
          refine ⟨k + 1, rfl, hlt, ?_⟩
          rw [HA.out]
          simp only [if_true]
          exact HO.out.app ((rn, rv), rb) HBC.out _ hown5 hg5)
        obtain ⟨A5, c5, hv5, -, -, -, -⟩ := own_slice hown5
        rw [hv5] at HE2 ⊢
        clear hown5 hg5 hv5
        go_wp2
        go_roundw
        case rel => exact HE2.out
        case measure => simp [intOf]; omega
      | false =>
        have HE2 : Hid (TlRel w n l u5 (.int .i64 (k + 1 : Nat)) wc) := Lib.hid (by
          refine ⟨k + 1, rfl, hlt, ?_⟩
          rw [HA.out, if_neg (by simp), List.append_nil]
          exact ⟨own_kept4 HO.out.1 (Kept.of_below (F := fun _ => False) HBC.out) (fun _ _ h => h), HO.out.2.trans (HBC.out.mono hsr)⟩)
        go_wp2
        go_roundw
        case rel => exact HE2.out
        case measure => simp [intOf]; omega
    · have hkn : k = n := by omega
      subst hkn
      have HE : Hid (OwnFds w (ownF l) u5 wr) := Lib.hid (by
        have h1 := HO.out
        rwa [List.take_of_length_le (by have := HLL.out; omega)] at h1)
      have hmle := HTN.out.no
      obtain ⟨A5, c5, hv5, -, -, hr5, -⟩ := own_slice HE.out.1
      rw [hv5] at HE ⊢
      have HR5 := Lib.hid hr5
      have HST := Lib.hid (fun (w1 : World) (h : Rd w1 w1.heap.size 3 A5 (ownF l).length (fds (ownF l))) => strip_any (c := c5) w1 h (by omega) HTN.out.tx HTN.out.val HTN.out.len HTN.out.els)
      have HHAS := Lib.hid (fun (el : ByteArray) (w1 : World) (he : el.size ≤ 140737488355328) (h : Rd w1 w1.heap.size 3 A5 (ownF l).length (fds (ownF l))) => has_any (c := c5) con1 el w1 h (by omega) HTN.out.tx (by decide +kernel) HTN.out.val HTN.out.len (fun x hx => by have := HTN.out.els x hx; omega) he)
      have hsl : (stripF (ownF l)).length ≤ (ownF l).length := withoutF_le _ _
      have htx := HTN.out.tx
      have HTX1 := Lib.hid (tx_strip htx)
      clear hv5 hr5 htx
      obtain ⟨m, hm⟩ : ∃ m, (ownF l).length = m := ⟨_, rfl⟩
      rw [hm] at HE HR5 HST HHAS hmle hsl
      obtain ⟨ss, hss⟩ : ∃ ss, (stripF (ownF l)).length = ss := ⟨_, rfl⟩
      rw [hss] at hsl
      have HM2 := Lib.hid (And.intro hm hss)
      rw [hm]
      clear hm hss HO
      go_wp2_with fail
      refine (HST.out wr HR5.out).mono ?_
      rintro e w3 ⟨v3, rfl, ho3⟩
      obtain ⟨A3, c3, rfl, -, -, hr3, -⟩ := own_slice ho3.1
      rw [HM2.out.2] at hr3 ⊢
      have HB3 := Lib.hid (HE.out.2.trans (ho3.2.mono HE.out.2.size))
      have HB3r := Lib.hid ho3.2
      have HVI := Lib.hid (via_any (c := c3) whoB w3 hr3 (by omega))
      clear ho3 hr3
      go_wp2_with fail
      refine HVI.out.mono ?_
      rintro e w4 ⟨v4, rfl, ho4⟩
      obtain ⟨A4, c4, rfl, -, -, hr4, -⟩ := own_slice ho4.1
      have hl4 : (stripF (ownF l) ++ [((viaB, whoB), false)]).length = ss + 1 := by rw [List.length_append, HM2.out.2]; rfl
      rw [hl4] at hr4 ⊢
      have HB4 := Lib.hid (HB3.out.trans (ho4.2.mono HB3.out.size))
      have HB4r := Lib.hid (HB3r.out.trans (ho4.2.mono HB3r.out.size))
      have HAN := Lib.hid (answer_any (c := c4) (s := S) w4 hr4 (by omega) (tx_via HTX1.out) (by have := HS.out; omega) (by have := HS.out; omega))
      clear ho4 hr4 hl4 HVI
      go_wp2_with fail
      refine HAN.out.mono ?_
      rintro e w5 ⟨v5, rfl, ho5⟩
      obtain ⟨A6, c6, rfl, -, -, hr6, -⟩ := own_slice ho5.1
      have hl6 : (ansF S (stripF (ownF l) ++ [((viaB, whoB), false)])).length = ss + 2 := by rw [ansF_len, List.length_append, HM2.out.2]; rfl
      rw [hl6] at hr6 ⊢
      have HB5 := Lib.hid (HB4.out.trans (ho5.2.mono HB4.out.size))
      have HB5r := Lib.hid (HB4r.out.trans (ho5.2.mono HB4r.out.size))
      have HRA := Lib.hid (readanswer_any (c := c6) w5 hr6 (by omega) (tx_ans (tx_via HTX1.out) HS.out.2))
      have hra := read_answer (n := S) l (by have := HS.out; omega) (by have := HS.out; omega)
      rw [show ansF S (stripF (ownF l) ++ [viaD]) = ansF S (stripF (ownF l) ++ [((viaB, whoB), false)]) from rfl] at hra
      rw [hra] at HRA
      clear ho5 hr6 hl6 HAN hra
      have HXR := Lib.hid (fun (w1 : World) (h : Below wr.heap.size wr w1) => ((HR5.out.below h (Nat.le_refl _)).more h.size : Rd w1 w1.heap.size 3 A5 m (fds (ownF l))))
      by_cases hlf : lenF (stripF (ownF l)) = none
      · rw [if_pos hlf] at HRA
        have HLF := Lib.hid hlf
        clear hlf
        go_wp2_with fail
        refine HRA.out.mono ?_
        rintro e w6 ⟨v6, rfl, ho6⟩
        obtain ⟨A7, c7, rfl, -, -, -, -⟩ := own_slice ho6.1
        have HB6 := Lib.hid (HB5.out.trans (ho6.2.mono HB5.out.size))
        have HB6r := Lib.hid (HB5r.out.trans (ho6.2.mono HB5r.out.size))
        clear ho6 HRA
        go_wp2_with fail
        refine (HST.out w6 (HXR.out w6 HB6r.out)).mono ?_
        rintro e w7 ⟨v7, rfl, ho7⟩
        obtain ⟨A8, c8, rfl, -, -, hr8, -⟩ := own_slice ho7.1
        rw [HM2.out.2] at hr8 ⊢
        have HB7 := Lib.hid (HB6.out.trans (ho7.2.mono HB6.out.size))
        have HLN := Lib.hid (rlength_any (c := c8) w7 hr8 (by omega) HTX1.out)
        rw [HLF.out] at HLN
        simp only [lenR] at HLN
        clear ho7 hr8
        go_wp2_with fail
        refine HLN.out.mono ?_
        rintro e w8 ⟨rfl, hb8⟩
        have HB8 := Lib.hid (HB7.out.trans (hb8.mono HB7.out.size))
        clear hb8
        go_wp2
        go_ret
        exact ⟨rfl, HB8.out⟩
      · rw [if_neg hlf] at HRA
        obtain ⟨LA, LB, hLR⟩ : ∃ a b, lenR (lenF (stripF (ownF l))) = (a, b, 0) := by
          cases hq : lenF (stripF (ownF l)) with
          | none => exact absurd hq hlf
          | some o => cases o <;> exact ⟨_, _, rfl⟩
        have HLR := Lib.hid hLR
        clear hlf hLR
        go_wp2_with fail
        refine HRA.out.mono ?_
        rintro e w6 ⟨v6, rfl, ho6⟩
        dsimp only at ho6
        obtain ⟨A7, c7, rfl, -, -, hr7, -⟩ := own_slice ho6.1
        have hl7 : (stripF (ownF l) ++ [viaD]).length = ss + 1 := by rw [List.length_append, HM2.out.2]; rfl
        rw [hl7] at hr7
        simp only [hl7]
        have HB6 := Lib.hid (HB5.out.trans (ho6.2.mono HB5.out.size))
        have HB6r := Lib.hid (HB5r.out.trans (ho6.2.mono HB5r.out.size))
        have HR7 := Lib.hid hr7
        have HL7 := Lib.hid hl7
        clear ho6 hr7 HRA hl7
        go_wp2_with fail
        refine (HST.out w6 (HXR.out w6 HB6r.out)).mono ?_
        rintro e w7 ⟨v7, rfl, ho7⟩
        obtain ⟨A8, c8, rfl, -, -, hr8, -⟩ := own_slice ho7.1
        rw [HM2.out.2] at hr8 ⊢
        have HB7 := Lib.hid (HB6.out.trans (ho7.2.mono HB6.out.size))
        have HB7r := Lib.hid (HB6r.out.trans (ho7.2.mono HB6r.out.size))
        have HB7s := Lib.hid ho7.2
        have HLN := Lib.hid (rlength_any (c := c8) w7 hr8 (by omega) HTX1.out)
        rw [HLR.out] at HLN
        dsimp only at HLN
        clear ho7 hr8
        go_wp2_with fail
        refine HLN.out.mono ?_
        rintro e w8 ⟨rfl, hb8⟩
        have HB8 := Lib.hid (HB7.out.trans (hb8.mono HB7.out.size))
        have HB8r := Lib.hid (HB7r.out.trans (hb8.mono HB7r.out.size))
        have HR8 := Lib.hid ((HR7.out.below (HB7s.out.trans (hb8.mono HB7s.out.size)) (Nat.le_refl _)).more (HB7s.out.trans (hb8.mono HB7s.out.size)).size)
        clear hb8 HLN
        obtain ⟨-, b7, o7, hA7, hb7, hc7⟩ := fd_at HR8.out (by omega)
        subst hA7
        have hlast : (stripF (ownF l) ++ [viaD])[ss]? = some viaD := by
          rw [List.getElem?_append_right (by rw [HM2.out.2]; exact Nat.le_refl _), HM2.out.2, Nat.sub_self]
          rfl
        obtain ⟨y0, y1, y2⟩ := hc7 ss viaD hlast
        have y0' : w8.cell? ⟨b7, o7 + ss * 3, none⟩ = some (.string ⟨#[118, 105, 97]⟩) := y0
        have y1' : w8.cell? ⟨b7, o7 + ss * 3 + 1, none⟩ = some (.string ⟨#[49, 46, 49, 32, 100, 114, 97, 119, 98, 114, 105, 100, 103, 101]⟩) := y1
        have y2' : w8.cell? ⟨b7, o7 + ss * 3 + 2, none⟩ = some (.bool false) := y2
        have HC7 := Lib.hid hc7
        clear hc7 hlast y0 y1 y2
        have hss : ss < 100000 := by omega
        have hneq : ∀ w', (binOp BinOp.neq 26 (.agg #[.string ⟨#[118, 105, 97]⟩, .string ⟨#[49, 46, 49, 32, 100, 114, 97, 119, 98, 114, 105, 100, 103, 101]⟩, .bool false]) (.agg #[.string ⟨#[118, 105, 97]⟩, .string ⟨#[49, 46, 49, 32, 100, 114, 97, 119, 98, 114, 105, 100, 103, 101]⟩, .bool false])).run Tryz.prog w' = .ok (.bool false) w' := fun w' => by kernel_rfl
        have eS : ((S : Int) == S) = true := beq_self_eq_true _
        have hz0 : ((ss : Int) + 1 == 0) = false := by simp; omega
        go_wp2_with fail
        clear hneq y0' y1' y2' eS hz0
        go_loopw [17] (fun iv wx => LbRel w8 ss iv wx) (fun iv _ => ss + 1 - (intOf iv).toNat)
        case atStart => exact ⟨0, rfl, by omega, Below.refl _ _⟩
        case round =>
          obtain ⟨k, rfl, hk, hb9⟩ := hrel
          have HB9 := Lib.hid hb9
          have hs9 := hb9.size
          have HB9r := Lib.hid (HB8r.out.trans (hb9.mono HB8r.out.size))
          clear hb9
          by_cases hlt : k < ss + 1
          · obtain ⟨f, hf⟩ : ∃ f, (stripF (ownF l) ++ [viaD])[k]? = some f := ⟨_, List.getElem?_eq_getElem (by rw [HL7.out]; exact hlt)⟩
            obtain ⟨z0, -, -⟩ := HC7.out k f hf
            have z0' := (HB9.out.cell (p := ⟨b7, o7 + k * 3, none⟩) hb7).trans z0
            obtain ⟨a1, a2, a3⟩ := told_apart hf
            rw [HL7.out] at a3
            have hfs : f.1.1.size ≤ 140737488351232 := (tx_via HTX1.out f (List.mem_of_getElem? hf)).1
            have HH := Lib.hid (HHAS.out f.1.1 wr (by omega) (HXR.out wr HB9r.out))
            have HA3 := Lib.hid a3
            obtain ⟨⟨nm, vl⟩, nv⟩ := f
            simp only at z0' a1 a2 HH HA3
            have e1 : (nm.toList == [99, 111, 110, 110, 101, 99, 116, 105, 111, 110]) = false := by rw [lit_dec (c := con1) (by decide +kernel)]; exact decide_eq_false a1
            have e2 : (nm.toList == [116, 114, 97, 110, 115, 102, 101, 114, 45, 101, 110, 99, 111, 100, 105, 110, 103]) = false := by rw [lit_dec (c := con4) (by decide +kernel)]; exact decide_eq_false a2
            have n1 : (k : Int) < ((ss + 1 : Nat) : Int) := by omega
            have n2 : (k : Int) < (ss : Int) + 1 := by omega
            obtain ⟨R, hR⟩ : ∃ R, hasF (ownF l) con1 nm = R := ⟨_, rfl⟩
            rw [hR] at HH HA3
            unfold con1 at HH
            clear hf z0 a1 a2 a3 hfs hR
            go_wp2_with fail
            refine HH.out.mono ?_
            rintro e w10 ⟨rfl, hb10⟩
            have HB10 := Lib.hid (HB9.out.trans (hb10.mono hs9))
            have HN : Hid (LbRel w8 ss (.int .i64 (k + 1 : Nat)) w10) := Lib.hid ⟨k + 1, rfl, by omega, HB10.out⟩
            clear hb10 HH
            cases R with
            | true =>
              have hks : k = ss := by
                by_cases h : k + 1 < ss + 1
                · have := HA3.out h; cases this
                · omega
              have n3 : ¬ ((k : Int) < (ss : Int)) := by omega
              have HN2 : Hid (LbRel w8 ss (.int .i64 ((ss : Int) + 1)) w10) := Lib.hid (by have h := HN.out; rw [hks] at h; exact h)
              go_wp2
              go_roundw
              case rel => exact HN2.out
              case measure => simp [intOf]; omega
            | false =>
              go_wp2
              go_roundw
              case rel => exact HN.out
              case measure => simp [intOf]; omega
          · have hkn : k = ss + 1 := by omega
            subst hkn
            go_wp2
            go_ret
            exact ⟨rfl, HB8.out.trans (HB9.out.mono HB8.out.size)⟩
end Go.Proofs.YtpkmciohehaboaaGreatDoor

/- A []api.Field, a [][]byte, a []drawbridgelaw05.Do that came in: in memory. -/
namespace Go.Proofs.YtpkmciohehaboaaGreatDoor
open Go.ChangeShapes Go.WideShapes Go.ChangeAt Go.RowKit Go.WideMaps Go.ChangeMaps Go.Deep
set_option maxRecDepth 100000

theorem weightsAll_mem {H : Type} {P : Program} {e : TypeId} : ∀ {l : List (DataW H)} {d : DataW H}, d ∈ l → ∀ n ∈ d.weights P e, n ∈ DataW.weightsAll P e l
  | a :: l, d, hd, n, hn => by
    simp only [DataW.weightsAll, List.mem_append]
    rcases List.mem_cons.1 hd with rfl | h
    · exact Or.inl hn
    · exact Or.inr (weightsAll_mem h n hn)
/-- Within the form's reach. -/
def Near {H : Type} (t : TypeId) (d : DataW H) : Prop := ∀ n ∈ d.weights Tryz.prog t, n ≤ reachBytes
theorem near_of {H : Type} {ts : List TypeId} {ds : List (DataW H)} (hsz : (DataW.weightsEach Tryz.prog ts ds).all (· ≤ reachBytes) = true) {j : Nat} {t : TypeId} {d : DataW H} (ht : ts[j]? = some t) (hd : ds[j]? = some d) : Near t d :=
  fun n hn => of_decide_eq_true (List.all_eq_true.1 hsz _ (DataW.weights_mem_each ht hd n hn))
theorem Near.elem {H : Type} {t e : TypeId} {elems spare : List (DataW H)} (h : Near t (.slice elems spare)) (hu : Tryz.prog.underlying t = some (.slice e)) {d : DataW H} (hd : d ∈ elems) : Near e d := fun n hn =>
  h n (by simp only [DataW.weights, hu, List.mem_cons, List.mem_append]; exact .inr (.inl (weightsAll_mem hd n hn)))
theorem Near.len {H : Type} {t e : TypeId} {elems spare : List (DataW H)} (h : Near t (.slice elems spare)) (hu : Tryz.prog.underlying t = some (.slice e)) : (elems.length + spare.length) * Tryz.prog.bytesOf e ≤ reachBytes :=
  h _ (by simp [DataW.weights, hu])

section
variable {H : Type} {enc : TypeId × Value → H} {W : World}
/-- A field's three cells. -/
theorem field5 {cs : List Value} {x : DataW H × List MemPlace} {n : Nat} (h : DataW.trod enc Tryz.prog W 0 (fun _ => true) true n 26 cs = some x) (hw : Near 26 x.1) :
    ∃ f : Fd, cs = [.string f.1.1, .string f.1.2, .bool f.2] ∧ f.1.1.size ≤ 140737488351232 ∧ f.1.2.size ≤ 140737488351232 := by
  obtain ⟨xs, m, _, hd0, hl, hx, hf⟩ := DataW.trod_struct Tryz.underlying26 h
  rw [show Tryz.prog.cellsOf 26 = 3 by kernel_rfl] at hl
  have cb : Tryz.prog.cellsOf 4 = 1 := by kernel_rfl
  have cs1 : Tryz.prog.cellsOf 9 = 1 := by kernel_rfl
  match cs, hl with
  | [c0, c1, c2], _ =>
    match xs, hx with
    | [x0, x1, x2], _ =>
      have f0 := hf 0 _ rfl
      have f1 := hf 1 _ rfl
      have f2 := hf 2 _ rfl
      change DataW.trod enc Tryz.prog W 0 _ true m 9 (List.take (Tryz.prog.cellsOf 9) (List.drop 0 [c0, c1, c2])) = some x0 at f0
      change DataW.trod enc Tryz.prog W 0 _ true m 9 (List.take (Tryz.prog.cellsOf 9) (List.drop 1 [c0, c1, c2])) = some x1 at f1
      change DataW.trod enc Tryz.prog W 0 _ true m 4 (List.take (Tryz.prog.cellsOf 4) (List.drop 2 [c0, c1, c2])) = some x2 at f2
      rw [cb] at f2
      rw [cs1] at f0 f1
      obtain ⟨a, e0, y0, w0⟩ := DataW.trod_string Tryz.underlying9 f0
      obtain ⟨b, e1, y1, w1⟩ := DataW.trod_string Tryz.underlying9 f1
      obtain ⟨v, e2, -⟩ := DataW.trod_bool Tryz.underlying4 f2
      simp at e0 e1 e2
      subst e0 e1 e2 y0 y1
      rw [hd0] at hw
      refine ⟨((a, b), v), rfl, ?_, ?_⟩
      · have h2 := hw a.data.toList.length (by simp [DataW.weights, Tryz.underlying26, DataW.weightsEach])
        have h3 : a.data.toList.length = a.size := by simp
        unfold reachBytes at h2
        show a.size ≤ _
        omega
      · have h2 := hw b.data.toList.length (by simp [DataW.weights, Tryz.underlying26, DataW.weightsEach])
        have h3 : b.data.toList.length = b.size := by simp
        unfold reachBytes at h2
        show b.size ≤ _
        omega
theorem fds_of (F : Nat → Fd) (n : Nat) : ∀ i, i < n → ∀ j, j < 3 → (fds ((List.range n).map F))[i * 3 + j]? = [Value.string (F i).1.1, .string (F i).1.2, .bool (F i).2][j]? := by
  intro i hi j hj
  have hg : ((List.range n).map F)[i]? = some (F i) := by simp [hi]
  have e := fds_get hg
  match j, hj with
  | 0, _ => exact e.1
  | 1, _ => exact e.2.1
  | 2, _ => exact e.2.2
/-- A []api.Field's cell. -/
theorem fds5 {cs : List Value} {x : DataW H × List MemPlace} {fuel B : Nat} (h : DataW.trod enc Tryz.prog W 0 (fun _ => true) true fuel 22 cs = some x) (hw : Near 22 x.1) (hlt : ∀ y ∈ x.2, y.block < B) :
    ∃ A n c l, cs = [.slice A n c] ∧ n ≤ c ∧ c ≤ maxLen ∧ n ≤ 140737488351232 ∧ l.length = n ∧ Rd W B 3 A n (fds l) ∧ ∀ f ∈ l, f.1.1.size ≤ 140737488351232 ∧ f.1.2.size ≤ 140737488351232 := by
  rcases open_slice Tryz.underlying22 h with ⟨hcs, hx⟩ | ⟨a, len, cap, m, k, D, Pl, hcs, _, hl, hm, hmm, hx, hi⟩
  · exact ⟨none, 0, 0, [], hcs, Nat.le_refl _, Nat.zero_le _, by omega, rfl, Rd.none_ _ _ _ _, fun f hf => by cases hf⟩
  · have hmc : m = cap := by simpa using hmm
    subst hmc
    subst hx
    have hC : Tryz.prog.cellsOf 26 = 3 := by kernel_rfl
    have hreach := hw.len Tryz.underlying22
    rw [show Tryz.prog.bytesOf 26 = 40 by kernel_rfl] at hreach
    simp [reachBytes] at hreach
    have hall : ∀ i, i < len → ∃ f : Fd, (∀ j, j < 3 → W.cell? (a.add (i * 3 + j)) = [Value.string f.1.1, .string f.1.2, .bool f.2][j]?) ∧ f.1.1.size ≤ 140737488351232 ∧ f.1.2.size ≤ 140737488351232 := by
      intro i hil
      obtain ⟨cs', hc, ht'⟩ := hi i (by omega)
      rw [hC] at hc
      obtain ⟨f, rfl, s1, s2⟩ := field5 ht' (hw.elem Tryz.underlying22 (by simp only [List.mem_map, List.mem_range]; exact ⟨i, hil, rfl⟩))
      obtain ⟨_, _, hat⟩ := World.cells?_some hc
      exact ⟨f, fun j hj => by rw [← Go.Deep.add_add]; exact hat j hj, s1, s2⟩
    obtain ⟨F, hF⟩ := choose_lt (α := Fd) hall
    refine ⟨some a, len, m, (List.range len).map F, hcs, hl, hm, by omega, by simp, ⟨by rw [fds_length]; simp, fun hn => ?_⟩, fun f hf => ?_⟩
    · obtain ⟨ab, ao, spot⟩ := a
      have hspot : spot = none := by
        have := (hF 0 hn).1 0 (by omega)
        simpa [Addr.add] using World.cell?_spot this
      subst hspot
      refine ⟨ab, ao, rfl, ?_, fun j hj => ?_⟩
      · exact hlt (.cell ab ao) (List.mem_append_left _ (by rw [hC]; simp only [MemPlace.row, List.mem_map, List.mem_range]; exact ⟨0, by omega, rfl⟩))
      · have hd := Nat.div_add_mod j 3
        have h1 : j / 3 < len := by omega
        have h2 : j % 3 < 3 := by omega
        have := (hF (j / 3) h1).1 (j % 3) h2
        rw [← fds_of F len (j / 3) h1 (j % 3) h2, show j / 3 * 3 + j % 3 = j by omega, Addr.add_lit] at this
        exact this
    · obtain ⟨i, hi', rfl⟩ := List.mem_map.1 hf
      exact (hF i (List.mem_range.1 hi')).2
/-- A row of bytes, as a value and what it reads as. -/
structure Bt where
  A : Option Addr
  n : Nat
  c : Nat
  l : List UInt8
def BtAt (w : World) (B b o : Nat) (x : Bt) : Prop := w.cell? ⟨b, o, none⟩ = some (.slice x.A x.n x.c) ∧ x.n ≤ x.c ∧ x.c ≤ maxLen ∧ x.n ≤ 140737488351232 ∧ Rd w B 1 x.A x.n (bvs x.l)
def Bts (w : World) (B : Nat) (A : Option Addr) (n : Nat) (D : Nat → Bt) : Prop := 0 < n → ∃ b o, A = some ⟨b, o, none⟩ ∧ b < B ∧ ∀ i, i < n → BtAt w B b (o + i) (D i)
theorem Bts.below {w w' : World} {B : Nat} {A : Option Addr} {n : Nat} {D : Nat → Bt} (h : Bts w B A n D) (hb : Below B w w') : Bts w' B A n D := by
  intro hn
  obtain ⟨b, o, hA, hlt, hc⟩ := h hn
  refine ⟨b, o, hA, hlt, fun i hi => ?_⟩
  obtain ⟨h1, h2, h3, h4, h5⟩ := hc i hi
  exact ⟨(hb.cell (p := ⟨b, o + i, none⟩) hlt).trans h1, h2, h3, h4, h5.below hb (Nat.le_refl _)⟩
/-- A step: is the limit set; the limit; the list. -/
structure Do5 where
  st : Bool
  lim : Int
  A : Option Addr
  n : Nat
  c : Nat
  l : List Fd
structure DoOk (W : World) (B : Nat) (x : Do5) : Prop where
  lo : -9223372036854775808 ≤ x.lim
  hi : x.lim ≤ 9223372036854775807
  nc : x.n ≤ x.c
  cm : x.c ≤ maxLen
  nr : x.n ≤ 140737488351232
  len : x.l.length = x.n
  rd : Rd W B 3 x.A x.n (fds x.l)
  sz : ∀ f ∈ x.l, f.1.1.size ≤ 140737488351232 ∧ f.1.2.size ≤ 140737488351232
def DoAt (w : World) (B b o : Nat) (x : Do5) : Prop := (w.cell? ⟨b, o, none⟩ = some (.bool x.st) ∧ w.cell? ⟨b, o + 1, none⟩ = some (.int .i64 x.lim) ∧ w.cell? ⟨b, o + 2, none⟩ = some (.slice x.A x.n x.c)) ∧ DoOk w B x
def Dos5 (w : World) (B : Nat) (A : Option Addr) (n : Nat) (D : Nat → Do5) : Prop := 0 < n → ∃ b o, A = some ⟨b, o, none⟩ ∧ b < B ∧ ∀ i, i < n → DoAt w B b (o + i * 3) (D i)
theorem Dos5.below {w w' : World} {B : Nat} {A : Option Addr} {n : Nat} {D : Nat → Do5} (h : Dos5 w B A n D) (hb : Below B w w') : Dos5 w' B A n D := by
  intro hn
  obtain ⟨b, o, hA, hlt, hc⟩ := h hn
  refine ⟨b, o, hA, hlt, fun i hi => ?_⟩
  obtain ⟨⟨h1, h2, h3⟩, ok⟩ := hc i hi
  have e : ∀ j, w'.cell? ⟨b, j, none⟩ = w.cell? ⟨b, j, none⟩ := fun j => hb.cell (p := ⟨b, j, none⟩) hlt
  exact ⟨⟨(e _).trans h1, (e _).trans h2, (e _).trans h3⟩, { ok with rd := ok.rd.below hb (Nat.le_refl _) }⟩
end
section
variable {H : Type} {enc : TypeId × Value → H} {W : World} {base : Nat}
theorem open_fds {v : Value} {d : DataW H} {p : List MemPlace} (hval : Value.okWide Tryz.prog W .any base 22 v) (h : DataW.Trod enc Tryz.prog W 0 (fun _ => true) true 22 v d p)
    (hlt : ∀ x ∈ p, x.block < W.heap.size) {ts : List TypeId} {ds : List (DataW H)} (hsz : (DataW.weightsEach Tryz.prog ts ds).all (· ≤ reachBytes) = true) {j : Nat} (ht : ts[j]? = some 22) (hd : ds[j]? = some d) :
    ∃ A n c l, v = .slice A n c ∧ n ≤ c ∧ c ≤ maxLen ∧ n ≤ 140737488351232 ∧ l.length = n ∧ Rd W W.heap.size 3 A n (fds l) ∧ ∀ f ∈ l, f.1.1.size ≤ 140737488351232 ∧ f.1.2.size ≤ 140737488351232 := by
  obtain ⟨a1, len, cap, rfl⟩ := okWide_slice Tryz.underlying22 hval
  obtain ⟨fuel, hf⟩ := h
  obtain ⟨A, n, c, l, hv, hr⟩ := fds5 hf (near_of hsz ht hd) hlt
  simp [Value.cells] at hv
  obtain ⟨rfl, rfl, rfl⟩ := hv
  exact ⟨_, _, _, l, rfl, hr⟩
end
end Go.Proofs.YtpkmciohehaboaaGreatDoor

/- A law's card: its lifted proof, where package variables are listed. -/
namespace Go.Proofs.YtpkmciohehaboaaGreatDoor
open Go.ChangeShapes Go.WideShapes Go.ChangeAt Go.RowKit

set_option maxRecDepth 100000 in
/-- What a card's proof is asked: over arguments that read as data, that fit, within the form's reach. -/
theorem law_lift_laid {f : FuncId} {fn : Func} {s : ChangeSpec} {tb : TypeId} {H : Type} {enc : TypeId × Value → H} {os : Os} {laid : List (String × DataW Unit)} (started : os.Started)
    (noInit : Tryz.prog.inits.idxOf? f = none) (hfn : Tryz.prog.funcs[f]? = some fn)
    (hts : ∀ t ∈ fn.params.toList, Tryz.prog.readableRec t = true ∧ t < Tryz.prog.types.size) (hres : fn.resultTypes = #[tb]) (htb : Tryz.prog.underlying tb = some .bool) (hv : s.vars = [])
    (witness : ∃ (w : World) (tape : Tape) (i : Input), w.os = os ∧ (w.forCall tape i).Shaped Tryz.checked.prog ∧ i.vars = [] ∧ Input.okWide Tryz.checked.prog (w.forCall tape i) .any w.heap.size f i ∧
      ((s.pre enc Tryz.checked.prog fn [] false (w.forCall tape i).memory i.args ∧ laidMetH Tryz.prog laid (w.forCall tape i).memory) ∧ sizedMet enc Tryz.checked.prog fn (OpenSpec.ofChange s) false (w.forCall tape i).memory i.args) ∧ ({} : Assume).holds Tryz.checked.prog (lone (Frame.enter Tryz.checked.prog f i.args .normal) [] (w.forCall tape i)))
    (walk : ∀ (W : World) (base : Nat) (args : Array Value) (ds : List (DataW H)) (p : List MemPlace), (∀ (j : Nat) t v, fn.params[j]? = some t → args[j]? = some v → Value.okWide Tryz.prog W .any base t v) →
      DataW.TrodAll enc Tryz.prog W 0 (fun _ => true) true fn.params.toList args.toList ds p → (∀ x ∈ p, x.block < W.heap.size) →
      (DataW.weightsEach Tryz.prog fn.params.toList ds).all (· ≤ reachBytes) = true →
      s.fn H ds = { results := [.lit (.bool true)], args := ds } ∧ Calls Tryz.prog f args W (RetT W)) :
    ReturnsInHanded {} Tryz.checked os f .any (fun w args => (s.pre enc Tryz.prog fn [] false w args ∧ laidMetH Tryz.prog laid w) ∧ sizedMet enc Tryz.prog fn (OpenSpec.ofChange s) false w args) (s.post enc Tryz.prog fn false true false false) := by
  refine returnsInHanded_of_change_and (C := Tryz.checked) (X := fun w _ => laidMetH Tryz.prog laid w) (fun _ _ _ hh h => h.of_heap hh) own started noInit hfn witness ?_
  intro W base args ds gs before hval hW _ hsz0 _ _
  have hW0 := hW
  obtain ⟨p, q, hA, hV, rfl, _, _⟩ := hW
  rw [hv] at hV
  obtain ⟨rfl, rfl⟩ := trodVars_none hV
  have hvt : s.plain.varTypes Tryz.checked.prog = [] := by
    simp [DataSpec.varTypes, ChangeSpec.plain, hv]
  rw [hvt] at hsz0
  simp only [List.append_nil] at hsz0 hW0
  have hlt : ∀ x ∈ p, x.block < W.heap.size := fun x hx => by simpa using hW0.lt x hx
  obtain ⟨hs, hc⟩ := walk W base args ds p hval hA hlt hsz0
  exact hc.mono fun e W' h => law_fin laidOut hts hres htb hW0 hv hs h
end Go.Proofs.YtpkmciohehaboaaGreatDoor
