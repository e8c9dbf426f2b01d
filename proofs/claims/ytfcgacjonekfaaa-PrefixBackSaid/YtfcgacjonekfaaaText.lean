/- The walks of prefix.PutText and drawbridgeref03.PutText. -/
import Derived.Test.YtfcgacjonekfaaaLaws3a
import Derived.Test.YtfcgacjonekfaaaHuffREnc
import Derived.Test.YtfcgacjonekfaaaHuffSize
import Derived.Test.YtfcgacjonekfaaaTextPlain
import Derived.Laws.IdiomStrings
import Derived.Lib.AppendStr
namespace Go.Proofs.Ytfcgacjonekfaaa
open Go.RowKit

theorem _root_.Go.RowKit.Below.tr2 {w w1 w2 : World} (h : Below w.heap.size w w1) (h2 : Below w1.heap.size w1 w2) : Below w.heap.size w w2 := h.trans (h2.mono h.size)
theorem full7 : Full 7 127 := ⟨by omega, by omega, rfl⟩
theorem strCells_bvs (s : ByteArray) : Lib.strCells s = bvs s.data.toList := rfl
/-- '[]byte(s)'. -/
theorem bytes_of_str {P : Program} {src dst e : TypeId} (hs : P.underlying src = some .string) (hd : P.underlying dst = some (.slice e)) (he : P.underlying e = some (.int .u8)) (w : World) (s : ByteArray) :
    ∃ c w', (convert src dst (.string s)).run P w = .ok (.slice (some ⟨w.heap.size, 0, none⟩) s.size c) w' ∧ Below w.heap.size w w' ∧ Rd w' w'.heap.size 1 (some ⟨w.heap.size, 0, none⟩) s.size (bvs s.data.toList) := by
  refine ⟨_, _, run_bytes_of_string w src dst e s hs hd he, ((Below.refl _ _).drew).alloc (Nat.le_refl _) _, by simp [bvs], fun hn => ⟨_, _, rfl, by simp, fun j hj => ?_⟩⟩
  refine (World.cell?_alloc_mark w.drew _ _ _ _).trans ?_
  have hj' : j < s.data.size := by simpa using hj
  simp only [bytesRow, bvs, Nat.zero_add]
  rw [Array.getElem?_append_left (by simpa using hj')]
  simp
  rfl

section
variable {w w' : World}
theorem own_app {B0 B1 : Nat} {v : Value} {l k : List UInt8} (h : w.ownsRow B1 5 1 v (l.length + k.length) (bvs l ++ bvs k)) (hb : B0 ≤ B1) : OwnB w B0 v (l ++ k) := by
  unfold OwnB
  rw [List.length_append, bvs_append]
  exact own_mono2 h hb
end

set_option maxRecDepth 100000 in
set_option maxHeartbeats 1000000 in
theorem putText_bits (s : ByteArray) (w : World) (hs : s.size ≤ 1048576) (hlt : nbytes s.data.toList < s.size) :
    Calls Try.prog 30 #[.string s] w (RetB w (textB s.data.toList)) := by
  have hE := encB_length s.data.toList
  have hT := textB_bits (l := s.data.toList) (by rw [str_len]; exact hlt)
  have HT := Lib.hid hT
  clear hT
  obtain ⟨c0, w1, hcv, hb1, -⟩ := bytes_of_str Try.underlying9 Try.underlying31 Try.underlying5 w s
  go_enter Try.func30, Try.ntmps30
  go_wp2_with fail
  refine (size_any s w1 hs).mono ?_
  rintro e w2 ⟨rfl, hb2⟩
  clear hcv
  go_wp2_with fail
  refine (enc_any s w2 hs).mono ?_
  rintro e w3 ⟨v3, rfl, hown3, hb3⟩
  obtain ⟨A, c, rfl, -, -, hrd, -⟩ := own_slice hown3
  rw [hE] at hrd ⊢
  have HRD := Lib.hid hrd
  have HE := Lib.hid hE
  have hb13 := (hb1.tr2 hb2).tr2 hb3
  have hs3 := hb13.size
  clear hown3 hrd hE
  generalize nbytes s.data.toList = n at *
  go_wp2_with fail
  refine (put_ok 128 7 n 127 w3 full7 (by omega) rfl (by omega)).mono ?_
  rintro e w4 ⟨v4, rfl, hown4, hb4⟩
  have HO4 := Lib.hid hown4
  have hp7 := (putB_length 128 127 n).1
  have hw4 := hb13.tr2 hb4
  have hs4 := hw4.size
  have hs34 := hb4.size
  clear hown4
  go_wp2_with (at_builtin; refine wpList_app (.tmp 24) (.tmp 25) tBytes rfl rfl HO4.out rfl (HRD.out.below hb4 (Nat.le_refl _)) rfl (bvs_one _) (le_maxLen (by omega)) (by omega) hs34 ?_; intro v5 w5 hown5 hg5 _)
  go_ret
  refine ⟨v5, rfl, ?_, Below.app hw4 HO4.out hg5 hs3 hs4⟩
  rw [HT.out]
  exact own_app (by rw [HE.out]; exact hown5) hs3

set_option maxRecDepth 100000 in
set_option maxHeartbeats 1000000 in
theorem putText_raw (s : ByteArray) (w : World) (hs : s.size ≤ 1048576) (hlt : s.size ≤ nbytes s.data.toList) :
    Calls Try.prog 30 #[.string s] w (RetB w (textB s.data.toList)) := by
  have hT := textB_raw (l := s.data.toList) (by rw [str_len]; exact hlt)
  rw [str_len] at hT
  have HT := Lib.hid hT
  clear hT
  have HL := Lib.hid (str_len s)
  obtain ⟨c0, w1, hcv, hb1, hrd⟩ := bytes_of_str Try.underlying9 Try.underlying31 Try.underlying5 w s
  have HRD := Lib.hid hrd
  clear hrd
  go_enter Try.func30, Try.ntmps30
  go_wp2_with fail
  refine (size_any s w1 hs).mono ?_
  rintro e w2 ⟨rfl, hb2⟩
  clear hcv
  have hb12 := hb1.tr2 hb2
  have hs2 := hb12.size
  have hs12 := hb2.size
  go_wp2_with fail
  refine (put_ok 0 7 s.size 127 w2 full7 (by omega) rfl (by omega)).mono ?_
  rintro e w4 ⟨v4, rfl, hown4, hb4⟩
  have HO4 := Lib.hid hown4
  have hp7 := (putB_length 0 127 s.size).1
  have hw4 := hb12.tr2 hb4
  have hs4 := hw4.size
  have hs34 := hb4.size
  clear hown4
  go_wp2_with (at_builtin; refine wpList_app (.tmp 24) (.tmp 25) tBytes rfl rfl HO4.out rfl ((HRD.out.below hb2 (Nat.le_refl _)).below hb4 hs12) rfl (bvs_one _) (le_maxLen (by omega)) (by omega) hs34 ?_; intro v5 w5 hown5 hg5 _)
  go_ret
  refine ⟨v5, rfl, ?_, Below.app hw4 HO4.out hg5 hs2 hs4⟩
  rw [HT.out]
  exact own_app (by rw [HL.out]; exact hown5) hs2

theorem putText_any (s : ByteArray) (w : World) (hs : s.size ≤ 1048576) : Calls Try.prog 30 #[.string s] w (RetB w (textB s.data.toList)) := by
  by_cases h : nbytes s.data.toList < s.size
  · exact putText_bits s w hs h
  · exact putText_raw s w hs (by omega)

set_option maxRecDepth 100000 in
set_option maxHeartbeats 1000000 in
theorem rputText_bits (s : ByteArray) (w : World) (hs : s.size ≤ 1048576) (hlt : nbytes s.data.toList < s.size) :
    Calls Try.prog 31 #[.string s] w (RetB w (textB s.data.toList)) := by
  have hE := encB_length s.data.toList
  have hT := textB_bits (l := s.data.toList) (by rw [str_len]; exact hlt)
  have HT := Lib.hid hT
  clear hT
  go_enter Try.func31, Try.ntmps31
  go_wp2_with fail
  refine (rsize_any s w hs).mono ?_
  rintro e w2 ⟨rfl, hb2⟩
  go_wp2_with fail
  refine (renc_any s w2 hs).mono ?_
  rintro e w3 ⟨v3, rfl, hown3, hb3⟩
  obtain ⟨A, c, rfl, -, -, hrd, -⟩ := own_slice hown3
  rw [hE] at hrd ⊢
  have HRD := Lib.hid hrd
  have HE := Lib.hid hE
  have hb13 := hb2.tr2 hb3
  have hs3 := hb13.size
  clear hown3 hrd hE
  generalize nbytes s.data.toList = n at *
  go_wp2_with fail
  refine (rput_any 128 7 n 127 w3 full7 (by omega) rfl (by omega)).mono ?_
  rintro e w4 ⟨v4, rfl, hown4, hb4⟩
  have HO4 := Lib.hid hown4
  have hp7 := (putB_length 128 127 n).1
  have hw4 := hb13.tr2 hb4
  have hs4 := hw4.size
  have hs34 := hb4.size
  clear hown4
  go_wp2_with (at_builtin; refine wpList_app (.tmp 14) (.tmp 15) tBytes rfl rfl HO4.out rfl (HRD.out.below hb4 (Nat.le_refl _)) rfl (bvs_one _) (le_maxLen (by omega)) (by omega) hs34 ?_; intro v5 w5 hown5 hg5 _)
  go_ret
  refine ⟨v5, rfl, ?_, Below.app hw4 HO4.out hg5 hs3 hs4⟩
  rw [HT.out]
  exact own_app (by rw [HE.out]; exact hown5) hs3

theorem infoU8 : (Try.prog.info? 5).map (fun i => (i.zero, i.size, i.bytes)) = some (some (.int .u8 0), 1, 1) := by kernel_rfl

set_option maxRecDepth 100000 in
set_option maxHeartbeats 1000000 in
theorem rputText_raw (s : ByteArray) (w : World) (hs : s.size ≤ 1048576) (hlt : s.size ≤ nbytes s.data.toList) :
    Calls Try.prog 31 #[.string s] w (RetB w (textB s.data.toList)) := by
  have hT := textB_raw (l := s.data.toList) (by rw [str_len]; exact hlt)
  rw [str_len] at hT
  have HT := Lib.hid hT
  clear hT
  have HL := Lib.hid (str_len s)
  obtain ⟨i0, hi, hz0, hz1, hz2⟩ := info_parts infoU8
  go_enter Try.func31, Try.ntmps31
  go_wp2_with fail
  refine (rsize_any s w hs).mono ?_
  rintro e w2 ⟨rfl, hb2⟩
  have hs2 := hb2.size
  go_wp2_with fail
  refine (rput_any 0 7 s.size 127 w2 full7 (by omega) rfl (by omega)).mono ?_
  rintro e w4 ⟨v4, rfl, hown4, hb4⟩
  have HO4 := Lib.hid hown4
  have hp7 := (putB_length 0 127 s.size).1
  have hw4 := hb2.tr2 hb4
  have hs4 := hw4.size
  have hs34 := hb4.size
  clear hown4
  go_wp2_with (at_builtin; refine Lib.wpList_append_own_string _ rfl (.tmp 20) (.tmp 21) 31 9 rfl w2.heap.size 5 i0 Try.underlying31 Try.underlying9 hi hz0 hz1 hz2 _ _ _ rfl HO4.out s rfl (le_maxLen (by omega)) (by omega) hs34 ?_; intro v5 w5 hown5 hg5 _)
  go_ret
  refine ⟨v5, rfl, ?_, Below.app hw4 HO4.out hg5 hs2 hs4⟩
  rw [HT.out]
  exact own_app (by rw [HL.out]; exact hown5) hs2

theorem rputText_any (s : ByteArray) (w : World) (hs : s.size ≤ 1048576) : Calls Try.prog 31 #[.string s] w (RetB w (textB s.data.toList)) := by
  by_cases h : nbytes s.data.toList < s.size
  · exact rputText_bits s w hs h
  · exact rputText_raw s w hs (by omega)
end Go.Proofs.Ytfcgacjonekfaaa
