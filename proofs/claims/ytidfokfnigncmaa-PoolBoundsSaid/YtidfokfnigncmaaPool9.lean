/- The walks of pool.Count, of its methods on no pool, of forget. -/
import Derived.Test.YtidfokfnigncmaaPool8
namespace Go.Proofs.Ytidfokfnigncmaa
open Go.RowKit

theorem heap_perm {w : World} {g mb c N : Nat} {A : Option Addr} {H : List Nat} {m : Nat → Lk} {E : List (Nat × Ln)} {B : Bk} {P : Pl} (h : PM w g mb A c N H m E B P) : H.Perm ((E.filter fun e => decide (0 ≤ e.2.sn)).map (·.1)) := by
  have hnd : ((E.filter fun e => decide (0 ≤ e.2.sn)).map (·.1)).Nodup := (List.filter_sublist.map _).nodup h.nd
  rw [List.perm_ext_iff_of_nodup h.hm.nodup hnd]
  intro b
  constructor
  · intro hb
    obtain ⟨x, hx⟩ := h.hE b hb
    obtain ⟨_, _, ⟨_, h2, _⟩ | ⟨h1, _⟩⟩ := h.ent b x hx
    · exact absurd hb h2
    · exact List.mem_map.2 ⟨(b, x), List.mem_filter.2 ⟨hx, by simpa using h1⟩, rfl⟩
  · intro hb
    obtain ⟨⟨b', x⟩, hx, rfl⟩ := List.mem_map.1 hb
    obtain ⟨hx1, hx2⟩ := List.mem_filter.1 hx
    have hx2 : 0 ≤ x.sn := by simpa using hx2
    obtain ⟨_, _, ⟨h3, _⟩ | ⟨_, _, h3⟩⟩ := h.ent b' x hx1
    · omega
    · exact h3
theorem heap_count {w : World} {g mb c N : Nat} {A : Option Addr} {H : List Nat} {m : Nat → Lk} {E : List (Nat × Ln)} {B : Bk} {P : Pl} (h : PM w g mb A c N H m E B P) (o : Int) : H.countP (fun b => decide ((m b).org = o)) = idleN P.L o := by
  rw [(heap_perm h).countP_eq, List.countP_map, List.countP_filter]
  unfold idleN
  rw [← h.eL, List.countP_map]
  refine List.countP_congr fun e he => ?_
  obtain ⟨b, x⟩ := e
  have := (h.ent b x he).2.1
  simp [Function.comp, this]
def CntRel (H : List Nat) (m : Nat → Lk) (o : Int) (nv iv : Value) : Prop := ∃ k : Nat, iv = .int .i64 k ∧ nv = .int .i64 ((H.take k).countP (fun b => decide ((m b).org = o)) : Nat) ∧ k ≤ H.length
theorem take_countP {H : List Nat} {p : Nat → Bool} {k b : Nat} (hb : H[k]? = some b) : (H.take (k + 1)).countP p = (H.take k).countP p + if p b then 1 else 0 := by
  rw [List.take_add_one, hb, Option.toList_some, List.countP_append]
  simp [List.countP_cons]
set_option maxRecDepth 100000 in
set_option maxHeartbeats 2000000 in
theorem pcount_any {g N : Nat} {F : Nat → Prop} {P : Pl} (o : Int) (w : World) (h : PoolIs w g F N P) (h0 : 0 ≤ o) (h1 : o < 4) :
    Calls Try.prog 20 #[.pointer (some ⟨g, 0, none⟩), .int .i64 o] w fun e w' => e = .returned (.tuple #[.int .i64 (P.count o).1, .int .i64 (P.count o).2]) ∧ w = w' := by
  obtain ⟨mb, A, c, H, m, E, B, rfl, h⟩ := h
  obtain ⟨-, -, -, -, c4⟩ := h.hm.cells
  obtain ⟨o', rfl⟩ : ∃ o' : Nat, o = o' := ⟨o.toNat, by omega⟩
  have ho : o' < 4 := by omega
  have hmn := h.hm.many ho
  rw [h.mn o' ho] at hmn
  have hcn : (cnt P.L o' : Int) ≤ 4 := by have := h.ok.room o'; have := h.ok.mo1; omega
  have hc2 : idleN P.L o' ≤ cnt P.L o' := List.countP_mono_left fun x _ hx => by simp at hx ⊢; exact hx.1
  have HC := Lib.hid (heap_count h o')
  have HH := Lib.hid h
  have hlen : H.length ≤ 1099511627776 := by
    have e1 := (heap_perm h).length_eq
    rw [List.length_map] at e1
    have e2 := List.length_filter_le (fun e : Nat × Ln => decide (0 ≤ e.2.sn)) E
    have e3 : E.length = P.L.length := by rw [← h.eL, List.length_map]
    have := h.ok.len
    have := h.ok.few
    omega
  obtain ⟨n, hn⟩ : ∃ n, H.length = n := ⟨_, rfl⟩
  have HN := Lib.hid hn
  rw [hn] at c4 hlen
  clear h hn h0 h1
  have o0 : (0 : Int) ≤ o' := by omega
  have o1 : (o' : Int) < 4 := by omega
  unfold Pl.count
  obtain ⟨cn, hcn2⟩ : ∃ cn, cnt P.L o' = cn := ⟨_, rfl⟩
  obtain ⟨ci, hci2⟩ : ∃ ci, idleN P.L o' = ci := ⟨_, rfl⟩
  rw [hcn2] at hmn hcn hc2 ⊢
  rw [hci2] at hc2 HC ⊢
  clear hcn2 hci2
  go_enter Try.func20, Try.ntmps20
  go_wp2
  go_loop [6, 24] (fun nv iv => CntRel H m o' nv iv) (fun _ iv => n - (intOf iv).toNat)
  case atStart => exact ⟨0, rfl, rfl, Nat.zero_le _⟩
  case round =>
    obtain ⟨k, rfl, rfl, hk⟩ := hrel
    rw [HN.out] at hk
    by_cases hlt : k < n
    · obtain ⟨q, oo, b, rfl, hq, hb, q0⟩ := HH.out.hm.at_ (i := k) (by rw [HN.out]; exact hlt)
      obtain ⟨-, x1, -, -⟩ := lk_cells (HH.out.hm.lk k b hb)
      have HT := Lib.hid (take_countP (p := fun b => decide ((m b).org = (o' : Int))) hb)
      have hle : (H.take k).countP (fun b => decide ((m b).org = (o' : Int))) ≤ k := Nat.le_trans List.countP_le_length (List.length_take_le _ _)
      obtain ⟨cc, hcc⟩ : ∃ cc, (H.take k).countP (fun b => decide ((m b).org = (o' : Int))) = cc := ⟨_, rfl⟩
      have HCC := Lib.hid hcc
      rw [hcc] at hle ⊢
      have n1 : (k : Int) < n := by omega
      have n0 : (0 : Int) ≤ k := by omega
      clear hb hcc
      by_cases he : (m b).org = o'
      · have hd : decide ((m b).org = (o' : Int)) = true := by simpa using he
        rw [he] at x1
        have HD := Lib.hid hd
        clear he hd
        go_wp2
        go_round
        case rel => exact ⟨k + 1, by go_num, by rw [HT.out, HCC.out, HD.out, if_pos rfl]; go_num, by rw [HN.out]; omega⟩
        case measure => simp [intOf]; omega
      · have hd : decide ((m b).org = (o' : Int)) = false := by simpa using he
        have HD := Lib.hid hd
        have hb2 : ((m b).org == (o' : Int)) = false := by simpa using he
        clear he hd
        go_wp2
        go_round
        case rel => exact ⟨k + 1, by go_num, by rw [HT.out, HCC.out, HD.out]; simp, by rw [HN.out]; omega⟩
        case measure => simp [intOf]; omega
    · obtain rfl : k = n := by omega
      have htk : (H.take k).countP (fun b => decide ((m b).org = (o' : Int))) = ci := by rw [List.take_of_length_le (by rw [HN.out]; exact Nat.le_refl _)]; exact HC.out
      rw [htk]
      clear htk
      go_wp2
      go_ret2
      exact ⟨rfl, rfl⟩
theorem pcount_bad (p : Option Addr) (o : Int) (w : World) (h : p = none ∨ o < 0 ∨ 4 ≤ o) :
    Calls Try.prog 20 #[.pointer p, .int .i64 o] w fun e w' => e = .returned (.tuple #[.int .i64 0, .int .i64 0]) ∧ w = w' := by
  cases p with
  | none =>
    clear h
    go_enter Try.func20, Try.ntmps20
    go_wp2; go_ret2; exact ⟨rfl, rfl⟩
  | some a =>
    by_cases h1 : o < 0
    · clear h
      go_enter Try.func20, Try.ntmps20
      go_wp2; go_ret2; exact ⟨rfl, rfl⟩
    · have h2 : 4 ≤ o := by rcases h with h | h | h
                            · cases h
                            · omega
                            · exact h
      clear h
      go_enter Try.func20, Try.ntmps20
      go_wp2; go_ret2; exact ⟨rfl, rfl⟩
set_option maxRecDepth 100000 in
theorem pget_nil (o now : Int) (w : World) : Calls Try.prog 10 #[.pointer none, .int .i64 o, .int .i64 now] w fun e w' => e = .returned (.tuple #[.int .i64 0, .bool false, .int .i64 1]) ∧ w = w' := by
  go_enter Try.func10, Try.ntmps10
  go_wp2; go_ret3; exact ⟨rfl, rfl⟩
theorem pput_nil (id now : Int) (w : World) : Calls Try.prog 11 #[.pointer none, .int .i64 id, .int .i64 now] w fun e w' => e = .returned (.int .i64 1) ∧ w = w' := by
  go_enter Try.func11, Try.ntmps11
  go_wp2; go_ret; exact ⟨rfl, rfl⟩
theorem pdrop_nil (id : Int) (w : World) : Calls Try.prog 16 #[.pointer none, .int .i64 id] w fun e w' => e = .returned (.int .i64 1) ∧ w = w' := by
  go_enter Try.func16, Try.ntmps16
  go_wp2; go_ret; exact ⟨rfl, rfl⟩
theorem porigin_nil (id : Int) (w : World) : Calls Try.prog 22 #[.pointer none, .int .i64 id] w fun e w' => e = .returned (.tuple #[.int .i64 0, .bool false]) ∧ w = w' := by
  go_enter Try.func22, Try.ntmps22
  go_wp2; go_ret2; exact ⟨rfl, rfl⟩
theorem plen_nil (w : World) : Calls Try.prog 12 #[.pointer none] w fun e w' => e = .returned (.int .i64 0) ∧ w = w' := by
  go_enter Try.func12, Try.ntmps12
  go_wp2; go_ret; exact ⟨rfl, rfl⟩
theorem pexpire_nil (now : Int) (w : World) : Calls Try.prog 13 #[.pointer none, .int .i64 now] w fun e w' => e = .returned (.slice none 0 0) ∧ ∃ n, w' = w.drewN n := by
  go_enter Try.func13, Try.ntmps13
  go_wp2
  refine wp_loop_rounds 1 ?_
  rw [rounds_succ]
  go_wp2
  go_quiet (fail)
  go_wp2
  go_ret
  exact ⟨rfl, _, rfl⟩
end Go.Proofs.Ytidfokfnigncmaa
