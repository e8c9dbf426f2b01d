/- 8 texts in one: StreamCome, Cn6, Stro, Cn7, Cn8, Cn9, Cna, Re1. -/
import Derived.Test.YtpkmciohehaboaaGreatDoorM15
import Derived.Test.YtpkmciohehaboaaGreatDoorM1
import Derived.Test.YtpkmciohehaboaaGreatDoorM7
import Derived.Deep.RegionHeld3
/- The walk of stream.Come. -/
namespace Go.Proofs.YtpkmciohehaboaaGreatDoor
open Go.RowKit

theorem infoMove : (Tryz.prog.info? 229).map (·.size) = some 5 := by kernel_rfl
theorem rowsV_get {q c : Nat} (hq : q ≤ 6) (hc : c ≤ 4) : rowsV[q * 5 + c]? = some (.int .i64 (((tabF.getD q []).getD c 0 : Nat) : Int)) := by
  have hq' : q = 0 ∨ q = 1 ∨ q = 2 ∨ q = 3 ∨ q = 4 ∨ q = 5 ∨ q = 6 := by omega
  have hc' : c = 0 ∨ c = 1 ∨ c = 2 ∨ c = 3 ∨ c = 4 := by omega
  rcases hq' with rfl | rfl | rfl | rfl | rfl | rfl | rfl <;> rcases hc' with rfl | rfl | rfl | rfl | rfl <;> rfl

set_option maxRecDepth 100000 in
set_option maxHeartbeats 1000000 in
theorem come_in (q c h : Nat) (kind : Int) (fin : Bool) (w : World) (hq : q ≤ 6) (hc : c ≤ 4) (hcol : colF kind = some c) (hh : (tabF.getD q []).getD c 0 = h) (h6 : h = 0 ∨ h = 1 ∨ h = 2 ∨ h = 3 ∨ h = 4 ∨ h = 5 ∨ h = 6) :
    Calls Tryz.prog 163 #[.int .i64 q, .int .i64 kind, .bool fin] w fun e w' => e = .returned (mvV (howF q h fin)) ∧ Below w.heap.size w w' := by
  have hcv : colV kind = .tuple #[.int .i64 (c : Int), .bool true] := by unfold colV; rw [hcol]
  have hg := rowsV_get hq hc
  rw [hh] at hg
  have HG := Lib.hid hg
  have HC := Lib.hid hcv
  clear hcol hh hcv hg
  go_enter Tryz.func163, Tryz.ntmps163
  go_wp2_with fail
  refine (col_any kind _).mono ?_
  rintro e w1 ⟨rfl, rfl⟩
  rw [HC.out]
  go_wp2_with fail
  refine (rows_any _).mono ?_
  rintro e w1 ⟨rfl, hb1⟩
  have hs1 := hb1.size
  simp at hs1
  simp only []
  go_step
  refine Great.wpList_runTo rfl (some 9) rfl (.pointer (some ⟨w1.heap.size, 0, none⟩)) (w1.alloc (.cells (Array.replicate 35 (.int .i64 0)) 251)) (by kernel_rfl) ?_
  refine wpList_store_rowTo rfl 251 (.tmp 9) (.tmp 16) rfl rfl w1.heap.size rowsV.toArray (by kernel_rfl) (by kernel_rfl) 251 (Array.replicate 35 (.int .i64 0)) (heap_new w1 _) (by kernel_rfl) (by kernel_rfl) (by kernel_rfl) ?_
  have hcell : ((w1.alloc (.cells (Array.replicate 35 (.int .i64 0)) 251)).setRow w1.heap.size rowsV.toArray).cell? ⟨w1.heap.size, q * 5 + c, none⟩ = some (.int .i64 (h : Int)) := by
    rw [cell_setRow_same _ _ _ _ _ _ _ (heap_new w1 _)]
    simpa using HG.out
  have hbel : Below (w.heap.size + 1) (w.alloc (.cells #[.int .i64 0, .bool false, .bool false, .int .i64 0, .bool false] 229)) ((w1.alloc (.cells (Array.replicate 35 (.int .i64 0)) 251)).setRow w1.heap.size rowsV.toArray) :=
    ((hb1.mono (by simp)).alloc hs1 _).trans ⟨rfl, rfl, rfl, by simp, fun k hk => setRow_other _ _ _ _ (by omega)⟩
  generalize (w1.alloc (.cells (Array.replicate 35 (.int .i64 0)) 251)).setRow w1.heap.size rowsV.toArray = w2 at *
  generalize w1.heap.size = g at *
  have hres : w2.heap[w.heap.size]? = some (.cells #[.int .i64 0, .bool false, .bool false, .int .i64 0, .bool false] 229 (0, 0)) := (hbel.block _ (by omega)).trans (heap_new w _)
  have HB := Lib.hid ((((Below.refl _ _).alloc (Nat.le_refl _) _).trans (hbel.mono (by omega)) : Below w.heap.size w w2))
  have HRES := Lib.hid hres
  clear hres hbel hb1
  rcases h6 with rfl | rfl | rfl | rfl | rfl | rfl | rfl
  all_goals
    cases fin
    all_goals
      go_wp2_with (first
        | (go_at_call 185; refine (onward_any _ _ _).mono ?_; rintro e w3 ⟨rfl, rfl⟩)
        | (go_at_call 186; refine (code_any _ _ _).mono ?_; rintro e w3 ⟨rfl, rfl⟩)
        | (refine wpList_store_rowTo rfl 229 (.tmp 6) _ rfl rfl w.heap.size _ rfl rfl 229 _ HRES.out infoMove rfl (by simp [Value.oneCell']) ?_))
      refine bodyPost_ret (results_cell_row rfl _ _ w.heap.size 229 _ (0, 0) _ rfl (setRow_heap _ _ _ _ _ _ HRES.out) Tryz.underlying229 rfl infoMove) rfl ?_
      exact ⟨by simp [mvV, howF], HB.out.trans ⟨rfl, rfl, rfl, by simp, fun k hk => setRow_other _ _ _ _ (by omega)⟩⟩
end Go.Proofs.YtpkmciohehaboaaGreatDoor

/- The walk of conn.begin: a stream begins. -/
namespace Go.Proofs.YtpkmciohehaboaaGreatDoor
open Go.RowKit Go.Maps

/-- A stream's side. -/
def sideA (said : Int) (told : Bool) (st : Int) : Array Value := #[.int .i64 0, .int .i64 said, .bool told, .bool false, .slice none 0 0, .bool false, .int .i64 st]
/-- What was asked, as cells. -/
def rqA (R : Rq) (v : Value) : Array Value := #[.string R.meth, .string R.sch, .string R.auth, .string R.path, v]
def hpAsk (id : Int) (R : Rq) (v : Value) (fin : Bool) : Hp := ⟨1, id, R.meth, R.sch, R.auth, R.path, v, ⟨#[]⟩, fin, 0⟩
theorem own_low {w : World} {base base' : Nat} {e : TypeId} {size : Nat} {v : Value} {n : Nat} {xs : List Value} (h : w.ownsRow base e size v n xs) (hb : base' ≤ base) : w.ownsRow base' e size v n xs := by
  rcases h with ⟨hl, h0 | ⟨g, cap, cur, hv, hg, h3⟩⟩
  · exact ⟨hl, .inl h0⟩
  · exact ⟨hl, .inr ⟨g, cap, cur, hv, Nat.le_trans hb hg, h3⟩⟩
/-- A new row comes. -/
theorem All.row {B : Nat} {w w' : World} {cs : List Comp} {t : TypeId} {size : Nat} {v : Value} {n : Nat} {xs : List Value} (h : All B w cs) (hb : Below w.heap.size w w') (ho : w'.ownsRow w.heap.size t size v n xs) : All B w' (cRow t size v n xs :: cs) :=
  h.new hb (own_low ho (Nat.zero_le _)) (fun b hF => (World.ownsRow.lt ho b hF).1)
/-- A block is written whole. -/
theorem All.whole {B : Nat} {w : World} {cs : List Comp} {p : Nat} {c : Array Value} {t : TypeId} (h : All B w (cBlk p c t :: cs)) (c' : Array Value) :
    All B (w.setRow p c') (cBlk p c' t :: cs) ∧ Below B w (w.setRow p c') := by
  have hk : Kept (cBlk p c t).F w (w.setRow p c') := ⟨rfl, rfl, rfl, by simp, fun k hk hF => setRow_other _ _ _ _ hF⟩
  exact ⟨h.step (c' := cBlk p c' t) hk (fun b hb => .inl hb) (setRow_heap _ _ _ _ _ _ h.head), h.kept hk⟩
theorem rq_cells {w : World} {rq : Nat} {R : Rq} {v : Value} (h : (cBlk rq (rqA R v) 60).P w) : w.cell? ⟨rq, 0, none⟩ = some (.string R.meth) ∧ w.cell? ⟨rq, 1, none⟩ = some (.string R.sch) ∧ w.cell? ⟨rq, 2, none⟩ = some (.string R.auth) ∧ w.cell? ⟨rq, 3, none⟩ = some (.string R.path) ∧ w.cell? ⟨rq, 4, none⟩ = some v := by
  have h1 : w.heap[rq]? = some (.cells (rqA R v) 60 (0, 0)) := h
  refine ⟨?_, ?_, ?_, ?_, ?_⟩ <;> (unfold World.cell?; rw [h1]; rfl)
set_option maxRecDepth 100000 in
set_option maxHeartbeats 8000000 in
theorem begin_any {B p g m nn N k : Nat} {c : Cv} {all first : Int} {L : List (Int × Int)} {f : Int → Option (Option Nat)} {xs : List Value} {cs : List Comp} {A : Option Addr} {n cc : Nat} {l : List Fd} (id : Int) (w : World)
    (h : All B w (cConn p c :: cBook g m all first L :: cMap mLive c.live N f k :: cRow 64 10 c.news nn xs :: cRow 26 3 (.slice A n cc) n (fds l) :: cs))
    (hbk : c.book = .pointer (some ⟨g, 0, none⟩)) (hd : c.drained = false) (hk : (k : Int) < c.l0)
    (hid : (Lit.int .i64 id).wf = true) (hid1 : 1 ≤ id) (hL : L.length < 100000) (hlk : look L id = none) (hN : N < maxLen) (hnn : nn ≤ 1000000)
    (hn : n ≤ 1048575) (hz : Tx l)
    (hck : ∀ (w : World) (A : Option Addr) (n c : Nat), Rd w w.heap.size 3 A n (fds (restH (gathF fourK Gt.none l).1.2)) → n ≤ 1048576 → Calls Tryz.prog 210 #[.slice A n c] w (fun e w' => ∃ v, e = .returned v ∧ OwnFds w (cookF (restH (gathF fourK Gt.none l).1.2)) v w'))
    (hR : (readF l).2 = 0) (hfl : (readF l).1.fields.length ≤ 1048576) (hfx : Tx (readF l).1.fields) (hsaid : c.endOf = false ∨ (lenR (lenF (readF l).1.fields)).1 ≤ 0) :
    Calls Tryz.prog 170 #[.pointer (some ⟨p, 0, none⟩), .int .i64 id, .slice A n cc, .bool false] w (Left B w fun w' => ∃ v fv s N' f' k', k' ≤ k + 1 ∧ f' id = some (some s) ∧
      All B w' (cConn p { c with last := id, news := v } :: cBook g m all first (wputL L id 0) :: cMap mLive c.live N' f' k' :: cRow 64 10 v (nn + 1) (xs ++ (hpAsk id (readF l).1 fv c.endOf).l) ::
        cRow 26 3 fv (readF l).1.fields.length (fds (readF l).1.fields) :: cBlk s (sideA (lenR (lenF (readF l).1.fields)).1 (lenR (lenF (readF l).1.fields)).2.1 (onF 0 c.endOf)) 140 :: cRow 26 3 (.slice A n cc) n (fds l) :: cs)) := by
  have HA := Lib.hid h
  have HNN := Lib.hid hnn
  obtain ⟨st, hst⟩ : ∃ st, onF 0 c.endOf = st := ⟨_, rfl⟩
  obtain ⟨E, hE⟩ : ∃ E, c.endOf = E := ⟨_, rfl⟩
  have q15 : w.cell? ⟨p, 15, none⟩ = some (.bool E) := by rw [← hE]; exact h.cc 15 (.bool c.endOf) rfl
  have hmv : mvV (howF 0 2 c.endOf) = .agg #[.int .i64 st, .bool false, .bool false, .int .i64 0, .bool false] := by
    rw [← hst]; rfl
  have HC : Hid (Calls Tryz.prog 163 #[.int .i64 0, .int .i64 1, .bool E] w fun e w' => e = .returned (mvV (howF 0 2 E)) ∧ Below w.heap.size w w') := Lib.hid (come_in 0 1 2 1 E w (by omega) (by omega) rfl rfl (by omega))
  rw [hE] at hmv hst
  have HMV := Lib.hid hmv
  have HE := Lib.hid hE
  have HD := Lib.hid (And.intro hbk (And.intro hd hk))
  have HI := Lib.hid (And.intro hid (And.intro hid1 (And.intro hL (And.intro hlk hN))))
  have HRD := Lib.hid (And.intro hn hz)
  have HCK := Lib.hid hck
  obtain ⟨⟨R, er⟩, hRR⟩ : ∃ R, readF l = R := ⟨_, rfl⟩
  rw [hRR] at hR hfl hfx hsaid ⊢
  dsimp only at hR hfl hfx hsaid ⊢
  subst hR
  have HRR := Lib.hid (And.intro hRR (And.intro hfl (And.intro hfx hsaid)))
  have HST := Lib.hid hst
  clear h hbk hd hk hid hid1 hL hlk hN hnn hn hz hck hRR hfl hfx hsaid hst hmv hE
  go_enter Tryz.func170, Tryz.ntmps170
  go_wp2_with fail
  refine HC.out.mono ?_
  rintro e w1 ⟨rfl, hb1⟩
  rw [HMV.out]
  have HA1 := Lib.hid (HA.out.below hb1)
  have HB1 := Lib.hid (hb1.mono HA.out.sz)
  clear hb1 q15
  go_upto_region 1 with (first
    | (refine wpList_store_rowTo rfl 229 (.tmp 8) (.tmp 16) rfl rfl w1.heap.size #[.int .i64 0, .bool false, .bool false, .int .i64 0, .bool false] rfl rfl 229 _ (heapNew _ _) infoMove rfl (by simp [Value.oneCell']) ?_))
  refine wp_named ?_
  intro W2 hW2
  have hA2 := new_blk HA1.out #[.int .i64 st, .bool false, .bool false, .int .i64 0, .bool false] 229
  rw [← hW2] at hA2
  have hB2 : Below B w W2 := by rw [hW2]; exact HB1.out.alloc HA1.out.sz _
  obtain ⟨mv, hmv⟩ : ∃ mv, w1.heap.size = mv := ⟨_, rfl⟩
  rw [hmv] at hA2 ⊢
  have HA2 := Lib.hid (hA2.pick [_])
  have HB2 := Lib.hid hB2
  clear hA2 hB2 hW2 hmv
  have f12 := HA2.out.cf 12
  have q12 := HA2.out.cc 12 (.int .i64 c.last) rfl
  go_upto_region 2 with fail
  refine wp_named ?_
  intro W3 hW3
  obtain ⟨hA3, hB3⟩ := HA2.out.set 12 (.int .i64 id)
  rw [← hW3] at hA3 hB3
  have HA3 : Hid (All B W3 (cConn p { c with last := id } :: cBlk mv #[.int .i64 st, .bool false, .bool false, .int .i64 0, .bool false] 229 :: cBook g m all first L :: cMap mLive c.live N f k :: cRow 64 10 c.news nn xs :: cRow 26 3 (.slice A n cc) n (fds l) :: cs)) := Lib.hid hA3
  have HB3 := Lib.hid (HB2.out.trans hB3)
  clear hA3 hB3 hW3 f12 q12
  have q17 : W3.cell? ⟨p, 17, none⟩ = some (.bool false) := by rw [← HD.out.2.1]; exact HA3.out.cc 17 (.bool c.drained) rfl
  have q9 := HA3.out.cc 9 (.map (some c.live)) rfl
  have q0 := HA3.out.cc 0 (.int .i64 c.l0) rfl
  have qm : ∀ o, W3.cell? ⟨mv, o, none⟩ = (#[.int .i64 st, .bool false, .bool false, .int .i64 0, .bool false] : Array Value)[o]? := fun o => by
    have h1 := (HA3.out.pick [_]).head
    have h2 : W3.heap[mv]? = some (.cells #[.int .i64 st, .bool false, .bool false, .int .i64 0, .bool false] 229 (0, 0)) := h1
    unfold World.cell?
    rw [h2]
    rfl
  have qm0 : W3.cell? ⟨mv, 0, none⟩ = some (.int .i64 st) := qm 0
  clear qm
  have hlen : (Builtin.len_ #[93] 3 #[.map (some c.live)]).run Tryz.prog W3.drew = .ok (.int .i64 k) W3.drew := by
    have h1 : GMap mLive W3 c.live N f k := (HA3.out.pick [_, _, _]).head
    have h2 : GMap mLive W3.drew c.live N f k := h1.keep rfl
    exact h2.len okLive _
  have hlt : ¬ (c.l0 ≤ (k : Int)) := by have := HD.out.2.2; omega
  go_upto_region 4 with fail
  go_region
  go_upto_region 10 with fail
  refine wp_named ?_
  intro W4 hW4
  have hA4 := (new_blk (new_blk HA3.out (sideA 0 false st) 140) zeroRq 60).drew
  have hB4 : Below B w W4 := by rw [hW4]; exact (((HB3.out.alloc HA3.out.sz _).alloc (by simp; have := HA3.out.sz; omega) _).trans (by exact ⟨rfl, rfl, rfl, Nat.le_refl _, fun _ _ => rfl⟩))
  have hW4' : W4 = ((W3.alloc (.cells (sideA 0 false st) 140)).alloc (.cells zeroRq 60)).drew := hW4
  rw [← hW4'] at hA4
  obtain ⟨sb, hsb⟩ : ∃ sb, W3.heap.size = sb := ⟨_, rfl⟩
  obtain ⟨rq, hrq⟩ : ∃ rq, (W3.alloc (.cells (sideA 0 false st) 140)).heap.size = rq := ⟨_, rfl⟩
  have hrq' : sb + 1 = rq := by rw [← hrq, ← hsb]; simp
  rw [hsb, hrq] at hA4
  rw [hsb]
  try rw [hrq']
  have HA4 := Lib.hid hA4
  have HB4 := Lib.hid hB4
  clear hA4 hB4 hW4 hW4' hsb hrq hrq' hlt hlen q17 q9 q0 qm0
  have hlr := (HA4.out.pick [_, _, _, _, _, _, _]).head
  have hrd : Rd W4 W4.heap.size 3 A n (fds l) := Rd.of_own hlr
  have HRE := Lib.hid (read_any (c := cc) W4 hrd HRD.out.1 HRD.out.2 HCK.out)
  clear hlr hrd
  go_wp2_with fail
  refine HRE.out.mono ?_
  rw [HRR.out.1]
  rintro e w5 ⟨fv, rfl, ho5, hb5⟩
  obtain ⟨A5, c5, rfl, -, -, -, -⟩ := own_slice ho5
  have HA5 := Lib.hid (HA4.out.row hb5 ho5)
  have HB5 := Lib.hid (HB4.out.trans (hb5.mono HA4.out.sz))
  clear ho5 hb5
  have hrqb := (HA5.out.pick [_]).head
  have HRQ := Lib.hid hrqb
  clear hrqb
  go_upto_region 11 with (first
    | (refine wpList_store_rowTo rfl 60 (.tmp 10) (.tmp 53) rfl rfl rq (rqA R (.slice A5 R.fields.length c5)) rfl rfl 60 _ HRQ.out infoReq rfl (by simp [Value.oneCell', rqA]) ?_))
  refine wp_named ?_
  intro W6 hW6
  obtain ⟨hA6, hB6⟩ := (HA5.out.pick [_]).whole (rqA R (.slice A5 R.fields.length c5))
  rw [← hW6] at hA6 hB6
  have HA6 := Lib.hid hA6
  have HB6 := Lib.hid (HB5.out.trans hB6)
  clear hA6 hB6 hW6
  have q4 : W6.cell? ⟨rq, 4, none⟩ = some (.slice A5 R.fields.length c5) := by
    have h1 : W6.heap[rq]? = some (.cells (rqA R (.slice A5 R.fields.length c5)) 60 (0, 0)) := HA6.out.head
    unfold World.cell?
    rw [h1]
    rfl
  obtain ⟨sd, tl, eb, hLR⟩ : ∃ sd tl eb, lenR (lenF R.fields) = (sd, tl, eb) := ⟨_, _, _, rfl⟩
  have hfr : Rd W6 W6.heap.size 3 A5 R.fields.length (fds R.fields) := Rd.of_own ((HA6.out.pick [_]).head)
  have hLN := length_any (c := c5) W6 hfr HRR.out.2.1 HRR.out.2.2.1
  have hsaid := HRR.out.2.2.2
  rw [hLR] at hLN hsaid
  rw [HE.out] at hsaid
  dsimp only at hLN hsaid
  have HLR := Lib.hid hLR
  have HLN := Lib.hid hLN
  have HSD := Lib.hid hsaid
  clear hfr hLN hsaid hLR
  go_wp2_with fail
  refine HLN.out.mono ?_
  rintro e w7 ⟨rfl, hb7⟩
  have HA7 := Lib.hid ((HA6.out.below hb7).pick [_, _])
  have HB7 := Lib.hid (HB6.out.trans (hb7.mono HA6.out.sz))
  clear hb7 q4
  have hs7 : w7.heap[sb]? = some (.cells (sideA 0 false st) 140 (0, 0)) := HA7.out.head
  have q1 : w7.cell? ⟨sb, 1, none⟩ = some (.int .i64 0) := by unfold World.cell?; rw [hs7]; rfl
  have q2 : w7.cell? ⟨sb, 2, none⟩ = some (.bool false) := by unfold World.cell?; rw [hs7]; rfl
  have f1 : w7.frozen? ⟨sb, 1, none⟩ = false := by unfold World.frozen?; rw [hs7]; rfl
  have f2 : w7.frozen? ⟨sb, 2, none⟩ = false := by unfold World.frozen?; rw [hs7]; rfl
  clear hs7
  go_upto_region 12 with fail
  refine wp_named ?_
  intro W8 hW8
  obtain ⟨hA8, hB8⟩ := HA7.out.set 1 (.int .i64 sd)
  obtain ⟨hA9, hB9⟩ := hA8.set 2 (.bool tl)
  rw [← hW8] at hA9 hB9
  have HA8 : Hid (All B W8 (cBlk sb (sideA sd tl st) 140 :: cBlk rq (rqA R (.slice A5 R.fields.length c5)) 60 :: cRow 26 3 (.slice A5 R.fields.length c5) R.fields.length (fds R.fields) :: cConn p { c with last := id } :: cBlk mv #[.int .i64 st, .bool false, .bool false, .int .i64 0, .bool false] 229 :: cBook g m all first L :: cMap mLive c.live N f k :: cRow 64 10 c.news nn xs :: cRow 26 3 (.slice A n cc) n (fds l) :: cs)) := Lib.hid hA9
  have HB8 := Lib.hid ((HB7.out.trans hB8).trans hB9)
  clear hA8 hA9 hB8 hB9 hW8 q1 q2 f1 f2
  have hcn : All B W8 (cConn p { c with last := id } :: _) := HA8.out.pick [_, _, _]
  have q15 : W8.cell? ⟨p, 15, none⟩ = some (.bool E) := by rw [← HE.out]; exact hcn.cc 15 (.bool c.endOf) rfl
  have q9 := hcn.cc 9 (.map (some c.live)) rfl
  have q7 : W8.cell? ⟨p, 7, none⟩ = some (.pointer (some ⟨g, 0, none⟩)) := by rw [← HD.out.1]; exact hcn.cc 7 c.book rfl
  have q1 : W8.cell? ⟨sb, 1, none⟩ = some (.int .i64 sd) := by
    have h1 : W8.heap[sb]? = some (.cells (sideA sd tl st) 140 (0, 0)) := HA8.out.head
    unfold World.cell?
    rw [h1]
    rfl
  clear hcn
  go_cut [85] (fun y wx => y = .bool false ∧ wx = W8)
  case first =>
    rcases HSD.out with rfl | h0
    · go_wp2_with fail
      go_meet
      exact ⟨rfl, rfl⟩
    · have h1 : sd = 0 := by omega
      subst h1
      cases E
      · go_wp2_with fail
        go_meet
        exact ⟨rfl, rfl⟩
      · go_wp2_with fail
        go_meet
        exact ⟨rfl, rfl⟩
  case rest =>
    obtain ⟨rfl, hwc⟩ := hcut
    subst hwc
    have h1 := HA8.out.pick [_, _, _, _, _, _]
    have hmp : GMap mLive wc c.live N f k := h1.head
    obtain ⟨W9, f9, k9, p9, h9, g9, e9, o9, n9⟩ := GMap.put1 okLive hmp (i := id) HI.out.1 HI.out.2.2.2.2 (some sb)
    have r9 : (Instr.mapUpdate 93 (.map (some c.live)) (.int .i64 id) (.pointer (some ⟨sb, 0, none⟩))).run Tryz.prog wc = .ok () W9 := p9
    have hk9 : Kept (cMap mLive c.live N f k).F wc W9 := (Kept.refl _ _).grown g9 (fun j hj => .inl (by injection hj with hj; exact hj.symm))
    have h2 : All B W9 (cMap mLive c.live (N + 1) f9 k9 :: _) := h1.step hk9 (fun b hb => .inl hb) h9
    have HB9 := Lib.hid (HB8.out.trans (h1.kept hk9))
    have HA9 : Hid (All B W9 (cBook g m all first L :: _)) := Lib.hid (h2.pick [_, _, _, _, _, _])
    have H9 := Lib.hid (And.intro e9 n9)
    clear h1 hmp p9 h9 g9 e9 o9 n9 hk9 h2
    have q7b : W9.cell? ⟨p, 7, none⟩ = some (.pointer (some ⟨g, 0, none⟩)) := by
      have hcn : All B W9 (cConn p { c with last := id } :: _) := HA9.out.pick [_, _, _, _, _]
      rw [← HD.out.1]
      exact hcn.cc 7 c.book rfl
    go_wp2_with fail
    have hop := wopen_any id W9 HA9.out.head HI.out.1 HI.out.2.1 HI.out.2.2.1
    rw [HI.out.2.2.2.1] at hop
    refine hop.mono ?_
    rintro e w11 ⟨rfl, hwb, hbut⟩
    have hk11 : Kept (cBook g m all first L).F W9 w11 := ⟨hbut.os, hbut.tape, hbut.output, hbut.size, fun j hj hF => hbut.block j hj (fun e => hF (.inl e)) (fun e => hF (.inr e))⟩
    have h2 : All B w11 (cBook g m all first (wputL L id 0) :: _) := HA9.out.step hk11 (fun b hb => .inl hb) hwb
    have HB11 := Lib.hid (HB9.out.trans (HA9.out.kept hk11))
    have HA11 := Lib.hid h2
    clear hop hwb hbut hk11 h2 q7b q7 q1 q15 q9 r9
    have hh := HA11.out.pick [_, _, _, _, _]
    have hh := hh.pick [_, _, _, _, _, _, _]
    have HN : Hid (All B w11 (cConn p { c with last := id } :: cRow 64 10 c.news nn xs :: cBook g m all first (wputL L id 0) :: cMap mLive c.live (N + 1) f9 k9 :: cBlk sb (sideA sd tl st) 140 :: cBlk rq (rqA R (.slice A5 R.fields.length c5)) 60 :: cRow 26 3 (.slice A5 R.fields.length c5) R.fields.length (fds R.fields) :: cBlk mv #[.int .i64 st, .bool false, .bool false, .int .i64 0, .bool false] 229 :: cRow 26 3 (.slice A n cc) n (fds l) :: cs) ∧ nn ≤ 1000000) := Lib.hid ⟨hh.pick [_], HNN.out⟩
    clear hh
    go_upto_region 18 with fail
    have q15 : w11.cell? ⟨p, 15, none⟩ = some (.bool E) := by rw [← HE.out]; exact HN.out.1.cc 15 (.bool c.endOf) rfl
    obtain ⟨qq0, qq1, qq2, qq3, qq4⟩ := rq_cells (HN.out.1.pick [_, _, _, _, _]).head
    --REGION18
    refine wp_region_held_drew (S := fun w' => w'.cell? ⟨p, 15, none⟩ = some (.bool E) ∧ w'.cell? ⟨rq, 0, none⟩ = some (.string R.meth) ∧ w'.cell? ⟨rq, 1, none⟩ = some (.string R.sch) ∧ w'.cell? ⟨rq, 2, none⟩ = some (.string R.auth) ∧ w'.cell? ⟨rq, 3, none⟩ = some (.string R.path) ∧ w'.cell? ⟨rq, 4, none⟩ = some (.slice A5 R.fields.length c5)) (by kernel_rfl) (⟨q15, qq0, qq1, qq2, qq3, qq4⟩) (fun hHeld => ?_)
    refine wpAnyH_take (i := 0) (oi := ⟨some 110, _, _, _, _, _⟩) (v := ?_) rfl (by kernel_rfl) (by kernel_rfl) (by kernel_rfl) (fun _ _ _ h => h) (Or.inl ⟨by kernel_rfl, ?_⟩) hHeld ?_
    rotate_left
    · intro w hSw
      obtain ⟨h1, h2, h3, h4, h5, h6⟩ := hSw
      go_simp
      all_goals with_reducible rfl
    try simp only [Act.put, List.setIfInBounds_toArray, List.set_cons_zero, List.set_cons_succ]
    refine wpAnyH_take (i := 1) (oi := ⟨some 111, _, _, _, _, _⟩) (v := ?_) rfl (by kernel_rfl) (by kernel_rfl) (by kernel_rfl) (fun _ _ _ h => h) (Or.inl ⟨by kernel_rfl, ?_⟩) hHeld ?_
    rotate_left
    · intro w hSw
      obtain ⟨h1, h2, h3, h4, h5, h6⟩ := hSw
      go_simp
      all_goals with_reducible rfl
    try simp only [Act.put, List.setIfInBounds_toArray, List.set_cons_zero, List.set_cons_succ]
    refine wpAnyH_take (i := 2) (oi := ⟨some 112, _, _, _, _, _⟩) (v := ?_) rfl (by kernel_rfl) (by kernel_rfl) (by kernel_rfl) (fun _ _ _ h => h) (Or.inl ⟨by kernel_rfl, ?_⟩) hHeld ?_
    rotate_left
    · intro w hSw
      obtain ⟨h1, h2, h3, h4, h5, h6⟩ := hSw
      go_simp
      all_goals with_reducible rfl
    try simp only [Act.put, List.setIfInBounds_toArray, List.set_cons_zero, List.set_cons_succ]
    refine wpAnyH_take (i := 3) (oi := ⟨some 113, _, _, _, _, _⟩) (v := ?_) rfl (by kernel_rfl) (by kernel_rfl) (by kernel_rfl) (fun _ _ _ h => h) (Or.inl ⟨by kernel_rfl, ?_⟩) hHeld ?_
    rotate_left
    · intro w hSw
      obtain ⟨h1, h2, h3, h4, h5, h6⟩ := hSw
      go_simp
      all_goals with_reducible rfl
    try simp only [Act.put, List.setIfInBounds_toArray, List.set_cons_zero, List.set_cons_succ]
    refine wpAnyH_take (i := 4) (oi := ⟨some 114, _, _, _, _, _⟩) (v := ?_) rfl (by kernel_rfl) (by kernel_rfl) (by kernel_rfl) (fun _ _ _ h => h) (Or.inl ⟨by kernel_rfl, ?_⟩) hHeld ?_
    rotate_left
    · intro w hSw
      obtain ⟨h1, h2, h3, h4, h5, h6⟩ := hSw
      go_simp
      all_goals with_reducible rfl
    try simp only [Act.put, List.setIfInBounds_toArray, List.set_cons_zero, List.set_cons_succ]
    refine wpAnyH_take (i := 5) (oi := ⟨some 115, _, _, _, _, _⟩) (v := ?_) rfl (by kernel_rfl) (by kernel_rfl) (by kernel_rfl) (fun _ _ _ h => h) (Or.inl ⟨by kernel_rfl, ?_⟩) hHeld ?_
    rotate_left
    · intro w hSw
      obtain ⟨h1, h2, h3, h4, h5, h6⟩ := hSw
      go_simp
      all_goals with_reducible rfl
    try simp only [Act.put, List.setIfInBounds_toArray, List.set_cons_zero, List.set_cons_succ]
    refine wpAnyH_take (i := 6) (oi := ⟨some 116, _, _, _, _, _⟩) (v := ?_) rfl (by kernel_rfl) (by kernel_rfl) (by kernel_rfl) (fun _ _ _ h => h) (Or.inl ⟨by kernel_rfl, ?_⟩) hHeld ?_
    rotate_left
    · intro w hSw
      obtain ⟨h1, h2, h3, h4, h5, h6⟩ := hSw
      go_simp
      all_goals with_reducible rfl
    try simp only [Act.put, List.setIfInBounds_toArray, List.set_cons_zero, List.set_cons_succ]
    refine wpAnyH_take (i := 7) (oi := ⟨some 117, _, _, _, _, _⟩) (v := ?_) rfl (by kernel_rfl) (by kernel_rfl) (by kernel_rfl) (fun _ _ _ h => h) (Or.inl ⟨by kernel_rfl, ?_⟩) hHeld ?_
    rotate_left
    · intro w hSw
      obtain ⟨h1, h2, h3, h4, h5, h6⟩ := hSw
      go_simp
      all_goals with_reducible rfl
    try simp only [Act.put, List.setIfInBounds_toArray, List.set_cons_zero, List.set_cons_succ]
    refine wpAnyH_ready (rs := [8]) (by kernel_rfl) (by simp) ?_
    refine AllReadyH.cons (o := ⟨some 118, _, _, _, _, _⟩) rfl (fun K hK => ?_) AllReadyH.nil
    go_simp
    refine (tell_any (hpAsk id R (.slice A5 R.fields.length c5) E) _ HN.out.1.drew rfl HN.out.2).mono ?_
    rintro e w12 ⟨rfl, hb12, v12, hA12⟩
    have HA12 := Lib.hid hA12
    have HB12 := Lib.hid ((HB11.out.trans (by exact ⟨rfl, rfl, rfl, Nat.le_refl _, fun _ _ => rfl⟩ : Below B w11 w11.drew)).trans hb12)
    clear hA12 hb12
    obtain ⟨h2, h3, h4, h5, h6⟩ := rq_cells (HA12.out.pick [_, _, _, _, _]).head
    refine hK.out _ _ (⟨by rw [← HE.out]; exact HA12.out.cc 15 (.bool c.endOf) rfl, h2, h3, h4, h5, h6⟩) (fun hHeld => ?_)
    clear hK K
    try simp only [Act.put, List.setIfInBounds_toArray, List.set_cons_zero, List.set_cons_succ]
    refine wpAnyH_done (by kernel_rfl) ?_ _
    go_wp2_with fail
    go_end0
    have hfin := (HA12.out.pick [_, _, _, _, _]).tail
    have hfin := (hfin.pick [_, _, _, _, _, _]).tail
    have hfin := hfin.pick [_, _, _, _, _]
    have hfin := hfin.pick [_, _]
    have hfin := hfin.pick [_, _, _, _]
    have hfin := hfin.pick [_, _, _, _]
    have hfin := hfin.pick [_, _, _, _]
    rw [HLR.out]
    refine ⟨rfl, HB12.out, v12, .slice A5 R.fields.length c5, sb, N + 1, f9, k9, H9.out.2, H9.out.1, ?_⟩
    rw [← HST.out, ← HE.out] at hfin
    exact hfin
end Go.Proofs.YtpkmciohehaboaaGreatDoor

/- Append of a string onto an own row: whose block the new row is (out of XTp3). -/
namespace Go.Proofs.YtpkmciohehaboaaGreatDoor
open Go.RowKit

section
variable {w : World} {base : Nat} {v : Value} {n : Nat} {xs : List Value}
theorem app_str_own (ty : TypeId) (hown : w.ownsRow base 5 1 v n xs) (s : ByteArray) (hb : n + s.size ≤ 1099511627776) {v' : Value} {w' : World}
    (h : (Builtin.append_ #[48, 9] ty #[v, .string s]).run Tryz.prog w = .ok v' w') : v'.ownBlock = v.ownBlock ∨ v'.ownBlock = some w.heap.size := by
  obtain ⟨i, hi, hz, hsize, hby⟩ := info_parts (show (Tryz.prog.info? 5).map (fun i => (i.zero, i.size, i.bytes)) = some (some (.int .u8 0), 1, 1) by kernel_rfl)
  have ht := Tryz.underlying48
  have hu := Tryz.underlying9
  rcases hown.2 with ⟨rfl, rfl⟩ | ⟨g, cap, cur, rfl, hbg, hg, hnc, hcm, hcs, htake⟩
  · by_cases hm : s.size = 0
    · have hf := Lib.run_firstCells_string (P := Tryz.prog) w 1 s
      rw [hm] at hf
      have e : (Builtin.append_ #[48, 9] ty #[.slice none 0 0, .string s]).run Tryz.prog w = .ok (.slice none 0 0) w := by
        simp [Builtin.append_, run_underlying ht, run_underlying hu, sizeOf, typeInfo, hi, hsize, Builtin.lenOf, hm, hf]
      rw [e] at h
      injection h with h1 h2
      subst h1
      exact .inl rfl
    · have e := run_append_nil_string (P := Tryz.prog) w 48 9 ty 5 i (.int .u8 0) ht hu hi hz s (by omega) (by omega) (by rw [hby]; omega)
      rw [e] at h
      injection h with h1 h2
      subst h1
      exact .inr rfl
  · by_cases hroom : n + s.size ≤ cap
    · have hcs' : cur.size = cap := by simpa using hcs
      have e := Lib.run_append_room_string (P := Tryz.prog) w 48 9 ty 5 i ht hu hi hsize g n cap cur hg s hroom (by omega)
      rw [e] at h
      injection h with h1 h2
      subst h1
      exact .inl rfl
    · have hxl : xs.length = n := by simpa using hown.1
      have holds : ∀ j u, xs[j]? = some u → w.cell? ((⟨g, 0, none⟩ : Addr).add j) = some u := hown.cells (g := g) rfl
      have e := Lib.run_append_grow_string (P := Tryz.prog) w 48 9 ty 5 i (.int .u8 0) ht hu hi hz ⟨g, 0, none⟩ n cap xs (by rw [hsize]; simpa using hxl) holds s (by omega) (by omega) (by rw [hby]; exact growslice_fits (by omega) (by omega))
      rw [e] at h
      injection h with h1 h2
      subst h1
      exact .inr rfl
theorem step_app_stro {ops : Array Oper} {o : Oper} {a : Act} {K : Act → World → Prop} {Q : Exit → Act → World → Prop} {E : Prop} (sl x : Operand) (hgd : o.guard = none)
    (ho : o.op = .call { callee := .builtin .append, args := #[sl, x], argTypes := #[48, 9] }) (hs : a.eval sl = v) (hown : w.ownsRow base 5 1 v n xs) (s : ByteArray) (hx : a.eval x = .string s)
    (hb : n + s.size ≤ 1099511627776) (hbase : base ≤ w.heap.size)
    (h : ∀ v' w', w'.ownsRow base 5 1 v' (n + s.size) (xs ++ bvs s.data.toList) → w.grownBy w' v.ownBlock → (v'.ownBlock = v.ownBlock ∨ v'.ownBlock = some w.heap.size) → K (a.put o.dst v') w') :
    if Region.wanted o (yielded ops a.tmps) = true then Oper.wp Tryz.prog o a w K Q else E := by
  have hw : Region.wanted o (yielded ops a.tmps) = true := by simp [Region.wanted, hgd]
  rw [if_pos hw]
  obtain ⟨v', w', hr, h2, h3⟩ := run_app_str o.type hown s hb hbase
  have h4 := app_str_own o.type hown s hb hr
  unfold Oper.wp execOp
  simp only [ho, resolve, invoke, builtin, Sem.run_bind, Sem.run_pure, Result.andThen_ok, List.map_toArray, List.map_cons, List.map_nil, hs, hx, hr]
  exact h v' w' h2 h3 h4
end
end Go.Proofs.YtpkmciohehaboaaGreatDoor

/- The walk of conn.piece: a block is whole, and begins a stream. -/
namespace Go.Proofs.YtpkmciohehaboaaGreatDoor
open Go.RowKit Go.Maps

/-- A thing grew, and a new one stands beside it. -/
theorem All.step2 {B : Nat} {w w' : World} {c c' d : Comp} {cs : List Comp} (h : All B w (c :: cs)) (hk : Kept c.F w w') (hg : Grew w c.F c'.F) (hp : c'.P w') (hd : d.P w') (hf : ∀ b, d.F b → w.heap.size ≤ b) (ha : ∀ b, d.F b → ¬ c'.F b) : All B w' (d :: c' :: cs) := by
  have h2 := h.step hk hg hp
  refine ⟨fun x hx => ?_, List.pairwise_cons.2 ⟨fun x hx y hy hxy => ?_, h2.apart⟩, fun x hx b hF => ?_, h2.sz⟩
  · rcases List.mem_cons.1 hx with rfl | hx
    · exact hd
    · exact h2.here x hx
  · rcases List.mem_cons.1 hx with rfl | hx
    · exact ha y hy hxy
    · have h3 := x.lt w (h.here x (List.mem_cons_of_mem _ hx)) y hxy
      have h4 := hf y hy
      omega
  · rcases List.mem_cons.1 hx with rfl | hx
    · exact Nat.le_trans h.sz (hf b hF)
    · exact h2.base x hx b hF
/-- .. the block's fields are read; the rest of the connection. -/
def pcC (c : Cv) (v : Value) : Cv := { c with last := c.of_, block := .slice none 0 0, of_ := 0, news := v }
set_option maxRecDepth 100000 in
set_option maxHeartbeats 8000000 in
theorem piece_any {B p g m d nn N ND k nb : Nat} {c : Cv} {G : Nat → Prop} {mo li : Int} {T T' : Tb} {all first : Int} {L : List (Int × Int)} {f : Int → Option (Option Nat)} {xs : List Value} {cs : List Comp} {l0 : List UInt8} {l : List Fd} (fr : Fr) (w : World)
    (h : All B w (cConn p c :: cRow 5 1 c.block nb (bvs l0) :: cDec d G ND mo li T false :: cBook g m all first L :: cMap mLive c.live N f k :: cRow 64 10 c.news nn xs :: cs))
    (hfr : fr.fl = 5 ∨ fr.fl = 4) (hde : c.dec = .pointer (some ⟨d, 0, none⟩)) (hbk : c.book = .pointer (some ⟨g, 0, none⟩)) (hd : c.drained = false) (hk : (k : Int) < c.l0)
    (hid : (Lit.int .i64 c.of_).wf = true) (hid1 : 1 ≤ c.of_) (hlast : c.last < c.of_) (hL : L.length < 100000) (hlk : look L c.of_ = none) (hN : N < maxLen) (hnn : nn ≤ 1000000)
    (hnb : nb + fr.data.size ≤ 65536) (hmo : mo ≤ 65536) (hND : ND + 65536 ≤ 1099511627776) (hout : outD mo li T (l0 ++ fr.data.data.toList) = (l, 0, some T'))
    (hn : l.length ≤ 1048575) (hz : Tx l)
    (hck : ∀ (w : World) (A : Option Addr) (n c : Nat), Rd w w.heap.size 3 A n (fds (restH (gathF fourK Gt.none l).1.2)) → n ≤ 1048576 → Calls Tryz.prog 210 #[.slice A n c] w (fun e w' => ∃ v, e = .returned v ∧ OwnFds w (cookF (restH (gathF fourK Gt.none l).1.2)) v w'))
    (hR : (readF l).2 = 0) (hfl : (readF l).1.fields.length ≤ 1048576) (hfx : Tx (readF l).1.fields) (hsaid : c.endOf = false ∨ (lenR (lenF (readF l).1.fields)).1 ≤ 0) :
    Calls Tryz.prog 140 #[.pointer (some ⟨p, 0, none⟩), frV fr] w (Left B w fun w' => ∃ v fv s N' f' k' G' ND', k' ≤ k + 1 ∧ f' c.of_ = some (some s) ∧
      All B w' (cConn p (pcC c v) :: cBook g m all first (wputL L c.of_ 0) :: cMap mLive c.live N' f' k' :: cRow 64 10 v (nn + 1) (xs ++ (hpAsk c.of_ (readF l).1 fv c.endOf).l) ::
        cRow 26 3 fv (readF l).1.fields.length (fds (readF l).1.fields) :: cBlk s (sideA (lenR (lenF (readF l).1.fields)).1 (lenR (lenF (readF l).1.fields)).2.1 (onF 0 c.endOf)) 140 :: cDec d G' ND' mo li T' false :: cs)) := by
  obtain ⟨W0, hW0⟩ : ∃ W0, w.alloc (.cells fr.cells 52) = W0 := ⟨_, rfl⟩
  have hA0 := new_blk h fr.cells 52
  have hB0 : Below B w W0 := by rw [← hW0]; exact (Below.refl _ _).alloc h.sz _
  obtain ⟨x, hx⟩ : ∃ x, w.heap.size = x := ⟨_, rfl⟩
  rw [hW0, hx] at hA0
  have hA0b := hA0.pick [_, _]
  have HA0 := Lib.hid (hA0b.pick [_, _])
  have HB0 := Lib.hid hB0
  have HX := Lib.hid hx
  have hxb : W0.heap[x]? = some (.cells fr.cells 52 (0, 0)) := hA0.head
  have k3 : W0.cell? ⟨x, 3, none⟩ = some (.string fr.data) := by unfold World.cell?; rw [hxb]; rfl
  have HK3 := Lib.hid k3
  clear hA0 hA0b hB0 hx hxb k3
  obtain ⟨ty, fl, st, data, pad⟩ := fr
  dsimp only at hfr hnb hout HK3
  unfold frV
  simp only [Fr.cells] at hW0 HA0 ⊢
  have HW0 := Lib.hid hW0
  have HFR := Lib.hid hfr
  have HD := Lib.hid (And.intro hde (And.intro hbk (And.intro hd (And.intro hk hlast))))
  have HI := Lib.hid (And.intro hid (And.intro hid1 (And.intro hL (And.intro hlk hN))))
  have HO := Lib.hid (And.intro hnb (And.intro hmo (And.intro hND hout)))
  have HE := Lib.hid (And.intro hn (And.intro hz (And.intro hR (And.intro hfl (And.intro hfx hsaid)))))
  have HCK := Lib.hid hck
  have HNN := Lib.hid hnn
  clear h hW0 hfr hde hbk hd hk hid hid1 hlast hL hlk hN hnn hnb hmo hND hout hn hz hck hR hfl hfx hsaid
  go_enter Tryz.func140, Tryz.ntmps140
  go_upto_region 1 with fail
  refine wp_named ?_
  intro W3 hW3
  obtain rfl : W3 = W0 := hW3.trans HW0.out
  rw [HX.out]
  clear hW3
  --REGION1
  refine wp_region_held_drew (S := fun w' => w'.cell? ⟨x, 3, none⟩ = some (.string data)) (by kernel_rfl) (HK3.out) (fun hHeld => ?_)
  refine wpAnyH_take (i := 0) (oi := ⟨some 8, _, _, _, _, _⟩) (v := ?_) rfl (by kernel_rfl) (by kernel_rfl) (by kernel_rfl) (fun _ _ _ h => h) (Or.inl ⟨by kernel_rfl, ?_⟩) hHeld ?_
  rotate_left
  · intro w hSw
    obtain h1 := hSw
    go_simp
    all_goals with_reducible rfl
  try simp only [Act.put, List.setIfInBounds_toArray, List.set_cons_zero, List.set_cons_succ]
  refine wpAnyH_take (i := 1) (oi := ⟨some 9, _, _, _, _, _⟩) (v := ?_) rfl (by kernel_rfl) (by kernel_rfl) (by kernel_rfl) (fun _ _ _ h => h) (Or.inl ⟨by kernel_rfl, ?_⟩) hHeld ?_
  rotate_left
  · intro w hSw
    obtain h1 := hSw
    go_simp
    all_goals with_reducible rfl
  try simp only [Act.put, List.setIfInBounds_toArray, List.set_cons_zero, List.set_cons_succ]
  refine wpAnyH_take (i := 2) (oi := ⟨some 10, _, _, _, _, _⟩) (v := ?_) rfl (by kernel_rfl) (by kernel_rfl) (by kernel_rfl) (fun _ _ _ h => h) (Or.inl ⟨by kernel_rfl, ?_⟩) hHeld ?_
  rotate_left
  · intro w hSw
    obtain h1 := hSw
    go_simp
    all_goals with_reducible rfl
  try simp only [Act.put, List.setIfInBounds_toArray, List.set_cons_zero, List.set_cons_succ]
  refine wpAnyH_take (i := 3) (oi := ⟨some 11, _, _, _, _, _⟩) (v := ?_) rfl (by kernel_rfl) (by kernel_rfl) (by kernel_rfl) (fun _ _ _ h => h) (Or.inl ⟨by kernel_rfl, ?_⟩) hHeld ?_
  rotate_left
  · intro w hSw
    obtain h1 := hSw
    go_simp
    all_goals with_reducible rfl
  try simp only [Act.put, List.setIfInBounds_toArray, List.set_cons_zero, List.set_cons_succ]
  refine wpAnyH_take (i := 5) (oi := ⟨some 13, _, _, _, _, _⟩) (v := ?_) rfl (by kernel_rfl) (by kernel_rfl) (by kernel_rfl) (fun _ _ _ h => h) (Or.inl ⟨by kernel_rfl, ?_⟩) hHeld ?_
  rotate_left
  · intro w hSw
    obtain h1 := hSw
    go_simp
    all_goals with_reducible rfl
  try simp only [Act.put, List.setIfInBounds_toArray, List.set_cons_zero, List.set_cons_succ]
  refine wpAnyH_take (i := 6) (oi := ⟨some 14, _, _, _, _, _⟩) (v := ?_) rfl (by kernel_rfl) (by kernel_rfl) (by kernel_rfl) (fun _ _ _ h => h) (Or.inl ⟨by kernel_rfl, ?_⟩) hHeld ?_
  rotate_left
  · intro w hSw
    obtain h1 := hSw
    go_simp
    all_goals with_reducible rfl
  try simp only [Act.put, List.setIfInBounds_toArray, List.set_cons_zero, List.set_cons_succ]
  have hrow := (HA0.out.pick [_]).head
  obtain ⟨A0, cp0, hv0, -, -, -, -⟩ := own_slice hrow
  have HROW := Lib.hid hrow
  have HV0 := Lib.hid hv0
  have q13 : W3.cell? ⟨p, 13, none⟩ = some (.slice A0 nb cp0) := by have h := HA0.out.cc 13 c.block rfl; rwa [hv0] at h
  have HQ13 := Lib.hid q13
  have hnx : ∀ b, c.block.ownBlock = some b → b ≠ x := fun b hb e => by subst e; exact (List.pairwise_cons.1 (HA0.out.pick [_]).apart).1 _ (List.mem_cons_of_mem _ (List.mem_cons_self ..)) b hb rfl
  have HNX := Lib.hid hnx
  have hpx : p ≠ x := fun e => by subst e; exact (List.pairwise_cons.1 HA0.out.apart).1 _ (List.mem_cons_of_mem _ (List.mem_cons_self ..)) p rfl rfl
  have HPX := Lib.hid hpx
  clear hrow hv0 hnx hpx
  refine wpAnyH_ready (rs := [4]) (by kernel_rfl) (by simp) ?_
  refine AllReadyH.cons (o := ⟨some 12, _, _, _, _, _⟩) rfl (fun K hK => ?_) AllReadyH.nil
  go_simp

  refine hK.out _ _ (HK3.out) (fun hHeld => ?_)
  clear hK K
  try simp only [Act.put, List.setIfInBounds_toArray, List.set_cons_zero, List.set_cons_succ]
  refine wpAnyH_ready (rs := [7]) (by kernel_rfl) (by simp) ?_
  refine AllReadyH.cons (o := ⟨some 15, _, _, _, _, _⟩) rfl (fun K hK => ?_) AllReadyH.nil
  have hb40 : nb + data.size ≤ 1099511627776 := by have := HO.out.1; omega
  have hrow2 : W3.drew.ownsRow 0 5 1 (.slice A0 nb cp0) nb (bvs l0) := by have h : W3.ownsRow 0 5 1 c.block nb (bvs l0) := HROW.out; rwa [HV0.out] at h
  refine step_app_stro (.tmp 12) (.tmp 14) (by rfl) (by rfl) (by rfl) hrow2 data (by rfl) hb40 (Nat.zero_le _) ?_
  intro v3 w3 hown3 hg3 hb3
  rw [← HV0.out] at hg3 hb3
  obtain ⟨hA3, hB3⟩ := (HA0.out.drew.pick [_]).app hown3 hg3 hb3
  have HA3 := Lib.hid (hA3.pick [_])
  have HB3 : Hid (Below B w w3) := Lib.hid ((HB0.out.trans (by exact ⟨rfl, rfl, rfl, Nat.le_refl _, fun _ _ => rfl⟩ : Below B W3 W3.drew)).trans hB3)
  obtain ⟨A3, c3, hv3, -, -, -, -⟩ := own_slice hown3
  subst hv3
  have hxl := (Array.getElem?_eq_some_iff.1 (show W3.heap[x]? = some _ from (HA0.out.pick [_]).tail.here _ (List.mem_cons_of_mem _ (List.mem_cons_self ..)))).1
  have hk3 : w3.cell? ⟨x, 3, none⟩ = some (.string data) := (hg3.cell_far _ hxl (fun e1 => HNX.out x e1.symm rfl)).trans HK3.out
  have HK33 := Lib.hid hk3
  have q13 := HA3.out.cc 13 c.block rfl
  rw [HV0.out] at q13
  have f13 := HA3.out.cf 13
  clear hown3 hg3 hb3 hA3 hB3 hrow2 hxl hk3
  refine hK.out _ _ (HK33.out) (fun hHeld => ?_)
  clear hK K
  try simp only [Act.put, List.setIfInBounds_toArray, List.set_cons_zero, List.set_cons_succ]
  refine wpAnyH_take (i := 8) (oi := ⟨some 16, _, _, _, _, _⟩) (v := ?_) rfl (by kernel_rfl) (by kernel_rfl) (by kernel_rfl) (fun _ _ _ h => h) (Or.inl ⟨by kernel_rfl, ?_⟩) hHeld ?_
  rotate_left
  · intro w hSw
    obtain h1 := hSw
    go_simp
    all_goals with_reducible rfl
  try simp only [Act.put, List.setIfInBounds_toArray, List.set_cons_zero, List.set_cons_succ]
  refine wpAnyH_take (i := 9) (oi := ⟨some 17, _, _, _, _, _⟩) (v := ?_) rfl (by kernel_rfl) (by kernel_rfl) (by kernel_rfl) (fun _ _ _ h => h) (Or.inl ⟨by kernel_rfl, ?_⟩) hHeld ?_
  rotate_left
  · intro w hSw
    obtain h1 := hSw
    go_simp
    all_goals with_reducible rfl
  try simp only [Act.put, List.setIfInBounds_toArray, List.set_cons_zero, List.set_cons_succ]
  refine wpAnyH_ready (rs := [10]) (by kernel_rfl) (by simp) ?_
  refine AllReadyH.cons (o := ⟨none, _, _, _, _, _⟩) rfl (fun K hK => ?_) AllReadyH.nil
  go_simp
  obtain ⟨h1, h2⟩ := HA3.out.set 13 (.slice A3 (nb + data.size) c3)
  refine k_named ?_
  intro W4 hW4
  rw [← hW4] at h1 h2
  have HA4 : Hid (All B W4 (cConn p { c with block := .slice A3 (nb + data.size) c3 } :: _)) := Lib.hid h1
  have HB4 := Lib.hid (HB3.out.trans h2)
  have hk4 : W4.cell? ⟨x, 3, none⟩ = some (.string data) := by rw [hW4]; exact (World.cell?_setCell_far w3 ⟨p, 13, none⟩ ⟨x, 3, none⟩ _ HPX.out).trans HK33.out
  have HK4 := Lib.hid hk4
  clear h1 h2 hW4 hk4
  refine hK.out _ _ (HK4.out) (fun hHeld => ?_)
  clear hK K
  try simp only [Act.put, List.setIfInBounds_toArray, List.set_cons_zero, List.set_cons_succ]
  refine wpAnyH_done (by kernel_rfl) ?_ _
  --BEHIND
  have hxb : W4.heap[x]? = some _ := (HA4.out.pick [_, _]).head
  have k1 : W4.cell? ⟨x, 1, none⟩ = some (.int .i64 fl) := by unfold World.cell?; rw [hxb]; rfl
  have q13 := HA4.out.cc 13 (.slice A3 (nb + data.size) c3) rfl
  have q14 := HA4.out.cc 14 (.int .i64 c.of_) rfl
  have hlen : ((nb + data.size : Nat) : Int) ≤ 65536 := by have := HO.out.1; omega
  clear hxb
  go_upto_region 4 with fail
  go_cut [29] (fun y wx => y = .bool false ∧ wx = W4)
  case first =>
    rcases HFR.out with rfl | rfl
    · go_wp2_with fail
      go_meet
      exact ⟨rfl, rfl⟩
    · go_wp2_with fail
      go_meet
      exact ⟨rfl, rfl⟩
  case rest =>
  obtain ⟨rfl, hwc⟩ := hcut
  subst hwc
  go_upto_region 5 with fail
  go_region
  go_upto_region 6 with fail
  have f13 := HA4.out.cf 13
  have f14 := HA4.out.cf 14
  go_upto_region 7 with fail
  refine wp_named ?_
  intro W5 hW5
  obtain ⟨hA5, hB5⟩ := HA4.out.set 14 (.int .i64 0)
  obtain ⟨hA6, hB6⟩ := hA5.set 13 (.slice none 0 0)
  have hA7 := hA6.drew
  rw [← hW5] at hA7
  have hb5 : Below B w W5 := by rw [hW5]; exact ((HB4.out.trans hB5).trans hB6).trans (by exact ⟨rfl, rfl, rfl, Nat.le_refl _, fun _ _ => rfl⟩)
  have HA5 : Hid (All B W5 (cConn p { c with block := .slice none 0 0, of_ := 0 } :: cRow 5 1 (.slice A3 (nb + data.size) c3) (nb + data.size) (bvs l0 ++ bvs data.data.toList) :: cBlk x #[.int .i64 ty, .int .i64 fl, .int .i64 st, .string data, .int .i64 pad, .slice none 0 0, .int .i64 0, .int .i64 0, .int .i64 0, .int .i64 0, .int .i64 0, .bool false] 52 :: cDec d G ND mo li T false :: cBook g m all first L :: cMap mLive c.live N f k :: cRow 64 10 c.news nn xs :: cs)) := Lib.hid hA7
  have HB5 := Lib.hid hb5
  clear hA5 hA6 hA7 hB5 hB6 hb5 hW5 f13 f14 q13 q14 k1
  have q5 : W5.cell? ⟨p, 5, none⟩ = some (.pointer (some ⟨d, 0, none⟩)) := by rw [← HD.out.1]; exact HA5.out.cc 5 c.dec rfl
  have hrow := (HA5.out.pick [_]).head
  have hdc : DecIs W5 d G ND mo li T false := (HA5.out.pick [_, _, _]).head
  have hrow2 : W5.ownsRow 0 5 1 (.slice A3 (nb + data.size) c3) (nb + data.size) (bvs (l0 ++ data.data.toList)) := by rw [bvs_append]; exact hrow
  obtain ⟨A3', c3', he, hcap, hmax, hrd, -⟩ := own_slice hrow2
  obtain ⟨rfl, rfl⟩ : A3 = A3' ∧ c3 = c3' := by injection he with h1 h2 h3; exact ⟨h1, h3⟩
  have hap : ∀ a, A3 = some a → ¬ G a.block := fun a ha => by
    have h1 := (List.pairwise_cons.1 (HA5.out.pick [_]).apart).1 _ (List.mem_cons_of_mem _ (List.mem_cons_of_mem _ (List.mem_cons_self ..))) a.block (by
      subst ha
      rcases hrow2.2 with ⟨h1, -⟩ | ⟨gg, cap, cur, h1, h2⟩
      · cases h1
      · injection h1 with h1 h3 h4
        injection h1 with h1
        subst h1
        rfl)
    exact h1
  have HDC := Lib.hid (decode_any (cap := c3) W5 hdc hrd hcap hmax (by have := HO.out.1; omega) (fun _ => hap) HO.out.2.1 (by have := HO.out.1; have := HO.out.2.2.1; omega))
  clear hrow hdc hrow2 he hcap hmax hrd hap
  go_wp2_with fail
  refine HDC.out.mono ?_
  rw [HO.out.2.2.2]
  rintro e w6 ⟨A6, c6, rfl, hown6, G6, T6, hdec6, hT6, hap6, hk6, hg6⟩
  have hT : T6 = T' := hT6 T' rfl
  subst hT
  dsimp only at hown6 hdec6 hk6 hg6 hap6
  have hA6 := ((HA5.out.pick [_, _, _]).step2 (c' := cDec d G6 (ND + (nb + data.size)) mo li T6 false) (d := cRow 26 3 (.slice A6 l.length c6) l.length (fds l)) hk6 hg6 hdec6 (own_low hown6 (Nat.zero_le _)) (fun b hF => (World.ownsRow.lt hown6 b hF).1) (fun b hF => ?_))
  rotate_left
  · have h1 : (Value.slice A6 l.length c6).ownBlock = some b := hF
    cases A6 with
    | none => cases h1
    | some a =>
      have h2 : a.block = b := by injection h1
      rw [← h2]
      exact hap6 a rfl
  have hB6 : Below B W5 w6 := (HA5.out.pick [_, _, _]).kept hk6
  have h1 := hA6.pick [_, _, _, _, _, _, _]
  have h1 := h1.pick [_, _, _, _, _, _, _]
  have h1 := h1.pick [_, _, _, _, _, _, _]
  have h1 := h1.pick [_, _, _, _, _]
  have HA6 : Hid (All B w6 (cConn p { c with block := .slice none 0 0, of_ := 0 } :: cBook g m all first L :: cMap mLive c.live N f k :: cRow 64 10 c.news nn xs :: cRow 26 3 (.slice A6 l.length c6) l.length (fds l) :: cDec d G6 (ND + (nb + data.size)) mo li T6 false :: _)) := Lib.hid h1
  have HB6 := Lib.hid (HB5.out.trans hB6)
  clear h1 hA6 hB6 hk6 hg6 hdec6 hap6 hown6 hT6 q5
  have q12 := HA6.out.cc 12 (.int .i64 c.last) rfl
  have hgt : c.last < c.of_ := HD.out.2.2.2.2
  have HBG := Lib.hid (begin_any (c := { c with block := .slice none 0 0, of_ := 0 }) c.of_ w6 HA6.out HD.out.2.1 HD.out.2.2.1 HD.out.2.2.2.1 HI.out.1 HI.out.2.1 HI.out.2.2.1 HI.out.2.2.2.1 HI.out.2.2.2.2 HNN.out HE.out.1 HE.out.2.1 HCK.out HE.out.2.2.1 HE.out.2.2.2.1 HE.out.2.2.2.2.1 HE.out.2.2.2.2.2)
  clear HCK
  go_wp2_with fail
  refine HBG.out.mono ?_
  rintro e w9 ⟨rfl, hb9, v, fv, s, N', f', k', hk', hs', hA9⟩
  have HA9 := Lib.hid hA9
  have H9 := Lib.hid (And.intro (HB6.out.trans hb9) (And.intro hk' hs'))
  clear hb9 hk' hs' hA9 HBG
  go_wp2_with fail
  go_end0
  have h1 := HA9.out.pick [_, _, _, _, _, _]
  have h1 := h1.tail
  have h2 := (h1.pick [_, _, _, _, _, _, _]).tail
  have h3 := (h2.pick [_, _, _, _, _, _, _]).tail
  exact ⟨rfl, H9.out.1, v, fv, s, N', f', k', _, _, H9.out.2.1, H9.out.2.2, h3⟩
end Go.Proofs.YtpkmciohehaboaaGreatDoor

/- The walk of conn.headers: a whole block that ends the stream's coming. -/
namespace Go.Proofs.YtpkmciohehaboaaGreatDoor
open Go.RowKit Go.Maps

/-- The connection as a block begins. -/
def hdC (c : Cv) (st : Nat) : Cv := { c with of_ := st, endOf := true, block := .slice none 0 0 }
set_option maxRecDepth 100000 in
set_option maxHeartbeats 8000000 in
theorem headers_any {B p g m d nn N ND k : Nat} {c : Cv} {G : Nat → Prop} {mo li : Int} {T T' : Tb} {all first : Int} {L : List (Int × Int)} {f : Int → Option (Option Nat)} {xs : List Value} {cs : List Comp} {l : List Fd} (fr : Fr) (w : World)
    (h : All B w (cConn p c :: cDec d G ND mo li T false :: cBook g m all first L :: cMap mLive c.live N f k :: cRow 64 10 c.news nn xs :: cs))
    (hfr : fr.fl = 5) (hst : fr.st = 1) (hde : c.dec = .pointer (some ⟨d, 0, none⟩)) (hbk : c.book = .pointer (some ⟨g, 0, none⟩)) (hd : c.drained = false) (hk : (k : Int) < c.l0)
    (hlast : c.last < 1) (hL : L.length < 100000) (hlk : look L 1 = none) (hN : N < maxLen) (hnn : nn ≤ 1000000)
    (hnb : fr.data.size ≤ 65536) (hmo : mo ≤ 65536) (hND : ND + 65536 ≤ 1099511627776) (hout : outD mo li T fr.data.data.toList = (l, 0, some T'))
    (hn : l.length ≤ 1048575) (hz : Tx l)
    (hck : ∀ (w : World) (A : Option Addr) (n c : Nat), Rd w w.heap.size 3 A n (fds (restH (gathF fourK Gt.none l).1.2)) → n ≤ 1048576 → Calls Tryz.prog 210 #[.slice A n c] w (fun e w' => ∃ v, e = .returned v ∧ OwnFds w (cookF (restH (gathF fourK Gt.none l).1.2)) v w'))
    (hR : (readF l).2 = 0) (hfl : (readF l).1.fields.length ≤ 1048576) (hfx : Tx (readF l).1.fields) (hsaid : (lenR (lenF (readF l).1.fields)).1 ≤ 0) :
    Calls Tryz.prog 135 #[.pointer (some ⟨p, 0, none⟩), frV fr] w (Left B w fun w' => ∃ v fv s N' f' k' G' ND', k' ≤ k + 1 ∧ f' 1 = some (some s) ∧
      All B w' (cConn p (pcC (hdC c 1) v) :: cBook g m all first (wputL L 1 0) :: cMap mLive c.live N' f' k' :: cRow 64 10 v (nn + 1) (xs ++ (hpAsk 1 (readF l).1 fv true).l) ::
        cRow 26 3 fv (readF l).1.fields.length (fds (readF l).1.fields) :: cBlk s (sideA (lenR (lenF (readF l).1.fields)).1 (lenR (lenF (readF l).1.fields)).2.1 (onF 0 true)) 140 :: cDec d G' ND' mo li T' false :: cs)) := by
  obtain ⟨W0, hW0⟩ : ∃ W0, w.alloc (.cells fr.cells 52) = W0 := ⟨_, rfl⟩
  have hA0 := new_blk h fr.cells 52
  have hB0 : Below B w W0 := by rw [← hW0]; exact (Below.refl _ _).alloc h.sz _
  obtain ⟨x, hx⟩ : ∃ x, w.heap.size = x := ⟨_, rfl⟩
  rw [hW0, hx] at hA0
  have HA0 := Lib.hid (hA0.pick [_])
  have HB0 := Lib.hid hB0
  have HX := Lib.hid hx
  have hxb : W0.heap[x]? = some (.cells fr.cells 52 (0, 0)) := hA0.head
  have HXB := Lib.hid (FrAt.of hxb)
  have HP : Hid (∀ w1, Below B w w1 → All B w1 (cConn p (hdC c 1) :: cRow 5 1 (hdC c 1).block 0 (bvs []) :: cDec d G ND mo li T false :: cBook g m all first L :: cMap mLive c.live N f k :: cRow 64 10 c.news nn xs :: cs) → _) := Lib.hid (fun w1 hb1 hA1 =>
    piece_any (l0 := []) fr w1 hA1 (.inl hfr) hde hbk hd hk (show (Lit.int .i64 1).wf = true by decide) (show (1 : Int) ≤ 1 by omega) hlast hL hlk hN hnn (by omega) hmo hND hout hn hz hck hR hfl hfx (.inr hsaid))
  have hpx : p ≠ x := fun e => by subst e; exact (List.pairwise_cons.1 HA0.out.apart).1 _ (List.mem_cons_self ..) p rfl rfl
  have HPX := Lib.hid hpx
  clear hA0 hB0 hx hxb h hde hbk hd hk hlast hL hlk hN hnn hnb hmo hND hout hn hz hck hR hfl hfx hsaid hpx
  obtain ⟨ty, fl, st, data, pad⟩ := fr
  dsimp only at hfr hst
  subst hfr hst
  unfold frV at HP ⊢
  simp only [Fr.cells] at hW0 HA0 HP ⊢
  have HW0 := Lib.hid hW0
  clear hW0
  go_enter Tryz.func135, Tryz.ntmps135
  go_upto_region 1 with fail
  refine wp_named ?_
  intro W3 hW3
  obtain rfl : W3 = W0 := hW3.trans HW0.out
  rw [HX.out]
  clear hW3
  obtain ⟨k0, k1, k2, k3, k4, k5, k6, k7, k8, k9, k10, k11, -⟩ := HXB.out
  simp only at k0 k1 k2 k3 k4 k5 k6 k7 k8 k9 k10 k11
  have f13 := HA0.out.cf 13
  have f14 := HA0.out.cf 14
  have f15 := HA0.out.cf 15
  have q13 := HA0.out.cc 13 c.block rfl
  have q14 := HA0.out.cc 14 (.int .i64 c.of_) rfl
  have q15 := HA0.out.cc 15 (.bool c.endOf) rfl
  go_upto_region 3 with fail
  go_region
  go_upto_region 4 with fail
  refine wp_named ?_
  intro W4 hW4
  have hbit : (bits BinOp.and IntKind.i64 5 1 != 0) = true := by kernel_rfl
  rw [hbit] at hW4
  obtain ⟨h1, b1⟩ := HA0.out.set 14 (.int .i64 1)
  obtain ⟨h2, b2⟩ := h1.set 15 (.bool true)
  obtain ⟨h3, b3⟩ := h2.set 13 (.slice none 0 0)
  have h4 := h3.drew
  rw [← hW4] at h4
  have hb4 : Below B w W4 := by rw [hW4]; exact (((HB0.out.trans b1).trans b2).trans b3).trans (by exact ⟨rfl, rfl, rfl, Nat.le_refl _, fun _ _ => rfl⟩)
  have e : ∀ j, W4.cell? ⟨x, j, none⟩ = W3.cell? ⟨x, j, none⟩ := fun j => by
    rw [hW4]
    exact ((World.cell?_setCell_far _ ⟨p, 13, none⟩ ⟨x, j, none⟩ _ HPX.out).trans (World.cell?_setCell_far _ ⟨p, 15, none⟩ ⟨x, j, none⟩ _ HPX.out)).trans (World.cell?_setCell_far _ ⟨p, 14, none⟩ ⟨x, j, none⟩ _ HPX.out)
  rw [← e] at k0 k1 k2 k3 k4 k5 k6 k7 k8 k9 k10 k11
  have h5 := ((h4.pick [_]).tail.nilrow 5 1).pick [_]
  have HPC := Lib.hid (HP.out W4 hb4 h5)
  have HB4 := Lib.hid hb4
  clear HP h1 h2 h3 h4 h5 b1 b2 b3 hb4 e hW4 f13 f14 f15 q13 q14 q15 hbit
  go_wp2_with fail
  refine HPC.out.mono ?_
  rintro e w9 ⟨rfl, hb9, hex⟩
  have H9 := Lib.hid (And.intro (HB4.out.trans hb9) hex)
  clear hb9 hex HPC
  go_wp2_with fail
  go_end0
  exact ⟨rfl, H9.out.1, H9.out.2⟩
end Go.Proofs.YtpkmciohehaboaaGreatDoor

/- The walk of conn.item where nothing is wrong. -/
namespace Go.Proofs.YtpkmciohehaboaaGreatDoor
open Go.RowKit Go.Maps

theorem fn_some (fn : Nat) (w : World) : (binOp BinOp.neq 188 (.func (.func fn) #[] #[]) .nilFunc).run Tryz.prog w = .ok (.bool true) w := by
  kernel_rfl
/-- An item's cells. -/
def imA (ty fl st : Nat) (data : ByteArray) (pad : Nat) : Array Value := #[.int .i64 ty, .int .i64 fl, .int .i64 st, .string data, .int .i64 pad, .slice none 0 0, .int .i64 0, .int .i64 0, .int .i64 0, .int .i64 0, .int .i64 0, .bool false, .bool false, .int .i64 0, .int .i64 0]
structure ImAt (w : World) (x : Nat) (ty fl st : Nat) (data : ByteArray) (pad : Nat) : Prop where
  c0 : w.cell? ⟨x, 0, none⟩ = some (.int .i64 ty)
  c1 : w.cell? ⟨x, 1, none⟩ = some (.int .i64 fl)
  c2 : w.cell? ⟨x, 2, none⟩ = some (.int .i64 st)
  c3 : w.cell? ⟨x, 3, none⟩ = some (.string data)
  c4 : w.cell? ⟨x, 4, none⟩ = some (.int .i64 pad)
  c5 : w.cell? ⟨x, 5, none⟩ = some (.slice none 0 0)
  c6 : w.cell? ⟨x, 6, none⟩ = some (.int .i64 0)
  c7 : w.cell? ⟨x, 7, none⟩ = some (.int .i64 0)
  c8 : w.cell? ⟨x, 8, none⟩ = some (.int .i64 0)
  c9 : w.cell? ⟨x, 9, none⟩ = some (.int .i64 0)
  c10 : w.cell? ⟨x, 10, none⟩ = some (.int .i64 0)
  c11 : w.cell? ⟨x, 11, none⟩ = some (.bool false)
  c12 : w.cell? ⟨x, 12, none⟩ = some (.bool false)
  c13 : w.cell? ⟨x, 13, none⟩ = some (.int .i64 0)
  c14 : w.cell? ⟨x, 14, none⟩ = some (.int .i64 0)
theorem ImAt.of {w : World} {x ty fl st pad : Nat} {data : ByteArray} (h : (cBlk x (imA ty fl st data pad) 130).P w) : ImAt w x ty fl st data pad := by
  have kx : w.heap[x]? = some (.cells (imA ty fl st data pad) 130 (0, 0)) := h
  refine ⟨?_, ?_, ?_, ?_, ?_, ?_, ?_, ?_, ?_, ?_, ?_, ?_, ?_, ?_, ?_⟩ <;> (unfold World.cell?; rw [kx]; rfl)
set_option maxRecDepth 100000 in
set_option maxHeartbeats 8000000 in
theorem item_any {B p fn : Nat} {c : Cv} {cs : List Comp} {Q : World → Prop} (fr : Fr) (w : World) (h : All B w (cConn p c :: cs)) (hty : fr.ty ≤ 255) (hway : wayN (fr.ty : Int) = some fn) (hfn : fn = 135 ∨ fn = 137 ∨ fn = 140 ∨ fn = 134)
    (hmis : ∀ w1, All B w1 (cConn p c :: cs) → Calls Tryz.prog 98 #[.pointer (some ⟨p, 0, none⟩), itV fr] w1 fun e w' => e = .returned (.bool false) ∧ Below w1.heap.size w1 w')
    (hdo : ∀ w1, All B w1 (cConn p { c with greeted := true } :: cs) → Calls Tryz.prog fn #[.pointer (some ⟨p, 0, none⟩), frV fr] w1 (Left B w1 Q))
    (hrest : ∀ w', Q w' → ∃ c' cs', All B w' (cConn p c' :: cs') ∧ c'.drained = false) :
    Calls Tryz.prog 60 #[.pointer (some ⟨p, 0, none⟩), itV fr] w (Left B w Q) := by
  have HA := Lib.hid h
  have HMIS := Lib.hid hmis
  have HDO := Lib.hid hdo
  have HRS := Lib.hid hrest
  have HWY := Lib.hid (fun w => connway_any fr.ty w hty)
  have HFN := Lib.hid hway
  have HFC := Lib.hid hfn
  clear h hmis hdo hrest hty hway hfn
  obtain ⟨ty, fl, st, data, pad⟩ := fr
  dsimp only at HWY HFN
  unfold frV itV Fr.cells at *
  dsimp only at HMIS HDO ⊢
  go_enter Tryz.func60, Tryz.ntmps60
  go_upto_region 6 with fail
  refine wp_named ?_
  intro W1 hW1
  have hA1 := new_blk (new_blk HA.out (imA ty fl st data pad) 130) #[.bool false, .int .i64 0, .int .i64 0] 128
  have hW1' : W1 = (w.alloc (.cells (imA ty fl st data pad) 130)).alloc (.cells #[.bool false, .int .i64 0, .int .i64 0] 128) := hW1
  rw [← hW1'] at hA1
  have hb1 : Below B w W1 := by rw [hW1]; exact (((Below.refl _ w).alloc HA.out.sz _).alloc (by simp; have := HA.out.sz; omega) _)
  obtain ⟨it, hit⟩ : ∃ it, w.heap.size = it := ⟨_, rfl⟩
  obtain ⟨fb, hfb⟩ : ∃ fb, (w.alloc (.cells (imA ty fl st data pad) 130)).heap.size = fb := ⟨_, rfl⟩
  have hfb' : it + 1 = fb := by rw [← hfb, ← hit]; simp
  rw [hit, hfb] at hA1
  rw [hit]
  try rw [hfb']
  have HA1 := Lib.hid hA1
  have HB1 := Lib.hid hb1
  clear hA1 hb1 hW1 hW1' hit hfb hfb'
  have hz0 : W1.heap[fb]? = some (.cells #[.bool false, .int .i64 0, .int .i64 0] 128 (0, 0)) := HA1.out.head
  have z0 : W1.cell? ⟨fb, 0, none⟩ = some (.bool false) := by unfold World.cell?; rw [hz0]; rfl
  obtain ⟨i0, i1, i2, i3, i4, i5, i6, i7, i8, i9, i10, i11, i12, i13, i14⟩ := ImAt.of (HA1.out.pick [_]).head
  clear hz0
  have hms := HMIS.out W1 HA1.out.tail.tail
  go_wp2_with fail
  refine hms.mono ?_
  rintro e w2 ⟨rfl, hb2⟩
  have HA2 := Lib.hid (HA1.out.below hb2)
  have HB2 := Lib.hid (HB1.out.trans (hb2.mono HA1.out.sz))
  clear hms hb2 z0 i0 i1 i2 i3 i4 i5 i6 i7 i8 i9 i10 i11 i12 i13 i14 HMIS
  have hz0 : w2.heap[fb]? = some (.cells #[.bool false, .int .i64 0, .int .i64 0] 128 (0, 0)) := HA2.out.head
  have z0 : w2.cell? ⟨fb, 0, none⟩ = some (.bool false) := by unfold World.cell?; rw [hz0]; rfl
  clear hz0
  have hcn : All B w2 (cConn p c :: _) := HA2.out.pick [_, _]
  have f16 := hcn.cf 16
  have q16 := hcn.cc 16 (.bool c.greeted) rfl
  go_upto_region 3 with fail
  refine wp_named ?_
  intro W3 hW3
  obtain ⟨hA3, hB3⟩ := hcn.set 16 (.bool true)
  rw [← hW3] at hA3 hB3
  have HA3 : Hid (All B W3 (cConn p { c with greeted := true } :: cBlk fb #[.bool false, .int .i64 0, .int .i64 0] 128 :: cBlk it (imA ty fl st data pad) 130 :: cs)) := Lib.hid hA3
  have HB3 := Lib.hid (HB2.out.trans hB3)
  clear hcn f16 q16 z0 hA3 hB3 hW3
  obtain ⟨i0, -⟩ := ImAt.of (HA3.out.pick [_, _]).head
  go_wp2_with fail
  refine (HWY.out _).mono ?_
  rw [HFN.out]
  rintro e w4 ⟨rfl, hb4⟩
  have HA4 := Lib.hid (HA3.out.below hb4)
  have HB4 := Lib.hid (HB3.out.trans (hb4.mono HA3.out.sz))
  clear hb4 i0
  obtain ⟨i0, i1, i2, i3, i4, i5, i6, i7, i8, i9, i10, i11, i12, i13, i14⟩ := ImAt.of (HA4.out.pick [_, _]).head
  have h5 := (((HA4.out.pick [_]).tail.pick [_]).tail)
  have hdo := HDO.out w4 h5
  clear h5
  unfold fnV
  have hne : (binOp BinOp.neq 188 (.func (.func fn) #[] #[]) .nilFunc).run Tryz.prog w4 = .ok (.bool true) w4 := fn_some fn w4
  rcases HFC.out with rfl | rfl | rfl | rfl
  all_goals
    go_wp2_with fail
    refine hdo.mono ?_
    rintro e w5 ⟨rfl, hb5, hQ⟩
    obtain ⟨c', cs', hA5, hd⟩ := HRS.out w5 hQ
    have HQ := Lib.hid hQ
    have HB5 := Lib.hid (HB4.out.trans hb5)
    have hr := rest_any w5 hA5 hd
    clear hdo hb5 hA5 hQ
    go_wp2_with fail
    refine hr.mono ?_
    rintro e w6 ⟨rfl, rfl⟩
    go_wp2_with fail
    go_end0
    exact ⟨rfl, HB5.out, HQ.out⟩
end Go.Proofs.YtpkmciohehaboaaGreatDoor

/- The walk of Conn.Take: the items, one by one. -/
namespace Go.Proofs.YtpkmciohehaboaaGreatDoor
open Go.RowKit Go.Maps

theorem itL_length (f : Fr) : (itL f).length = 15 := rfl
theorem itsL_length (fs : List (Fr × Bool)) : (itsL fs).length = fs.length * 15 := by
  induction fs with
  | nil => rfl
  | cons p fs ih => show (itL p.1 ++ itsL fs).length = _; rw [List.length_append, ih, itL_length, List.length_cons]; omega
theorem itsL_get {fs : List (Fr × Bool)} : ∀ {j : Nat} {p : Fr × Bool}, fs[j]? = some p → ∀ i, i < 15 → (itsL fs)[j * 15 + i]? = (itL p.1)[i]? := by
  induction fs with
  | nil => intro j p h; cases h
  | cons q fs ih =>
    intro j p h i hi
    show (itL q.1 ++ itsL fs)[j * 15 + i]? = _
    cases j with
    | zero =>
      obtain rfl : q = p := by simpa using h
      rw [Nat.zero_mul, Nat.zero_add, List.getElem?_append_left (by rw [itL_length]; exact hi)]
    | succ j =>
      rw [List.getElem?_append_right (by rw [itL_length]; omega), itL_length, show (j + 1) * 15 + i - 15 = j * 15 + i by omega]
      exact ih (by simpa using h) i hi
theorem it_at {w : World} {B n : Nat} {A : Option Addr} {fs : List (Fr × Bool)} (h : Rd w B 15 A n (itsL fs)) (hn : 0 < n) : fs.length = n ∧ ∃ b o, A = some ⟨b, o, none⟩ ∧ b < B ∧ ∀ j p, fs[j]? = some p → ∀ i, i < 15 → w.cell? ⟨b, o + j * 15 + i, none⟩ = (itL p.1)[i]? := by
  have hl := h.1
  rw [itsL_length] at hl
  obtain ⟨b, o, hA, hb, hc⟩ := h.2 hn
  refine ⟨by omega, b, o, hA, hb, fun j p hj i hi => ?_⟩
  have hjl := (List.getElem?_eq_some_iff.1 hj).1
  rw [Nat.add_assoc, hc (j * 15 + i) (by omega), itsL_get hj i hi]
/-- What holds before the item number k: the connection, the items beside; what is done with the next. -/
def TkOk (B p : Nat) (fs : List (Fr × Bool)) (V : Value) (J : Nat → World → Prop) (k : Nat) (w : World) : Prop :=
  ∃ c cs, All B w (cConn p c :: cRow 130 15 V fs.length (itsL fs) :: cs) ∧
    ((c.over = false ∧ ∀ f, fs[k]? = some f → ∀ w', Below w.heap.size w w' → Calls Tryz.prog 60 #[.pointer (some ⟨p, 0, none⟩), itV f.1] w' (Left B w' (J (k + 1)))) ∨
     (c.over = true ∧ (k < fs.length → ∀ w', Below w.heap.size w w' → J (k + 1) w')))
def CtRel (B : Nat) (w : World) (n : Nat) (J : Nat → World → Prop) (iv : Value) (wr : World) : Prop := ∃ k : Nat, iv = .int .i64 k ∧ k ≤ n ∧ J k wr ∧ Below B w wr
set_option maxRecDepth 100000 in
set_option maxHeartbeats 8000000 in
theorem ctake_any {B p x : Nat} {c : Cv} {cs : List Comp} (fs : List (Fr × Bool)) (J : Value → Nat → World → Prop) (bv : Value) (w : World) (h : All B w (cConn p c :: cs)) (hov : c.over = false) (hfd : c.feed = .pointer (some ⟨x, 0, none⟩)) (hfn : fs.length ≤ 1000000)
    (hJ : ∀ V k w, J V k w → TkOk B p fs V (J V) k w)
    (hfeed : ∀ w1, All B w1 (cConn p { c with news := .slice none 0 0 } :: cs) → Calls Tryz.prog 59 #[.pointer (some ⟨x, 0, none⟩), bv] w1 (fun e w' => ∃ V, e = .returned V ∧ J V 0 w' ∧ Below B w1 w')) :
    Calls Tryz.prog 19 #[.pointer (some ⟨p, 0, none⟩), bv] w (fun e w' => ∃ V c' cs', J V fs.length w' ∧ Below B w w' ∧ All B w' (cConn p c' :: cs') ∧ e = .returned c'.news) := by
  have HA := Lib.hid h
  have HJ := Lib.hid hJ
  have HFD := Lib.hid hfeed
  have HFP := Lib.hid hfd
  have q19 : w.cell? ⟨p, 19, none⟩ = some (.bool false) := by rw [← hov]; exact h.cc 19 (.bool c.over) rfl
  have f21 := h.cf 21
  have q21 := h.cc 21 c.news rfl
  clear h hJ hfeed hov hfd
  go_enter Tryz.func19, Tryz.ntmps19
  go_upto_region 4 with fail
  refine wp_named ?_
  intro W1 hW1
  obtain ⟨h1, b1⟩ := HA.out.set 21 (.slice none 0 0)
  rw [← hW1] at h1 b1
  have q4 : W1.cell? ⟨p, 4, none⟩ = some (.pointer (some ⟨x, 0, none⟩)) := by
    have h2 : All B W1 (cConn p { c with news := .slice none 0 0 } :: cs) := h1
    rw [← HFP.out]
    exact h2.cc 4 c.feed rfl
  have hfd := HFD.out W1 h1
  have HB1 := Lib.hid b1
  clear h1 b1 hW1 q19 f21 q21
  go_wp2_with fail
  refine hfd.mono ?_
  rintro e w2 ⟨V, rfl, hJ0, hb2⟩
  obtain ⟨c0, cs0, hA0, -⟩ := HJ.out V 0 w2 hJ0
  obtain ⟨A, cap, hV, hcap, hmx, -, -⟩ := own_slice ((hA0.pick [_]).head)
  subst hV
  have HB2 := Lib.hid (HB1.out.trans hb2)
  have H0 := Lib.hid hJ0
  clear hfd hA0 hJ0 hb2
  go_wp2_with fail
  go_loopw [25] (fun iv wr => CtRel B w fs.length (J (.slice A fs.length cap)) iv wr) (fun iv _ => fs.length - (intOf iv).toNat)
  case atStart => exact ⟨0, rfl, Nat.zero_le _, H0.out, HB2.out⟩
  case round =>
    obtain ⟨k, rfl, hk, hJk, hbk⟩ := hrel
    obtain ⟨c1, cs1, hA1, hcase⟩ := HJ.out _ k wr hJk
    have HB3 := Lib.hid hbk
    have HC := Lib.hid hcase
    have HA1 := Lib.hid hA1
    have HJK := Lib.hid hJk
    clear hcase hA1 hJk hbk
    by_cases hlt : k < fs.length
    · have n0 : (k : Int) < fs.length := by omega
      obtain ⟨-, b, o, hAe, hbl, hc⟩ := it_at (Rd.of_own ((HA1.out.pick [_]).head)) (by omega)
      subst hAe
      obtain ⟨f, hf⟩ : ∃ f, fs[k]? = some f := ⟨_, List.getElem?_eq_getElem hlt⟩
      have HFF := Lib.hid hf
      have hz : ∀ i, i < 15 → wr.cell? ⟨b, o + k * 15 + i, none⟩ = (itL f.1)[i]? := fun i hi => hc k f hf i hi
      obtain ⟨⟨ty, fl, st, data, pad⟩, pd⟩ := f
      obtain ⟨z0, z1, z2, z3, z4, z5, z6, z7, z8, z9, z10, z11, z12, z13, z14⟩ : wr.cell? ⟨b, o + k * 15, none⟩ = some (.int .i64 ty) ∧ wr.cell? ⟨b, o + k * 15 + 1, none⟩ = some (.int .i64 fl) ∧ wr.cell? ⟨b, o + k * 15 + 2, none⟩ = some (.int .i64 st) ∧ wr.cell? ⟨b, o + k * 15 + 3, none⟩ = some (.string data) ∧ wr.cell? ⟨b, o + k * 15 + 4, none⟩ = some (.int .i64 pad) ∧ wr.cell? ⟨b, o + k * 15 + 5, none⟩ = some (.slice none 0 0) ∧ wr.cell? ⟨b, o + k * 15 + 6, none⟩ = some (.int .i64 0) ∧ wr.cell? ⟨b, o + k * 15 + 7, none⟩ = some (.int .i64 0) ∧ wr.cell? ⟨b, o + k * 15 + 8, none⟩ = some (.int .i64 0) ∧ wr.cell? ⟨b, o + k * 15 + 9, none⟩ = some (.int .i64 0) ∧ wr.cell? ⟨b, o + k * 15 + 10, none⟩ = some (.int .i64 0) ∧ wr.cell? ⟨b, o + k * 15 + 11, none⟩ = some (.bool false) ∧ wr.cell? ⟨b, o + k * 15 + 12, none⟩ = some (.bool false) ∧ wr.cell? ⟨b, o + k * 15 + 13, none⟩ = some (.int .i64 0) ∧ wr.cell? ⟨b, o + k * 15 + 14, none⟩ = some (.int .i64 0) :=
        ⟨hz 0 (by omega), hz 1 (by omega), hz 2 (by omega), hz 3 (by omega), hz 4 (by omega), hz 5 (by omega), hz 6 (by omega), hz 7 (by omega), hz 8 (by omega), hz 9 (by omega), hz 10 (by omega), hz 11 (by omega), hz 12 (by omega), hz 13 (by omega), hz 14 (by omega)⟩
      clear hz hc hf
      go_upto_region 7 with fail
      refine wp_named ?_
      intro W2 hW2
      have hb2 : Below wr.heap.size wr W2 := by rw [hW2]; exact (Below.refl _ _).alloc (Nat.le_refl _) _
      have hA2 := new_blk HA1.out (imA ty fl st data pad) 130
      have hW2' : W2 = wr.alloc (.cells (imA ty fl st data pad) 130) := hW2
      rw [← hW2'] at hA2
      obtain ⟨ib, hib⟩ : ∃ ib, wr.heap.size = ib := ⟨_, rfl⟩
      rw [hib] at hA2 ⊢
      have HB4 := Lib.hid (HB3.out.trans (hb2.mono HA1.out.sz))
      have HB2W := Lib.hid hb2
      obtain ⟨i0, i1, i2, i3, i4, i5, i6, i7, i8, i9, i10, i11, i12, i13, i14⟩ := ImAt.of hA2.head
      have q19 : W2.cell? ⟨p, 19, none⟩ = some (.bool c1.over) := (hA2.pick [_]).cc 19 (.bool c1.over) rfl
      clear z0 z1 z2 z3 z4 z5 z6 z7 z8 z9 z10 z11 z12 z13 z14 hb2 hA2 hW2 hW2' hib
      rcases HC.out with ⟨ho, hcall⟩ | ⟨ho, hgo⟩
      · rw [ho] at q19
        have hcl := hcall _ HFF.out W2 HB2W.out
        unfold itV at hcl
        dsimp only at hcl
        clear hcall ho
        go_wp2_with fail
        refine hcl.mono ?_
        rintro e w3 ⟨rfl, hb3, hJ3⟩
        have HN : Hid (CtRel B w fs.length (J (.slice (some ⟨b, o, none⟩) fs.length cap)) (.int .i64 (k + 1 : Nat)) w3) := Lib.hid ⟨k + 1, rfl, hlt, hJ3, HB4.out.trans hb3⟩
        clear hcl hb3 hJ3 i0 i1 i2 i3 i4 i5 i6 i7 i8 i9 i10 i11 i12 i13 i14 q19
        go_wp2
        go_roundw
        case rel => exact HN.out
        case measure => simp [intOf]; omega
      · rw [ho] at q19
        have HN : Hid (CtRel B w fs.length (J (.slice (some ⟨b, o, none⟩) fs.length cap)) (.int .i64 (k + 1 : Nat)) W2) := Lib.hid ⟨k + 1, rfl, hlt, hgo hlt W2 HB2W.out, HB4.out⟩
        clear hgo ho
        go_wp2
        go_roundw
        case rel => exact HN.out
        case measure => simp [intOf]; omega
    · have hkn : k = fs.length := by omega
      subst hkn
      have q21 := HA1.out.cc 21 c1.news rfl
      go_wp2
      go_ret
      exact ⟨_, c1, _, HJK.out, HB3.out, HA1.out, rfl⟩
end Go.Proofs.YtpkmciohehaboaaGreatDoor

/- ref04.Find in an empty table inside the document's encoder (printed by gen_re1.py). -/
namespace Go.Proofs.YtpkmciohehaboaaGreatDoor
open Go.RowKit

set_option maxRecDepth 100000 in
set_option maxHeartbeats 4000000 in
theorem rfinde_any {g : Nat} (f : Rw) (nv : Bool) (w : World) (h : w.cell? ⟨g, 4, none⟩ = some (.slice none 0 0)) :
    Calls Tryz.prog 51 #[.pointer (some ⟨g, 3, none⟩), .agg #[.string f.1, .string f.2, .bool nv]] w (FindPost w (findA statF f)) := by
  obtain ⟨W0, hW0⟩ : ∃ W0, w.alloc (.cells #[.string f.1, .string f.2, .bool nv] 26) = W0 := ⟨_, rfl⟩
  obtain ⟨p, hp⟩ : ∃ p, w.heap.size = p := ⟨_, rfl⟩
  have b0 : Below w.heap.size w W0 := by rw [← hW0]; exact (Below.refl _ _).alloc (Nat.le_refl _) _
  have f0 : W0.cell? ⟨p, 0, none⟩ = some (.string f.1) := by rw [← hW0, ← hp]; exact World.cell?_alloc_at _ _ _ _ rfl
  have f1 : W0.cell? ⟨p, 1, none⟩ = some (.string f.2) := by rw [← hW0, ← hp]; exact World.cell?_alloc_at _ _ _ _ rfl
  have hpl : p < W0.heap.size := by rw [← hW0, ← hp]; simp
  obtain ⟨rows, hrows⟩ : ∃ rows : List Rw, rows = [] := ⟨_, rfl⟩
  have hl : rows.length ≤ 34359738368 := by rw [hrows]; simp
  obtain ⟨A, hA⟩ : ∃ A : Option Addr, A = none := ⟨_, rfl⟩
  obtain ⟨c, hc0⟩ : ∃ c : Nat, c = 0 := ⟨_, rfl⟩
  have c1 : W0.cell? ⟨g, 4, none⟩ = some (.slice A rows.length c) := by rw [hA, hrows, hc0, ← hW0]; exact (World.cell?_alloc_lt _ _ _ (World.block_lt_of_cell? w ⟨g, 4, none⟩ h)).trans h
  have HRD : Hid (Rd W0 W0.heap.size 3 A rows.length (fcs rows.reverse)) := Lib.hid (by rw [hrows]; exact ⟨rfl, fun h => absurd h (Nat.lt_irrefl 0)⟩)
  have hgl : g < W0.heap.size := Nat.lt_of_lt_of_le (World.block_lt_of_cell? w ⟨g, 4, none⟩ h) b0.size
  have hrev : statF = statF ++ rows.reverse := by rw [hrows]; simp
  rw [hrev]
  obtain ⟨L, hL⟩ : ∃ L, statF ++ rows.reverse = L := ⟨_, rfl⟩
  have hLl : L.length = 61 + rows.length := by rw [← hL]; simp [statF_length]
  have HL := Lib.hid hL
  have HLL := Lib.hid hLl
  have HB0 := Lib.hid b0
  have HW0 := Lib.hid hW0
  have HP := Lib.hid hp
  have HZ := Lib.hid (And.intro f0 f1)
  rw [hL]
  clear hW0 hp b0 h hL hLl f0 f1 hA hrows hc0 hrev
  go_enter Tryz.func51, Tryz.ntmps51
  go_upto_region 2 with fail
  rw [HW0.out, HP.out]
  go_cut [6] (fun v wx => FndMid W0 L v wx)
  case first =>
    go_region_held3 (fun w' => w'.cell? ⟨g, 4, none⟩ = some (.slice A rows.length c))
      (first | go_keep | exact k0)
      (first
        | (go_at_call 87; refine (static_any _).mono ?_; rintro e w1 ⟨rfl, rfl⟩)
        | (refine step_app (.tmp 9) (.tmp 13) tFields rfl rfl (own_stat W0) rfl (HRD.out.alloc (Nat.le_refl _) _) rfl (fcs_one _) (le_maxLen (by omega)) (by omega) (by simp) ?_; intro v4 w4 hown4 hg4 hb4; obtain ⟨A4, c4, rfl, -, -, hrd4, -⟩ := own_slice hown4; have k0 : w4.cell? ⟨g, 4, none⟩ = some (.slice A rows.length c) := (World.cell?_of_block (a := ⟨g, 4, none⟩) ((hg4.block g (by simp; omega) (by simp [Value.ownBlock]; omega)).trans (Below.heap_alloc W0 _ g hgl))).trans c1; have H4 := Lib.hid (And.intro hown4 (And.intro hg4 hrd4)); clear hown4 hg4 hrd4 hb4))
    all_goals
      go_wp2_with fail
      go_meet
      obtain ⟨hown4, hg4, hrd4⟩ := H4.out
      have hlen : 61 + rows.length = L.length := HLL.out.symm
      rw [← fcs_app, HL.out, hlen] at hrd4
      rw [hlen]
      exact ⟨A4, c4, rfl, hrd4, (((Below.refl _ _).alloc (Nat.le_refl _) _).drew).grown hg4 (by simp [World.drew]) (fun k hk => by simp [Value.ownBlock] at hk; omega)⟩
  case rest =>
    obtain ⟨A4, c4, rfl, hrd, hbel⟩ := hcut
    have f0 := (hbel.cell (p := ⟨p, 0, none⟩) hpl).trans HZ.out.1
    have f1 := (hbel.cell (p := ⟨p, 1, none⟩) hpl).trans HZ.out.2
    have hplc : p < wc.heap.size := Nat.lt_of_lt_of_le hpl hbel.size
    have hll : L.length ≤ 34359738429 := by have := HLL.out; omega
    have HR := Lib.hid hrd
    have HBW := Lib.hid (HB0.out.trans (hbel.mono HB0.out.size))
    have hszw := HBW.out.size
    have HF0 := Lib.hid f0
    have HF1 := Lib.hid f1
    clear hrd hbel c1 hgl HRD hpl f0 f1
    go_wp2
    go_loopw [7, 8] (fun n i wr => RFndRel wc L f n i wr) (fun _ i _ => L.length - (intOf i).toNat)
    case atStart => exact ⟨0, rfl, rfl, by omega, fun j r h => by omega, Below.refl _ _⟩
    case round =>
      obtain ⟨k, rfl, rfl, hk, hall, hbr⟩ := hrel
      have HA := Lib.hid hall
      have HBR := Lib.hid hbr
      have hsr := hbr.size
      have f0 := (hbr.cell (p := ⟨p, 0, none⟩) hplc).trans HF0.out
      have f1 := (hbr.cell (p := ⟨p, 1, none⟩) hplc).trans HF1.out
      have HE : Hid (∀ w', Below wc.heap.size wc w' → Below w.heap.size w w') := Lib.hid fun w' hb => HBW.out.trans (hb.mono hszw)
      clear hall hbr
      by_cases hlt : k < L.length
      · obtain ⟨r, hr⟩ : ∃ r, L[k]? = some r := ⟨_, List.getElem?_eq_getElem hlt⟩
        obtain ⟨b, o, rfl, hb, hc⟩ := (HR.out.below (B0 := wc.heap.size) HBR.out (Nat.le_refl _)).2 (by omega)
        have e := fcs_get hr
        have q0 : wr.cell? ⟨b, o + k * 3, none⟩ = some (.string r.1) := (hc (k * 3) (by omega)).trans e.1
        have q1 : wr.cell? ⟨b, o + k * 3 + 1, none⟩ = some (.string r.2) := (hc (k * 3 + 1) (by omega)).trans e.2.1
        have n1 : (k : Int) < L.length := by omega
        have HNS := Lib.hid (nearA_succ (nm := f.1) hr)
        have HRK := Lib.hid hr
        have hnb : nearA (L.take k) f.1 ≤ L.length := Nat.le_trans (nearA_le _ _) (by rw [List.length_take]; omega)
        obtain ⟨na, hna⟩ : ∃ na, nearA (L.take k) f.1 = na := ⟨_, rfl⟩
        have HNA := Lib.hid hna
        rw [hna] at hnb
        rw [hna]
        clear hc e hr hna
        obtain ⟨ra, rb⟩ := r
        obtain ⟨fa, fb⟩ := f
        simp only at q0 q1 f0 f1
        by_cases hn : ra = fa
        · subst hn
          by_cases hv : rb = fb
          · subst hv
            have HFA := Lib.hid (findA_stat HRK.out HA.out)
            go_wp2
            go_quiet (fail)
            go_wp2
            go_quiet (fail)
            go_wp2
            go_ret2
            rw [HFA.out]
            exact ⟨rfl, HE.out _ (below_dN HBR.out _)⟩
          · have ev : (rb.toList == fb.toList) = false := (Lib.bytes_beq_false_iff rb fb).2 hv
            have HV : Hid ((ra, rb) ≠ (ra, fb)) := Lib.hid fun e => hv (by injection e)
            clear hv
            by_cases hz : na = 0
            · subst hz
              go_wp2
              go_quiet (fail)
              go_wp2
              go_quiet (fail)
              go_wp2
              go_roundw
              case rel => exact ⟨k + 1, by go_num, by rw [HNS.out, HNA.out, if_pos rfl, if_pos trivial]; go_num, by omega, fun j r hj hr => by
                  rcases Nat.lt_succ_iff_lt_or_eq.1 hj with h | h
                  · exact HA.out j r h hr
                  · subst h; rw [HRK.out] at hr; injection hr with hr; rw [← hr]; exact HV.out, below_dN HBR.out _⟩
              case measure => simp [intOf]; omega
            · have ez : ((na : Int) == 0) = false := by rw [beq_eq_false_iff_ne]; omega
              have HZ0 := Lib.hid hz
              clear hz
              go_wp2
              go_quiet (fail)
              go_wp2
              go_quiet (fail)
              go_wp2
              go_roundw
              case rel => exact ⟨k + 1, by go_num, by rw [HNS.out, HNA.out, if_neg HZ0.out], by omega, fun j r hj hr => by
                  rcases Nat.lt_succ_iff_lt_or_eq.1 hj with h | h
                  · exact HA.out j r h hr
                  · subst h; rw [HRK.out] at hr; injection hr with hr; rw [← hr]; exact HV.out, below_dN HBR.out _⟩
              case measure => simp [intOf]; omega
        · have en : (ra.toList == fa.toList) = false := (Lib.bytes_beq_false_iff ra fa).2 hn
          have HN := Lib.hid hn
          clear hn
          go_wp2
          go_quiet (fail)
          go_wp2
          go_roundw
          case rel => exact ⟨k + 1, by go_num, by rw [HNS.out, HNA.out, if_neg HN.out]; split <;> simp_all, by omega, fun j r hj hr => by
              rcases Nat.lt_succ_iff_lt_or_eq.1 hj with h | h
              · exact HA.out j r h hr
              · subst h; rw [HRK.out] at hr; injection hr with hr; rw [← hr]; exact fun e => HN.out (by injection e), below_dN HBR.out _⟩
          case measure => simp [intOf]; omega
      · obtain rfl : k = L.length := by omega
        have HNO := Lib.hid (findA_none HA.out)
        rw [List.take_length]
        go_wp2
        go_ret2
        rw [HNO.out]
        exact ⟨rfl, HE.out _ HBR.out⟩
end Go.Proofs.YtpkmciohehaboaaGreatDoor
