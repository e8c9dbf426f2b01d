/- Part 27 of the proof. -/
import Derived.Test.YtpkmciohehaboaaGreatDoorK0
import Derived.Test.YtpkmciohehaboaaGreatDoorK26
import Derived.Laws.StructEq
import Derived.Test.YtpkmciohehaboaaGreatDoorK20
import Derived.Test.YtpkmciohehaboaaGreatDoorK25
import Derived.Handed
import Derived.LaidMore
import Derived.LaidLaws
import Derived.Lay
import Derived.Stop.Joined
set_option maxRecDepth 100000
set_option maxHeartbeats 100000000
set_option linter.unusedVariables false
set_option linter.unusedSimpArgs false
set_option linter.unusedSectionVars false
set_option linter.unnecessarySimpa false
namespace Go.Proofs.YtpkmciohehaboaaGreatDoor
section
open Go.RowKit Go.Maps
theorem ad4 (a b:ByteArray) (c:Bool) (w:World):(Op.equalIn 10000 26 (.agg #[.string a,.string b,.bool c]) (.agg #[.string a,.string b,.bool c])).run Tryz.prog w = .ok true w:=by
 have hS:Tryz.prog.underlying 26=some (.struct (Tryz.prog.fieldsOf 26)):=by kernel_rfl
 have hp:Tryz.prog.stoodInHeld 26=false:=by kernel_rfl
 have us:=Tryz.underlying9
 have ub:=Tryz.underlying4
 rw[show (10000:Nat)=9999+1 from rfl,run_equalIn_agg w 9999 26 _ _ hS hp]
 simp only[Program.fieldsOf,Tryz.underlying26]
 go_simp
theorem af5 (a b:ByteArray) (c:Bool) (w:World):(binOp BinOp.neq 26 (.agg #[.string a,.string b,.bool c]) (.agg #[.string a,.string b,.bool c])).run Tryz.prog w = .ok (.bool false) w:=by
 rw[run_neq_struct,ad4]
 rfl
def WU (W:World) (n:Nat) (iv:Value) (wr:World):Prop:=∃k:Nat,iv = .int .i64 k∧k≤n∧Below W.heap.size W wr
theorem aif {A1 A2:Option Addr}{n c1 c2:Nat}(a:gW) (w:World) (h1:Rd w w.heap.size 3 A1 n (fds a.fields)) (h2:Rd w w.heap.size 3 A2 n (fds a.fields)) (hn:n≤1048576) :
 Calls Tryz.prog 27 #[mP a (.slice A1 n c1),mP a (.slice A2 n c2)] w fun e w'=>e = .returned (.bool true)∧Below w.heap.size w w':=by
 obtain⟨m,t,l,b⟩:=a
 dsimp only at h1 h2
 have bf:l.length=n:=by have:=h1.1;rw[jJ] at this;omega
 have dX:=af bf
 have HR:=af (And.intro h1 h2)
 obtain⟨W,hW⟩:∃W,(w.alloc (.cells #[.string m,.string t,.slice A1 n c1,.string b] 68)).alloc (.cells #[.string m,.string t,.slice A2 n c2,.string b] 68)=W:=⟨_,rfl⟩
 obtain⟨q,hq⟩:∃q,w.heap.size=q:=⟨_,rfl⟩
 have hbW:Below w.heap.size w W:=by rw[←hW];exact ((Below.refl _ _).alloc (ah _) _).alloc (by simp) _
 have iO:W.heap[q]?=some (.cells #[.string m,.string t,.slice A1 n c1,.string b] 68 (0,0)):=by
  rw[←hW,←hq]
  exact (Below.heap_alloc _ _ _ (by simp)).trans (aZ _ _)
 have hk2:W.heap[q+1]?=some (.cells #[.string m,.string t,.slice A2 n c2,.string b] 68 (0,0)):=by
  have h:=aZ (w.alloc (.cells #[.string m,.string t,.slice A1 n c1,.string b] 68)) (.cells #[.string m,.string t,.slice A2 n c2,.string b] 68)
  rw[World.size_alloc,hq,hW] at h
  exact h
 have Cq:W.heap.size=q+2:=by rw[←hW,←hq];simp
 have HK:=af (And.intro iO (And.intro hk2 Cq))
 have iD:=af hbW
 have HW:=af (And.intro hW hq)
 unfold mP
 dsimp only
 have hcell:∀wr,Below W.heap.size W wr→(wr.cell? ⟨q,0,none⟩=some (.string m)∧wr.cell? ⟨q,1,none⟩=some (.string t)∧wr.cell? ⟨q,2,none⟩=some (.slice A1 n c1)∧wr.cell? ⟨q,3,none⟩=some (.string b))∧(wr.cell? ⟨q+1,0,none⟩=some (.string m)∧wr.cell? ⟨q+1,1,none⟩=some (.string t)∧wr.cell? ⟨q+1,2,none⟩=some (.slice A2 n c2)∧wr.cell? ⟨q+1,3,none⟩=some (.string b)):=by
  intro wr hb
  have g1:=(hb.block q (by omega)).trans iO
  have g2:=(hb.block (q+1) (by omega)).trans hk2
  refine⟨⟨?_,?_,?_,?_⟩,⟨?_,?_,?_,?_⟩⟩ <;> (unfold World.cell?;first | (rw[g1];rfl) | (rw[g2];rfl))
 have HC:=af hcell
 obtain⟨⟨a0,a1,a2,a3⟩,⟨b0,b1,b2,b3⟩⟩:=hcell W (Below.refl _ _)
 clear h1 h2 bf hbW iO hk2 Cq hcell hW
 go_enter Tryz.func27,Tryz.ntmps27
 go_upto_region 1 with fail
 try rw[hq]
 rw[HW.out.1]
 clear hq
 go_wp2_with fail
 clear a0 a1 a2 a3 b0 b1 b2 b3
 go_loopw [5] (fun iv wr=>WU W n iv wr) (fun iv _=>n-(intOf iv).toNat)
 case atStart=>exact⟨0,rfl,aL _,Below.refl _ _⟩
 case round=>
  obtain⟨k,rfl,hk,hb⟩:=hrel
  obtain⟨⟨-,-,a2,-⟩,⟨-,-,b2,-⟩⟩:=HC.out wr hb
  have HB:=af hb
  clear hb
  by_cases hlt:k<n
  ·have aY:Below w.heap.size w wr:=iD.out.trans (HB.out.mono iD.out.size)
   obtain⟨-,x1,o1,rfl,-,hc1⟩:=mE (HR.out.1.below aY (ah _)) (by omega)
   obtain⟨-,x2,o2,rfl,-,hc2⟩:=mE (HR.out.2.below aY (ah _)) (by omega)
   obtain⟨f,hf⟩:∃f,l[k]?=some f:=⟨_,a_ (by have:=dX.out;omega)⟩
   obtain⟨z0,z1,z2⟩:=hc1 k f hf
   obtain⟨y0,y1,y2⟩:=hc2 k f hf
   have n0:(k:Int)<n:=by omega
   have HN:Hid (∀d,WU W n (.int .i64 (k+1:Nat)) (wr.drewN d)):=af (fun d=>⟨k+1,rfl,hlt,tN HB.out d⟩)
   obtain⟨⟨nm,vl⟩,nv⟩:=f
   simp only at z0 z1 z2 y0 y1 y2
   have hne:=af5 nm vl nv
   clear hc1 hc2 hf aY
   go_wp2
   go_quiet (fail)
   go_wp2
   go_roundw
   case rel=>exact HN.out _
   case measure=>simp[intOf];omega
  ·have hkn:k=n:=by omega
   subst hkn
   go_wp2
   go_ret
   exact⟨rfl,iD.out.trans (HB.out.mono iD.out.size)⟩
end
section
open Go.RowKit
def ab2 (w:World) (n:Nat) (l:List Fd) (jv:Value) (wr:World):Prop:=∃k d:Nat,jv = .int .i64 k∧k≤n∧wr=w.drewN d∧Da (l.take k)=true
theorem ahr {A:Option Addr}{B n c:Nat}{l:List Fd}(w:World) (hr:Rd w B 3 A n (fds l)) (hn:n≤140737488351232) (hz:∀f ∈ l,f.1.1.size≤140737488351232∧f.1.2.size≤140737488351232) :
 Calls Tryz.prog 14 #[.slice A n c] w fun e w'=>e = .returned (.bool (Da l))∧∃d,w'=w.drewN d:=by
 have H1:=af hr
 have HZ:=af hz
 clear hr hz
 go_enter Tryz.func14,Tryz.ntmps14
 go_wp2
 go_loopw [3] (fun jv wr=>ab2 w n l jv wr) (fun jv _=>n-(intOf jv).toNat)
 case atStart=>exact⟨0,0,rfl,aL _,rfl,rfl⟩
 case round=>
  obtain⟨k,d,rfl,hk,rfl,hs⟩:=hrel
  have HS:=af hs
  clear hs
  by_cases hlt:k<n
  ·obtain⟨hl,b,o,rfl,hb,hc⟩:=mE H1.out (by omega)
   obtain⟨f,hf⟩:∃f,l[k]?=some f:=⟨_,a_ (by omega)⟩
   obtain⟨q0,q1,q2⟩:=hc k f hf
   have z0:∀d,(w.drewN d).cell? ⟨b,o+k*3,none⟩=some (.string f.1.1):=fun _=>q0
   have z1:∀d,(w.drewN d).cell? ⟨b,o+k*3+1,none⟩=some (.string f.1.2):=fun _=>q1
   obtain⟨s1,s2⟩:=HZ.out f (fq hf)
   have n1:(k:Int)<n:=by omega
   have HT:Hid (f.1.1.size≤4096→f.1.2.size≤4096→Da (l.take (k+1))=true):=af fun a b=>by
    unfold Da at HS ⊢
    rw[iw,hf,iL,List.all_append,HS.out]
    simp[a,b]
   have HN:Hid (¬(f.1.1.size≤4096∧f.1.2.size≤4096)→Da l=false):=af fun h=>by
    cases hb:Da l with
    | false=>rfl
    | true=>exact absurd (aaE hb f (fq hf)) h
   clear hc hf hl
   obtain⟨a,ha⟩:∃a,f.1.1.size=a:=⟨_,rfl⟩
   obtain⟨a',ha'⟩:∃a',f.1.2.size=a':=⟨_,rfl⟩
   rw[ha,ha'] at HT HN
   by_cases h1:a≤4096
   ·by_cases h2:a'≤4096
    ·go_wp2
     go_roundw
     case rel=>exact⟨k+1,_,by go_num,by omega,rfl,HT.out h1 h2⟩
     case measure=>simp[intOf];omega
    ·go_wp2
     go_ret
     exact⟨by rw[HN.out (by omega)];rfl,_,rfl⟩
   ·go_wp2
    go_ret
    exact⟨by rw[HN.out (by omega)];rfl,_,rfl⟩
  ·obtain rfl:k=n:=by omega
   have hl:=H1.out.1
   rw[jJ] at hl
   have HT:Hid (Da l=true):=af (by have:=HS.out;rwa [cB (by omega)] at this)
   clear hl
   go_wp2
   go_ret
   exact⟨by rw[HT.out];rfl,_,rfl⟩
end
section
open Go.RowKit Go.Maps
theorem aiB (A:Option Addr) (nb cap a:Nat) (ha:a≤cap):∀w,(Instr.slice 48 (.slice A nb cap) none (some (.int .i64 (a:Int))) none).run Tryz.prog w = .ok (.slice A a cap) w:=by
 intro w
 rw[run_slice_h (P:=Tryz.prog) (w:=w) 48 A nb cap Tryz.underlying48 .i64 (a:Int) (by omega) (by omega)]
 simp only[Cb]
 have hs:∀w,(sizeOf (Tryz.prog.elem 48)).run Tryz.prog w = .ok 1 w:=fun _=>by kernel_rfl
 rw[hs]
 cases A <;> simp[Result.andThen,sliced,Addr.add]
theorem aiA (A:Option Addr) (nb cap a:Nat) (ha:a≤nb):∃A',A'=(if cap=a then A else A.map (·.add a))∧∀w,(Instr.slice 48 (.slice A nb cap) (some (.int .i64 (a:Int))) none none).run Tryz.prog w = .ok (.slice A' (nb-a) (cap-a)) w:=by
 refine⟨_,rfl,fun w=>?_⟩
 rw[run_slice_l (P:=Tryz.prog) (w:=w) 48 A nb cap Tryz.underlying48 .i64 (a:Int) (by omega) (by omega)]
 simp only[Cb]
 have hs:∀w,(sizeOf (Tryz.prog.elem 48)).run Tryz.prog w = .ok 1 w:=fun _=>by kernel_rfl
 rw[hs]
 simp[Result.andThen,sliced]
theorem Rd.from_ {w:World}{B nb cap a:Nat}{A A':Option Addr}{b:List UInt8}(h:Rd w B 1 A nb (ak b)) (ha:a≤nb) (hc:nb≤cap) (hA':A'=(if cap=a then A else A.map (·.add a))):Rd w B 1 A' (nb-a) (ak (b.drop a)):=by
 have h1:=h.piece (lo:=a) (hi:=nb) ha (ah _) hc
 rw[Nat.mul_one,←hA'] at h1
 have e:((ak b).drop a).take ((nb-a)*1)=ak (b.drop a):=by
  have hl:=h.mR
  unfold ak
  rw[←List.map_drop,cB (by simp;omega)]
 rwa [e] at h1
theorem Rd.upto {w:World}{B nb a:Nat}{A:Option Addr}{b:List UInt8}(h:Rd w B 1 A nb (ak b)) (ha:a≤nb):Rd w B 1 A a (ak (b.take a)):=by
 have hl:=h.mR
 refine⟨by rw[tO,kS];omega,fun h0=>?_⟩
 obtain⟨b',o',e,hb,hc⟩:=h.2 (by omega)
 refine⟨b',o',e,hb,fun j hj=>?_⟩
 rw[hc j (by omega)]
 unfold ak
 rw[List.map_take,List.getElem?_take_of_lt (by omega)]
def cAny (e:Nat):dx where
 F:=fun b=>b=e
 P:=fun w=>e<w.heap.size
 lt:=fun _ h b hb=>by subst hb;exact h
 loc:=fun w w' hk h=>by
  have h1:=hk e rfl
  rw[Array.getElem?_eq_getElem h] at h1
  exact (Array.getElem?_eq_some_iff.1 h1).1
def mY (b1 b2 body:ByteArray):List Fr:=[l6 b1,lW b2,bL body]
def Gd (f:Fr):List Value:=f.cells.toList
theorem aeu (b1 b2 body:ByteArray) (k:Nat) (hk:k<3):∃f,(mY b1 b2 body)[k]?=some f:=by
 match k,hk with
 | 0,_=>exact⟨_,rfl⟩
 | 1,_=>exact⟨_,rfl⟩
 | 2,_=>exact⟨_,rfl⟩
theorem OI (f:Fr):(Gd f).length=12:=rfl
theorem aet {fs:List Fr}:∀{j:Nat}{p:Fr},fs[j]?=some p→∀i,i<12→(fs.flatMap Gd)[j*12+i]?=(Gd p)[i]?:=by
 induction fs with
 | nil=>intro j p h;cases h
 | cons q fs ih=>
  intro j p h i hi
  rw[List.flatMap_cons]
  cases j with
  | zero=>
   obtain rfl:q=p:=by simpa using h
   rw[Nat.zero_mul,mh,vT (by rw[OI];exact hi)]
  | succ j=>
   rw[kF (by rw[OI];omega),OI,show (j+1)*12+i-12=j*12+i by omega]
   exact ih (by simpa using h) i hi
def Nq (B:Nat) (w:World) (b1 b2 body:ByteArray) (cs:List dx) (ov iv:Value) (wr:World):Prop:=∃k:Nat,iv = .int .i64 k∧k≤3 ∧
 All B wr (aD 5 1 ov (((mY b1 b2 body).take k).flatMap fun f=>bD f false).length (ak (((mY b1 b2 body).take k).flatMap fun f=>bD f false)) :: cs)∧Below B w wr
theorem ajh {A:Option Addr}{n c:Nat}{l:List Fd}(body:ByteArray) (cut:Nat) (w:World) (hl:Rd w w.heap.size 3 A n (fds l)) (hn:n≤140737488351232) (hz:Tx l) (hcut:cut≤255) :
 Calls Tryz.prog 4 #[.slice A n c,.string body,.int .u8 (cut:Int)] w fun e w'=>e = .returned (.bool true)∧Below w.heap.size w w':=by
 have bf:l.length=n:=by have:=hl.1;rw[jJ] at this;omega
 obtain⟨B,hB⟩:∃B,w.heap.size=B:=⟨_,rfl⟩
 have HM:=af (afJ w)
 have yt:=af (fun (w1:World) (h:Rd w1 w.heap.size 3 A n (fds l))=>ac6 (c:=c) w1 h hn hz)
 have kQ:=af (fun (w1:World) (h:Rd w1 w.heap.size 3 A n (fds l))=>ahr (c:=c) w1 h hn hz)
 have HL:=af (fun (w1:World) (h:Below B w w1)=>(show Rd w1 B 3 A n (fds l) from by have h2:=hl.below (h.mono (by omega)) (ah _);rw[hB] at h2;exact h2))
 have dX:=af bf
 have HQ:=af hB
 clear hl bf hn
 rw[hB] at HM yt kQ ⊢
 clear hB
 go_enter Tryz.func4,Tryz.ntmps4
 go_wp2_with fail
 refine HM.out.mono ?_
 rintro e w1 ⟨rfl,hb1⟩
 have bH:=af hb1
 clear hb1 HM
 go_wp2_with fail
 refine (yt.out w1 (HL.out _ bH.out)).mono ?_
 rintro e w2 ⟨rfl,dd,hw2⟩
 have hb2:Below B w w2:=by rw[hw2];exact bH.out.trans (by exact⟨rfl,rfl,rfl,ah _,fun _ _=>rfl⟩)
 have aI:=af hb2
 clear hw2 hb2 yt
 by_cases hby : 10000<xw l
 ·have t1:((xw l:Nat):Int) > 10000:=by omega
  go_wp2_with fail
  go_ret
  exact⟨rfl,aI.out⟩
 have t1:¬((xw l:Nat):Int) > 10000:=by omega
 obtain⟨z,hzz⟩:∃z,body.size=z:=⟨_,rfl⟩
 by_cases hbz : 10000<z
 ·have t2:((body.size:Nat):Int) > 10000:=by omega
  go_wp2_with fail
  go_ret
  exact⟨rfl,aI.out⟩
 have t2:¬((body.size:Nat):Int) > 10000:=by omega
 have hs:jZ l≤10000:=by rw[←ac5 (by omega)];omega
 have hnn:n≤1000:=by have:=M0 l;have:=dX.out;omega
 go_wp2_with fail
 refine (kQ.out w2 (HL.out _ aI.out)).mono ?_
 rintro e w3 ⟨rfl,dd,hw3⟩
 have hb3:Below B w w3:=by rw[hw3];exact aI.out.trans (by exact⟨rfl,rfl,rfl,ah _,fun _ _=>rfl⟩)
 have aM:=af hb3
 clear hw3 hb3 kQ
 cases hsh:Da l with
 | false=>
  go_wp2_with fail
  go_ret
  exact⟨rfl,aM.out⟩
 | true=>
 have Gr:=aaE hsh
 have oL:=af Gr
 have HS:=af hs
 have hbody:body.size≤10000:=by omega
 have HZZ:=af hzz
 clear hsh Gr hs hby hbz hzz
 have HN:=af (Zz 2 65535 4096 65536 w3 (by omega) (by omega) (by omega) (by omega) (by omega) (by omega) (by omega) (by omega))
 go_wp2_with fail
 refine HN.out.mono ?_
 clear t1 t2
 rintro e w4 ⟨p,cc,x,d,G,g,m,nb,xs,rfl,hb4,dN,hnb,h0,h1,qb,mG,hbk,oW,Gu,hgr,hdr,lD,hcl⟩
 have HC:=af (And.intro h0 (And.intro h1 (And.intro qb (And.intro mG (And.intro hbk (And.intro hdr (And.intro Gu (And.intro oW (And.intro lD (And.intro hgr (And.intro hcl hnb)))))))))))
 have gP:B≤w3.heap.size:=by have:=HQ.out;have:=aM.out.size;omega
 have aX:=af (show All B w4 _ from ⟨dN.here,dN.apart,fun c hc b hF=>gM gP (dN.base c hc b hF),gM gP dN.sz⟩)
 have dz:=af (aM.out.trans (hb4.mono gP))
 clear dN hb4 h0 h1 qb mG hbk oW Gu hgr hdr lD hcl hnb HN
 go_wp2_with fail
 refine (aal w4).mono ?_
 rintro e w5 ⟨rfl,zf,aT⟩
 obtain⟨en,hen⟩:∃en,w4.heap.size=en:=⟨_,rfl⟩
 rw[hen] at zf ⊢
 have iN:All B w5 (bg en #[.int .i64 0,.int .i64 4096,.int .i64 0,.int .i64 0,.slice none 0 0] 113 :: _):=aX.out.new aT zf (fun b hb=>by subst hb;omega)
 have bT:=af iN
 have eG:=af (dz.out.trans (aT.mono aX.out.sz))
 have HEN:Hid (∀a,A=some a→0<n→a.block≠en):=af (fun a ha h0 e=>by
  obtain⟨b',o',e',hb',-⟩:=(HL.out _ dz.out).2 (by have:=(HL.out _ dz.out).1;omega)
  rw[ha] at e'
  injection e' with e'
  have:=aX.out.sz
  rw[e'] at e
  have e2:b'=en:=e
  omega)
 clear iN aT hen
 have HRE:=af (aak (c:=c) l w5 zf ((HL.out _ eG.out).more (by have:=bT.out.sz;omega)) (fun h0 a ha=>HEN.out a ha h0) (by omega) (fun f hf=>by have:=oL.out f hf;omega))
 clear zf
 go_wp2_with fail
 refine HRE.out.mono ?_
 rintro e w6 ⟨bv,rfl,sD,hkb⟩
 obtain⟨Ab,cb,rfl,Mj,hmxb,-,-⟩:=aC sD
 have iy:=bT.out.KH (c':=cAny en) (d:=aD 5 1 (.slice Ab (E0.run l).1.length cb) (E0.run l).1.length (ak (E0.run l).1)) hkb (fun b hb=>.inl hb) (show en<w6.heap.size from fI (Array.getElem?_eq_some_iff.1 (show w5.heap[en]?=some _ from bT.out.head)).1 hkb.size) (IQ sD (aL _)) (fun b hF=>(World.ownsRow.lt sD b hF).1) (fun b hF e=>by
  have e2:b=en:=e
  have h1:=(World.ownsRow.lt sD b hF).1
  have h2:=(Array.getElem?_eq_some_iff.1 (show w5.heap[en]?=some _ from bT.out.head)).1
  omega)
 have iW:Below B w w6:=eG.out.trans (bT.out.kept hkb)
 obtain⟨blk,hblk⟩:∃blk,(E0.run l).1=blk:=⟨_,rfl⟩
 rw[hblk] at iy Mj ⊢
 have HBLK:=af hblk
 obtain⟨nk,hnk⟩:∃nk,blk.length=nk:=⟨_,rfl⟩
 rw[hnk] at iy Mj ⊢
 have HNK:=af hnk
 have kY:=af iy
 have gK:=af iW
 clear iy iW hkb sD hblk hnk HRE
 by_cases jK : 16000<nk
 ·have t1:((nk:Nat):Int) > 16000:=by omega
  go_wp2_with fail
  go_ret
  exact⟨rfl,gK.out⟩
 have t1:¬((nk:Nat):Int) > 16000:=by omega
 obtain⟨cn,jA,JR⟩:∃cn:Nat,((cut:Int)%((nk:Int)+1))=(cn:Int)∧cn≤nk:=⟨cut%(nk+1),by simp,Nat.le_of_lt_succ (Nat.mod_lt cut (show 0<nk+1 by omega))⟩
 go_upto_region 13 with fail
 try rw[jA]
 obtain⟨A',cap',hv',YC,hmx',hrb,-⟩:=aC (kY.out).head
 obtain⟨rfl,rfl⟩:Ab=A'∧cb=cap':=by injection hv' with e1 e2 e3;exact⟨e1,e3⟩
 have hrt:=hrb.upto JR
 obtain⟨Ad,hAd,Ep⟩:=aiA Ab nk cb cn JR
 have hrd:=hrb.from_ JR Mj hAd
 have hsu:=aiB Ab nk cb cn (gM JR YC)
 have HST:Hid (∀w',Below w6.heap.size w6 w'→(convert 48 9 (.slice Ab cn cb)).run Tryz.prog w' = .ok (.string ⟨(blk.take cn).toArray⟩) w'∧(convert 48 9 (.slice Ad (nk-cn) (cb-cn))).run Tryz.prog w' = .ok (.string ⟨(blk.drop cn).toArray⟩) w'):=af (fun w' h=>
  ⟨sJ (P:=Tryz.prog) Tryz.underlying48 Tryz.underlying5 Tryz.underlying9 (hrt.below h (ah _)) cb,sJ (P:=Tryz.prog) Tryz.underlying48 Tryz.underlying5 Tryz.underlying9 (hrd.below h (ah _)) (cb-cn)⟩)
 obtain⟨cv1,cv2⟩:=HST.out w6.drew (by exact⟨rfl,rfl,rfl,ah _,fun _ _=>rfl⟩)
 obtain⟨b1,hb1⟩:∃b1:ByteArray,⟨(blk.take cn).toArray⟩=b1:=⟨_,rfl⟩
 obtain⟨b2,hb2⟩:∃b2:ByteArray,⟨(blk.drop cn).toArray⟩=b2:=⟨_,rfl⟩
 rw[hb1] at cv1
 rw[hb2] at cv2
 have zI:=af (And.intro hb1 hb2)
 have HCN:=af (And.intro JR hAd)
 clear Mj hmxb hv' YC hmx' hrb hrt hrd hAd hb1 hb2 jA HST
 go_upto_region 14 with fail
 go_region
 go_upto_region 15 with fail
 refine bI ?_
 intro W7 eU
 obtain⟨fa,hfa⟩:∃fa,w6.heap.size=fa:=⟨_,rfl⟩
 have e7:W7=(w6.alloc (.cells ((mY b1 b2 body).flatMap Gd).toArray 52)).drew:=eU
 have dU:Below w6.heap.size w6 W7:=by rw[eU];exact ((Below.refl _ _).alloc (ah _) _).trans (by exact⟨rfl,rfl,rfl,ah _,fun _ _=>rfl⟩)
 have tX:=(gV kY.out ((mY b1 b2 body).flatMap Gd).toArray 52).drew
 rw[←e7,hfa] at tX
 have eY:=af tX
 have iZ:=af (gK.out.trans (dU.mono kY.out.sz))
 rw[hfa]
 clear eU dU hfa Ep hsu cv1 cv2 tX e7
 have Me:b1.size≤16000:=by rw[←zI.out.1];show (blk.take cn).toArray.size≤_;rw[List.size_toArray,kS];have:=HNK.out;omega
 have Mf:b2.size≤16000:=by rw[←zI.out.2];show (blk.drop cn).toArray.size≤_;rw[List.size_toArray,xk];have:=HNK.out;omega
 have wC:b1.size+b2.size≤16000:=by
  rw[←zI.out.1,←zI.out.2]
  show (blk.take cn).toArray.size+(blk.drop cn).toArray.size≤_
  rw[List.size_toArray,List.size_toArray,kS,xk];have:=HNK.out;omega
 have HKN:Hid (∀k f,(mY b1 b2 body)[k]?=some f→Kn f∧f.data.size≤16000):=af (fun k f hf=>by
  have hm:=fq hf
  simp only[mY,qG,xm,or_false] at hm
  rcases hm with rfl | rfl | rfl
  ·exact⟨(V5 b1 (by omega)).1,Me⟩
  ·exact⟨(V5 b2 (by omega)).2.1,Mf⟩
  ·exact⟨(V5 body (by omega)).2.2,by show body.size≤_;omega⟩)
 have HBS:=af (And.intro Me (And.intro Mf wC))
 have hfl0:=abb b1 b2 body Me Mf hbody
 have sS:=af hfl0
 clear Me Mf wC hfl0
 have HS7:Hid (Nq B w b1 b2 body _ (.slice none 0 0) (.int .i64 0) W7):=af ⟨0,rfl,by omega,eY.out.Bz 5 1,iZ.out⟩
 go_wp2_with fail
 go_loopw [12,81] (fun ov iv wr=>Nq B w b1 b2 body _ ov iv wr) (fun _ iv _=>3-(intOf iv).toNat)
 case atStart=>exact HS7.out
 case round=>
  obtain⟨k,rfl,hk,hA,hb⟩:=hrel
  have HA:=af hA
  have HB:=af hb
  clear hA hb
  by_cases hlt:k<3
  ·obtain⟨f,hf⟩:=aeu b1 b2 body k hlt
   obtain⟨hkn,qb⟩:=HKN.out k f hf
   have HKF:=af hkn
   have n0:(k:Int)<3:=by omega
   have r_:wr.heap[fa]?=some (.cells ((mY b1 b2 body).flatMap Gd).toArray 52 (0,0)):=(HA.out.pick [_]).head
   have hz:∀i,i<12→wr.cell? ⟨fa,k*12+i,none⟩=(Gd f)[i]?:=fun i hi=>by
    rw[←aet hf i hi]
    unfold World.cell?
    rw[r_]
    simp
   have hfal:fa<wr.heap.size:=(Array.getElem?_eq_some_iff.1 r_).1
   have htk:((mY b1 b2 body).take (k+1)).flatMap (fun f=>bD f false)=((mY b1 b2 body).take k).flatMap (fun f=>bD f false)++bD f false:=by
    rw[iw,hf,iL,List.flatMap_append]
    simp
   have hlk:(((mY b1 b2 body).take k).flatMap fun f=>bD f false).length≤60000:=by
    have h1:=sS.out.1
    have h2:((mY b1 b2 body).flatMap fun f=>bD f false)=bD (l6 b1) false++bD (lW b2) false++bD (bL body) false:=by simp[mY]
    have h3:(((mY b1 b2 body).take k).flatMap fun f=>bD f false).length≤((mY b1 b2 body).flatMap fun f=>bD f false).length:=by
     have e:mY b1 b2 body=(mY b1 b2 body).take k++(mY b1 b2 body).drop k:=(vV k _).symm
     conv=>rhs;rw[e,List.flatMap_append,aN]
     omega
    rw[h2] at h3
    omega
   have Iq:(bD f false).length≤20000:=by
    have h1:=Gc f false
    have h2:=Kv f false
    have h3:=hkn.pad
    omega
   have gm:=af htk
   obtain⟨PF,Gh⟩:∃PF,((mY b1 b2 body).take k).flatMap (fun f=>bD f false)=PF:=⟨_,rfl⟩
   rw[Gh] at HA gm hlk
   have w_:=af (fun w=>Tv f w hkn)
   clear hf htk hkn Gh qb r_
   obtain⟨FB,hFB⟩:∃FB,bD f false=FB:=⟨_,rfl⟩
   rw[hFB] at gm w_ Iq
   clear hFB
   obtain⟨ty,fl,st,data,pad⟩:=f
   unfold gF Fr.cells at w_
   dsimp only at w_
   have z0:wr.cell? ⟨fa,k*12,none⟩=some (.int .i64 ty):=hz 0 (by omega)
   have z1:wr.cell? ⟨fa,k*12+1,none⟩=some (.int .i64 fl):=hz 1 (by omega)
   have z2:wr.cell? ⟨fa,k*12+2,none⟩=some (.int .i64 st):=hz 2 (by omega)
   have z3:wr.cell? ⟨fa,k*12+3,none⟩=some (.string data):=hz 3 (by omega)
   have z4:wr.cell? ⟨fa,k*12+4,none⟩=some (.int .i64 pad):=hz 4 (by omega)
   have z5:wr.cell? ⟨fa,k*12+5,none⟩=some (.slice none 0 0):=hz 5 (by omega)
   have z6:wr.cell? ⟨fa,k*12+6,none⟩=some (.int .i64 0):=hz 6 (by omega)
   have z7:wr.cell? ⟨fa,k*12+7,none⟩=some (.int .i64 0):=hz 7 (by omega)
   have z8:wr.cell? ⟨fa,k*12+8,none⟩=some (.int .i64 0):=hz 8 (by omega)
   have z9:wr.cell? ⟨fa,k*12+9,none⟩=some (.int .i64 0):=hz 9 (by omega)
   have z10:wr.cell? ⟨fa,k*12+10,none⟩=some (.int .i64 0):=hz 10 (by omega)
   have z11:wr.cell? ⟨fa,k*12+11,none⟩=some (.bool false):=hz 11 (by omega)
   clear hz
   go_upto_region 17 with fail
   refine bI ?_
   intro W8 wB
   have vg:W8.heap[wr.heap.size]?=some (.cells (Fr.mk ty fl st data pad).cells 52 (0,0)):=by rw[wB];exact aZ _ _
   have bF:Below wr.heap.size wr W8:=by rw[wB];exact (Below.refl _ _).alloc (ah _) _
   obtain⟨x8,hx8⟩:∃x8,wr.heap.size=x8:=⟨_,rfl⟩
   rw[hx8] at vg ⊢
   obtain⟨k0,k1,k2,k3,k4,k5,k6,k7,k8,k9,bS,bN,-⟩:=fD.of vg
   simp only at k0 k1 k2 k3 k4 k5 k6 k7 k8 k9 bS bN
   have ja:=af bF
   clear wB vg bF z0 z1 z2 z3 z4 z5 z6 z7 z8 z9 z10 z11 hx8
   go_wp2_with fail
   refine (w_.out _).mono ?_
   rintro e w9 ⟨pv,rfl,sD,dB⟩
   obtain⟨Ap,cp,rfl,Em⟩:=sD.rd
   have hba:Below wr.heap.size wr w9:=ja.out.trans (dB.mono ja.out.size)
   have aU:=HA.out.below hba
   have yo:=af hba
   have HRP:=af Em
   obtain⟨Ao,co,Bi,-,-,-,-⟩:=aC aU.head
   have HVO:=af Bi
   rw[Bi]
   have hown:w9.ownsRow 0 5 1 (.slice Ao PF.length co) PF.length (ak PF):=by rw[←Bi];exact aU.head
   have eF:=af aU
   clear sD Em dB hba aU Bi w_ k0 k1 k2 k3 k4 k5 k6 k7 k8 k9 bS bN
   go_wp2_with (at_builtin;refine dI ?_)
   unfold Stop
   refine dQ (.tmp 90) (.tmp 91) iT rfl rfl hown rfl HRP.out rfl (kZ _) (bn (by omega)) (by omega) (aL _) ?_
   intro v10 Hf Gw D9 Il
   rw[←HVO.out] at D9 Il
   obtain⟨AA,JC⟩:=eF.out.app Gw D9 Il
   have HN:Hid (Nq B w b1 b2 body _ v10 (.int .i64 (k+1:Nat)) Hf):=af (by
    refine⟨k+1,rfl,hlt,?_,(HB.out.trans (yo.out.mono HA.out.sz)).trans JC⟩
    rw[gm.out,aN,mU]
    exact AA)
   obtain⟨A10,c10,P8,-,-,-,-⟩:=aC Gw
   subst P8
   clear hown Gw D9 Il AA JC
   go_wp2
   go_roundw
   case rel=>exact HN.out
   case measure=>simp[intOf];omega
  ·have hk3:k=3:=by omega
   subst hk3
   have hall:((mY b1 b2 body).take 3).flatMap (fun f=>bD f false)=bD (l6 b1) false++bD (lW b2) false++bD (bL body) false:=by simp[mY]
   rw[hall] at HA
   obtain⟨PF,Gh⟩:∃PF,bD (l6 b1) false++bD (lW b2) false++bD (bL body) false=PF:=⟨_,rfl⟩
   rw[Gh] at HA
   have hfl:PF.length≤60000:=by rw[←Gh];exact sS.out.1
   have HPF:=af Gh
   obtain⟨Ao,co,Bi,-,-,-,-⟩:=aC HA.out.head
   subst Bi
   clear hall Gh
   have hhe:=YK wr
   go_wp2_with fail
   refine hhe.mono ?_
   rintro e w9 ⟨hv,rfl,hoh,dB⟩
   obtain⟨Ah,ch,rfl,hrh⟩:=hoh.rd
   have eF:=af (HA.out.row dB hoh)
   have iq:=af (HB.out.trans (dB.mono HA.out.sz))
   have Em:Rd w9 w9.heap.size 1 Ao PF.length (ak PF):=Rd.lJ ((eF.out.pick [_]).head)
   have fM:oD.length=33:=by decide +kernel
   clear hoh hrh dB hhe
   go_wp2_with (at_builtin;refine dI ?_)
   unfold Stop
   have hrow:w9.ownsRow 0 5 1 (.slice Ah oD.length ch) oD.length (ak oD):=eF.out.head
   refine dQ (.tmp 95) (.tmp 96) iT rfl rfl hrow rfl Em rfl (kZ _) (bn (by omega)) (by omega) (aL _) ?_
   intro v10 Hf Gw D9 Il
   obtain⟨AA,JC⟩:=eF.out.app Gw D9 Il
   obtain⟨A10,c10,P8,-,-,-,-⟩:=aC Gw
   subst P8
   have ebv:ak (oD++PF)=ak (oD++(bD (l6 b1) false++bD (lW b2) false++bD (bL body) false)):=by rw[HPF.out]
   rw[←mU,ebv] at AA
   have AA:=AA.aP [11,11,11,11,11,11,11]
   have AA:=All.init (l:=[_,_,_,_,_,_,_,_]) (r:=[_,_,_,_]) AA
   have Yu:=iq.out.trans JC
   obtain⟨T',hout⟩:=agh HS.out oL.out
   have hdat:b1.data.toList++b2.data.toList=blk:=by
    rw[←zI.out.1,←zI.out.2]
    simp
   rw[HBLK.out,←hdat] at hout
   have gm:=af (agi (l:=l.map told) (T':=T') (nl:=oD.length+PF.length) (cap:=c10) (A:=A10) Hf AA HC.out.2.2.2.2.2.2.2.2.2.2.2 HC.out.1 HC.out.2.1 HC.out.2.2.1 HC.out.2.2.2.1 HC.out.2.2.2.2.1 HC.out.2.2.2.2.2.1 HC.out.2.2.2.2.2.2.1 HC.out.2.2.2.2.2.2.2.1 HC.out.2.2.2.2.2.2.2.2.1 HC.out.2.2.2.2.2.2.2.2.2.1 HC.out.2.2.2.2.2.2.2.2.2.2.1 HBS.out.2.2 hbody hout (by rw[aaU];exact HS.out))
   have BL:=af Yu
   clear AA JC Yu Gw D9 Il hrow Em hout hdat ebv
   go_wp2_with fail
   refine gm.out.mono ?_
   rintro e ig ⟨qQ,hpost⟩
   have oK:=af (BL.out.trans qQ)
   have hBsz:B≤ig.heap.size:=by have:=HQ.out;have:=oK.out.size;omega
   have cz:=af (ah2 (c:=c) ig ((HL.out _ oK.out).more hBsz) HS.out)
   obtain⟨hrt1,-⟩:=Ti l
   have hlt1:=afg l
   have kE:=af hlt1
   have HRT:=af hrt1
   clear gm qQ hrt1 hlt1
   obtain⟨⟨R,re⟩,hR⟩:∃x,aS l=x:=⟨_,rfl⟩
   have HRD10:=af hR
   have f_:Hid (Jo R):=af (by have h:=Tg HS.out;rw[hR] at h;exact h)
   have HGO:Hid (∀f ∈ R.fields,vK f):=af (by have h:=Tf l;rw[hR] at h;exact h)
   rw[hR] at cz kE HRT
   dsimp only at kE HRT
   obtain⟨⟨sd,tl,le⟩,AB⟩:∃x,gU (dn R.fields)=x:=⟨_,rfl⟩
   have sW:=af AB
   clear hR AB
   unfold FV at cz
   dsimp only at cz
   rcases hpost with ⟨nP,rfl,hex⟩ | ⟨hok,mI,hex⟩ | ⟨hok,mI,hex⟩
   ·have zf:re≠0:=by have h:=HRT.out;omega
    obtain⟨c',N,f,k,hf,hk,h1,h2,h3,hAx⟩:=hex
    have mM:=af hAx
    have HX:=af (And.intro h1 (And.intro h2 h3))
    clear hAx h1 h2 h3 nP
    unfold zu
    go_wp2_with fail
    refine cz.out.mono ?_
    rintro e oJ ⟨rv,er,rfl,her,ic⟩
    obtain⟨Ar,cr,xQ,-,-,-,-⟩:=aC ic.1
    subst xQ
    have wX:=af (mM.out.row ic.2 ic.1)
    have Jb:=af (oK.out.trans (ic.2.mono mM.out.sz))
    clear ic
    have ee:(er==0)=false:=by rw[fO];exact fun h=>zf (her.1 h)
    go_upto_region 22 with (first
     | (refine wpList_store_rowTo rfl 60 (.tmp 18) (.tmp 102) rfl rfl oJ.heap.size #[.string ⟨#[]⟩,.string ⟨#[]⟩,.string ⟨#[]⟩,.string ⟨#[]⟩,.slice none 0 0] rfl rfl 60 _ (aZ _ _) mJ rfl (by simp[Value.oneCell']) ?_))
    refine bI ?_
    intro kG xC
    have yQ:kG=oJ.alloc (.cells (rD R.aW R.iH R.ek R.path (.slice Ar R.fields.length cr)) 60):=xC
    have nN:=gV wX.out (rD R.aW R.iH R.ek R.path (.slice Ar R.fields.length cr)) 60
    rw[←yQ] at nN
    have rY:Below B w kG:=by rw[yQ];exact Jb.out.alloc wX.out.sz _
    obtain⟨rb,hrb⟩:∃rb,oJ.heap.size=rb:=⟨_,rfl⟩
    rw[hrb] at nN ⊢
    have zH:=af nN
    have EZ:=af rY
    obtain⟨g0,g1,g2,g3,g4⟩:=C_ nN.head
    have El:Rd kG kG.heap.size 3 Ar R.fields.length (fds R.fields):=Rd.lJ ((nN.pick [_]).head)
    have gz:=af (KC (c:=cr) kG El (by have:=f_.out.no;omega) f_.out.tx)
    rw[sW.out] at gz
    dsimp only at gz
    clear nN rY El xC yQ hrb
    go_wp2_with fail
    refine gz.out.mono ?_
    rintro e jo ⟨rfl,oU⟩
    have vM:=af (zH.out.below oU)
    have sP:=af (EZ.out.trans (oU.mono zH.out.sz))
    clear oU gz g0 g1 g2 g3 g4
    have hst:=vM.out.aP [1,1,4,4,4]
    have HST:=af (fun (wx:World) (hx:Below jo.heap.size jo wx)=>MX wx (hst.below hx) HX.out.1 HX.out.2.1 HX.out.2.2)
    clear hst
    have hne9:¬(er=0):=fun h=>zf (her.1 h)
    clear her
    go_wp2_with fail
    go_loopw [23] (fun iv wr=>iv = .int .i64 0∧wr=jo) (fun _ _=>0)
    case atStart=>exact⟨rfl,rfl⟩
    case round=>
     obtain⟨rfl,rfl⟩:=hrel
     go_wp2_with fail
     refine (HST.out _ (Below.refl _ _)).mono ?_
     rintro e w15 ⟨rfl,rfl⟩
     go_wp2
     go_ret
     exact⟨rfl,sP.out⟩
   ·have zf:re=0:=by have h:=HRT.out;omega
    subst zf
    obtain⟨c',N,f,k,hf,hk,fv,rfl,h1,h2,h3,hAx⟩:=hex
    have mM:=af hAx
    have HX:=af (And.intro h1 (And.intro h2 h3))
    unfold EI at mI
    rw[kE.out,sW.out,pI,ET,decide_eq_false_iff_not] at mI
    dsimp only at mI
    obtain⟨rfl,jM⟩:=mI
    obtain⟨An,cn2,CJ,-,-,-,-⟩:=aC ((hAx.pick [_,_,_]).head)
    have HNV:=af CJ
    rw[CJ]
    clear hAx h1 h2 h3 CJ hok
    go_wp2_with fail
    refine cz.out.mono ?_
    rintro e oJ ⟨rv,er,rfl,her,ic⟩
    obtain⟨Ar,cr,xQ,-,-,-,-⟩:=aC ic.1
    subst xQ
    have wX:=af (mM.out.row ic.2 ic.1)
    have Jb:=af (oK.out.trans (ic.2.mono mM.out.sz))
    clear ic
    have ee:er=0:=her.2 (by first | rfl | trivial)
    subst ee
    go_upto_region 22 with (first
     | (refine wpList_store_rowTo rfl 60 (.tmp 18) (.tmp 102) rfl rfl oJ.heap.size #[.string ⟨#[]⟩,.string ⟨#[]⟩,.string ⟨#[]⟩,.string ⟨#[]⟩,.slice none 0 0] rfl rfl 60 _ (aZ _ _) mJ rfl (by simp[Value.oneCell']) ?_))
    refine bI ?_
    intro kG xC
    have yQ:kG=oJ.alloc (.cells (rD R.aW R.iH R.ek R.path (.slice Ar R.fields.length cr)) 60):=xC
    have nN:=gV wX.out (rD R.aW R.iH R.ek R.path (.slice Ar R.fields.length cr)) 60
    rw[←yQ] at nN
    have rY:Below B w kG:=by rw[yQ];exact Jb.out.alloc wX.out.sz _
    obtain⟨rb,hrb⟩:∃rb,oJ.heap.size=rb:=⟨_,rfl⟩
    rw[hrb] at nN ⊢
    have zH:=af nN
    have EZ:=af rY
    obtain⟨g0,g1,g2,g3,g4⟩:=C_ nN.head
    have El:Rd kG kG.heap.size 3 Ar R.fields.length (fds R.fields):=Rd.lJ ((nN.pick [_]).head)
    have gz:=af (KC (c:=cr) kG El (by have:=f_.out.no;omega) f_.out.tx)
    rw[sW.out] at gz
    dsimp only at gz
    clear nN rY El xC yQ hrb
    go_wp2_with fail
    refine gz.out.mono ?_
    rintro e jo ⟨rfl,oU⟩
    have vM:=af (zH.out.below oU)
    have sP:=af (EZ.out.trans (oU.mono zH.out.sz))
    clear oU gz g0 g1 g2 g3 g4
    have hst:=vM.out.aP [5,2,2,5,5,5]
    have HST:=af (fun (wx:World) (hx:Below jo.heap.size jo wx)=>MX wx (hst.below hx) HX.out.1 HX.out.2.1 HX.out.2.2)
    clear hst
    have JZ:=vM.out.aP [4,4,4,4,4,5]
    have zg:Rd jo jo.heap.size 10 An 2 ((yG (l.map told) fv).l++(CO 1 1).l):=by have h:=JZ.head;have h2:jo.ownsRow 0 64 10 c'.news 2 ((yG (l.map told) fv).l++(CO 1 1).l):=h;rw[HNV.out] at h2;exact Rd.lJ h2
    obtain⟨b',o',rfl,OX,hcc⟩:=zg.2 (by omega)
    have e8:jo.cell? ⟨b',o'+8,none⟩=some (.bool false):=hcc 8 (by omega)
    have e18:jo.cell? ⟨b',o'+10+8,none⟩=some (.bool false):=by rw[xq];exact hcc 18 (by omega)
    have hsd2:((sd:Nat):Int)≠((body.size:Nat):Int):=by omega
    have hsd3:(((sd:Nat):Int)==((body.size:Nat):Int))=false:=by rw[fO];exact hsd2
    clear her JZ zg hcc
    go_wp2_with fail
    go_loopw [23] (fun iv wr=>(∃k:Nat,iv = .int .i64 k∧k≤2)∧wr=jo) (fun iv _=>2-(intOf iv).toNat)
    case atStart=>exact⟨⟨0,rfl,by omega⟩,rfl⟩
    case round=>
     obtain⟨⟨k,rfl,hk⟩,rfl⟩:=hrel
     have hk3:k=0∨k=1∨k=2:=by omega
     rcases hk3 with rfl | rfl | rfl
     ·go_wp2
      go_roundw
      case rel=>exact⟨⟨1,rfl,by omega⟩,by first | rfl | trivial⟩
      case measure=>simp[intOf]
     ·go_wp2
      go_roundw
      case rel=>exact⟨⟨2,rfl,by omega⟩,by first | rfl | trivial⟩
      case measure=>simp[intOf]
     ·go_wp2_with fail
      refine (HST.out _ (Below.refl _ _)).mono ?_
      rintro e w15 ⟨rfl,rfl⟩
      go_wp2
      go_ret
      exact⟨rfl,sP.out⟩
   ·have zf:re=0:=by have h:=HRT.out;omega
    subst zf
    obtain⟨nv,fv,rfl,hAx⟩:=hex
    have mM:=af hAx
    unfold EI at mI
    rw[kE.out,sW.out] at mI
    dsimp only at mI
    obtain⟨An,cn2,CJ,-,-,-,-⟩:=aC hAx.head
    subst CJ
    have jG:=af hok
    have HSB:=af mI
    clear hAx hok
    go_wp2_with fail
    refine cz.out.mono ?_
    rintro e oJ ⟨rv,er,rfl,her,ic⟩
    obtain⟨Ar,cr,xQ,-,-,-,-⟩:=aC ic.1
    subst xQ
    have wX:=af (mM.out.row ic.2 ic.1)
    have Jb:=af (oK.out.trans (ic.2.mono mM.out.sz))
    clear ic
    have ee:er=0:=her.2 (by first | rfl | trivial)
    subst ee
    go_upto_region 22 with (first
     | (refine wpList_store_rowTo rfl 60 (.tmp 18) (.tmp 102) rfl rfl oJ.heap.size #[.string ⟨#[]⟩,.string ⟨#[]⟩,.string ⟨#[]⟩,.string ⟨#[]⟩,.slice none 0 0] rfl rfl 60 _ (aZ _ _) mJ rfl (by simp[Value.oneCell']) ?_))
    refine bI ?_
    intro kG xC
    have yQ:kG=oJ.alloc (.cells (rD R.aW R.iH R.ek R.path (.slice Ar R.fields.length cr)) 60):=xC
    have nN:=gV wX.out (rD R.aW R.iH R.ek R.path (.slice Ar R.fields.length cr)) 60
    rw[←yQ] at nN
    have rY:Below B w kG:=by rw[yQ];exact Jb.out.alloc wX.out.sz _
    obtain⟨rb,hrb⟩:∃rb,oJ.heap.size=rb:=⟨_,rfl⟩
    rw[hrb] at nN ⊢
    have zH:=af nN
    have EZ:=af rY
    obtain⟨g0,g1,g2,g3,g4⟩:=C_ nN.head
    have El:Rd kG kG.heap.size 3 Ar R.fields.length (fds R.fields):=Rd.lJ ((nN.pick [_]).head)
    have gz:=af (KC (c:=cr) kG El (by have:=f_.out.no;omega) f_.out.tx)
    rw[sW.out] at gz
    dsimp only at gz
    clear nN rY El xC yQ hrb
    go_wp2_with fail
    refine gz.out.mono ?_
    rintro e jo ⟨rfl,oU⟩
    have vM:=af (zH.out.below oU)
    have sP:=af (EZ.out.trans (oU.mono zH.out.sz))
    clear oU gz g0 g1 g2 g3 g4
    clear her
    --GOOD
    have JZ:=vM.out.aP [3,2,2,3]
    have zg:Rd jo jo.heap.size 10 An 2 ((yG (l.map told) fv).l++(xN body).l):=Rd.lJ JZ.head
    have O8:=vM.out.aP [2,2,2,3]
    obtain⟨Af,cf,hfv,-,-,-,-⟩:=aC O8.head
    subst hfv
    obtain⟨⟨RI,ri⟩,Gj⟩:∃x,aS (l.map told)=x:=⟨_,rfl⟩
    have Iy:=jG.out
    have CR:Jo RI:=by have h:=Tg (l:=l.map told) (by rw[aaU];exact HS.out);rw[Gj] at h;exact h
    have Pf:∀f ∈ RI.fields,vK f:=by have h:=Tf (l.map told);rw[Gj] at h;exact h
    have Pv:qg (rz RI body ⟨#[100,114,97,119,98,114,105,100,103,101]⟩)=true:=by have h:=afI (l:=l.map told) Iy body ⟨#[100,114,97,119,98,114,105,100,103,101]⟩ (by decide +kernel);rw[Gj] at h;exact h
    have Pq:wN (rz RI body ⟨#[100,114,97,119,98,114,105,100,103,101]⟩)=wN (rz R body ⟨#[100,114,97,119,98,114,105,100,103,101]⟩):=by have h:=afD l body ⟨#[100,114,97,119,98,114,105,100,103,101]⟩;rw[Gj,HRD10.out] at h;exact h
    have HFvR:Hid (Rd jo jo.heap.size 3 Af RI.fields.length (fds RI.fields)):=af (by have h:=Rd.lJ O8.head;rw[Gj] at h;exact h)
    obtain⟨b',o',rfl,OX,hcc⟩:=zg.2 (by omega)
    unfold yG at hcc
    rw[Gj] at hcc
    have oU:b'<jo.heap.size:=OX
    have a0:jo.cell? ⟨b',o',none⟩=some (.int .i64 1):=hcc 0 (by omega)
    have a2:jo.cell? ⟨b',o'+2,none⟩=some (.string RI.aW):=hcc 2 (by omega)
    have a3:jo.cell? ⟨b',o'+3,none⟩=some (.string RI.iH):=hcc 3 (by omega)
    have a4:jo.cell? ⟨b',o'+4,none⟩=some (.string RI.ek):=hcc 4 (by omega)
    have a5:jo.cell? ⟨b',o'+5,none⟩=some (.string RI.path):=hcc 5 (by omega)
    have a6:jo.cell? ⟨b',o'+6,none⟩=some (.slice Af RI.fields.length cf):=hcc 6 (by omega)
    have a10:jo.cell? ⟨b',o'+10,none⟩=some (.int .i64 3):=hcc 10 (by omega)
    have a17:jo.cell? ⟨b',o'+10+7,none⟩=some (.string body):=by rw[xq];exact hcc 17 (by omega)
    have a18:jo.cell? ⟨b',o'+10+8,none⟩=some (.bool true):=by rw[xq];exact hcc 18 (by omega)
    have E_:Hid (∀wx,Below jo.heap.size jo wx→wx.cell? ⟨b',o'+2,none⟩=some (.string RI.aW)∧wx.cell? ⟨b',o'+3,none⟩=some (.string RI.iH)∧wx.cell? ⟨b',o'+4,none⟩=some (.string RI.ek)∧wx.cell? ⟨b',o'+5,none⟩=some (.string RI.path)∧wx.cell? ⟨b',o'+6,none⟩=some (.slice Af RI.fields.length cf)∧wx.cell? ⟨b',o'+10+7,none⟩=some (.string body)):=af (fun wx h=>
     ⟨(h.cell (p:=⟨b',o'+2,none⟩) oU).trans a2,(h.cell (p:=⟨b',o'+3,none⟩) oU).trans a3,(h.cell (p:=⟨b',o'+4,none⟩) oU).trans a4,(h.cell (p:=⟨b',o'+5,none⟩) oU).trans a5,(h.cell (p:=⟨b',o'+6,none⟩) oU).trans a6,(h.cell (p:=⟨b',o'+10+7,none⟩) oU).trans a17⟩)
    obtain⟨AI,hAI⟩:∃AI,rz RI body ⟨#[100,114,97,119,98,114,105,100,103,101]⟩=AI:=⟨_,rfl⟩
    have HOF:=af (fun (wx:World) (h:Below jo.heap.size jo wx)=>agb (c:=cf) RI body ⟨#[100,114,97,119,98,114,105,100,103,101]⟩ wx (HFvR.out.later h) (by have:=CR.no;omega) CR.tx (fun f hf=>by have:=CR.each f hf;omega) (fun f hf=>XO (Pf f hf).con (Pf f hf).low (.inl rfl)) (by decide))
    have hno:∀f ∈ R.fields,dL f.1.1.data.toList lg.data.toList=false:=fun f hf=>XO (HGO.out f hf).con (HGO.out f hf).low (.inl rfl)
    have hszA:AI.fields.length≤1002∧(∀f ∈ AI.fields,f.1.1.size≤10100∧f.1.2.size≤10100)∧AI.aW.size≤10000∧AI.tgt.size≤10000∧AI.body=body:=by
     rw[←hAI]
     refine⟨?_,?_,CR.aW,CR.path,rfl⟩
     ·show ([((aG,RI.ek),false)]++dJ (fG RI.fields) [bu,aG]++[((rG,_),false)]:List Fd).length≤_
      have h1:=ER (fG RI.fields) [bu,aG]
      have h2:(fG RI.fields).length≤RI.fields.length:=ER _ _
      have h3:=CR.no
      simp only[aN,fe,List.length_nil]
      omega
     ·intro f hf
      rcases List.mem_append.1 hf with hf | hf
      ·rcases List.mem_append.1 hf with hf | hf
       ·rw[List.mem_singleton.1 hf]
        exact⟨by show aG.size≤_;decide +kernel,by have:=CR.ek;show RI.ek.size≤_;omega⟩
       ·unfold dJ at hf
        have h1:=(List.mem_filter.1 hf).1
        have h2:=CR.each f (KI h1).1
        omega
      ·rw[List.mem_singleton.1 hf]
       exact⟨by show rG.size≤_;decide +kernel,by show ((⟨#[50,32]⟩:ByteArray)++⟨#[100,114,97,119,98,114,105,100,103,101]⟩).size≤_;decide +kernel⟩
    rw[hAI] at HOF Pv Pq
    have HMI:=af (And.intro Pv Pq)
    have Dt:=af hszA
    clear zg hcc O8 JZ Iy CR Pf Pv Pq Gj hAI hszA OX
    have Pb:(tl && !decide (sd=body.size))=false:=HSB.out
    have hgd:tl=false∨sd=body.size:=by
     cases tl with
     | false=>exact .inl rfl
     | true=>rw[zF,Bool.not_eq_false',tQ] at Pb;exact .inr Pb
    clear Pb
    go_upto_region 23 with fail
    go_cut [121] (fun y wx=>y = .bool false∧wx=jo)
    case first=>
     rcases hgd with rfl | jM
     ·go_wp2_with fail
      go_meet
      exact⟨rfl,rfl⟩
     ·have q1:(((sd:Nat):Int)==((body.size:Nat):Int))=true:=by rw[jM];simp
      cases tl
      ·go_wp2_with fail
       go_meet
       exact⟨rfl,rfl⟩
      ·go_wp2_with fail
       go_meet
       exact⟨rfl,rfl⟩
    case rest=>
    obtain⟨rfl,hwc⟩:=hcut
    subst hwc
    clear hgd
    go_upto_region 32 with fail
    refine wp_region_held_drew (S:=fun w'=>w'.cell? ⟨b',o'+2,none⟩=some (.string RI.aW)∧w'.cell? ⟨b',o'+3,none⟩=some (.string RI.iH)∧w'.cell? ⟨b',o'+4,none⟩=some (.string RI.ek)∧w'.cell? ⟨b',o'+5,none⟩=some (.string RI.path)∧w'.cell? ⟨b',o'+6,none⟩=some (.slice Af RI.fields.length cf)∧w'.cell? ⟨b',o'+10+7,none⟩=some (.string body)) (by kernel_rfl) (E_.out _ (by exact⟨rfl,rfl,rfl,ah _,fun _ _=>rfl⟩)) (fun hH=>?_)
    refine ag 0 181 hH ?_
    refine ag 1 182 hH ?_
    refine ag 2 183 hH ?_
    refine ag 3 184 hH ?_
    refine ag 4 185 hH ?_
    refine ag 5 186 hH ?_
    refine ag 6 187 hH ?_
    refine ag 7 188 hH ?_
    refine aR 8 (fun K hK=>?_)
    go_simp
    refine (HOF.out _ (by exact⟨rfl,rfl,rfl,ah _,fun _ _=>rfl⟩)).mono ?_
    rintro e2 w15 ⟨ov,rfl,hoo⟩
    have hb15:Below wc.heap.size wc w15:=by first | exact hoo.2 | exact Below.trans (by exact⟨rfl,rfl,rfl,ah _,fun _ _=>rfl⟩) hoo.2
    have Jc:=af hb15
    obtain⟨Ao,co,hov2,-,-,hro,-⟩:=aC hoo.1
    subst hov2
    obtain⟨na,hna⟩:∃k,AI.fields.length=k:=⟨_,rfl⟩
    rw[hna] at hro ⊢
    have Dp:=af hna
    have qE:=af (ag7 (c:=co) AI w15 hro (by have:=Dt.out.1;omega) (fun f hf=>by have:=Dt.out.2.1 f hf;omega) (by have:=Dt.out.2.2.1;omega) (by have:=Dt.out.2.2.2.1;omega) (by rw[Dt.out.2.2.2.2];omega) HMI.out.1)
    clear hoo hb15 hro hna
    refine hK.out _ _ (E_.out _ Jc.out) (fun hH=>?_)
    clear hK K
    try simp only[Act.put,az,ay,aA]
    obtain⟨hA,hhA⟩:∃k,(jB AI).length=k:=⟨_,rfl⟩
    have HHA:=af hhA
    unfold zW at qE
    rw[hhA] at qE
    clear hhA
    by_cases hbg : 65536<hA
    ·simp only[ax hbg] at qE
     refine aR 9 (fun K hK=>?_)
     go_simp
     refine qE.out.mono ?_
     rintro e3 w16 ⟨rfl,JG⟩
     have Ht:=af (Jc.out.trans (JG.mono Jc.out.size))
     clear JG
     refine hK.out _ _ (E_.out _ Ht.out) (fun hH=>?_)
     clear hK K
     try simp only[Act.put,az,ay,aA]
     refine ag 10 180 hH ?_
     refine ag 11 191 hH ?_
     refine ag 12 192 hH ?_
     refine ag 13 24 hH ?_
     refine ag 14 25 hH ?_
     refine wpAnyH_done (by kernel_rfl) ?_ _
     go_wp2_with fail
     go_ret
     exact⟨rfl,sP.out.trans (Ht.out.mono vM.out.sz)⟩
    ·simp only[aj hbg] at qE
     refine aR 9 (fun K hK=>?_)
     go_simp
     refine qE.out.mono ?_
     rintro e3 w16 ⟨wv,rfl,how,JG⟩
     have Ht:=af (Jc.out.trans (JG.mono Jc.out.size))
     obtain⟨Aw,cw,hwv,O3,-,hrw,-⟩:=aC how
     obtain⟨nw,Gs⟩:∃k,(jB AI++AI.body.data.toList).length=k:=⟨_,rfl⟩
     rw[Gs] at hwv O3 hrw
     subst hwv
     have YT:nw≤1000000:=by
      rw[←Gs]
      rw[aN,HHA.out,Dt.out.2.2.2.2,nV];show hA+body.size≤_;omega
     have gY:=af (ahd (c:=cw) AI w16 hrw rfl O3 YT HMI.out.1)
     clear JG how O3 hrw YT Gs
     refine hK.out _ _ (E_.out _ Ht.out) (fun hH=>?_)
     clear hK K
     try simp only[Act.put,az,ay,aA]
     refine ag 10 180 hH ?_
     refine ag 11 191 hH ?_
     refine ag 12 192 hH ?_
     refine ag 13 24 hH ?_
     refine ag 14 25 hH ?_
     refine wpAnyH_done (by kernel_rfl) ?_ _
     go_wp2_with fail
     refine gY.out.mono ?_
     rintro e4 sN ⟨alv,v2,rfl,hoa,jh⟩
     obtain⟨Aa,ca,hav,-,-,Ej,-⟩:=aC hoa
     subst hav
     obtain⟨qN,ry,rfl,Md,JP⟩:=Ej.2 (by omega)
     obtain⟨FL,hFL⟩:∃FL,AI.fields.map cO=FL:=⟨_,rfl⟩
     rw[hFL] at jh
     obtain⟨nl,hnl⟩:∃nl,FL.length=nl:=⟨_,rfl⟩
     obtain⟨A2,c2,hv2,-,-,hr2,-⟩:=aC jh.1
     rw[hnl] at hv2 hr2
     subst hv2
     have K6:=af (And.intro hFL hnl)
     have d0:sN.cell? ⟨qN,ry,none⟩=some (.string AI.aW):=JP 0 (by omega)
     have d1:sN.cell? ⟨qN,ry+1,none⟩=some (.string AI.tgt):=JP 1 (by omega)
     have d2:sN.cell? ⟨qN,ry+2,none⟩=some (.slice A2 nl c2):=JP 2 (by omega)
     have d3:sN.cell? ⟨qN,ry+3,none⟩=some (.string AI.body):=JP 3 (by omega)
     have hb17:Below w16.heap.size w16 sN:=jh.2
     have Jd:=af (Ht.out.trans (hb17.mono Ht.out.size))
     obtain⟨g0,g1,g2,g3,g4⟩:=C_ (vM.out.below Jd.out).head
     have hrR:Rd sN sN.heap.size 3 Ar R.fields.length (fds R.fields):=Rd.lJ (((vM.out.below Jd.out).pick [_]).head)
     have fU:=af hr2
     have HROF:=af (fun (wx:World) (h:Below sN.heap.size sN wx)=>ahQ (c:=cr) R body ⟨#[100,114,97,119,98,114,105,100,103,101]⟩ wx (hrR.later h) (by have:=f_.out.no;omega) f_.out.tx hno (by decide))
     have J9:rb<sN.heap.size:=(Array.getElem?_eq_some_iff.1 (show sN.heap[rb]?=some _ from (vM.out.below Jd.out).head)).1
     have K4:Hid (∀wx,Below sN.heap.size sN wx→wx.cell? ⟨qN,ry,none⟩=some (.string AI.aW)∧wx.cell? ⟨qN,ry+1,none⟩=some (.string AI.tgt)∧wx.cell? ⟨qN,ry+2,none⟩=some (.slice A2 nl c2)∧wx.cell? ⟨qN,ry+3,none⟩=some (.string AI.body)∧wx.cell? ⟨rb,0,none⟩=some (.string R.aW)∧wx.cell? ⟨rb,1,none⟩=some (.string R.iH)∧wx.cell? ⟨rb,2,none⟩=some (.string R.ek)∧wx.cell? ⟨rb,3,none⟩=some (.string R.path)∧wx.cell? ⟨rb,4,none⟩=some (.slice Ar R.fields.length cr)):=af (fun wx h=>
      ⟨(h.cell (p:=⟨qN,ry,none⟩) Md).trans d0,(h.cell (p:=⟨qN,ry+1,none⟩) Md).trans d1,(h.cell (p:=⟨qN,ry+2,none⟩) Md).trans d2,(h.cell (p:=⟨qN,ry+3,none⟩) Md).trans d3,(h.cell (p:=⟨rb,0,none⟩) J9).trans g0,(h.cell (p:=⟨rb,1,none⟩) J9).trans g1,(h.cell (p:=⟨rb,2,none⟩) J9).trans g2,(h.cell (p:=⟨rb,3,none⟩) J9).trans g3,(h.cell (p:=⟨rb,4,none⟩) J9).trans g4⟩)
     clear hFL hnl hoa jh Ej JP hr2 d0 d1 d2 d3 g0 g1 g2 g3 g4 hrR hb17 gY qE
     go_upto_region 36 with fail
     refine wp_region_held_drew (S:=fun w'=>w'.cell? ⟨qN,ry,none⟩=some (.string AI.aW)∧w'.cell? ⟨qN,ry+1,none⟩=some (.string AI.tgt)∧w'.cell? ⟨qN,ry+2,none⟩=some (.slice A2 nl c2)∧w'.cell? ⟨qN,ry+3,none⟩=some (.string AI.body)∧w'.cell? ⟨rb,0,none⟩=some (.string R.aW)∧w'.cell? ⟨rb,1,none⟩=some (.string R.iH)∧w'.cell? ⟨rb,2,none⟩=some (.string R.ek)∧w'.cell? ⟨rb,3,none⟩=some (.string R.path)∧w'.cell? ⟨rb,4,none⟩=some (.slice Ar R.fields.length cr)) (by kernel_rfl) (K4.out _ (by exact⟨rfl,rfl,rfl,ah _,fun _ _=>rfl⟩)) (fun hH=>?_)
     refine ag 0 202 hH ?_
     refine ag 1 203 hH ?_
     refine ag 2 204 hH ?_
     refine ag 3 205 hH ?_
     refine ag 4 206 hH ?_
     refine ag 5 207 hH ?_
     refine ag 6 208 hH ?_
     refine ag 7 209 hH ?_
     refine ag 8 210 hH ?_
     refine ag 9 211 hH ?_
     refine ag 10 212 hH ?_
     refine ag 11 213 hH ?_
     refine ag 12 214 hH ?_
     refine aR 13 (fun K hK=>?_)
     go_simp
     refine (HROF.out _ (by exact⟨rfl,rfl,rfl,ah _,fun _ _=>rfl⟩)).mono ?_
     rintro e5 w18 ⟨rv2,rfl,Mt⟩
     have hb18:Below sN.heap.size sN w18:=by first | exact Mt.2 | exact Below.trans (by exact⟨rfl,rfl,rfl,ah _,fun _ _=>rfl⟩) Mt.2
     have Nt:=af hb18
     obtain⟨Aq,cq,hq18,-,-,PO,-⟩:=aC Mt.1
     subst hq18
     obtain⟨AR,hAR⟩:∃AR,rz R body ⟨#[100,114,97,119,98,114,105,100,103,101]⟩=AR:=⟨_,rfl⟩
     rw[hAR] at PO ⊢
     have hla:wN AI=wN AR:=by rw[HMI.out.2,hAR]
     have hlz:AR.fields.length=AI.fields.length:=by have h:=congrArg (fun a:gW=>a.fields.length) hla;unfold wN at h;simpa using h.symm
     have htxR:Tx AR.fields:=by
      rw[←hAR]
      intro f hf
      rcases List.mem_append.1 hf with hf | hf
      ·rcases List.mem_append.1 hf with hf | hf
       ·rw[List.mem_singleton.1 hf]
        exact⟨by show aG.size≤_;decide +kernel,by have:=f_.out.ek;show R.ek.size≤_;omega⟩
       ·unfold dJ at hf
        exact f_.out.tx f (KI (List.mem_filter.1 hf).1).1
      ·rw[List.mem_singleton.1 hf]
       exact⟨by show rG.size≤_;decide +kernel,by show ((⟨#[50,32]⟩:ByteArray)++⟨#[100,114,97,119,98,114,105,100,103,101]⟩).size≤_;decide +kernel⟩
     have hlaI:wN AR=⟨AI.aW,AI.tgt,FL,AI.body⟩:=by rw[←hla,←K6.out.1];rfl
     have CE:=ahK (c:=cq) AR w18 PO (by have:=Dt.out.1;omega) htxR
     rw[hlaI] at CE
     unfold mP at CE
     dsimp only at CE
     have Dn:=af CE
     have HLA:=af (And.intro hla hlz)
     clear Mt hb18 PO hAR hla hlz htxR CE hlaI
     unfold mP
     refine hK.out _ _ (K4.out _ Nt.out) (fun hH=>?_)
     clear hK K
     try simp only[Act.put,az,ay,aA]
     refine aR 14 (fun K hK=>?_)
     go_simp
     refine Dn.out.mono ?_
     rintro e6 w19 ⟨lv,rfl,Pz⟩
     have KV:=af (Nt.out.trans (Pz.2.mono Nt.out.size))
     obtain⟨Al,cl2,hl19,-,-,PR,-⟩:=aC Pz.1
     rw[K6.out.2] at hl19 PR
     subst hl19
     have hr2':=fU.out.later KV.out
     have hnlb:nl≤1048576:=by rw[←K6.out.2,←K6.out.1,List.length_map];have h:=Dt.out.1;omega
     have hsm:=aif (c1:=c2) (c2:=cl2) ⟨AI.aW,AI.tgt,FL,AI.body⟩ w19 hr2' PR hnlb
     unfold mP at hsm
     dsimp only at hsm
     have pQ:=af hsm
     clear Pz PR hr2' hsm hnlb
     refine hK.out _ _ (K4.out _ KV.out) (fun hH=>?_)
     clear hK K
     try simp only[Act.put,az,ay,aA]
     refine aR 15 (fun K hK=>?_)
     go_simp
     refine pQ.out.mono ?_
     rintro e7 w20 ⟨rfl,hb20⟩
     have HB20:=af (KV.out.trans (hb20.mono KV.out.size))
     clear hb20
     refine hK.out _ _ (K4.out _ HB20.out) (fun hH=>?_)
     clear hK K
     try simp only[Act.put,az,ay,aA]
     refine ag 16 218 hH ?_
     refine ag 17 6 hH ?_
     refine wpAnyH_done (by kernel_rfl) ?_ _
     go_wp2_with fail
     go_ret
     exact⟨rfl,(sP.out.trans (Jd.out.mono vM.out.sz)).trans (HB20.out.mono (gM vM.out.sz Jd.out.size))⟩
    --ENDGOOD
end
section
open Go.ChangeShapes Go.WideShapes Go.ChangeAt Go.RowKit Go.WideMaps Go.ChangeMaps Go.Deep
set_option maxRecDepth 100000
theorem abt {H:Type}{P:Program}{e:TypeId}:∀{l:List (DataW H)}{d:DataW H},d ∈ l→∀n ∈ d.weights P e,n ∈ DataW.weightsAll P e l
 | a :: l,d,hd,n,hn=>by
  simp only[DataW.weightsAll,List.mem_append]
  rcases List.mem_cons.1 hd with rfl | h
  ·exact Or.inl hn
  ·exact Or.inr (abt h n hn)
def Dw {H:Type}(t:TypeId) (d:DataW H):Prop:=∀n ∈ d.weights Tryz.prog t,n≤reachBytes
theorem af4 {H:Type}{ts:List TypeId}{ds:List (DataW H)}(hsz:(DataW.weightsEach Tryz.prog ts ds).all (·≤reachBytes)=true){j:Nat}{t:TypeId}{d:DataW H}(ht:ts[j]?=some t) (hd:ds[j]?=some d):Dw t d:=
 fun n hn=>of_decide_eq_true (List.all_eq_true.1 hsz _ (DataW.weights_mem_each ht hd n hn))
theorem Dw.elem {H:Type}{t e:TypeId}{elems spare:List (DataW H)}(h:Dw t (.slice elems spare)) (hu:Tryz.prog.underlying t=some (.slice e)){d:DataW H}(hd:d ∈ elems):Dw e d:=fun n hn=>
 h n (by simp only[DataW.weights,hu,qG,List.mem_append];exact .inr (.inl (abt hd n hn)))
theorem Dw.len {H:Type}{t e:TypeId}{elems spare:List (DataW H)}(h:Dw t (.slice elems spare)) (hu:Tryz.prog.underlying t=some (.slice e)):(elems.length+spare.length)*Tryz.prog.bytesOf e≤reachBytes:=
 h _ (by simp[DataW.weights,hu])
section
variable {H:Type} {enc:TypeId×Value→H} {W:World}
theorem ad_ {cs:List Value}{x:DataW H×List MemPlace}{n:Nat}(h:DataW.trod enc Tryz.prog W 0 (fun _=>true) true n 26 cs=some x) (hw:Dw 26 x.1) :
 ∃f:Fd,cs=[.string f.1.1,.string f.1.2,.bool f.2]∧f.1.1.size≤140737488351232∧f.1.2.size≤140737488351232:=by
 obtain⟨xs,m,_,hd0,hl,hx,hf⟩:=DataW.trod_struct Tryz.underlying26 h
 rw[show Tryz.prog.cellsOf 26=3 by kernel_rfl] at hl
 have cb:Tryz.prog.cellsOf 4=1:=by kernel_rfl
 have cs1:Tryz.prog.cellsOf 9=1:=by kernel_rfl
 match cs,hl with
 | [c0,c1,c2],_=>
  match xs,hx with
  | [x0,x1,x2],_=>
   have f0:=hf 0 _ rfl
   have f1:=hf 1 _ rfl
   have f2:=hf 2 _ rfl
   change DataW.trod enc Tryz.prog W 0 _ true m 9 (List.take (Tryz.prog.cellsOf 9) (List.drop 0 [c0,c1,c2]))=some x0 at f0
   change DataW.trod enc Tryz.prog W 0 _ true m 9 (List.take (Tryz.prog.cellsOf 9) (List.drop 1 [c0,c1,c2]))=some x1 at f1
   change DataW.trod enc Tryz.prog W 0 _ true m 4 (List.take (Tryz.prog.cellsOf 4) (List.drop 2 [c0,c1,c2]))=some x2 at f2
   rw[cb] at f2
   rw[cs1] at f0 f1
   obtain⟨a,e0,y0,w0⟩:=DataW.trod_string Tryz.underlying9 f0
   obtain⟨b,e1,y1,w1⟩:=DataW.trod_string Tryz.underlying9 f1
   obtain⟨v,e2,-⟩:=DataW.trod_bool Tryz.underlying4 f2
   simp at e0 e1 e2
   subst e0 e1 e2 y0 y1
   rw[hd0] at hw
   refine⟨((a,b),v),rfl,?_,?_⟩
   ·have h2:=hw a.data.toList.length (by simp[DataW.weights,Tryz.underlying26,DataW.weightsEach])
    have h3:a.data.toList.length=a.size:=by simp
    unfold reachBytes at h2
    show a.size≤_
    omega
   ·have h2:=hw b.data.toList.length (by simp[DataW.weights,Tryz.underlying26,DataW.weightsEach])
    have h3:b.data.toList.length=b.size:=by simp
    unfold reachBytes at h2
    show b.size≤_
    omega
theorem ad9 (F:Nat→Fd) (n:Nat):∀i,i<n→∀j,j<3→(fds ((List.range n).map F))[i*3+j]?=[Value.string (F i).1.1,.string (F i).1.2,.bool (F i).2][j]?:=by
 intro i hi j hj
 have hg:((List.range n).map F)[i]?=some (F i):=by simp[hi]
 have e:=Yd hg
 match j,hj with
 | 0,_=>exact e.1
 | 1,_=>exact e.2.1
 | 2,_=>exact e.2.2
theorem fds5 {cs:List Value}{x:DataW H×List MemPlace}{fuel B:Nat}(h:DataW.trod enc Tryz.prog W 0 (fun _=>true) true fuel 22 cs=some x) (hw:Dw 22 x.1) (hlt:∀y ∈ x.2,y.block<B) :
 ∃A n c l,cs=[.slice A n c]∧n≤c∧c≤maxLen∧n≤140737488351232∧l.length=n∧Rd W B 3 A n (fds l)∧∀f ∈ l,f.1.1.size≤140737488351232∧f.1.2.size≤140737488351232:=by
 rcases open_slice Tryz.underlying22 h with ⟨hcs,hx⟩ | ⟨a,len,cap,m,k,D,Pl,hcs,_,hl,hm,fA,hx,hi⟩
 ·exact⟨none,0,0,[],hcs,ah _,aL _,by omega,rfl,Rd.none_ _ _ _ _,fun f hf=>by cases hf⟩
 ·have hmc:m=cap:=by simpa using fA
  subst hmc
  subst hx
  have hC:Tryz.prog.cellsOf 26=3:=by kernel_rfl
  have Y0:=hw.len Tryz.underlying22
  rw[show Tryz.prog.bytesOf 26=40 by kernel_rfl] at Y0
  simp[reachBytes] at Y0
  have hall:∀i,i<len→∃f:Fd,(∀j,j<3→W.cell? (a.add (i*3+j))=[Value.string f.1.1,.string f.1.2,.bool f.2][j]?)∧f.1.1.size≤140737488351232∧f.1.2.size≤140737488351232:=by
   intro i hil
   obtain⟨cs',hc,ht'⟩:=hi i (by omega)
   rw[hC] at hc
   obtain⟨f,rfl,s1,s2⟩:=ad_ ht' (hw.elem Tryz.underlying22 (by simp only[List.mem_map,List.mem_range];exact⟨i,hil,rfl⟩))
   obtain⟨_,_,hat⟩:=World.cells?_some hc
   exact⟨f,fun j hj=>by rw[←Go.Deep.add_add];exact hat j hj,s1,s2⟩
  obtain⟨F,hF⟩:=choose_lt (α:=Fd) hall
  refine⟨some a,len,m,(List.range len).map F,hcs,hl,hm,by omega,by simp,⟨by rw[jJ];simp,fun hn=>?_⟩,fun f hf=>?_⟩
  ·obtain⟨ab,ao,spot⟩:=a
   have hspot:spot=none:=by
    have:=(hF 0 hn).1 0 (by omega)
    simpa [Addr.add] using World.cell?_spot this
   subst hspot
   refine⟨ab,ao,rfl,?_,fun j hj=>?_⟩
   ·exact hlt (.cell ab ao) (List.mem_append_left _ (by rw[hC];simp only[MemPlace.row,List.mem_map,List.mem_range];exact⟨0,by omega,rfl⟩))
   ·have hd:=Nat.div_add_mod j 3
    have h1:j / 3<len:=by omega
    have h2:j%3<3:=by omega
    have:=(hF (j / 3) h1).1 (j%3) h2
    rw[←ad9 F len (j / 3) h1 (j%3) h2,show j / 3*3+j%3=j by omega,Addr.add_lit] at this
    exact this
  ·obtain⟨i,hi',rfl⟩:=List.mem_map.1 hf
   exact (hF i (List.mem_range.1 hi')).2
structure Bt where
 A:Option Addr
 n:Nat
 c:Nat
 l:List UInt8
def BtAt (w:World) (B b o:Nat) (x:Bt):Prop:=w.cell? ⟨b,o,none⟩=some (.slice x.A x.n x.c)∧x.n≤x.c∧x.c≤maxLen∧x.n≤140737488351232∧Rd w B 1 x.A x.n (ak x.l)
def Bts (w:World) (B:Nat) (A:Option Addr) (n:Nat) (D:Nat→Bt):Prop:=0<n→∃b o,A=some ⟨b,o,none⟩∧b<B∧∀i,i<n→BtAt w B b (o+i) (D i)
theorem Bts.below {w w':World}{B:Nat}{A:Option Addr}{n:Nat}{D:Nat→Bt}(h:Bts w B A n D) (hb:Below B w w'):Bts w' B A n D:=by
 intro hn
 obtain⟨b,o,hA,hlt,hc⟩:=h hn
 refine⟨b,o,hA,hlt,fun i hi=>?_⟩
 obtain⟨h1,h2,h3,h4,h5⟩:=hc i hi
 exact⟨(hb.cell (p:=⟨b,o+i,none⟩) hlt).trans h1,h2,h3,h4,h5.below hb (ah _)⟩
structure Do5 where
 st:Bool
 lim:Int
 A:Option Addr
 n:Nat
 c:Nat
 l:List Fd
structure DoOk (W:World) (B:Nat) (x:Do5):Prop where
 lo : -9223372036854775808≤x.lim
 hi:x.lim≤9223372036854775807
 nc:x.n≤x.c
 cm:x.c≤maxLen
 nr:x.n≤140737488351232
 len:x.l.length=x.n
 rd:Rd W B 3 x.A x.n (fds x.l)
 sz:∀f ∈ x.l,f.1.1.size≤140737488351232∧f.1.2.size≤140737488351232
def DoAt (w:World) (B b o:Nat) (x:Do5):Prop:=(w.cell? ⟨b,o,none⟩=some (.bool x.st)∧w.cell? ⟨b,o+1,none⟩=some (.int .i64 x.lim)∧w.cell? ⟨b,o+2,none⟩=some (.slice x.A x.n x.c))∧DoOk w B x
def Nl (w:World) (B:Nat) (A:Option Addr) (n:Nat) (D:Nat→Do5):Prop:=0<n→∃b o,A=some ⟨b,o,none⟩∧b<B∧∀i,i<n→DoAt w B b (o+i*3) (D i)
theorem Nl.below {w w':World}{B:Nat}{A:Option Addr}{n:Nat}{D:Nat→Do5}(h:Nl w B A n D) (hb:Below B w w'):Nl w' B A n D:=by
 intro hn
 obtain⟨b,o,hA,hlt,hc⟩:=h hn
 refine⟨b,o,hA,hlt,fun i hi=>?_⟩
 obtain⟨⟨h1,h2,h3⟩,ok⟩:=hc i hi
 have e:∀j,w'.cell? ⟨b,j,none⟩=w.cell? ⟨b,j,none⟩:=fun j=>hb.cell (p:=⟨b,j,none⟩) hlt
 exact⟨⟨(e _).trans h1,(e _).trans h2,(e _).trans h3⟩,{ ok with rd:=ok.rd.below hb (ah _) }⟩
end
section
variable {H:Type} {enc:TypeId×Value→H} {W:World} {base:Nat}
theorem agn {v:Value}{d:DataW H}{p:List MemPlace}(hval:Value.okWide Tryz.prog W .any base 22 v) (h:DataW.Trod enc Tryz.prog W 0 (fun _=>true) true 22 v d p)
 (hlt:∀x ∈ p,x.block<W.heap.size) {ts:List TypeId} {ds:List (DataW H)} (hsz:(DataW.weightsEach Tryz.prog ts ds).all (·≤reachBytes)=true) {j:Nat} (ht:ts[j]?=some 22) (hd:ds[j]?=some d) :
 ∃A n c l,v = .slice A n c∧n≤c∧c≤maxLen∧n≤140737488351232∧l.length=n∧Rd W W.heap.size 3 A n (fds l)∧∀f ∈ l,f.1.1.size≤140737488351232∧f.1.2.size≤140737488351232:=by
 obtain⟨a1,len,cap,rfl⟩:=okWide_slice Tryz.underlying22 hval
 obtain⟨fuel,hf⟩:=h
 obtain⟨A,n,c,l,hv,hr⟩:=fds5 hf (af4 hsz ht hd) hlt
 simp[Value.cells] at hv
 obtain⟨rfl,rfl,rfl⟩:=hv
 exact⟨_,_,_,l,rfl,hr⟩
end
end
section
open Go.ChangeShapes Go.WideShapes Go.ChangeAt Go.RowKit
theorem afa {f:FuncId}{fn:Func}{s:ChangeSpec}{tb:TypeId}{H:Type}{enc:TypeId×Value→H}{os:Os}{laid:List (String×DataW Unit)}(started:os.Started)
 (noInit:Tryz.prog.inits.idxOf? f=none) (hfn:Tryz.prog.funcs[f]?=some fn)
 (hts:∀t ∈ fn.params.toList,Tryz.prog.readableRec t=true∧t<Tryz.prog.types.size) (hres:fn.resultTypes=#[tb]) (htb:Tryz.prog.underlying tb=some .bool) (hv:s.vars=[])
 (witness:∃(w:World) (tape:Tape) (i:Input),w.os=os∧(w.forCall tape i).Shaped Tryz.checked.prog∧i.vars=[]∧Input.okWide Tryz.checked.prog (w.forCall tape i) .any w.heap.size f i ∧
  ((s.pre enc Tryz.checked.prog fn [] false (w.forCall tape i).memory i.args∧laidMetH Tryz.prog laid (w.forCall tape i).memory)∧sizedMet enc Tryz.checked.prog fn (OpenSpec.ofChange s) false (w.forCall tape i).memory i.args)∧({}:Assume).holds Tryz.checked.prog (lone (Frame.enter Tryz.checked.prog f i.args .normal) [] (w.forCall tape i)))
 (walk:∀(W:World) (base:Nat) (args:Array Value) (ds:List (DataW H)) (p:List MemPlace),(∀(j:Nat) t v,fn.params[j]?=some t→args[j]?=some v→Value.okWide Tryz.prog W .any base t v) →
  DataW.TrodAll enc Tryz.prog W 0 (fun _=>true) true fn.params.toList args.toList ds p→(∀x ∈ p,x.block<W.heap.size) →
  (DataW.weightsEach Tryz.prog fn.params.toList ds).all (·≤reachBytes)=true →
  s.fn H ds = { results:=[.lit (.bool true)],args:=ds }∧Calls Tryz.prog f args W (RetT W)) :
 ReturnsInHanded {} Tryz.checked os f .any (fun w args=>(s.pre enc Tryz.prog fn [] false w args∧laidMetH Tryz.prog laid w)∧sizedMet enc Tryz.prog fn (OpenSpec.ofChange s) false w args) (s.post enc Tryz.prog fn false true false false):=by
 refine returnsInHanded_of_change_and (C:=Tryz.checked) (X:=fun w _=>laidMetH Tryz.prog laid w) (fun _ _ _ hh h=>h.of_heap hh) own started noInit hfn witness ?_
 intro W base args ds gs before hval hW _ hsz0 _ _
 have hW0:=hW
 obtain⟨p,q,hA,hV,rfl,_,_⟩:=hW
 rw[hv] at hV
 obtain⟨rfl,rfl⟩:=trodVars_none hV
 have GN:s.plain.varTypes Tryz.checked.prog=[]:=by
  simp[DataSpec.varTypes,ChangeSpec.plain,hv]
 rw[GN] at hsz0
 simp only[kR] at hsz0 hW0
 have hlt:∀x ∈ p,x.block<W.heap.size:=fun x hx=>by simpa using hW0.lt x hx
 obtain⟨hs,hc⟩:=walk W base args ds p hval hA hlt hsz0
 exact hc.mono fun e W' h=>ae_ laidOut hts hres htb hW0 hv hs h
end
end Go.Proofs.YtpkmciohehaboaaGreatDoor
