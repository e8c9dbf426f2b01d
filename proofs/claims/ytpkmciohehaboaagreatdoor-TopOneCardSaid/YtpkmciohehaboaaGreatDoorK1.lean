/- Part 1 of the proof. -/
import Derived.Test.YtpkmciohehaboaaGreatDoorK0
import Derived.Deep.RegionHeld3
import Derived.BigGuard
import Derived.WalkKit
import Derived.Handy
import Derived.Lib.Hide
import Derived.KernelRfl
import Derived.Maps.AppendAt
import Derived.Deep.AppendLies
import Derived.Deep.Draws
import Derived.Test.YtpkmciohehaboaaGreatDoorChecked
import Derived.ArgAppend
import Derived.Deep.Upon
import Derived.Deep.OwnRows
import Derived.Deep.QuietTactic
import Derived.Deep.Cut
import Derived.Deep.CutRange
import Derived.BigQuiet
import Derived.Great.Walk
import Derived.Lib.AppendStr
set_option maxRecDepth 100000
set_option maxHeartbeats 100000000
set_option linter.unusedVariables false
set_option linter.unusedSimpArgs false
set_option linter.unusedSectionVars false
set_option linter.unnecessarySimpa false
namespace Go.Proofs.YtpkmciohehaboaaGreatDoor
section
open Go.RowKit
theorem ag {P:Program}{md:Region.Mode}{ops:Array Oper}{Q:Exit→Act→World→Prop}{S:World→Prop}{fuel:Nat}{listed L:Array Bool}{a a':Act}{w:World}{v:Value}{o:Oper}(i d:Nat) (hS:S w)
 (h:wpAnyH P md ops Q S fuel L a' w)
 (hi:ops[i]?=some o:=by exact rfl)
 (hd:o.dst=some d:=by exact rfl)
 (hs:Region.noSelect ops=true:=by kernel_rfl) (hf:Region.free md ops listed i=true:=by kernel_rfl) (hr:(Region.ready md ops listed).contains i=true:=by kernel_rfl)
 (hw:Region.wanted o (yielded ops a.tmps)=true:=by kernel_rfl)
 (hy:∀wt,S wt→(execOp a.eval o).run P wt = .ok (.value v) wt:=by
  (intro wt hSw;(repeat (rcases hSw with ⟨h0,hSw⟩));go_simp;all_goals with_reducible rfl))
 (hQ:∀c a w,Q (.panic c) (a.put (some d) v) w→Q (.panic c) a w:=by exact fun _ _ _ h=>h)
 (hL:listed.setIfInBounds i true=L:=by ((try simp only[az,ay,aA]);try exact rfl))
 (ha:a.put (some d) v=a':=by ((try simp only[Act.put,az,ay,aA]);try exact rfl)) :
 wpAnyH P md ops Q S (fuel+1) listed a w:=by
 subst hL;subst ha
 exact wpAnyH_take hi hs hf hr (by rw[hd];exact hQ) (.inl ⟨hw,hy⟩) hS (by rw[hd];exact h)
theorem ai {P:Program}{md:Region.Mode}{ops:Array Oper}{Q:Exit→Act→World→Prop}{S:World→Prop}{fuel:Nat}{listed L:Array Bool}{a a':Act}{w:World}{o:Oper}(i d:Nat) (hS:S w)
 (h:wpAnyH P md ops Q S fuel L a' w)
 (hi:ops[i]?=some o:=by exact rfl)
 (hd:o.dst=some d:=by exact rfl)
 (hs:Region.noSelect ops=true:=by kernel_rfl) (hf:Region.free md ops listed i=true:=by kernel_rfl) (hr:(Region.ready md ops listed).contains i=true:=by kernel_rfl)
 (hw:Region.wanted o (yielded ops a.tmps)=false:=by kernel_rfl)
 (hQ:∀c a w,Q (.panic c) (a.put (some d) undef) w→Q (.panic c) a w:=by exact fun _ _ _ h=>h)
 (hL:listed.setIfInBounds i true=L:=by ((try simp only[az,ay,aA]);try exact rfl))
 (ha:a.put (some d) undef=a':=by ((try simp only[Act.put,az,ay,aA]);try exact rfl)) :
 wpAnyH P md ops Q S (fuel+1) listed a w:=by
 subst hL;subst ha
 exact wpAnyH_take hi hs hf hr (by rw[hd];exact hQ) (.inr ⟨hw,rfl⟩) hS (by rw[hd];exact h)
end
section
open Go.RowKit
theorem aR {P:Program}{md:Region.Mode}{ops:Array Oper}{Q:Exit→Act→World→Prop}{S:World→Prop}{fuel:Nat}{listed:Array Bool}{a:Act}{w:World}{o:Oper}(i:Nat)
 (h:∀K':Act→World→Prop,Shut (∀a w,S w→(S w→wpAnyH P md ops Q S fuel (listed.setIfInBounds i true) a w)→K' a w)→if Region.wanted o (yielded ops a.tmps)=true then Oper.wp P o a w K' Q else K' (a.put o.dst undef) w)
 (hr:Region.ready md ops listed=[i]:=by kernel_rfl)
 (ho:ops[i]?=some o:=by exact rfl):wpAnyH P md ops Q S (fuel+1) listed a w:=
 wpAnyH_ready hr (by simp) (AllReadyH.cons ho h AllReadyH.nil)
end
section
open Go.RowKit
def bv (c:UInt8):Value:=.int .u8 (c.toNat:Int)
def ak (l:List UInt8):List Value:=l.map bv
theorem tO (l:List UInt8):(ak l).length=l.length:=by simp[ak]
theorem mU (l k:List UInt8):ak (l++k)=ak l++ak k:=by simp[ak]
theorem Ak {n:Int}(h0 : 0≤n) (h1:n<256):Value.int .u8 n=bv (UInt8.ofNat n.toNat):=by
 unfold bv
 have:(UInt8.ofNat n.toNat).toNat=n.toNat:=by simp[UInt8.toNat_ofNat'];omega
 rw[this,Int.toNat_of_nonneg h0]
theorem kZ (l:List UInt8):∀u ∈ ak l,u.oneCell'=true:=by
 intro u hu
 obtain⟨c,_,rfl⟩:=List.mem_map.1 hu
 rfl
def Rd (w:World) (B size:Nat) (A:Option Addr) (n:Nat) (xs:List Value):Prop:=
 xs.length=n*size∧(0<n→∃b o,A=some ⟨b,o,none⟩∧b<B∧∀j,j<n*size→w.cell? ⟨b,o+j,none⟩=xs[j]?)
section
variable {w w':World} {B B' size n:Nat} {A:Option Addr} {xs:List Value}
theorem Rd.none_ (w:World) (B size:Nat) (A:Option Addr):Rd w B size A 0 []:=⟨by simp,fun h=>absurd h (by omega)⟩
theorem Rd.keep (h:Rd w B size A n xs) (hk:∀b o,b<B→w'.cell? ⟨b,o,none⟩=w.cell? ⟨b,o,none⟩):Rd w' B size A n xs:=
 ⟨h.1,fun hn=>by
  obtain⟨b,o,e,hb,hc⟩:=h.2 hn
  exact⟨b,o,e,hb,fun j hj=>(hk b _ hb).trans (hc j hj)⟩⟩
theorem Rd.more (h:Rd w B size A n xs) (hB:B≤B'):Rd w B' size A n xs:=
 ⟨h.1,fun hn=>by
  obtain⟨b,o,e,hb,hc⟩:=h.2 hn
  exact⟨b,o,e,by omega,hc⟩⟩
theorem Rd.below {B0:Nat}(h:Rd w B size A n xs) (hb:Below B0 w w') (hB:B≤B0):Rd w' B size A n xs:=h.keep fun b o hp=>hb.cell (p:=⟨b,o,none⟩) (by show b<B0;omega)
theorem Rd.drew (h:Rd w B size A n xs):Rd w.drew B size A n xs:=h
theorem Rd.drewN (h:Rd w B size A n xs) (k:Nat):Rd (w.drewN k) B size A n xs:=h
theorem Rd.alloc (h:Rd w B size A n xs) (hB:B≤w.heap.size) (o:Obj):Rd (w.alloc o) B size A n xs:=h.keep fun b _ hp=>World.cell?_alloc_lt w o _ (by show b<_;omega)
theorem Rd.setCell (h:Rd w B size A n xs){p:Addr}(hB:B≤p.block) (u:Value):Rd (w.setCell p u) B size A n xs:=
 h.keep fun b o hq=>World.cell?_setCell_other w p _ u (fun e=>by subst e;simp at hB;omega)
theorem Rd.grown (h:Rd w B size A n xs){row:Option Nat}(hg:w.grownBy w' row) (hB:B≤w.heap.size) (hr:∀g,row=some g→B≤g):Rd w' B size A n xs:=
 h.keep fun b o hp=>World.cell?_of_block (hg.block b (by omega) (fun e=>by have:=hr _ e.symm;omega))
theorem Rd.lJ {base:Nat}{e:TypeId}{c:Nat}(h:w.ownsRow base e size (.slice A n c) n xs):Rd w w.heap.size size A n xs:=by
 refine⟨h.1,fun hn=>?_⟩
 obtain⟨g,cap,hv,_,hlt⟩:=h.form hn
 have hA:A=some ⟨g,0,none⟩:=by injection hv
 subst hA
 refine⟨g,0,rfl,hlt,fun j hj=>?_⟩
 have hx:xs[j]?=some (xs[j]'(by rw[h.1];exact hj)):=a_ _
 rw[hx]
 have:=h.cells (g:=g) rfl j _ hx
 rw[Addr.add_lit] at this
 exact this
theorem Rd.piece (h:Rd w B size A n xs){lo hi cap:Nat}(hlo:lo≤hi) (hhi:hi≤n) (hc:n≤cap) :
 Rd w B size (if cap=lo then A else A.map (·.add (lo*size))) (hi-lo) ((xs.drop (lo*size)).take ((hi-lo)*size)):=by
 have hm:hi*size≤n*size:=Cf _ hhi
 have hm2:(hi-lo)*size=hi*size-lo*size:=Nat.sub_mul ..
 refine⟨by rw[kS,xk,h.1,hm2];omega,fun hn=>?_⟩
 obtain⟨b,o,rfl,hb,hcell⟩:=h.2 (by omega)
 rw[aj (by omega)]
 refine⟨b,o+lo*size,by simp[Addr.add_lit],hb,fun j hj=>?_⟩
 have hml:lo*size≤hi*size:=Cf _ hlo
 rw[xq,hcell _ (by omega),List.getElem?_take,ax hj,List.getElem?_drop]
theorem Rd.len (h:Rd w B size A n xs):xs.length=n*size:=h.1
end
theorem Rd.at_ {w:World}{B n:Nat}{A:Option Addr}{xs:List Value}(h:Rd w B 1 A n xs) (hn : 0<n) :
 ∃b o,A=some ⟨b,o,none⟩∧b<B∧∀j,j<n→w.cell? ⟨b,o+j,none⟩=xs[j]?:=by
 obtain⟨b,o,e,hb,hc⟩:=h.2 hn
 exact⟨b,o,e,hb,fun j hj=>hc j (by omega)⟩
theorem Rd.bytes {w:World}{B n:Nat}{A:Option Addr}{l:List UInt8}(h:Rd w B 1 A n (ak l)) (hn : 0<n) :
 l.length=n∧∃b o,A=some ⟨b,o,none⟩∧b<B∧∀j,j<n→w.cell? ⟨b,o+j,none⟩=some (.int .u8 ((l.getD j 0).toNat:Int)):=by
 have hl:l.length=n:=by have:=h.1;simp[ak] at this;omega
 refine⟨hl,?_⟩
 obtain⟨b,o,e,hb,hc⟩:=h.at_ hn
 refine⟨b,o,e,hb,fun j hj=>?_⟩
 rw[hc j hj,ak,List.getElem?_map,a_ (by omega)]
 simp[bv,List.getD,a_ (show j<l.length by omega)]
theorem Rd.mR {w:World}{B n:Nat}{A:Option Addr}{l:List UInt8}(h:Rd w B 1 A n (ak l)):l.length=n:=by have:=h.1;simp[ak] at this;omega
theorem Rd.one (w:World) (x:Value) (t:TypeId):Rd (w.alloc (.cells #[x] t)) (w.heap.size+1) 1 (some ⟨w.heap.size,0,none⟩) 1 [x]:=by
 refine⟨rfl,fun _=>⟨_,_,rfl,by omega,fun j hj=>?_⟩⟩
 have:j=0:=by omega
 subst this
 rw[World.cell?_alloc_at _ _ _ _ rfl];rfl
theorem Rd.lit (w:World) (cs:Array Value) (t:TypeId) (n:Nat) (hn:cs.size=n):Rd (w.alloc (.cells cs t)) (w.heap.size+1) 1 (some ⟨w.heap.size,0,none⟩) n cs.toList:=by
 refine⟨by simp[hn],fun _=>⟨_,_,rfl,by omega,fun j hj=>?_⟩⟩
 rw[World.cell?_alloc_at _ _ _ _ rfl]
 simp
structure rR (P:Program) (t e:TypeId) (z:Value) (size bytes:Nat):Prop where
 ht:P.underlying t=some (.slice e)
 info:(P.info? e).map (fun i=>(i.zero,i.size,i.bytes))=some (some z,size,bytes)
 hz:z.cells.size=size
 pos : 0<size
theorem aC {w:World}{base:Nat}{e:TypeId}{size:Nat}{v:Value}{n:Nat}{xs:List Value}(h:w.ownsRow base e size v n xs) :
 ∃A c,v = .slice A n c∧n≤c∧c≤maxLen∧Rd w w.heap.size size A n xs∧∀a,A=some a→base≤a.block:=by
 rcases h.2 with ⟨rfl,rfl⟩ | ⟨g,cap,cur,rfl,hb,hg,hnc,hcm,_⟩
 ·exact⟨none,0,rfl,ah _,aL _,Rd.lJ h,fun _ e=>by cases e⟩
 ·exact⟨_,cap,rfl,hnc,hcm,Rd.lJ h,fun a e=>by cases e;exact hb⟩
section
variable {P:Program} {w:World}
theorem Tw {t e:TypeId}{z:Value}{size bytes:Nat}(ty:TypeId) (hT:rR P t e z size bytes){base:Nat}{v:Value}{n:Nat}{xs:List Value}(hown:w.ownsRow base e size v n xs)
 {B:Nat} {A:Option Addr} {m c:Nat} {news:List Value} (hr:Rd w B size A m news) (h1:∀u ∈ news,u.oneCell'=true)
 (h63:n+m≤maxLen) (hbytes:(n+m)*bytes≤140737488355328) (hbase:base≤w.heap.size) :
 ∃v' w',(Builtin.append_ #[t,t] ty #[v,.slice A m c]).run P w = .ok v' w'∧w'.ownsRow base e size v' (n+m) (xs++news)∧w.grownBy w' v.ownBlock ∧
  (v'.ownBlock=v.ownBlock∨v'.ownBlock=some w.heap.size):=by
 obtain⟨i,hi,hz,hs,hby⟩:=info_parts hT.info
 by_cases hm:A=none
 ·subst hm
  have hm0:m=0:=by
   rcases zT m with h0 | h0
   ·exact h0
   ·obtain⟨_,_,h,_⟩:=hr.2 h0;cases h
  subst hm0
  have hn:news=[]:=zR (by simpa using hr.1)
  subst hn
  refine⟨v,w,?_,by simpa using hown,World.grownBy.refl w _,.inl rfl⟩
  rcases hown.2 with ⟨rfl,rfl⟩ | ⟨g,cap,cur,rfl,_,_,hnc,_⟩
  ·simp[Builtin.append_,run_underlying hT.ht,sizeOf,typeInfo,hi,Builtin.lenOf,Builtin.firstCells]
  ·simp[Builtin.append_,run_underlying hT.ht,sizeOf,typeInfo,hi,Builtin.lenOf,Builtin.firstCells,hnc,storeCells]
 ·obtain⟨ad,rfl⟩:=Option.ne_none_iff_exists'.1 hm
  have hcells:∀j u,news[j]?=some u→w.cell? (ad.add j)=some u:=by
   intro j u hu
   rcases zT m with h0 | h0
   ·subst h0
    have hn:news=[]:=zR (by simpa using hr.1)
    subst hn
    simp at hu
   ·obtain⟨b,o,h,_,hc⟩:=hr.2 h0
    injection h with h
    subst h
    rw[Addr.add_lit,hc j (by have:=(List.getElem?_eq_some_iff.1 hu).1;rw[hr.1] at this;exact this),hu]
  obtain⟨v',w',hrun,h2,h3,_,h5⟩:=run_append_own_at (P:=P) w base t ty e i z size bytes hT.ht hi hz hs hby hT.hz hT.pos v n xs hown ad m c news hr.1 hcells h1 h63 hbytes hbase
  exact⟨v',w',hrun,h2,h3,h5⟩
theorem dQ {ops:Array Oper}{rest:List Oper}{o:Oper}{a:Act}{Q:Exit→Act→World→Prop}(s x:Operand){t e:TypeId}{z:Value}{size bytes:Nat}(hT:rR P t e z size bytes)
 (hgd:o.guard=none) (ho:o.op = .call { callee:=.builtin .append,args:=#[s,x],argTypes:=#[t,t] })
 {base:Nat} {v:Value} {n:Nat} {xs:List Value} (hown:w.ownsRow base e size v n xs) (hs:a.eval s=v)
 {B:Nat} {A:Option Addr} {m c:Nat} {news:List Value} (hr:Rd w B size A m news) (hx:a.eval x = .slice A m c) (h1:∀u ∈ news,u.oneCell'=true)
 (h63:n+m≤maxLen) (hbytes:(n+m)*bytes≤140737488355328) (hbase:base≤w.heap.size)
 (h:∀v' w',w'.ownsRow base e size v' (n+m) (xs++news)→w.grownBy w' v.ownBlock→(v'.ownBlock=v.ownBlock∨v'.ownBlock=some w.heap.size)→wpList P ops Q rest (a.put o.dst v') w'):wpList P ops Q (o :: rest) a w:=by
 refine wpList_plain hgd fun _ hK=>?_
 obtain⟨v',w',hrun,h2,h3,h4⟩:=Tw (P:=P) o.type hT hown hr (c:=c) h1 h63 hbytes hbase
 unfold Oper.wp execOp
 simp only[ho,resolve,invoke,builtin,Sem.run_bind,Sem.run_pure,Result.andThen_ok,List.map_toArray,lV,vU,hs,hx,hrun]
 exact hK _ _ (h v' w' h2 h3 h4)
end
theorem Below.app {w w' W:World}{base B:Nat}{e:TypeId}{size:Nat}{v:Value}{n:Nat}{xs:List Value}(hb:Below B W w) (hown:w.ownsRow base e size v n xs) (hg:w.grownBy w' v.ownBlock)
 (hB:B≤base) (hs:B≤w.heap.size):Below B W w':=
 hb.grown hg hs fun k hk=>gM hB (hown.lt k hk).1
theorem bcell {W w1:World}{B:Nat}(hb:Below B W w1):(∀b o,b<B→w1.cell? ⟨b,o,none⟩=W.cell? ⟨b,o,none⟩)∧(∀b o,b<B→w1.frozen? ⟨b,o,none⟩=W.frozen? ⟨b,o,none⟩):=
 ⟨fun b o h=>hb.cell (p:=⟨b,o,none⟩) h,fun b o h=>hb.frozen (p:=⟨b,o,none⟩) h⟩
theorem Ta (k:IntKind) (n:Int):∀u ∈ [Value.int k n],u.oneCell'=true:=by simp[Value.oneCell']
theorem bn {n:Nat}(h:n≤9223372036854775807):n≤maxLen:=by unfold maxLen;omega
def ba (l:List UInt8) (j:Nat):Nat:=(l.getD j 0).toNat
theorem jg (l:List UInt8) (j:Nat):ba l j<256:=(l.getD j 0).toNat_lt
theorem kH {l:List UInt8}{j:Nat}(h:j<l.length):ba l j=(l[j]).toNat:=by simp[ba,List.getD,a_ h]
theorem adR {l:List UInt8}{j:Nat}(h:j<l.length):∃c,l.drop j=c :: l.drop (j+1)∧c.toNat=ba l j:=
 ⟨l[j],List.drop_eq_getElem_cons h,(kH h).symm⟩
theorem Rd.tL {w:World}{B n:Nat}{A:Option Addr}{l:List UInt8}(h:Rd w B 1 A n (ak l)) (hn : 0<n) :
 l.length=n∧∃b o,A=some ⟨b,o,none⟩∧b<B∧∀j,j<n→w.cell? ⟨b,o+j,none⟩=some (.int .u8 (ba l j:Int)):=h.bytes hn
theorem aiK (l:List UInt8):strOfNums (l.map fun c=>(c.toNat:Int))=⟨l.toArray⟩:=by
 unfold strOfNums
 congr 2
 rw[List.map_map]
 conv=>rhs;rw[←List.map_id l]
 apply List.map_congr_left
 intro c _
 simp
theorem sJ {P:Program}{w:World}{src e dst:TypeId}(hs:P.underlying src=some (.slice e)) (he:P.underlying e=some (.int .u8)) (hd:P.underlying dst=some .string)
 {B n:Nat} {A:Option Addr} {l:List UInt8} (hr:Rd w B 1 A n (ak l)) (c:Nat):(convert src dst (.slice A n c)).run P w = .ok (.string ⟨l.toArray⟩) w:=by
 rcases zT n with rfl | hn
 ·have hl0:l=[]:=zR hr.mR
  subst hl0
  rw[run_convert_bytes_string w src dst e A 0 c hs he hd]
  cases A with
  | none=>rfl
  | some a=>rw[run_bytesToString w a 0 c [] (by simpa using run_loadCells_list (P:=P) w a [] (by simp))];rfl
 ·obtain⟨hl,b,o,rfl,-,hc⟩:=hr.tL hn
  rw[run_convert_bytes_arg w src e hs he b o n c (l.map fun c=>(c.toNat:Int)) (by simpa using hl) (fun i hi=>by
   rw[hc i hi]
   simp[ba,List.getD,a_ (show i<l.length by omega)]) dst hd,aiK]
def RetT (W:World) (e:Ending) (w':World):Prop:=e = .returned (.bool true)∧Below W.heap.size W w'
theorem C8 {a b:Value}(h:a=b):Ending.returned a = .returned b:=by rw[h]
end
section
open Go.RowKit
def sK:Nat→Nat→List UInt8
 | 0,n=>[UInt8.ofNat n]
 | k+1,n=>if n<128 then [UInt8.ofNat n] else UInt8.ofNat (n%128+128) :: sK k (n / 128)
def eP (f F n:Nat):List UInt8:=if n<F then [UInt8.ofNat (f+n)] else UInt8.ofNat (f+F) :: sK 5 (n-F)
theorem aiX (k n:Nat):(sK k n).length≤k+1∧1≤(sK k n).length:=by
 induction k generalizing n with
 | zero=>simp[sK]
 | succ k ih=>
  unfold sK
  split
  ·simp
  ·have:=ih (n / 128);simp;omega
theorem vD (f F n:Nat):(eP f F n).length≤7∧1≤(eP f F n).length:=by
 unfold eP
 split
 ·simp
 ·have:=aiX 5 (n-F);simp;omega
theorem aaZ (k n:Nat) (h:n<128):sK k n=[UInt8.ofNat n]:=by
 cases k with
 | zero=>rfl
 | succ k=>simp[sK,h]
theorem aaY (k n:Nat) (h : 128≤n):sK (k+1) n=UInt8.ofNat (n%128+128) :: sK k (n / 128):=by
 rw[sK,aj (by omega)]
structure Full (bits F:Nat):Prop where
 lo : 1≤bits
 hi:bits≤8
 eq:F+1=2^bits
theorem Full.cases {bits F:Nat}(h:Full bits F):(bits=1∧F=1)∨(bits=2∧F=3)∨(bits=3∧F=7)∨(bits=4∧F=15)∨(bits=5∧F=31)∨(bits=6∧F=63)∨(bits=7∧F=127)∨(bits=8∧F=255):=by
 obtain⟨h1,h2,h3⟩:=h
 have:bits=1∨bits=2∨bits=3∨bits=4∨bits=5∨bits=6∨bits=7∨bits=8:=by omega
 rcases this with rfl | rfl | rfl | rfl | rfl | rfl | rfl | rfl <;> omega
theorem Full.le {bits F:Nat}(h:Full bits F) : 1≤F∧F≤255:=by rcases h.cases with ⟨-,rfl⟩ | ⟨-,rfl⟩ | ⟨-,rfl⟩ | ⟨-,rfl⟩ | ⟨-,rfl⟩ | ⟨-,rfl⟩ | ⟨-,rfl⟩ | ⟨-,rfl⟩ <;> omega
theorem Full.or8 {bits F f n:Nat}(h:Full bits F) (hf:f<256) (h0:f%(F+1)=0) (hn:n≤F):Go.bits .or .u8 (f:Int) (n:Int)=((f+n:Nat):Int)∧f+n<256:=by
 have:=h.le
 have e:=nat_join bits f n (by rw[←h.eq];exact h0) (by rw[←h.eq];omega)
 have hlt:f+n<256:=by
  rw[←e]
  exact Nat.or_lt_two_pow (n:=8) hf (by omega)
 exact⟨by rw[u8_or_nat f n hf (by omega),e],hlt⟩
theorem toNat_ofNat {n:Nat}(h:n<256):(UInt8.ofNat n).toNat=n:=by simp[UInt8.toNat_ofNat'];omega
end
section
open Go.RowKit
def b_ (w:World) (B:Nat) (v:Value) (l:List UInt8):Prop:=w.ownsRow B 5 1 v l.length (ak l)
theorem b_.snoc {w:World}{B:Nat}{v u:Value}{d:List UInt8}{b:UInt8}(h:w.ownsRow B 5 1 v (d.length+1) (ak d++[u])) (hu:u=bv b):b_ w B v (d++[b]):=by
 subst hu
 unfold b_
 rw[aN,mU]
 exact h
def WN (W:World) (l:List UInt8) (err:Int) (e:Ending) (w':World):Prop:=∃v,e = .returned (.tuple #[v,.int .i64 err])∧b_ w' W.heap.size v l∧Below W.heap.size W w'
def jV (W:World) (l:List UInt8) (e:Ending) (w':World):Prop:=∃v,e = .returned v∧b_ w' W.heap.size v l∧Below W.heap.size W w'
theorem iT:rR Tryz.prog 48 5 (.int .u8 0) 1 1:=⟨Tryz.underlying48,by kernel_rfl,rfl,by omega⟩
def abW (w:World) (T:List UInt8) (v m:Value) (wr:World):Prop:=
 ∃d k,∃x:Nat,T=d++sK k x∧x<128^(k+1)∧d.length+k≤6∧x<4294967296∧m = .int .u32 x∧b_ wr w.heap.size v d∧Below w.heap.size w wr
end
section
open Go.RowKit
structure Kept (F:Nat→Prop) (w w':World):Prop where
 os:w'.os=w.os
 tape:w'.tape=w.tape
 output:w'.output=w.output
 size:w.heap.size≤w'.heap.size
 block:∀k,k<w.heap.size→¬F k→w'.heap[k]?=w.heap[k]?
def kX (w:World) (F F':Nat→Prop):Prop:=∀k,F' k→F k∨w.heap.size≤k
section
variable {F F' G:Nat→Prop} {w w' w2:World}
theorem Kept.refl (F:Nat→Prop) (w:World):Kept F w w:=⟨rfl,rfl,rfl,ah _,fun _ _ _=>rfl⟩
theorem Kept.trans (h:Kept F w w') (h2:Kept F' w' w2) (hg:kX w F F'):Kept F w w2:=
 ⟨h2.os.trans h.os,h2.tape.trans h.tape,h2.output.trans h.output,gM h.size h2.size,fun k hk hn=>
  (h2.block k (fI hk h.size) (fun hf=>(hg k hf).elim hn (fun hle=>by omega))).trans (h.block k hk hn)⟩
theorem kX.refl (w:World) (F:Nat→Prop):kX w F F:=fun _ h=>.inl h
theorem kX.trans {F2:Nat→Prop}(h:kX w F F') (h2:kX w' F' F2) (hs:w.heap.size≤w'.heap.size):kX w F F2:=fun k hk=>(h2 k hk).elim (h k) (fun hle=>.inr (by omega))
theorem Kept.same (h:Kept F w w') (h2:Kept F w' w2):Kept F w w2:=h.trans h2 (kX.refl _ _)
theorem Kept.mono (h:Kept F w w') (hf:∀k,F k→G k):Kept G w w':=⟨h.os,h.tape,h.output,h.size,fun k hk hn=>h.block k hk (fun r_=>hn (hf k r_))⟩
theorem Kept.below {B:Nat}(h:Kept F w w') (hf:∀k,F k→B≤k) (hs:B≤w.heap.size):Below B w w':=⟨h.os,h.tape,h.output,h.size,fun k hk=>h.block k (by omega) (fun r_=>by have:=hf k r_;omega)⟩
theorem Kept.jk (h:Below w.heap.size w w'):Kept F w w':=⟨h.os,h.tape,h.output,h.size,fun k hk _=>h.block k hk⟩
theorem Kept.alloc (h:Kept F w w') (o:Obj):Kept F w (w'.alloc o):=⟨h.os,h.tape,h.output,by have:=h.size;simp;omega,fun k hk hn=>(Below.heap_alloc _ _ _ (fI hk h.size)).trans (h.block k hk hn)⟩
theorem Kept.drew (h:Kept F w w'):Kept F w w'.drew:=⟨h.os,h.tape,h.output,h.size,h.block⟩
theorem Kept.drewN (h:Kept F w w') (n:Nat):Kept F w (w'.drewN n):=⟨h.os,h.tape,h.output,h.size,h.block⟩
theorem Kept.setCell (h:Kept F w w'){g:Nat}(hg:F g) (o:Nat) (v:Value):Kept F w (w'.setCell ⟨g,o,none⟩ v):=
 ⟨h.os,h.tape,h.output,by simpa [World.setCell] using h.size,fun k hk hn=>(Below.heap_setCell _ ⟨g,o,none⟩ v _ (fun e=>hn (by simp only at e;rw[e];exact hg))).trans (h.block k hk hn)⟩
theorem Kept.grown (h:Kept F w w'){row:Option Nat}(hg:w'.grownBy w2 row) (hr:∀k,row=some k→F k∨w.heap.size≤k):Kept F w w2:=
 ⟨hg.os.trans h.os,hg.tape.trans h.tape,hg.output.trans h.output,gM h.size hg.size,fun k hk hn=>(hg.block k (fI hk h.size) (fun e=>(hr k e.symm).elim hn (fun hle=>by omega))).trans (h.block k hk hn)⟩
theorem Kept.cell (h:Kept F w w'){k:Nat}(hk:k<w.heap.size) (hn:¬F k) (o:Nat):w'.cell? ⟨k,o,none⟩=w.cell? ⟨k,o,none⟩:=World.cell?_of_block (h.block k hk hn)
theorem Kept.frozen (h:Kept F w w'){k:Nat}(hk:k<w.heap.size) (hn:¬F k) (o:Nat):w'.frozen? ⟨k,o,none⟩=w.frozen? ⟨k,o,none⟩:=World.frozen?_of_block (h.block k hk hn)
end
theorem aZ (w:World) (o:Obj):(w.alloc o).heap[w.heap.size]?=some o:=by
 show (w.heap.push o)[w.heap.size]?=_
 simp
theorem O5 (w:World) (o o2:Obj):((w.alloc o).alloc o2).heap[w.heap.size+1]?=some o2:=by
 have:=aZ (w.alloc o) o2
 rwa [show (w.alloc o).heap.size=w.heap.size+1 by simp] at this
def j5 (w:World) (e:TypeId) (size:Nat) (v:Value) (n:Nat) (xs:List Value):Prop:=
 xs.length=n*size∧((v = .slice none 0 0∧n=0)∨∃g o cap cur,v = .slice (some ⟨g,o,none⟩) n cap∧w.heap[g]?=some (.cells cur e (0,0))∧n≤cap∧cap≤maxLen∧o+cap*size≤cur.size∧∀j,j<n*size→w.cell? ⟨g,o+j,none⟩=xs[j]?)
section
variable {w w':World} {e:TypeId} {size n:Nat} {v:Value} {xs:List Value}
theorem j5.nil (w:World) (e:TypeId) (size:Nat):j5 w e size (.slice none 0 0) 0 []:=⟨by simp,.inl ⟨rfl,rfl⟩⟩
theorem j5.keep (h:j5 w e size v n xs) (hk:∀g,v.ownBlock=some g→w'.heap[g]?=w.heap[g]?):j5 w' e size v n xs:=by
 refine⟨h.1,?_⟩
 rcases h.2 with h2 | ⟨g,o,cap,cur,rfl,hb,hn,hc,hs,hcell⟩
 ·exact .inl h2
 ·have:=hk g rfl
  exact .inr ⟨g,o,cap,cur,rfl,this.trans hb,hn,hc,hs,fun j hj=>(World.cell?_of_block (a:=⟨g,o+j,none⟩) this).trans (hcell j hj)⟩
theorem j5.form (h:j5 w e size v n xs):∃A c,v = .slice A n c∧n≤c∧c≤maxLen∧(∀a,A=some a→a.block<w.heap.size):=by
 rcases h.2 with ⟨rfl,rfl⟩ | ⟨g,o,cap,cur,rfl,hb,hn,hc,_⟩
 ·exact⟨none,0,rfl,ah _,aL _,fun a ha=>by cases ha⟩
 ·exact⟨_,cap,rfl,hn,hc,fun a ha=>by cases ha;exact (Array.getElem?_eq_some_iff.1 hb).1⟩
theorem j5.rd (h:j5 w e size v n xs){A:Option Addr}{c:Nat}(hv:v = .slice A n c):Rd w w.heap.size size A n xs:=by
 refine⟨h.1,fun hn=>?_⟩
 rcases h.2 with ⟨hv2,h0⟩ | ⟨g,o,cap,cur,hv2,hb,_,_,_,hcell⟩
 ·omega
 ·rw[hv] at hv2
  injection hv2 with h1 h2 h3
  exact⟨g,o,h1,(Array.getElem?_eq_some_iff.1 hb).1,hcell⟩
theorem j5.lJ {base:Nat}(h:w.ownsRow base e size v n xs):j5 w e size v n xs:=by
 refine⟨h.1,?_⟩
 rcases h.2 with h2 | ⟨g,cap,cur,hv,_,hb,hn,hc,hs,ht⟩
 ·exact .inl h2
 ·subst hv
  refine .inr ⟨g,0,cap,cur,rfl,hb,hn,hc,by omega,fun j hj=>?_⟩
  rw[mh]
  exact h.cellAt j hj
theorem j5.tail (h:j5 w e size v n xs) (hn : 0<n){A:Option Addr}{c:Nat}(hv:v = .slice A n c):j5 w e size (.slice (if c=1 then A else A.map (·.add size)) (n-1) (c-1)) (n-1) (xs.drop size):=by
 have h1:(n-1)*size=n*size-size:=by rw[Nat.sub_mul,Nat.one_mul]
 have hsz:size≤n*size:=Nat.le_mul_of_pos_left _ hn
 refine⟨by rw[xk,h.1,h1],?_⟩
 rcases h.2 with ⟨_,h0⟩ | ⟨g,o,cap,cur,hv2,hb,hnc,hc,hs,hcell⟩
 ·omega
 ·rw[hv] at hv2
  injection hv2 with e1 e2 e3
  subst e1 e3
  by_cases hc1:c=1
  ·subst hc1
   have:n=1:=by omega
   subst this
   exact .inr ⟨g,o,0,cur,by simp,hb,by omega,aL _,by omega,fun j hj=>by simp at hj⟩
  ·have hcs:(c-1)*size=c*size-size:=by rw[Nat.sub_mul,Nat.one_mul]
   have hcz:size≤c*size:=Nat.le_mul_of_pos_left _ (by omega)
   refine .inr ⟨g,o+size,c-1,cur,by rw[aj hc1];simp[Addr.add_lit],hb,by omega,by omega,by omega,fun j hj=>?_⟩
   rw[List.getElem?_drop,xq]
   exact hcell (size+j) (by omega)
end
theorem aik (g:Nat) (e:TypeId):∀(vs:List Value) (k:Nat) (w:World) (cur:Array Value),w.heap[g]?=some (.cells cur e (0,0)) →
 ∃cur',(w.setCells g k vs).heap[g]?=some (.cells cur' e (0,0))∧cur'.size=cur.size:=by
 intro vs
 induction vs with
 | nil=>intro k w cur h;exact⟨cur,h,rfl⟩
 | cons v vs ih=>
  intro k w cur h
  have h1:(w.setCell ⟨g,k,none⟩ v).heap[g]?=some (.cells (cur.setIfInBounds k v) e (0,0)):=by
   simp only[World.setCell,Array.getElem?_modify,if_true]
   rw[h];rfl
  obtain⟨cur',h2,h3⟩:=ih (k+1) _ _ h1
  exact⟨cur',h2,by rw[h3];simp⟩
theorem ail (g k:Nat) (vs:List Value) (w:World):(w.setCells g k vs).os=w.os∧(w.setCells g k vs).tape=w.tape∧(w.setCells g k vs).output=w.output∧(w.setCells g k vs).heap.size=w.heap.size:=by
 induction vs generalizing k w with
 | nil=>exact⟨rfl,rfl,rfl,rfl⟩
 | cons v vs ih=>
  obtain⟨a,b,c,d⟩:=ih (k+1) (w.setCell ⟨g,k,none⟩ v)
  exact⟨a,b,c,d.trans (by simp[World.setCell])⟩
section
variable {P:Program} {w:World}
theorem ah8 {t e:TypeId}{z:Value}{size bytes:Nat}(ty:TypeId) (hT:rR P t e z size bytes){v:Value}{n:Nat}{xs:List Value}(h:j5 w e size v n xs)
 {B:Nat} {A:Option Addr} {m c:Nat} {news:List Value} (hr:Rd w B size A m news) (hm : 0<m) (h1:∀u ∈ news,u.oneCell'=true)
 (h63:n+m≤maxLen) (hbytes:(n+m)*bytes≤140737488355328) :
 ∃v' w',(Builtin.append_ #[t,t] ty #[v,.slice A m c]).run P w = .ok v' w'∧j5 w' e size v' (n+m) (xs++news)∧w.grownBy w' v.ownBlock ∧
  (v'.ownBlock=v.ownBlock∨∀k,v'.ownBlock=some k→w.heap.size≤k):=by
 obtain⟨i,hi,hz,hs,hby⟩:=info_parts hT.info
 obtain⟨ab,ao,rfl,_,hac⟩:=hr.2 hm
 have hnews:∀j u,news[j]?=some u→w.cell? ((⟨ab,ao,none⟩:Addr).add j)=some u:=by
  intro j u hu
  rw[Addr.add_lit,hac j (by have:=(List.getElem?_eq_some_iff.1 hu).1;rw[hr.1] at this;exact this),hu]
 rcases h.2 with ⟨rfl,rfl⟩ | ⟨g,o,cap,cur,rfl,hb,hnc,hcm,hcs,hcell⟩
 ·have hx:xs=[]:=zR (by simpa using h.1)
  subst hx
  obtain⟨v',w',hrun,h2,h3,h4⟩:=Tw (P:=P) ty hT (base:=0) (World.ownsRow_nil w 0 e size) hr (c:=c) h1 h63 hbytes (aL _)
  exact⟨v',w',hrun,j5.lJ h2,h3,h4.imp id (fun h k hk=>by rw[h] at hk;injection hk with hk;omega)⟩
 ·by_cases hroom:n+m≤cap
  ·have hl:news.length=m*i.size:=by rw[hs];exact hr.1
   have hfit:n*size+m*size≤cap*size:=by rw[←Nat.add_mul];exact Cf _ hroom
   have hsome:∀j,j<news.length→(w.cell? ⟨g,o+n*i.size+j,none⟩).isSome=true:=by
    intro j hj
    rw[hr.1] at hj
    unfold World.cell?
    rw[hb,hs]
    simp
    omega
   have hfz:∀j,j<news.length→w.frozen? ⟨g,o+n*i.size+j,none⟩=false:=by
    intro j _
    unfold World.frozen?
    rw[hb];simp
   have hrun:=run_append_room_cells (P:=P) w t ty e i hT.ht hi g o n cap ⟨ab,ao,none⟩ m c news hl hnews h1 hroom hsome hfz
   obtain⟨o1,o2,o3,o4⟩:=ail g (o+n*i.size) news w
   obtain⟨cur',hb',hsz'⟩:=aik g e news (o+n*i.size) w cur hb
   refine⟨_,_,hrun,⟨by rw[aN,h.1,hr.1,Nat.add_mul],.inr ⟨g,o,cap,cur',rfl,hb',hroom,hcm,by omega,fun j hj=>?_⟩⟩,⟨o1,o2,o3,by omega,fun k hk hne=>World.heap_setCells_other w g _ news hk (fun e=>hne (by simp[Value.ownBlock,e]))⟩,.inl rfl⟩
   rw[Nat.add_mul] at hj
   by_cases hjn:j<n*size
   ·rw[World.cell?_setCells_out g news _ w _ (fun _ _=>.inl (by simp only;rw[hs];omega)),hcell j hjn,vT (by rw[h.1];exact hjn)]
   ·have hin:=World.cell?_setCells_in g news (o+n*i.size) w hsome (j-n*size) (by rw[hr.1];omega)
    rw[show o+n*i.size+(j-n*size)=o+j by rw[hs];omega] at hin
    rw[hin,kF (by rw[h.1];omega),h.1,a_ (by rw[hr.1];omega)]
  ·have holds:∀j u,xs[j]?=some u→w.cell? ((⟨g,o,none⟩:Addr).add j)=some u:=by
    intro j u hu
    rw[Addr.add_lit,hcell j (by have:=(List.getElem?_eq_some_iff.1 hu).1;rw[h.1] at this;exact this),hu]
   obtain⟨v',w',hrun,h2,h3⟩:=run_append_arg_grows (P:=P) w t ty e i z size bytes hT.ht hi hz hs hby hT.hz hT.pos ⟨g,o,none⟩ n cap xs h.1 holds ⟨ab,ao,none⟩ m c news hr.1 hnews (by omega) h63 hbytes
   refine⟨v',w',hrun,j5.lJ h2,⟨h3.os,h3.tape,h3.output,h3.size,fun k hk _=>h3.block k hk (by simp)⟩,.inr fun k hk=>(h2.lt k hk).1⟩
end
end
section
open Go.RowKit
def be:Nat→Nat→List UInt8
 | 0,_=>[]
 | k+1,n=>UInt8.ofNat (n / 256^k%256) :: be k n
theorem jX (k n:Nat):(be k n).length=k:=by
 induction k with
 | zero=>rfl
 | succ k ih=>simp[be,ih]
def wS (size n i:Nat):List UInt8:=List.replicate (size-i) 0++be i n
theorem Z7 {size n i:Nat}(h:i≤size):(wS size n i).length=size:=by simp[wS,jX];omega
theorem ag8 {size n i:Nat}(h:i<size):(ak (wS size n i)).toArray.setIfInBounds (size-1-i) (bv (UInt8.ofNat (n / 256^i%256)))=(ak (wS size n (i+1))).toArray:=by
 obtain⟨m,rfl⟩:∃m,size=i+1+m:=⟨size-(i+1),by omega⟩
 have e1:i+1+m-i=m+1:=by omega
 have e2:i+1+m-(i+1)=m:=by omega
 have e3:i+1+m-1-i=m:=by omega
 unfold wS
 rw[e1,e2,e3,List.replicate_succ']
 apply Array.ext'
 simp only[ak,j6,List.map_replicate,jf,be,lV,vU]
 simp
theorem oH {w:World}{p o:Nat}{cs:Array Value}{t:TypeId}(v:Value) (h:w.heap[p]?=some (.cells cs t (0,0))):(w.setCell ⟨p,o,none⟩ v).heap[p]?=some (.cells (cs.setIfInBounds o v) t (0,0)):=by
 simp only[World.setCell,Array.getElem?_modify,if_true]
 rw[h];rfl
def abR (W:World) (x size n:Nat) (iv:Value) (wr:World):Prop:=∃i:Nat,iv = .int .i64 i∧i≤size∧wr.heap[x]?=some (.cells (ak (wS size n i)).toArray 5 (0,0))∧Below W.heap.size W wr
theorem Tc (n size:Nat) (w:World) (_hn:n<4294967296) (hs1 : 1≤size) (oZ:size≤4) :
 Calls Tryz.prog 125 #[.int .u32 n,.int .i64 size] w (jV w (be size n)):=by
 have hmk:=run_make_row' (P:=Tryz.prog) 48 5 (.int .u8 0) 1 Tryz.underlying48 (by kernel_rfl) rfl .i64 .i64 size (by omega) (by omega)
 obtain⟨x,hx⟩:∃x,w.heap.size=x:=⟨_,rfl⟩
 go_enter Tryz.func125,Tryz.ntmps125
 go_wp2_with fail
 have k0:(w.alloc (.cells (madeCells #[.int .u8 0] size) 5)).heap[x]?=some (.cells (ak (wS size n 0)).toArray 5 (0,0)):=by
  rw[←hx,aZ]
  congr 2
  apply Array.ext'
  apply List.ext_getElem
  ·simp[madeCells,ak,Z7]
  ·intro j h1 h2
   simp[madeCells,ak,wS,be,bv,Nat.mod_one]
 have b0:Below w.heap.size w (w.alloc (.cells (madeCells #[.int .u8 0] size) 5)):=(Below.refl _ _).alloc (ah _) _
 have dW:=af (And.intro k0 b0)
 clear k0 b0 hmk
 go_loopw [6,16] (fun _ iv wr=>abR w x size n iv wr) (fun _ iv _=>size-(intOf iv).toNat)
 case atStart=>exact⟨0,rfl,aL _,dW.out⟩
 case round=>
  obtain⟨i,rfl,hi,hk,hb⟩:=hrel
  have hxl:=(Array.getElem?_eq_some_iff.1 hk).1
  by_cases hlt:i<size
  ·have hbl:(ak (wS size n i)).length=size:=by rw[tO,Z7 hi]
   have hcell:wr.cell? ⟨x,size-1-i,none⟩=some (.int .u8 0):=by
    unfold World.cell?
    rw[hk]
    show (ak (wS size n i)).toArray[size-1-i]?=_
    rw[List.getElem?_toArray]
    unfold ak wS
    rw[j6,vT (by simp;omega)]
    simp[bv,show size-1-i<size-i by omega]
   have hfz:∀o,wr.frozen? ⟨x,o,none⟩=false:=fun o=>by unfold World.frozen?;rw[hk];rfl
   have JQ:=hfz (size-1-i)
   have n1:(i:Int)<size:=by omega
   go_wp2
   go_roundw
   case rel=>
    refine⟨i+1,by go_num,by omega,?_,hb.setCell (by rw[←hx];exact ah _) _⟩
    rw[oH _ hk]
    congr 2
    rw[show (Value.int .u8 ((n:Int) / 2^(8*i)%256))=bv (UInt8.ofNat (n / 256^i%256)) by
     rw[show (2:Int)^(8*i)=((256^i:Nat):Int) by rw[Int.pow_mul];simp,←Int.natCast_ediv]
     rw[show ((n / 256^i:Nat):Int)%256=((n / 256^i%256:Nat):Int) by omega]
     rw[Ak (by omega) (by omega),Cb]]
    exact ag8 hlt
   case measure=>simp[intOf];omega
  ·obtain rfl:i=size:=by omega
   go_wp2
   go_ret
   have e:wS i n i=be i n:=by simp[wS]
   rw[e] at hk
   refine⟨.slice (some ⟨x,0,none⟩) i i,rfl,?_,hb⟩
   unfold b_
   rw[jX]
   exact⟨by rw[tO,jX,Nat.mul_one],.inr ⟨x,i,_,rfl,by rw[hx];exact ah _,hk,ah _,bn (by omega),by simp[tO,jX],cB (by simp[tO,jX])⟩⟩
def oh (l:List UInt8):Nat:=l.foldl (fun n c=>n*256+c.toNat) 0
theorem acL (l:List UInt8) (c:UInt8):oh (l++[c])=oh l*256+c.toNat:=by simp[oh,og]
theorem acK (l:List UInt8):∀n k,n<256^k→l.foldl (fun n c=>n*256+c.toNat) n<256^(k+l.length):=by
 induction l with
 | nil=>intro n k h;simpa using h
 | cons c l ih=>
  intro n k h
  have hc:=c.toNat_lt
  have:=ih (n*256+c.toNat) (k+1) (by rw[qH];omega)
  rw[nD,fe,show k+(l.length+1)=k+1+l.length by omega]
  exact this
theorem Xp (l:List UInt8):oh l<256^l.length:=by have:=acK l 0 0 (by simp);rw[mh] at this;exact this
theorem acM {l:List UInt8}{i:Nat}(h:i<l.length):oh (l.take (i+1))=oh (l.take i)*256+ba l i:=by
 rw[iw,a_ h,iL,acL,kH h]
theorem aaI (A:Option Addr) (n cap lo hi:Nat) (h1:lo≤hi) (h2:hi≤cap):∀w,(Instr.slice 48 (.slice A n cap) (some (.int .i64 (lo:Int))) (some (.int .i64 (hi:Int))) none).run Tryz.prog w = .ok (.slice (if cap=lo then A else A.map (·.add lo)) (hi-lo) (cap-lo)) w:=fun w=>by
 rw[run_slice_lh (P:=Tryz.prog) (w:=w) 48 A n cap Tryz.underlying48 .i64 .i64 (lo:Int) (hi:Int) (by omega) (by omega) (by omega)]
 simp only[Cb]
 have hs:∀w,(sizeOf (Tryz.prog.elem 48)).run Tryz.prog w = .ok 1 w:=fun _=>by kernel_rfl
 rw[hs]
 simp[Result.andThen,sliced]
theorem Rd.lh {w:World}{B n cap lo hi:Nat}{A:Option Addr}{b:List UInt8}(h:Rd w B 1 A n (ak b)) (h1:lo≤hi) (h2:hi≤n) (hc:n≤cap):Rd w B 1 (if cap=lo then A else A.map (·.add lo)) (hi-lo) (ak ((b.drop lo).take (hi-lo))):=by
 have h3:=h.piece (lo:=lo) (hi:=hi) h1 h2 hc
 simp only[Nat.mul_one] at h3
 have e:((ak b).drop lo).take (hi-lo)=ak ((b.drop lo).take (hi-lo)):=by unfold ak;rw[←List.map_drop,←List.map_take]
 rwa [e] at h3
def abS (L:List UInt8) (size:Nat) (w:World) (nv iv:Value) (wr:World):Prop:=∃i:Nat,iv = .int .i64 i∧i≤size∧nv = .int .u32 (oh (L.take i):Nat)∧wr=w
theorem Td {A:Option Addr}{n cap:Nat}{l:List UInt8}(at_ size:Nat) (w:World) (hr:Rd w w.heap.size 1 A n (ak l)) (hc:n≤cap) (hm:cap≤maxLen) (hs1 : 1≤size) (oZ:size≤4) (ha:at_+size≤n) :
 Calls Tryz.prog 154 #[.slice A n cap,.int .i64 at_,.int .i64 size] w fun e w'=>e = .returned (.tuple #[.int .u32 (oh ((l.drop at_).take size):Nat),.int .i64 0])∧w=w':=by
 have hcm:cap≤9223372036854775807:=by unfold maxLen at hm;exact hm
 obtain⟨-,b,o,rfl,hb,-⟩:=hr.tL (by omega)
 have hr1:=hr.lh (lo:=at_) (hi:=at_+size) (by omega) ha hc
 have es:at_+size-at_=size:=by omega
 rw[es,aj (by omega)] at hr1
 obtain⟨L,hL⟩:∃L,(l.drop at_).take size=L:=⟨_,rfl⟩
 rw[hL] at hr1 ⊢
 obtain⟨bf,b',o',he,-,hcc⟩:=hr1.tL (by omega)
 have Gp:b'=b∧o'=o+at_:=by simp[Addr.add_lit] at he;omega
 obtain⟨rfl,rfl⟩:=Gp
 have HC:=af hcc
 clear hr hr1 hL hm he hcc
 go_enter Tryz.func154,Tryz.ntmps154
 go_wp2_with fail
 go_loopw [8,10,34] (fun nv _ iv wr=>abS L size w nv iv wr) (fun _ _ iv _=>size-(intOf iv).toNat)
 case atStart=>exact⟨0,rfl,aL _,rfl,rfl⟩
 case round=>
  obtain⟨i,rfl,hi,rfl,rfl⟩:=hrel
  by_cases hlt:i<size
  ·have c0:=HC.out i hlt
   have hba:=jg L i
   have ht:=acM (l:=L) (i:=i) (by omega)
   have CB:=Xp (L.take i)
   have hp : 256^(L.take i).length≤256^3:=Nat.pow_le_pow_right (by omega) (by rw[kS];omega)
   obtain⟨N,hN⟩:∃N,oh (L.take i)=N:=⟨_,rfl⟩
   obtain⟨c,hc'⟩:∃c,ba L i=c:=⟨_,rfl⟩
   rw[hN] at ht CB ⊢
   rw[hc'] at ht hba c0
   have hN24:N<16777216:=by
    have:(256:Nat)^3=16777216:=by decide
    omega
   have ic:Go.bits .or .u32 ((N:Int)*256) (c:Int)=((N*256+c:Nat):Int):=by
    rw[show ((N:Int)*256)=((N*256:Nat):Int) by omega,u32_or_nat _ _ (by omega) (by omega)]
    congr 1
    rw[Nat.mul_comm,show (256:Nat)=2^8 from rfl,←Nat.two_pow_add_eq_or_of_lt (show c<2^8 by omega) N]
   have HT:=af ht
   have n1:(i:Int)<size:=by omega
   clear hp CB hN hc' ht
   go_wp2
   go_roundw
   case rel=>exact⟨i+1,by go_num,by omega,by rw[HT.out];congr 1,rfl⟩
   case measure=>simp[intOf];omega
  ·obtain rfl:i=size:=by omega
   have ht:L.take i=L:=cB (by omega)
   have HT:=af ht
   clear ht
   go_wp2
   go_ret2
   exact⟨by rw[HT.out];rfl,rfl⟩
theorem LZ (n:Nat) (w:World) (hn:n<4294967296) :
 Calls Tryz.prog 126 #[.int .i64 n] w (jV w (be 4 n)):=by
 have H:=af (Tc n 4 w hn (by omega) (by omega))
 go_enter Tryz.func126,Tryz.ntmps126
 go_wp2_with fail
 refine H.out.mono ?_
 rintro e w1 ⟨v,rfl,ho,hb⟩
 have H1:=af (And.intro ho hb)
 clear ho hb
 go_wp2
 go_ret
 exact⟨v,rfl,H1.out⟩
theorem aep {A:Option Addr}{n cap:Nat}{l:List UInt8}(at_:Nat) (w:World) (hr:Rd w w.heap.size 1 A n (ak l)) (hc:n≤cap) (hm:cap≤maxLen) (ha:at_+4≤n) :
 Calls Tryz.prog 156 #[.slice A n cap,.int .i64 at_] w fun e w'=>e = .returned (.int .i64 (oh ((l.drop at_).take 4):Nat))∧w=w':=by
 have H:=af (Td at_ 4 w hr hc hm (by omega) (by omega) ha)
 have hlt:=Xp ((l.drop at_).take 4)
 have hp : 256^((l.drop at_).take 4).length≤256^4:=Nat.pow_le_pow_right (by omega) (by rw[kS];omega)
 have wH:(256:Nat)^4=4294967296:=by decide
 obtain⟨N,hN⟩:∃N,oh ((l.drop at_).take 4)=N:=⟨_,rfl⟩
 rw[hN] at H hlt ⊢
 have h32:(N:Int)<4294967296:=by omega
 clear hp wH hlt hN hr
 go_enter Tryz.func156,Tryz.ntmps156
 go_wp2_with fail
 refine H.out.mono ?_
 rintro e w1 ⟨rfl,rfl⟩
 go_wp2
 go_ret
 exact⟨rfl,rfl⟩
end
section
open Go.RowKit
structure Fr where
 ty:Nat
 fl:Nat
 st:Nat
 data:ByteArray
 pad:Nat
def Fr.cells (f:Fr):Array Value:=#[.int .i64 f.ty,.int .i64 f.fl,.int .i64 f.st,.string f.data,.int .i64 f.pad,.slice none 0 0,.int .i64 0,.int .i64 0,.int .i64 0,.int .i64 0,.int .i64 0,.bool false]
def gF (f:Fr):Value:=.agg f.cells
def MF (l:List Int):List Value:=l.map fun x=>.int .i64 x
def WiRel (n:Nat) (w:World) (iv:Value) (wr:World):Prop:=∃i:Nat,iv = .int .i64 i∧i≤n∧wr=w
theorem KP {A:Option Addr}{n cap B:Nat}{xs:List Int}(most:Int) (w:World) (hr:Rd w B 1 A n (MF xs)) (hn:n≤100) (hx:∀x ∈ xs,0≤x∧x≤most) :
 Calls Tryz.prog 150 #[.int .i64 most,.slice A n cap] w fun e w'=>e = .returned (.bool true)∧w=w':=by
 have hl:xs.length=n:=by have:=hr.1;simp[MF] at this;omega
 have HX:=af hx
 have HR:=af hr
 clear hx hr
 go_enter Tryz.func150,Tryz.ntmps150
 go_wp2_with fail
 go_loopw [6,9] (fun _ iv wr=>WiRel n w iv wr) (fun _ iv _=>n-(intOf iv).toNat)
 case atStart=>exact⟨0,rfl,aL _,rfl⟩
 case round=>
  obtain⟨i,rfl,hi,rfl⟩:=hrel
  by_cases hlt:i<n
  ·obtain⟨b,o,rfl,hb,hc⟩:=HR.out.at_ (by omega)
   obtain⟨x,hxi⟩:∃x,xs[i]?=some x:=⟨_,a_ (by omega)⟩
   have c0:wr.cell? ⟨b,o+i,none⟩=some (.int .i64 x):=by rw[hc i hlt];simp[MF,hxi]
   obtain⟨h0,h1⟩:=HX.out x (fq hxi)
   have n1:(i:Int)<n:=by omega
   clear hc hxi
   go_wp2
   go_roundw
   case rel=>exact⟨i+1,by go_num,by omega,rfl⟩
   case measure=>simp[intOf];omega
  ·obtain rfl:i=n:=by omega
   go_wp2
   go_ret
   exact⟨rfl,rfl⟩
theorem adV (f:Fr) (w:World) (hd:f.data=⟨#[]⟩) (hp:f.pad=0) :
 Calls Tryz.prog 151 #[gF f] w fun e w'=>e = .returned (.bool true)∧Below w.heap.size w w':=by
 obtain⟨ty,fl,st,data,pad⟩:=f
 simp only at hd hp
 subst hd hp
 obtain⟨W0,hW0⟩:∃W0,w.alloc (.cells (#[.int .i64 ty,.int .i64 fl,.int .i64 st,.string ⟨#[]⟩,.int .i64 0,.slice none 0 0,.int .i64 0,.int .i64 0,.int .i64 0,.int .i64 0,.int .i64 0,.bool false]) 52)=W0:=⟨_,rfl⟩
 obtain⟨x,hx⟩:∃x,w.heap.size=x:=⟨_,rfl⟩
 have b0:Below w.heap.size w W0:=by rw[←hW0];exact (Below.refl _ _).alloc (ah _) _
 have kx:W0.heap[x]?=some (.cells (#[.int .i64 ty,.int .i64 fl,.int .i64 st,.string ⟨#[]⟩,.int .i64 0,.slice none 0 0,.int .i64 0,.int .i64 0,.int .i64 0,.int .i64 0,.int .i64 0,.bool false]) 52 (0,0)):=by rw[←hW0,←hx];exact aZ _ _
 have c3:W0.cell? ⟨x,3,none⟩=some (.string ⟨#[]⟩):=by unfold World.cell?;rw[kx];rfl
 have c4:W0.cell? ⟨x,4,none⟩=some (.int .i64 0):=by unfold World.cell?;rw[kx];rfl
 have c5:W0.cell? ⟨x,5,none⟩=some (.slice none 0 0):=by unfold World.cell?;rw[kx];rfl
 have c6:W0.cell? ⟨x,6,none⟩=some (.int .i64 0):=by unfold World.cell?;rw[kx];rfl
 have c7:W0.cell? ⟨x,7,none⟩=some (.int .i64 0):=by unfold World.cell?;rw[kx];rfl
 have c8:W0.cell? ⟨x,8,none⟩=some (.int .i64 0):=by unfold World.cell?;rw[kx];rfl
 have c9:W0.cell? ⟨x,9,none⟩=some (.int .i64 0):=by unfold World.cell?;rw[kx];rfl
 have c10:W0.cell? ⟨x,10,none⟩=some (.int .i64 0):=by unfold World.cell?;rw[kx];rfl
 have c11:W0.cell? ⟨x,11,none⟩=some (.bool false):=by unfold World.cell?;rw[kx];rfl
 have HB:=af b0
 have dY:=af hW0
 have HX:=af hx
 clear hW0 hx b0 kx
 unfold gF
 simp only[Fr.cells,Int.natCast_zero]
 show Calls Tryz.prog 151 #[.agg #[.int .i64 ty,.int .i64 fl,.int .i64 st,.string ⟨#[]⟩,.int .i64 0,.slice none 0 0,.int .i64 0,.int .i64 0,.int .i64 0,.int .i64 0,.int .i64 0,.bool false]] w _
 go_enter Tryz.func151,Tryz.ntmps151
 go_upto_region 1 with fail
 rw[dY.out,HX.out]
 go_wp2
 go_ret
 exact⟨rfl,HB.out⟩
end
section
open Go.RowKit
theorem IG:(Tryz.prog.info? 52).map (·.size)=some 12:=by kernel_rfl
theorem AV (w:World) (a b:Obj):((w.alloc a).alloc b).heap[w.heap.size+1]?=some b:=by have:=aZ (w.alloc a) b;rwa [World.size_alloc] at this
structure Hq (f:Fr) (pd:Bool):Prop where
 ty:f.ty=0∨f.ty=1∨f.ty=9
 fl:f.fl<256
 st:f.st≤2147483647
 pad:f.pad≤255
 np:pd=false→f.pad=0
 c9:f.ty=9→f.pad=0
 f8:Go.bits .and .i64 (f.fl:Int) 8=if pd then 8 else 0
 f32:f.ty=1→Go.bits .and .i64 (f.fl:Int) 32=0
 data:f.data.size≤1048576
end
section
open Go.RowKit
theorem Rd.GV (w:World) (cs:Array Value) (t:TypeId) (n:Nat){k:Nat}(hk:w.heap.size=k) (hn:cs.size=n):Rd (w.alloc (.cells cs t)) (k+1) 1 (some ⟨k,0,none⟩) n cs.toList:=by
 subst hk;exact Rd.lit w cs t n hn
theorem LJ {P:Program}{f:FuncId}{args:Array Value}{W:World}{R:Ending→World→Prop}(h:∀W3,W3=W→Calls P f args W3 R):Calls P f args W R:=h W rfl
end
section
open Go.RowKit
section
variable {w:World} {base:Nat} {v:Value} {n:Nat} {xs:List Value}
theorem aas (ty:TypeId) (hown:w.ownsRow base 5 1 v n xs) (s:ByteArray) (hb:n+s.size≤1099511627776) (hbase:base≤w.heap.size) :
 ∃v' w',(Builtin.append_ #[48,9] ty #[v,.string s]).run Tryz.prog w = .ok v' w'∧w'.ownsRow base 5 1 v' (n+s.size) (xs++ak s.data.toList)∧w.grownBy w' v.ownBlock:=by
 obtain⟨i,hi,hz,hs,hby⟩:=info_parts (show (Tryz.prog.info? 5).map (fun i=>(i.zero,i.size,i.bytes))=some (some (.int .u8 0),1,1) by kernel_rfl)
 obtain⟨v',w',h1,h2,h3,-⟩:=Lib.run_append_own_string (P:=Tryz.prog) w base 48 9 ty 5 i Tryz.underlying48 Tryz.underlying9 hi hz hs hby v n xs hown s (bn (by omega)) (by omega) hbase
 exact⟨v',w',h1,h2,h3⟩
end
section
variable {w:World} {ops:Array Oper} {o:Oper} {a:Act} {K:Act→World→Prop} {Q:Exit→Act→World→Prop} {E:Prop} (s x:Operand) {base:Nat} {v:Value} {n:Nat} {xs:List Value}
end
theorem KQ {w:World}{ops:Array Oper}{rest:List Oper}{o:Oper}{a:Act}{Q:Exit→Act→World→Prop}(s x:Operand){base:Nat}{v:Value}{n:Nat}{xs:List Value}(hgd:o.guard=none) (ho:o.op = .call { callee:=.builtin .append,args:=#[s,x],argTypes:=#[48,9] })
 (hown:w.ownsRow base 5 1 v n xs) (hs:a.eval s=v) (t:ByteArray) (hx:a.eval x = .string t) (hb:n+t.size≤1099511627776) (hbase:base≤w.heap.size)
 (h:∀v' w',w'.ownsRow base 5 1 v' (n+t.size) (xs++ak t.data.toList)→w.grownBy w' v.ownBlock→wpList Tryz.prog ops Q rest (a.put o.dst v') w'):wpList Tryz.prog ops Q (o :: rest) a w:=by
 refine wpList_plain hgd fun _ hK=>?_
 obtain⟨v',w',hrun,h2,h3⟩:=aas o.type hown t hb hbase
 unfold Oper.wp execOp
 simp only[ho,resolve,invoke,builtin,Sem.run_bind,Sem.run_pure,Result.andThen_ok,List.map_toArray,lV,vU,hs,hx,hrun]
 exact hK _ _ (h v' w' h2 h3)
end
section
open Go.RowKit
def kD:Nat→Nat→Nat→Nat→List UInt8→Nat×Nat×Nat
 | 0,_,_,_,_=>(0,0,11)
 | _+1,_,_,_,[]=>(0,0,12)
 | k+1,at_,n,times,c :: t=>
  if c.toNat<128 then (if n+times*(c.toNat%128) > 2147483647 then (0,0,11) else (n+times*(c.toNat%128),at_+1,0))
  else kD k (at_+1) (n+times*(c.toNat%128)) (times*128) t
def bB (F:Nat):List UInt8→Nat×Nat×Nat
 | []=>(0,0,12)
 | c :: t=>if c.toNat%(F+1)<F then (c.toNat%(F+1),1,0) else kD 5 1 (c.toNat%(F+1)) 1 t
def EO (r:Nat×Nat×Nat):Value:=.tuple #[.int .i64 (r.1:Int),.int .i64 (r.2.1:Int),.int .i64 (r.2.2:Int)]
theorem acR (a b:Nat) (ha:a<256) (hb:b<256):Go.bits .and .i64 (a:Int) (b:Int)=((a &&& b:Nat):Int):=by
 have hl:a &&& b≤a:=Nat.and_le_left
 have key:(BitVec.ofInt 64 (a:Int) &&& BitVec.ofInt 64 (b:Int)).toNat=a &&& b:=by
  rw[BitVec.toNat_and,BitVec.toNat_ofInt,BitVec.toNat_ofInt]
  congr 1 <;> omega
 show IntKind.i64.wrap ((BitVec.ofInt 64 (a:Int) &&& BitVec.ofInt 64 (b:Int)).toNat:Nat)=_
 rw[key]
 exact IntWalk.i64_in _ ⟨by omega,by omega⟩
theorem u8_and127 (c:UInt8):Go.bits .and .u8 (c.toNat:Int) 127=((c.toNat%128:Nat):Int):=by
 have:=c.toNat_lt
 rw[show (127:Int)=((127:Nat):Int) from rfl,u8_and_nat _ _ (by omega) (by omega),nat_mask7]
theorem Full.Lx {bits F f:Nat}(h:Full bits F) (hf:f<256):Go.bits .and .i64 (f:Int) (F:Int)=((f%(F+1):Nat):Int):=by
 have:=h.le
 rw[acR f F (by omega) (by omega)]
 have e:F=2^bits-1:=by have:=h.eq;omega
 rw[e,Nat.and_two_pow_sub_one_eq_mod,Nat.sub_add_cancel Nat.one_le_two_pow]
theorem Full.MV {bits F:Nat}(h:Full bits F):(2:Int)^bits=(F:Int)+1:=by
 rcases h.cases with ⟨rfl,rfl⟩ | ⟨rfl,rfl⟩ | ⟨rfl,rfl⟩ | ⟨rfl,rfl⟩ | ⟨rfl,rfl⟩ | ⟨rfl,rfl⟩ | ⟨rfl,rfl⟩ | ⟨rfl,rfl⟩ <;> decide
theorem vH {F:Nat}{l:List UInt8}{k s m T:Nat}(k1 T1 k2:Nat) (h:bB F l=kD (5-k) (k+1) s T (l.drop (k+1))) (hk:k<5) (iO:k1=k+1) (nO:T1=T*128) (hk2:k2=k+2) (hl:k1<l.length) (hm:m=ba l k1%128) :
 (ba l k1<128→2147483647<s+T*m→bB F l=(0,0,11)) ∧
 (ba l k1<128→s+T*m≤2147483647→bB F l=(s+T*m,k2,0)) ∧
 (128≤ba l k1→bB F l=kD (5-k1) (k1+1) (s+T*m) T1 (l.drop (k1+1))):=by
 subst hm iO nO hk2
 obtain⟨c,hd,hc⟩:=adR hl
 rw[hd,show 5-k=(4-k)+1 by omega,kD,hc] at h
 rw[h]
 refine⟨fun h1 h2=>by rw[ax h1,ax h2],fun h1 h2=>by rw[ax h1,aj (by omega)],fun h1=>by rw[aj (by omega)];congr 1;omega⟩
theorem VW {F:Nat}{l:List UInt8}{k s T:Nat}(h:bB F l=kD (5-k) (k+1) s T (l.drop (k+1))) (hk:k<5) (hl:l.length≤k+1):bB F l=(0,0,12):=by
 rw[h,List.drop_eq_nil_of_le hl,show 5-k=(4-k)+1 by omega,kD]
theorem aa6 {F:Nat}{l:List UInt8}{s T:Nat}(h:bB F l=kD (5-5) (5+1) s T (l.drop (5+1))):bB F l=(0,0,11):=by
 rw[h];rfl
theorem M9 {F:Nat}{l:List UInt8}{r:Nat}(hl : 0<l.length) (hr:r=ba l 0%(F+1)) (h:r<F):bB F l=(r,1,0):=by
 subst hr
 cases l with
 | nil=>simp at hl
 | cons c t=>simp only[bB];rw[ax (by simpa [ba] using h)];rfl
theorem KN {F:Nat}{l:List UInt8}{r:Nat}(hl : 0<l.length) (hr:r=ba l 0%(F+1)) (h:¬r<F):bB F l=kD (5-0) (0+1) r 1 (l.drop (0+1)):=by
 subst hr
 cases l with
 | nil=>simp at hl
 | cons c t=>simp only[bB];rw[aj (by simpa [ba] using h)];rfl
end
section
def bW:List Nat:=[
 13,23,28,28,28,28,28,28,28,24,30,28,28,30,28,28,28,28,28,28,28,28,30,28,28,28,28,28,28,28,28,28,
 6,10,10,12,13,6,8,11,10,10,8,11,8,6,6,6,5,5,5,6,6,6,6,6,6,6,7,8,15,6,12,10,
 13,6,7,7,7,7,7,7,7,7,7,7,7,7,7,7,7,7,7,7,7,7,7,7,8,7,8,13,19,13,14,6,
 15,5,6,5,6,5,6,6,6,5,7,7,6,6,6,5,6,7,6,5,5,6,7,7,7,7,7,15,11,14,13,28,
 20,22,20,20,22,22,22,23,22,23,23,23,23,23,24,23,24,24,22,23,24,23,23,23,23,21,22,23,22,23,23,24,
 22,21,20,22,22,23,23,21,23,22,22,24,21,22,23,23,21,21,22,21,23,22,23,23,20,22,22,22,23,22,22,23,
 26,26,20,19,22,23,22,25,26,26,26,27,27,26,24,25,19,21,26,27,27,26,27,24,21,21,26,26,28,27,27,27,
 20,24,20,21,22,21,21,23,22,22,25,25,24,24,26,23,26,27,26,26,27,27,27,27,27,28,27,27,27,27,27,26,
 30]
def nG:List Nat:=[
 8184,8388568,268435426,268435427,268435428,268435429,268435430,268435431,268435432,16777194,1073741820,268435433,268435434,1073741821,268435435,268435436,268435437,268435438,268435439,268435440,268435441,268435442,1073741822,268435443,268435444,268435445,268435446,268435447,268435448,268435449,268435450,268435451,
 20,1016,1017,4090,8185,21,248,2042,1018,1019,249,2043,250,22,23,24,0,1,2,25,26,27,28,29,30,31,92,251,32764,32,4091,1020,
 8186,33,93,94,95,96,97,98,99,100,101,102,103,104,105,106,107,108,109,110,111,112,113,114,252,115,253,8187,524272,8188,16380,34,
 32765,3,35,4,36,5,37,38,39,6,116,117,40,41,42,7,43,118,44,8,9,45,119,120,121,122,123,32766,2044,16381,8189,268435452,
 1048550,4194258,1048551,1048552,4194259,4194260,4194261,8388569,4194262,8388570,8388571,8388572,8388573,8388574,16777195,8388575,16777196,16777197,4194263,8388576,16777198,8388577,8388578,8388579,8388580,2097116,4194264,8388581,4194265,8388582,8388583,16777199,
 4194266,2097117,1048553,4194267,4194268,8388584,8388585,2097118,8388586,4194269,4194270,16777200,2097119,4194271,8388587,8388588,2097120,2097121,4194272,2097122,8388589,4194273,8388590,8388591,1048554,4194274,4194275,4194276,8388592,4194277,4194278,8388593,
 67108832,67108833,1048555,524273,4194279,8388594,4194280,33554412,67108834,67108835,67108836,134217694,134217695,67108837,16777201,33554413,524274,2097123,67108838,134217696,134217697,67108839,134217698,16777202,2097124,2097125,67108840,67108841,268435453,134217699,134217700,134217701,
 1048556,16777203,1048557,2097126,4194281,2097127,2097128,8388595,4194282,4194283,33554414,33554415,16777204,16777205,67108842,8388596,67108843,134217702,67108844,67108845,134217703,134217704,134217705,134217706,134217707,268435454,134217708,134217709,134217710,134217711,134217712,67108846,
 1073741823]
def firstT:List Nat:=[
 0,0,0,0,0,0,20,92,248,508,1016,2042,4090,8184,16380,32764,65534,131068,262136,524272,1048550,2097116,4194258,8388568,16777194,33554412,67108832,134217694,268435426,536870910,1073741820]
def pq:List Nat:=[
 0,0,0,0,0,10,26,32,6,0,5,3,2,6,2,3,0,0,0,3,8,13,26,29,12,4,15,19,29,0,4]
def DR:List Nat:=[
 0,0,0,0,0,0,10,36,68,74,74,79,82,84,90,92,95,95,95,95,98,106,119,145,174,186,190,205,224,253,253]
def EL:List Nat:=[
 48,49,50,97,99,101,105,111,115,116,32,37,45,46,47,51,52,53,54,55,56,57,61,65,95,98,100,102,103,104,108,109,
 110,112,114,117,58,66,67,68,69,70,71,72,73,74,75,76,77,78,79,80,81,82,83,84,85,86,87,89,106,107,113,118,
 119,120,121,122,38,42,44,59,88,90,33,34,40,41,63,39,43,124,35,62,0,36,64,91,93,126,94,125,60,96,123,92,
 195,208,128,130,131,162,184,194,224,226,153,161,167,172,176,177,179,209,216,217,227,229,230,129,132,133,134,136,146,154,156,160,
 163,164,169,170,173,178,181,185,186,187,189,190,196,198,228,232,233,1,135,137,138,139,140,141,143,147,149,150,151,152,155,157,
 158,165,166,168,174,175,180,182,183,188,191,197,231,239,9,142,144,145,148,159,171,206,215,225,236,237,199,207,234,235,192,193,
 200,201,202,205,210,213,218,219,238,240,242,243,255,203,204,211,212,214,221,222,223,241,244,245,246,247,248,250,251,252,253,254,
 2,3,4,5,6,7,8,11,12,14,15,16,17,18,19,20,21,23,24,25,26,27,28,29,30,31,127,220,249,10,13,22,
 256]
theorem bO:bW.length=257∧nG.length=257∧firstT.length=31∧pq.length=31∧DR.length=31∧EL.length=257:=by decide +kernel
end
section
open Go.RowKit
def Ie (m:List Nat) (n:Nat):List Nat:=m.set n (m.getD n 0+1)
def wo (k:Nat):List Nat:=(bW.take k).foldl Ie (List.replicate 31 0)
structure aB where
 pos:Nat
 code:Nat
 codes:List Nat
 first:List Nat
 nM:List Nat
 sym:List Nat
 ok:Bool
 deriving DecidableEq
def aB.zero:aB:=⟨0,0,List.replicate 257 0,List.replicate 31 0,List.replicate 31 0,List.replicate 257 0,true⟩
def aB.l_ (n:Nat) (st:aB) (x:Nat×Nat):aB:=
 if x.1=n then { st with sym:=st.sym.set st.pos x.2,codes:=st.codes.set x.2 st.code,pos:=st.pos+1,code:=(st.code+1)%4294967296,ok:=st.ok && decide (st.pos<257) }
 else st
def aB.begin (n:Nat) (st:aB):aB:=
 {st with code:=st.code*2%4294967296,first:=st.first.set n (st.code*2%4294967296),nM:=st.nM.set n st.pos }
def aB.inner (n s:Nat) (st:aB):aB:=(bW.zipIdx.take s).foldl (aB.l_ n) st
def aB.outer (st:aB) (n:Nat):aB:=aB.inner n 257 (aB.begin n st)
def aB.at_ (n:Nat):aB:=(List.range n).foldl aB.outer aB.zero
theorem adg:wo 257=pq:=by decide +kernel
theorem Ku:aB.at_ 31=⟨257,1073741824,nG,firstT,DR,EL,true⟩:=by decide +kernel
theorem XL {k:Nat}(h:k<257):wo (k+1)=Ie (wo k) (bW.getD k 0):=by
 have hl:k<bW.length:=by rw[bO.1];exact h
 unfold wo
 rw[List.take_succ_eq_append_getElem hl,og]
 simp[List.getD,a_ hl]
theorem XK (k:Nat):(wo k).length=31:=by
 unfold wo
 have:∀(l m:List Nat),(l.foldl Ie m).length=m.length:=by
  intro l
  induction l with
  | nil=>intro m;rfl
  | cons a t ih=>intro m;rw[nD,ih];simp[Ie]
 rw[this];simp
theorem adh:∀(k n:Nat),k≤257→(wo k).getD n 0≤k:=by
 intro k
 induction k with
 | zero=>
  intro n _
  show (List.replicate 31 0).getD n 0≤0
  rw[List.getD,List.getElem?_replicate]
  split <;> simp
 | succ k ih=>
  intro n hk
  rw[XL (by omega),Ie,List.getD,List.getElem?_set]
  have h1:=ih n (by omega)
  have h2:=ih (bW.getD k 0) (by omega)
  split
  ·split
   ·show (wo k).getD (bW.getD k 0) 0+1≤k+1
    omega
   ·exact aL _
  ·show (wo k).getD n 0≤k+1
   omega
theorem Kl:∀k,bW.getD k 0≤30:=by
 intro k
 rcases vW k 257 with h | h
 ·have:∀k<257,bW.getD k 0≤30:=by decide +kernel
  exact this k h
 ·rw[List.getD,List.getElem?_eq_none (by rw[bO.1];exact h)];decide
theorem afl:∀k,k<257→5≤bW.getD k 0:=by decide +kernel
theorem Kk (n:Nat) (st:aB){s:Nat}(h:s<257):aB.inner n (s+1) st=aB.l_ n (aB.inner n s st) (bW.getD s 0,s):=by
 have hl:s<bW.zipIdx.length:=by rw[List.length_zipIdx,bO.1];exact h
 unfold aB.inner
 rw[List.take_succ_eq_append_getElem hl,og]
 have hl':s<bW.length:=by rw[bO.1];exact h
 simp[List.getD,a_ hl']
theorem at_next (n:Nat):aB.at_ (n+1)=aB.inner n 257 (aB.begin n (aB.at_ n)):=by
 unfold aB.at_
 rw[List.range_succ,og,nD,List.foldl_nil,aB.outer]
theorem aaV {n:Nat}{st:aB}{x:Nat×Nat}(h:(aB.l_ n st x).ok=true):st.ok=true∧(x.1=n→st.pos<257):=by
 unfold aB.l_ at h
 split at h
 ·simp at h;exact⟨h.1,fun _=>h.2⟩
 ·rename_i hne;exact⟨h,fun e=>absurd e hne⟩
theorem Y4 {n:Nat}{st:aB}(d:Nat):∀{s:Nat},s+d≤257→(aB.inner n (s+d) st).ok=true→(aB.inner n s st).ok=true:=by
 induction d with
 | zero=>intro s _ h;exact h
 | succ d ih=>
  intro s hs h
  rw[show s+(d+1)=(s+d)+1 by omega,Kk n st (by omega)] at h
  exact ih (by omega) (aaV h).1
theorem at_ok (d:Nat):∀{n:Nat},(aB.at_ (n+d)).ok=true→(aB.at_ n).ok=true:=by
 induction d with
 | zero=>intro n h;exact h
 | succ d ih=>
  intro n h
  rw[show n+(d+1)=(n+d)+1 by omega,at_next] at h
  have:=Y4 (s:=0) 257 (by omega) h
  exact ih this
theorem agZ {n s:Nat}(hn:n<31) (hs:s<257) (h:bW.getD s 0=n):(aB.inner n s (aB.begin n (aB.at_ n))).pos<257:=by
 have Az:(aB.at_ 31).ok=true:=by rw[Ku]
 obtain⟨d,hd⟩:∃d,31=(n+1)+d:=⟨30-n,by omega⟩
 rw[hd] at Az
 have h1:=at_ok d Az
 rw[at_next] at h1
 obtain⟨d',hd'⟩:∃d',257=(s+1)+d':=⟨256-s,by omega⟩
 have h2:=Y4 (s:=s+1) d' (by omega) (by rw[←hd'];exact h1)
 rw[Kk _ _ hs] at h2
 exact (aaV h2).2 h
structure aB.Wf (st:aB):Prop where
 codes:st.codes.length=257
 first:st.first.length=31
 nM:st.nM.length=31
 sym:st.sym.length=257
 code:st.code<4294967296
theorem aB.Wf.l_ {n:Nat}{st:aB}(h:st.Wf) (x:Nat×Nat):(aB.l_ n st x).Wf:=by
 unfold aB.l_
 split
 ·exact⟨by simp[h.codes],h.first,h.nM,by simp[h.sym],Nat.mod_lt _ (by decide)⟩
 ·exact h
theorem aB.Wf.inner {n:Nat}{st:aB}(h:st.Wf):∀{s:Nat},s≤257→(aB.inner n s st).Wf:=by
 intro s
 induction s with
 | zero=>intro _;exact h
 | succ s ih=>intro hs;rw[Kk n st (by omega)];exact (ih (by omega)).l_ _
theorem aB.Wf.begin {st:aB}(h:st.Wf) (n:Nat):(aB.begin n st).Wf:=⟨h.codes,by simp[aB.begin,h.first],by simp[aB.begin,h.nM],h.sym,Nat.mod_lt _ (by decide)⟩
theorem aB.Wf.at_ (n:Nat):(aB.at_ n).Wf:=by
 induction n with
 | zero=>exact⟨by decide +kernel,by decide +kernel,by decide +kernel,by decide +kernel,by decide⟩
 | succ n ih=>rw[at_next];exact (ih.begin n).inner (ah _)
theorem aB.Wf.zero:aB.zero.Wf:=aB.Wf.at_ 0
theorem ZZ {n s:Nat}(hs:s≤257) (st:aB):(aB.inner n s st).pos≤st.pos+s:=by
 induction s with
 | zero=>exact ah _
 | succ s ih=>
  rw[Kk n st (by omega),aB.l_]
  have:=ih (by omega)
  split <;> simp <;> omega
theorem YY (n:Nat):(aB.at_ n).pos≤257*n:=by
 induction n with
 | zero=>exact ah _
 | succ n ih=>rw[at_next];have:=ZZ (n:=n) (ah 257) (aB.begin n (aB.at_ n));simp[aB.begin] at this ⊢;omega
def blk (m:List Nat) (st:aB):List Value:=
 bW.map (fun n:Nat=>Value.int .u8 (n:Int))++(st.codes.map (fun n:Nat=>Value.int .u32 (n:Int))++(st.first.map (fun n:Nat=>Value.int .u32 (n:Int))++(m.map (fun n:Nat=>Value.int .i64 (n:Int)) ++
  (st.nM.map (fun n:Nat=>Value.int .i64 (n:Int))++st.sym.map (fun n:Nat=>Value.int .i64 (n:Int))))))
section
variable {m:List Nat} {st:aB} (hm:m.length=31) (h:st.Wf)
include hm h
omit hm h in
theorem Ou {i:Nat}(hi:i<257):(blk m st)[i]?=some (.int .u8 ((bW.getD i 0:Nat):Int)):=by
 have hl:i<bW.length:=by rw[bO.1];exact hi
 unfold blk
 rw[vT (by simpa using hl),List.getElem?_map,a_ hl]
 simp[List.getD,a_ hl]
omit hm in
theorem Xu {i:Nat}(hi:i<257):(blk m st)[257+i]?=some (.int .u32 ((st.codes.getD i 0:Nat):Int)):=by
 have hl:i<st.codes.length:=by rw[h.codes];exact hi
 unfold blk
 rw[kF (by simp[bO.1]),vT (by simp[bO.1,h.codes];omega),List.getElem?_map]
 simp[bO.1,List.getD,a_ hl]
omit hm in
theorem Xv {i:Nat}(hi:i<31):(blk m st)[514+i]?=some (.int .u32 ((st.first.getD i 0:Nat):Int)):=by
 have hl:i<st.first.length:=by rw[h.first];exact hi
 unfold blk
 rw[kF (by simp[bO.1];omega),kF (by simp[bO.1,h.codes];omega),vT (by simp[bO.1,h.codes,h.first];omega),List.getElem?_map]
 simp[bO.1,h.codes,List.getD,show 514+i-257-257=i by omega,a_ hl]
theorem Xx {i:Nat}(hi:i<31):(blk m st)[545+i]?=some (.int .i64 ((m.getD i 0:Nat):Int)):=by
 have hl:i<m.length:=by rw[hm];exact hi
 unfold blk
 rw[kF (by simp[bO.1];omega),kF (by simp[bO.1,h.codes];omega),kF (by simp[bO.1,h.codes,h.first];omega),
  vT (by simp[bO.1,h.codes,h.first,hm];omega),List.getElem?_map]
 simp[bO.1,h.codes,h.first,List.getD,show 545+i-257-257-31=i by omega,a_ hl]
theorem Xw {i:Nat}(hi:i<31):(blk m st)[576+i]?=some (.int .i64 ((st.nM.getD i 0:Nat):Int)):=by
 have hl:i<st.nM.length:=by rw[h.nM];exact hi
 unfold blk
 rw[kF (by simp[bO.1];omega),kF (by simp[bO.1,h.codes];omega),kF (by simp[bO.1,h.codes,h.first];omega),
  kF (by simp[bO.1,h.codes,h.first,hm];omega),vT (by simp[bO.1,h.codes,h.first,hm,h.nM];omega),List.getElem?_map]
 simp[bO.1,h.codes,h.first,hm,List.getD,show 576+i-257-257-31-31=i by omega,a_ hl]
theorem Xy {i:Nat}(hi:i<257):(blk m st)[607+i]?=some (.int .i64 ((st.sym.getD i 0:Nat):Int)):=by
 have hl:i<st.sym.length:=by rw[h.sym];exact hi
 unfold blk
 rw[kF (by simp[bO.1];omega),kF (by simp[bO.1,h.codes];omega),kF (by simp[bO.1,h.codes,h.first];omega),
  kF (by simp[bO.1,h.codes,h.first,hm];omega),kF (by simp[bO.1,h.codes,h.first,hm,h.nM];omega),List.getElem?_map]
 simp[bO.1,h.codes,h.first,hm,h.nM,List.getD,show 607+i-257-257-31-31-31=i by omega,a_ hl]
theorem aiu {i:Nat}(hi:i<31) (x:Nat):(blk m st).set (545+i) (.int .i64 (x:Int))=blk (m.set i x) st:=by
 unfold blk
 rw[rP _ _ (by simp[bO.1];omega),rP _ _ (by simp[bO.1,h.codes];omega),rP _ _ (by simp[bO.1,h.codes,h.first];omega),
  List.set_append_left _ _ (by simp[bO.1,h.codes,h.first,hm];omega),List.map_set]
 simp[bO.1,h.codes,h.first,show 545+i-257-257-31=i by omega]
omit hm in
theorem air {i:Nat}(hi:i<31) (x:Nat):(blk m st).set (514+i) (.int .u32 (x:Int))=blk m { st with first:=st.first.set i x }:=by
 unfold blk
 rw[rP _ _ (by simp[bO.1];omega),rP _ _ (by simp[bO.1,h.codes];omega),List.set_append_left _ _ (by simp[bO.1,h.codes,h.first];omega),List.map_set]
 simp[bO.1,h.codes,show 514+i-257-257=i by omega]
theorem ais {i:Nat}(hi:i<31) (x:Nat):(blk m st).set (576+i) (.int .i64 (x:Int))=blk m { st with nM:=st.nM.set i x }:=by
 unfold blk
 rw[rP _ _ (by simp[bO.1];omega),rP _ _ (by simp[bO.1,h.codes];omega),rP _ _ (by simp[bO.1,h.codes,h.first];omega),
  rP _ _ (by simp[bO.1,h.codes,h.first,hm];omega),List.set_append_left _ _ (by simp[bO.1,h.codes,h.first,hm,h.nM];omega),List.map_set]
 simp[bO.1,h.codes,h.first,hm,show 576+i-257-257-31-31=i by omega]
omit hm in
theorem aiq {i:Nat}(hi:i<257) (x:Nat):(blk m st).set (257+i) (.int .u32 (x:Int))=blk m { st with codes:=st.codes.set i x }:=by
 unfold blk
 rw[rP _ _ (by simp[bO.1]),List.set_append_left _ _ (by simp[bO.1,h.codes];omega),List.map_set]
 simp[bO.1]
theorem aiw {i:Nat}(hi:i<257) (x:Nat):(blk m st).set (607+i) (.int .i64 (x:Int))=blk m { st with sym:=st.sym.set i x }:=by
 unfold blk
 rw[rP _ _ (by simp[bO.1];omega),rP _ _ (by simp[bO.1,h.codes];omega),rP _ _ (by simp[bO.1,h.codes,h.first];omega),
  rP _ _ (by simp[bO.1,h.codes,h.first,hm];omega),rP _ _ (by simp[bO.1,h.codes,h.first,hm,h.nM];omega),List.map_set]
 simp[bO.1,h.codes,h.first,hm,h.nM,show 607+i-257-257-31-31-31=i by omega]
theorem aip {n:Nat}(hn:n<31):((blk m st).set (514+n) (.int .u32 ((st.code*2%4294967296:Nat):Int))).set (576+n) (.int .i64 (st.pos:Int))=blk m (aB.begin n st):=by
 rw[air h hn,ais hm (st:={ st with first:=st.first.set n (st.code*2%4294967296) }) ⟨h.codes,by simp[h.first],h.nM,h.sym,h.code⟩ hn]
 rfl
theorem aiv {n s:Nat}(hs:s<257) (hp:st.pos<257) (he:bW.getD s 0=n) :
 ((blk m st).set (607+st.pos) (.int .i64 (s:Int))).set (257+s) (.int .u32 (st.code:Int))=blk m (aB.l_ n st (bW.getD s 0,s)):=by
 rw[aiw hm h hp,aiq (st:={ st with sym:=st.sym.set st.pos s }) ⟨h.codes,h.first,h.nM,by simp[h.sym],h.code⟩ hs,aB.l_,ax he]
 rfl
end
end
end Go.Proofs.YtpkmciohehaboaaGreatDoor
