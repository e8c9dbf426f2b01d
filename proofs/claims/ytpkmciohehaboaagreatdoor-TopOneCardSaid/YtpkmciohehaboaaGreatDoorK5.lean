/- Part 5 of the proof. -/
import Derived.Test.YtpkmciohehaboaaGreatDoorK0
import Derived.Test.YtpkmciohehaboaaGreatDoorK4
import Derived.Test.YtpkmciohehaboaaGreatDoorRows
import Derived.ProofKit
import Derived.OpenShut
import Derived.SizedLaws
import Derived.Deep.Slices
import Derived.Deep.Fields
import Derived.Test.YtpkmciohehaboaaGreatDoorK3
import Derived.Lib.SlicesS
import Derived.WalkLawsBesides
set_option maxRecDepth 100000
set_option maxHeartbeats 100000000
set_option linter.unusedVariables false
set_option linter.unusedSimpArgs false
set_option linter.unusedSectionVars false
set_option linter.unnecessarySimpa false
namespace Go.Proofs.YtpkmciohehaboaaGreatDoor
section
open Go.RowKit
theorem Rd.cut {w:World}{B b o n a m:Nat}{l:List UInt8}(h:Rd w B 1 (some ⟨b,o,none⟩) n (ak l)) (h1:a+m≤n):Rd w B 1 (some ⟨b,o+a,none⟩) m (ak ((l.drop a).take m)):=by
 have hl:=h.mR
 refine⟨by simp[ak];omega,fun hm=>?_⟩
 obtain⟨b',o',e,hb,hc⟩:=h.2 (by omega)
 injection e with e;injection e with e1 e2 e3;subst e1 e2
 refine⟨_,_,rfl,hb,fun j hj=>?_⟩
 rw[xq,hc (a+j) (by omega)]
 simp only[ak,List.getElem?_map,List.getElem?_take,List.getElem?_drop]
 rw[ax (by omega)]
theorem Rd.end_ {w:World}{B n:Nat}{A:Option Addr}{l:List UInt8}(_hl:l.length=n):Rd w B 1 A 0 (ak ((l.drop n).take 0)):=by
 rw[List.take_zero];exact Rd.none_ _ _ _ _
theorem ai2 {A:Option Addr}{n cap:Nat}{l:List UInt8}{w:World}(hr:Rd w w.heap.size 1 A n (ak l)) (hcap:n≤cap) (hm:cap≤maxLen) (hn:n≤1048576) :
 Calls Tryz.prog 226 #[.slice A n cap] w fun e w'=>e = .returned (triT (lQ l))∧Below w.heap.size w w':=by
 have HL:=af hr.mR
 have hcm:=hm
 unfold maxLen at hcm
 obtain⟨⟨m,a,z⟩,hv⟩:∃r,bB 127 l=r:=⟨_,rfl⟩
 have hbd:=EM (F:=127) (by omega) l
 have hze:=aa0 127 l
 rw[hv] at hbd hze
 simp only at hbd hze
 have HV:=af hv
 have ht:=aa5 (w:=w) Jz hr hcap hm
 rw[hv] at ht
 simp only[EO] at ht
 have HT:=af ht
 have HR:=af hr
 clear hv ht hr
 by_cases hz:z=0
 ·have hbd1:=hbd hz
  subst hz
  clear hbd hze
  obtain⟨Az,ha1,yR,ha6⟩:=hbd1
  rw[HL.out] at yR
  by_cases xK : 4096<m
  ·go_enter Tryz.func226,Tryz.ntmps226
   go_wp2_with fail
   refine HT.out.mono ?_
   rintro e w1 ⟨rfl,rfl⟩
   go_wp2
   go_ret3
   exact⟨by rw[ai0 HV.out rfl xK];rfl,Below.refl _ _⟩
  ·by_cases hl:n<a+m
   ·go_enter Tryz.func226,Tryz.ntmps226
    go_wp2_with fail
    refine HT.out.mono ?_
    rintro e w1 ⟨rfl,rfl⟩
    go_wp2
    go_ret3
    exact⟨by rw[ai1 HV.out rfl (by omega) (by rw[HL.out];exact hl)];rfl,Below.refl _ _⟩
   ·obtain⟨-,b,o,rfl,hb,hc⟩:=HR.out.tL (by omega)
    have hc0:w.cell? ⟨b,o,none⟩=some (.int .u8 (ba l 0:Int)):=hc 0 (by omega)
    clear hc
    by_cases hca:cap=a
    ·obtain rfl:cap=n:=by omega
     obtain rfl:a=cap:=by omega
     obtain rfl:m=0:=by omega
     have hp:=Rd.end_ (w:=w) (B:=w.heap.size) (A:=some ⟨b,o,none⟩) HL.out
     have e1:=sJ Tryz.underlying48 Tryz.underlying5 Tryz.underlying9 hp (a-a)
     simp only[zV] at e1
     have E1:=af e1
     have HP:=af hp
     clear e1 hp
     by_cases hb0:ba l 0<128
     ·have e1:=E1.out
      go_enter Tryz.func226,Tryz.ntmps226
      go_wp2_with fail
      refine HT.out.mono ?_
      rintro e w1 ⟨rfl,rfl⟩
      go_wp2
      go_ret3
      exact⟨by rw[VU HV.out rfl (by omega) (by rw[HL.out];omega) hb0];rfl,Below.refl _ _⟩
     ·have hT:=VT HV.out rfl (by omega) (by rw[HL.out];omega) (by omega)
      have hd:=X4 HP.out (by omega) (cap:=a-a)
      simp only[zV] at hd
      generalize xz ((l.drop a).take 0)=D at *
      have HD:=af hd
      have tu:=af hT
      clear hd hT
      go_enter Tryz.func226,Tryz.ntmps226
      go_wp2_with fail
      refine HT.out.mono ?_
      rintro e w1 ⟨rfl,rfl⟩
      go_wp2_with fail
      refine HD.out.mono ?_
      rintro e w2 ⟨rfl,hb2⟩
      cases D with
      | none=>
       simp only[Ga]
       go_wp2
       go_ret3
       exact⟨by rw[tu.out];rfl,hb2⟩
      | some t=>
       simp only[Ga]
       have hsz:(ByteArray.mk t.toArray).size=t.length:=by simp[ByteArray.size]
       have jC:=tu.out
       simp only at jC
       obtain⟨s,hs⟩:∃s:ByteArray,s=⟨t.toArray⟩:=⟨_,rfl⟩
       rw[←hs] at hsz ⊢
       have HS:=af hs
       have f_:=af hsz
       have HF:=af jC
       clear hs hsz jC
       by_cases jK : 4096<s.size
       ·go_wp2
        go_ret3
        exact⟨by rw[HF.out,ax (by rw[←f_.out];exact jK)];rfl,hb2⟩
       ·go_wp2
        go_ret3
        exact⟨by rw[HF.out,aj (by rw[←f_.out];exact jK),HS.out];rfl,hb2⟩
    ·have hp:=Rd.cut (a:=a) (m:=m) HR.out (by omega)
     have e1:=sJ Tryz.underlying48 Tryz.underlying5 Tryz.underlying9 hp (cap-a)
     have E1:=af e1
     have HP:=af hp
     clear e1 hp
     by_cases hb0:ba l 0<128
     ·have e1:=E1.out
      go_enter Tryz.func226,Tryz.ntmps226
      go_wp2_with fail
      refine HT.out.mono ?_
      rintro e w1 ⟨rfl,rfl⟩
      go_wp2
      go_ret3
      exact⟨by rw[VU HV.out rfl (by omega) (by rw[HL.out];omega) hb0];rfl,Below.refl _ _⟩
     ·have hT:=VT HV.out rfl (by omega) (by rw[HL.out];omega) (by omega)
      have hd:=X4 HP.out (by omega) (cap:=cap-a)
      generalize xz ((l.drop a).take m)=D at *
      have HD:=af hd
      have tu:=af hT
      clear hd hT
      go_enter Tryz.func226,Tryz.ntmps226
      go_wp2_with fail
      refine HT.out.mono ?_
      rintro e w1 ⟨rfl,rfl⟩
      go_wp2_with fail
      refine HD.out.mono ?_
      rintro e w2 ⟨rfl,hb2⟩
      cases D with
      | none=>
       simp only[Ga]
       go_wp2
       go_ret3
       exact⟨by rw[tu.out];rfl,hb2⟩
      | some t=>
       simp only[Ga]
       have hsz:(ByteArray.mk t.toArray).size=t.length:=by simp[ByteArray.size]
       have jC:=tu.out
       simp only at jC
       obtain⟨s,hs⟩:∃s:ByteArray,s=⟨t.toArray⟩:=⟨_,rfl⟩
       rw[←hs] at hsz ⊢
       have HS:=af hs
       have f_:=af hsz
       have HF:=af jC
       clear hs hsz jC
       by_cases jK : 4096<s.size
       ·go_wp2
        go_ret3
        exact⟨by rw[HF.out,ax (by rw[←f_.out];exact jK)];rfl,hb2⟩
       ·go_wp2
        go_ret3
        exact⟨by rw[HF.out,aj (by rw[←f_.out];exact jK),HS.out];rfl,hb2⟩
 ·go_enter Tryz.func226,Tryz.ntmps226
  go_wp2_with fail
  refine HT.out.mono ?_
  rintro e w1 ⟨rfl,rfl⟩
  go_wp2
  go_ret3
  exact⟨by rw[aiZ HV.out hz];rfl,Below.refl _ _⟩
end
section
open Go.ChangeShapes Go.WideShapes Go.ChangeAt Go.RowKit Go.WideMaps Go.ChangeMaps
set_option maxRecDepth 100000
theorem own:ownKnob Tryz.prog.godebug=none:=by kernel_rfl
theorem laidOut:laidOutB Tryz.prog=true:=by kernel_rfl
section
variable {H:Type} {enc:TypeId×Value→H} {P:Program}
theorem abj (hl:laidOutB P=true){W W':World}(hb:Below W.heap.size W W'):∀{ts:List TypeId}{vs:List Value}{ds:List (DataW H)}{ps:List MemPlace},
 (∀t ∈ ts,P.readableRec t=true∧t<P.types.size)→DataW.TrodAll enc P W 0 (fun _=>true) true ts vs ds ps→(∀x ∈ ps,x.block<W.heap.size) →
 DataW.TrodAll enc P W' 0 (fun b=>decide (b<W.heap.size)) true ts vs ds ps
 | [],vs,ds,ps,_,h,_=>by
  obtain⟨rfl,rfl,rfl⟩:=trodAll_nil h
  rfl
 | t :: ts,vs,ds,ps,hts,h,hlt=>by
  obtain⟨v,vs',d,ds',p,q,rfl,rfl,rfl,hd,xP⟩:=trodAll_cons h
  have ht:=hts t (by simp)
  exact⟨p,q,Below.trod hl ht.1 ht.2 hd hb (fun x hx=>hlt x (by simp[hx])),abj hl hb (fun t' h'=>hts t' (by simp[h'])) xP (fun x hx=>hlt x (by simp[hx])),rfl⟩
theorem ae_ (hl:laidOutB P=true){fn:Func}{s:ChangeSpec}{W W':World}{args:Array Value}{ds gs:List (DataW H)}{before:List MemPlace}{tb:TypeId}{e:Ending}{apart:Bool}
 (hts:∀t ∈ fn.params.toList,P.readableRec t=true∧t<P.types.size) (hres:fn.resultTypes=#[tb]) (htb:P.underlying tb=some .bool)
 (hW:DataW.Whole enc P fn.params.toList s.vars apart W args.toList ds gs before) (hv:s.vars=[]) (hs:s.fn H ds = { results:=[.lit (.bool true)],args:=ds })
 (h:RetT W e W'):∃v,e = .returned v∧s.post enc P fn apart true false false W args v W':=by
 obtain⟨rfl,hb⟩:=h
 have AJ:=hW
 obtain⟨p,q,hA,hV,rfl,_,_⟩:=hW
 rw[hv] at hV
 obtain⟨rfl,rfl⟩:=trodVars_none hV
 simp only[kR] at AJ ⊢
 have hlt:∀x ∈ p,x.block<W.heap.size:=fun x hx=>by simpa using AJ.lt x hx
 refine⟨_,rfl,ds,[],p,[],p,[],AJ,?_,?_,?_,hb.frame _,fun h=>by cases h⟩
 ·rw[kR,hs,hres]
  exact trodAll_mk1 (shut_bool htb _)
 ·rw[kR,hs]
  exact abj hl hb hts hA hlt
 ·rw[kR,hs,hv]
  rfl
end
section
variable {H:Type} {enc:TypeId×Value→H} {W:World} {base:Nat}
theorem wf_i64 {n:Int}(h:(Lit.int .i64 n).wf=true) : -9223372036854775808≤n∧n≤9223372036854775807:=by simp[Lit.wf,IntKind.min,IntKind.max,IntKind.bits,IntKind.signed] at h;omega
end
section
variable {H:Type} {enc:TypeId×Value→H} {W:World} {base:Nat}
end
end
section
open Go.ChangeShapes Go.WideShapes Go.ChangeAt Go.RowKit Go.WideMaps Go.ChangeMaps Go.Deep
set_option maxRecDepth 100000
structure St where
 sk:Int
 sf:Rw
 sv:Bool
 sn:Int
def St.zero:St:=⟨0,(ByteArray.empty,ByteArray.empty),false,0⟩
def StAt (w:World) (b o:Nat) (x:St):Prop:=
 w.cell? ⟨b,o,none⟩=some (.int .i64 x.sk)∧w.cell? ⟨b,o+1,none⟩=some (.string x.sf.1)∧w.cell? ⟨b,o+2,none⟩=some (.string x.sf.2)∧w.cell? ⟨b,o+3,none⟩=some (.bool x.sv)∧w.cell? ⟨b,o+4,none⟩=some (.int .i64 x.sn)
def StOk (x:St):Prop:=(Lit.int .i64 x.sk).wf=true∧x.sf.1.size≤maxLen∧x.sf.2.size≤maxLen∧(Lit.int .i64 x.sn).wf=true
def Oa (w:World) (B:Nat) (A:Option Addr) (n:Nat) (D:Nat→St):Prop:=
 (∀i,i<n→StOk (D i))∧(0<n→∃b o,A=some ⟨b,o,none⟩∧b<B∧∀i,i<n→StAt w b (o+i*5) (D i))
theorem Oa.below {w w':World}{B:Nat}{A:Option Addr}{n:Nat}{D:Nat→St}(h:Oa w B A n D) (hb:Below B w w'):Oa w' B A n D:=by
 refine⟨h.1,fun h0=>?_⟩
 obtain⟨b,o,hA,hlt,hc⟩:=h.2 h0
 refine⟨b,o,hA,hlt,fun i hi=>?_⟩
 obtain⟨h1,h2,h3,h4,h5⟩:=hc i hi
 have e:∀j,w'.cell? ⟨b,j,none⟩=w.cell? ⟨b,j,none⟩:=fun j=>hb.cell (p:=⟨b,j,none⟩) hlt
 exact⟨(e _).trans h1,(e _).trans h2,(e _).trans h3,(e _).trans h4,(e _).trans h5⟩
section
variable {H:Type} {enc:TypeId×Value→H} {W:World} {base:Nat}
end
end
section
open Go.RowKit Go.Maps
theorem tN {B:Nat}{w w':World}(h:Below B w w') (n:Nat):Below B w (w'.drewN n):=⟨h.os,h.tape,h.output,h.size,h.block⟩
def abI (W:World) (r:Int×Bool) (e:Ending) (w':World):Prop:=e = .returned (.tuple #[.int .i64 r.1,.bool r.2])∧Below W.heap.size W w'
end
section
open Go.RowKit

end
section
open Go.RowKit Go.Maps
section
variable {P:Program} {w:World}
theorem aiI {ops:Array Oper}{o:Oper}{a:Act}{K:Act→World→Prop}{Q:Exit→Act→World→Prop}{E:Prop}(s x:Operand){t e:TypeId}{z:Value}{size bytes:Nat}(hT:rR P t e z size bytes)
 (hgd:o.guard=none) (ho:o.op = .call { callee:=.builtin .append,args:=#[s,x],argTypes:=#[t,t] })
 {v:Value} {n:Nat} {xs:List Value} (hl:j5 w e size v n xs) (hs:a.eval s=v)
 {B:Nat} {A:Option Addr} {m c:Nat} {news:List Value} (hr:Rd w B size A m news) (hm : 0<m) (hx:a.eval x = .slice A m c) (h1:∀u ∈ news,u.oneCell'=true)
 (h63:n+m≤maxLen) (hbytes:(n+m)*bytes≤140737488355328)
 (h:∀v' w',j5 w' e size v' (n+m) (xs++news)→w.grownBy w' v.ownBlock→(v'.ownBlock=v.ownBlock∨∀k,v'.ownBlock=some k→w.heap.size≤k)→K (a.put o.dst v') w') :
 if Region.wanted o (yielded ops a.tmps)=true then Oper.wp P o a w K Q else E:=by
 have hw:Region.wanted o (yielded ops a.tmps)=true:=by simp[Region.wanted,hgd]
 rw[ax hw]
 obtain⟨v',w',hrun,h2,h3,h4⟩:=ah8 (P:=P) o.type hT hl hr hm (c:=c) h1 h63 hbytes
 unfold Oper.wp execOp
 simp only[ho,resolve,invoke,builtin,Sem.run_bind,Sem.run_pure,Result.andThen_ok,List.map_toArray,lV,vU,hs,hx,hrun]
 exact h v' w' h2 h3 h4
end
theorem Rd.pair (w:World) (x y:Value) (t:TypeId):Rd (w.alloc (.cells #[x,y] t)) (w.heap.size+1) 2 (some ⟨w.heap.size,0,none⟩) 1 [x,y]:=by
 refine⟨rfl,fun _=>⟨_,_,rfl,by omega,fun j hj=>?_⟩⟩
 rw[World.cell?_alloc_at _ _ _ _ rfl]
 simp
def Jq (W:World) (A A0:Option Addr):Prop:=∀a,A=some a→(∃a0,A0=some a0∧a0.block=a.block)∨W.heap.size≤a.block
theorem Jq.foot {W:World}{A A0:Option Addr}(h:Jq W A A0){g mb mn k:Nat}(hk:foot g mb mn A k):foot g mb mn A0 k∨W.heap.size≤k:=by
 rcases hk with h1 | h1 | h1 | ⟨a,ha,h1⟩
 ·exact .inl (.inl h1)
 ·exact .inl (.inr (.inl h1))
 ·exact .inl (.inr (.inr (.inl h1)))
 ·rcases h a ha with ⟨a0,h0,e⟩ | hle
  ·exact .inl (.inr (.inr (.inr ⟨a0,h0,e.trans h1⟩)))
  ·exact .inr (by omega)
theorem Raw.app {w w4:World}{g mb mn c N c4:Nat}{A A4:Option Addr}{most size gone:Int}{rows:List Rw}{fb:Rw→Option Int}{fn:ByteArray→Option Int}{r:Rw}(h:Raw w g mb mn A c N most size gone rows fb fn)
 (hl:j5 w4 276 2 (.slice A4 (rows.length+1) c4) (rows.length+1) (rcs rows++[.string r.1,.string r.2])) (hg:w.grownBy w4 (Value.ownBlock (.slice A rows.length c)))
 (hb:Value.ownBlock (.slice A4 (rows.length+1) c4)=Value.ownBlock (.slice A rows.length c)∨∀k,Value.ownBlock (.slice A4 (rows.length+1) c4)=some k→w.heap.size≤k) :
 w4.heap[g]?=w.heap[g]?∧Raw (w4.setCell ⟨g,2,none⟩ (.slice A4 (rows.length+1) c4)) g mb mn A4 c4 N most size gone (rows++[r]) fb fn∧Jq w A4 A:=by
 have hsub:Jq w A4 A:=by
  intro a ha
  subst ha
  rcases hb with e | hge
  ·cases A with
   | none=>simp[Value.ownBlock] at e
   | some a0=>simp[Value.ownBlock] at e;exact .inl ⟨a0,rfl,e.symm⟩
  ·exact .inr (hge a.block rfl)
 have hlt:=h.lt
 have hrow:∀k,k<w.heap.size→(∀a,A=some a→a.block≠k)→w4.heap[k]?=w.heap[k]?:=fun k hk hn=>hg.block k hk (fun e=>by
  cases A with
  | none=>simp[Value.ownBlock] at e
  | some a=>simp[Value.ownBlock] at e;exact hn a rfl e.symm)
 have hg4:=hrow g (hlt g (.inl rfl)) (fun a ha=>(h.apart a ha).1)
 have hmb:=hrow mb (hlt mb (.inr (.inl rfl))) (fun a ha=>(h.apart a ha).2.1)
 have hmn:=hrow mn (hlt mn (.inr (.inr (.inl rfl)))) (fun a ha=>(h.apart a ha).2.2)
 have hap:∀a,A4=some a→a.block≠g∧a.block≠mb∧a.block≠mn:=by
  intro a ha
  rcases hsub a ha with ⟨a0,h0,e⟩ | hge
  ·rw[←e];exact h.apart a0 h0
  ·have h1:=hlt g (.inl rfl)
   have h2:=hlt mb (.inr (.inl rfl))
   have h3:=hlt mn (.inr (.inr (.inl rfl)))
   exact⟨by omega,by omega,by omega⟩
 have hk:∀k,k≠g→(w4.setCell ⟨g,2,none⟩ (.slice A4 (rows.length+1) c4)).heap[k]?=w4.heap[k]?:=fun k hk=>Below.heap_setCell _ _ _ _ (by simpa using hk)
 obtain⟨D1,⟨e1,l1,a1,b1⟩,v1⟩:=h.both
 obtain⟨D2,⟨e2,l2,a2,b2⟩,v2⟩:=h.name
 refine⟨hg4,⟨?_,?_,⟨D1,⟨e1,l1,((hk mb (Ne.symm h.ne.1)).trans hmb).trans a1,b1⟩,v1⟩,⟨D2,⟨e2,l2,((hk mn (Ne.symm h.ne.2.1)).trans hmn).trans a2,b2⟩,v2⟩,h.ne,hap⟩,hsub⟩
 ·simp only[World.setCell,Array.getElem?_modify,if_true]
  rw[hg4,h.book]
  simp
 ·rw[aN,ahi]
  refine j5.keep hl fun q hq=>hk q ?_
  cases A4 with
  | none=>cases hq
  | some a=>simp only[Value.ownBlock,Cg] at hq;subst hq;exact (hap a rfl).1
theorem ajm (a b:ByteArray):∀u ∈ [Value.string a,Value.string b],u.oneCell'=true:=by simp[Value.oneCell']
def abA (W:World) (g mb mn:Nat) (A:Option Addr) (c N x:Nat) (T:Tb) (r:Rw) (b:Bool) (v:Value) (wx:World):Prop:=
 v = .bool b∧TM wx g mb mn A c N T∧Below W.heap.size W wx∧wx.cell? ⟨x,0,none⟩=some (.string r.1)∧wx.cell? ⟨x,1,none⟩=some (.string r.2)∧x<wx.heap.size∧W.heap.size≤x
def abB (W:World) (g mb mn:Nat) (A0:Option Addr) (N x:Nat) (most gone:Int) (rows:List Rw) (r:Rw) (wx:World):Prop:=
 ∃A c,FX wx g mb mn A c N most gone rows∧Kept (foot g mb mn A0) W wx∧Sub A A0∧wx.cell? ⟨x,0,none⟩=some (.string r.1)∧wx.cell? ⟨x,1,none⟩=some (.string r.2)∧x<wx.heap.size
def Ni (W:World) (g mb mn:Nat) (A0:Option Addr) (N x:Nat) (most size gone:Int) (rows:List Rw) (r:Rw) (wx:World):Prop:=
 ∃A c,Raw wx g mb mn A c N most size gone (rows++[r]) (pos rows gone) (pos (rows.map (·.1)) gone)∧Kept (foot g mb mn A0) W wx∧Jq W A A0∧wx.cell? ⟨x,0,none⟩=some (.string r.1)∧wx.cell? ⟨x,1,none⟩=some (.string r.2)∧x<wx.heap.size
theorem ab8 {g N:Nat}{F:Nat→Prop}{T:Tb}(r:Rw) (nv:Bool) (w:World) (h:TabIs w g F N T) (hr1:r.1.size≤1099511627776) (hr2:r.2.size≤1099511627776) (hN:N+1≤1099511627776) :
 Calls Tryz.prog 205 #[.pointer (some ⟨g,0,none⟩),.agg #[.string r.1,.string r.2,.bool nv]] w (Od w g F (N+1) (T.add r) (.tuple #[])):=by
 obtain⟨mb,mn,A,c,rfl,ht⟩:=h
 have hlt:=ht.raw.lt
 have ve:=hlt g (.inl rfl)
 have YG:(cost r:Int)=r.1.size+r.2.size+32:=by unfold cost;omega
 obtain⟨cr,hcr⟩:∃cr:Int,(cost r:Int)=cr:=⟨_,rfl⟩
 have hcr0 : 32≤cr:=by omega
 have hcr1:cr≤4398046511104:=by omega
 have Fa:=af hcr
 obtain⟨c0,c1,c2,c3,c4,c5⟩:=ht.raw.cells
 have hm0:=ht.CW
 have dS:=ht.Br
 have HT:=af ht
 have kE:=af hlt
 have hg1:g<w.heap.size+1:=by omega
 have hg2:g<w.heap.size+1+1:=by omega
 clear ht hlt YG hcr
 go_enter Tryz.func205,Tryz.ntmps205
 go_upto_region 3 with fail
 obtain⟨wa,Bl⟩:∃wa,(w.alloc (.cells #[.string r.1,.string r.2,.bool nv] 26)).alloc (.cells #[.string r.1,.string r.2] 276)=wa:=⟨_,rfl⟩
 obtain⟨x,hx⟩:∃x,w.heap.size+1=x:=⟨_,rfl⟩
 have aY:Below w.heap.size w wa:=by rw[←Bl];exact ((Below.refl _ _).alloc (ah _) _).alloc (by simp) _
 have CQ:wa.heap.size=w.heap.size+2:=by rw[←Bl];simp
 have hxa:x<wa.heap.size:=by omega
 have hga:g<wa.heap.size:=by omega
 have y0:wa.cell? ⟨x,0,none⟩=some (.string r.1):=by rw[←Bl];exact World.cell?_alloc_at _ _ _ _ (by simp;omega)
 have y1:wa.cell? ⟨x,1,none⟩=some (.string r.2):=by rw[←Bl];exact World.cell?_alloc_at _ _ _ _ (by simp;omega)
 have qY:TM wa g mb mn A c N T:=HT.out.keep (fun k hk=>aY.block k (kE.out k hk))
 obtain⟨a0,-⟩:=qY.raw.cells
 have HTA:=af qY
 have iD:=af aY
 rw[Bl,hx]
 have HX:=af hx
 have hxw:w.heap.size≤x:=by omega
 clear Bl hx CQ aY qY c0 c1 c2 c3 c4 c5
 go_cut [18] (fun v wx=>abA w g mb mn A c N x T r (decide (T.most<cr)) v wx)
 case first=>
  go_region_held3 (fun w'=>w'.cell? ⟨g,0,none⟩=some (.int .i64 T.most)∧w'.cell? ⟨x,0,none⟩=some (.string r.1)∧w'.cell? ⟨x,1,none⟩=some (.string r.2))
   (go_keep)
   (first
    | (go_at_call 215;refine (LQ r _ (by omega) (by omega)).mono ?_;rintro e w2 ⟨rfl,rfl⟩;rw[Fa.out]))
  all_goals
   go_wp2_with fail
   go_meet
   refine⟨rfl,HTA.out.keep (fun k hk=>Below.heap_alloc wa _ k (HTA.out.raw.lt k hk)),(iD.out.alloc (by have:=iD.out.size;omega) _).drew,(World.cell?_alloc_lt _ _ _ hxa).trans y0,(World.cell?_alloc_lt _ _ _ hxa).trans y1,by simp;omega,hxw⟩
 case rest=>
  obtain⟨rfl,htm,aY,x0,x1,hxl,hxw'⟩:=hcut
  have htb:=htm.tbl
  have HTM:=af htm
  have HBC:=af aY
  obtain⟨c0,c1,c2,c3,c4,c5⟩:=htm.raw.cells
  have hgc:=htm.raw.lt g (.inl rfl)
  have O_:∀k,foot g mb mn A k→k<w.heap.size:=kE.out
  have HLT2:=af O_
  have o_:¬foot g mb mn A x:=fun hf=>by have:=O_ x hf;omega
  have FP:=af o_
  clear O_ o_ HTA iD y0 y1 a0 hxa hga aY htm kE HT
  by_cases jK:T.most<cr
  ·have hadd:T.add r=T.shrink 0:=by unfold Tb.add;rw[ax (by rw[Fa.out];exact jK)]
   have hC:=af (VK 0 wc htb)
   have eb:decide (T.most<cr)=true:=by simpa using jK
   have Ns:=af hadd
   clear hadd htb
   go_wp2_with fail
   refine hC.out.mono ?_
   rintro e w' ⟨rfl,A',c',htb,hk,hs⟩
   have H:=af (And.intro htb (And.intro hk hs))
   clear htb hk hs hC
   go_wp2
   refine bodyPost_ret (v:=.tuple #[]) (by simp[results,Tryz.results205,go_sem]) rfl ?_
   rw[Ns.out]
   refine⟨rfl,foot g mb mn A',⟨mb,mn,A',c',rfl,?_⟩,?_,fun k hf=>.inl (H.out.2.2.foot hf)⟩
   ·obtain⟨h1,h2,h3,h4,h5,h6⟩:=H.out.1
    exact TM.of ⟨h1.more (zU N),h2,h3,by omega,by omega,h6⟩ hm0 dS (by have:=I1 (Int.le_refl 0) T.rows T.gone;omega)
   ·exact (Kept.jk HBC.out).same H.out.2.1
  ·have hle:cr≤T.most:=by omega
   have eb:decide (T.most<cr)=false:=by simpa using jK
   have hC:Hid (∀w',w'.heap=wc.heap∨w'=wc.alloc (.cells #[.string r.1,.string r.2] 276)∨w'=(wc.alloc (.cells #[.string r.1,.string r.2] 276)).drew→Calls Tryz.prog 200 #[.pointer (some ⟨g,0,none⟩),.int .i64 (T.most-cr)] w' (Ls w' g mb mn A N (T.most-cr) T.most T.gone T.rows)):=by
    refine af fun w' hw'=>VK _ w' ⟨htb.1.keep fun k hk=>?_,htb.2⟩
    have hkl:=HTM.out.raw.lt k hk
    rcases hw' with h | h | h
    ·rw[h]
    ·rw[h];exact Below.heap_alloc _ _ _ hkl
    ·rw[h];exact Below.heap_alloc _ _ _ hkl
   clear jK htb
   obtain⟨g1,kP,hsh⟩:∃g1 kP,iQ (T.most-cr) T.gone T.rows=(g1,kP):=⟨_,_,rfl⟩
   have hfit:dV kP≤T.most-cr:=by have:=I1 (show 0≤T.most-cr by omega) T.rows T.gone;rw[hsh] at this;exact this
   have Ns:Hid (T.add r=⟨T.most,g1,kP++[r]⟩):=af (by
    unfold Tb.add Tb.shrink
    rw[aj (by rw[Fa.out];omega)]
    simp only[Fa.out,hsh])
   have HSH:=af hsh
   clear hsh
   go_upto_region 5 with fail
   go_cut [25] (fun _ wx=>abB w g mb mn A N x T.most g1 kP r wx)
   case first=>
    have es:IntKind.i64.wrap (T.most-cr)=T.most-cr:=by rw[IntWalk.i64_in _ ⟨by omega,by omega⟩]
    have hxl1:x<wc.heap.size+1:=by omega
    go_region_held3 (fun w'=>w'.cell? ⟨g,0,none⟩=some (.int .i64 T.most)∧w'.cell? ⟨x,0,none⟩=some (.string r.1)∧w'.cell? ⟨x,1,none⟩=some (.string r.2))
     (first | go_keep | exact⟨k0,k1,k2⟩)
     (first
      | (go_at_call 215;refine (LQ r _ (by omega) (by omega)).mono ?_;rintro e w2 ⟨rfl,rfl⟩;rw[Fa.out])
      | (go_at_call 200;refine (hC.out _ (by first | (exact .inr (.inl rfl)) | (exact .inr (.inr rfl)))).mono ?_;rintro e w4 ⟨rfl,A',c',htb,hk,hs⟩;rw[HSH.out] at htb;obtain⟨k0,-⟩:=htb.1.cells;have k1:=(hk.cell (k:=x) (by simp;omega) FP.out 0).trans ((World.cell?_alloc_lt wc _ _ hxl).trans x0);have k2:=(hk.cell (k:=x) (by simp;omega) FP.out 1).trans ((World.cell?_alloc_lt wc _ _ hxl).trans x1);have H4:=af (And.intro htb (And.intro hk (And.intro hs (And.intro k1 k2))));have oZ:=hk.size;clear htb hk hs))
    all_goals
     go_wp2_with fail
     go_meet
     obtain⟨htb,hk,hs,j1,j2⟩:=H4.out
     refine⟨A',c',htb,?_,hs,j1,j2,by simp at oZ;omega⟩
     first
      | exact (((Kept.jk HBC.out).alloc _).drew).same hk
      | exact ((Kept.jk HBC.out).alloc _).same hk
   case rest=>
    obtain⟨A1,c1',htb,ku,hsub,z0,z1,hxl3⟩:=hcut
    obtain⟨d0,d1,d2,d3,d4,d5⟩:=htb.1.cells
    have hfz:=htb.1.free 2
    have CG:=htb.2.2.2.1
    have D9:=htb.2.2.1
    have hrl:kP.length≤1099511627776:=by omega
    have hgl3:=htb.1.lt g (.inl rfl)
    have B_:=af (And.intro htb (And.intro ku hsub))
    clear htb ku hsub HTM hC x0 x1 hxl c0 c1 c2 c3 c4 c5 HBC
    go_upto_region 6 with fail
    have HFZ:Hid ((wc.alloc (.cells #[.string r.1,.string r.2] 276)).frozen? ⟨g,2,none⟩=false):=af ((B_.out.1.1.alloc _).free 2)
    go_cut [37] (fun _ wx=>Ni w g mb mn A N x T.most (dV kP) g1 kP r wx)
    case first=>
     go_region_law (first
      | (refine aiI (.tmp 34) (.tmp 36) tRows rfl rfl (B_.out.1.1.alloc _).row rfl (Rd.pair _ _ _ _) (by decide) rfl (ajm _ _) (bn (by omega)) (by omega) ?_;intro v4 w4 hl4 hg4 hb4;obtain⟨A4,Cj,rfl,-,-,-⟩:=hl4.form;obtain⟨dR,vk,hs5⟩:=Raw.app (r:=r) ((B_.out.1.1.alloc _).keep (w':=(wc.alloc (.cells #[.string r.1,.string r.2] 276)).drew) (fun _ _=>rfl)) hl4 hg4 hb4;have m2:w4.cell? ⟨g,2,none⟩=some (.slice A1 kP.length c1'):=(World.cell?_of_block (a:=⟨g,2,none⟩) dR).trans ((World.cell?_alloc_lt wc _ _ hgl3).trans d2);have mf:w4.frozen? ⟨g,2,none⟩=false:=(World.frozen?_of_block (a:=⟨g,2,none⟩) dR).trans (HFZ.out);have H5:=af (And.intro vk (And.intro hs5 hg4));clear hl4 hg4 hb4 dR vk hs5))
     all_goals
      go_wp2_with fail
      go_meet
      obtain⟨vk,hs5,hg4⟩:=H5.out
      have hxg:x≠g:=fun e=>FP.out (.inl e)
      have CS:w4.heap[x]?=wc.heap[x]?:=(hg4.block x (by simp;omega) (fun e=>by
       cases A1 with
       | none=>simp[Value.ownBlock] at e
       | some a1=>
        simp[Value.ownBlock] at e
        obtain⟨a0,h0,e0⟩:=B_.out.2.2 a1 rfl
        exact FP.out (.inr (.inr (.inr ⟨a0,h0,e0.trans e.symm⟩))))).trans (Below.heap_alloc wc _ x hxl3)
      have hxs:∀o v,((w4.setCell ⟨g,2,none⟩ v).cell? ⟨x,o,none⟩)=wc.cell? ⟨x,o,none⟩:=fun o v=>
       (World.cell?_of_block (a:=⟨x,o,none⟩) (Below.heap_setCell _ _ _ _ (by simpa using hxg))).trans (World.cell?_of_block (a:=⟨x,o,none⟩) CS)
      have P5:=hg4.size
      refine⟨A4,Cj,vk,?_,?_,(hxs 0 _).trans z0,(hxs 1 _).trans z1,by simp at P5;simp[World.setCell];omega⟩
      ·refine Kept.setCell ((B_.out.2.1.alloc _).drew.grown hg4 (fun k hk=>?_)) (.inl rfl) _ _
       cases A1 with
       | none=>simp[Value.ownBlock] at hk
       | some a1=>
        simp[Value.ownBlock] at hk
        obtain⟨a0,h0,e0⟩:=B_.out.2.2 a1 rfl
        exact .inl (.inr (.inr (.inr ⟨a0,h0,e0.trans hk⟩)))
      ·intro a ha
       have hsz0:=B_.out.2.1.size
       rcases hs5 a ha with ⟨a1,h1,e1⟩ | hge
       ·obtain⟨a0,h0,e0⟩:=B_.out.2.2 a1 h1
        exact .inl ⟨a0,h0,e0.trans e1⟩
       ·exact .inr (by simp at hge;omega)
    case rest=>
     obtain⟨A2,c2',eO,ku,hsub,x0,x1,hxl⟩:=hcut
     obtain⟨c0,c1,c2,c3,c4,c5⟩:=eO.cells
     have g_:=eO.free 1
     have hgl4:=eO.lt g (.inl rfl)
     have hs1:=KM kP
     have HR:=af (And.intro eO (And.intro ku hsub))
     clear eO ku hsub d0 d1 d2 d3 d4 d5 z0 z1 hxl3 hfz hgl3 HFZ
     go_upto_region 7 with fail
     go_cut [46] (fun _ wx=>Ni w g mb mn A N x T.most (dV kP+cr) g1 kP r wx)
     case first=>
      have es:IntKind.i64.wrap (dV kP+cr)=dV kP+cr:=by rw[IntWalk.i64_in _ ⟨by omega,by omega⟩]
      have hmid:Hid (Ni w g mb mn A N x T.most (dV kP+cr) g1 kP r (((wc.setCell ⟨g,1,none⟩ (.int .i64 (dV kP+cr))).alloc (.cells #[.string r.1,.string r.2] 276)).drew)):=by
       refine af ⟨A2,c2',?_,?_,HR.out.2.2,?_,?_,?_⟩
       ·exact ((HR.out.1.aay _).alloc _).keep (fun _ _=>rfl)
       ·exact ((HR.out.2.1.setCell (.inl rfl) _ _).alloc _).drew
       ·have hxg:x≠g:=fun e=>FP.out (.inl e)
        exact ((World.cell?_alloc_lt _ _ _ (by simpa [World.setCell] using hxl)).trans (World.cell?_of_block (a:=⟨x,0,none⟩) (Below.heap_setCell _ _ _ _ (by simpa using hxg)))).trans x0
       ·have hxg:x≠g:=fun e=>FP.out (.inl e)
        exact ((World.cell?_alloc_lt _ _ _ (by simpa [World.setCell] using hxl)).trans (World.cell?_of_block (a:=⟨x,1,none⟩) (Below.heap_setCell _ _ _ _ (by simpa using hxg)))).trans x1
       ·simp[World.setCell];omega
      clear HR
      go_region_law (first
       | (go_simp;go_at_call 215;refine (LQ r _ (by omega) (by omega)).mono ?_;rintro e w2 ⟨rfl,rfl⟩;rw[Fa.out]))
      all_goals
       go_wp2_with fail
       go_meet
       first
        | exact hmid.out
        | (rw[es];exact hmid.out)
     case rest=>
      obtain⟨A3,xx,eO,ku,hsub,x0,x1,hxl⟩:=hcut
      obtain⟨c0,c1,c2,c3,c4,c5⟩:=eO.cells
      obtain⟨D1,o1,v1⟩:=eO.both
      have HD:=af o1
      have HV:=af v1
      have Gv:pE r:=⟨by unfold vC maxLen;omega,by unfold vC maxLen;omega⟩
      have wZ:=af Gv
      have lS:=af (And.intro eO (And.intro ku hsub))
      have es1:IntKind.i64.wrap (g1+((kP.length:Int)+1))=g1+kP.length+1:=by rw[IntWalk.i64_in _ ⟨by omega,by omega⟩];omega
      clear eO ku hsub o1 v1 HR Gv
      go_wp2
      go_still_tail 15,(by kernel_rfl)
      change wpList _ _ _ _ _ wc.drew
      go_wp2_with (at_mapUpdate;refine wpList_mapUpdate_own _ rfl _ _ _ 202 rfl 276 3 IJ Tryz.underlying202 _ mb _ D1 rfl HD.out (by unfold maxLen;omega) _ _ (C9 r) rfl rfl (IV wZ.out) (num _) [] (plainElem_int Tryz.underlying3 (WalkArith.wf_i64 (by omega))) ?_;intro w1 hown1 D_)
      obtain⟨D2,o2,v2⟩:=lS.out.1.name
      have hne:=lS.out.1.ne
      have ze:=(lS.out.1.keep (w':=wc.drew) (fun _ _=>rfl)).Zy D_ hown1 (HV.out.put (HD.out.tidy IJ) ahS aao wZ.out (g1+kP.length+1)) (zU N)
      have o2k:=(World.ownsMap.drew o2).kept D_ (by simpa using Ne.symm hne.2.2)
      have hxmb:x≠mb:=fun e=>FP.out (.inr (.inl e))
      have hx1:w1.heap[x]?=wc.heap[x]?:=D_.block x hxl (by simpa using hxmb)
      have z0:=(World.cell?_of_block (a:=⟨x,0,none⟩) hx1).trans x0
      have z1:=(World.cell?_of_block (a:=⟨x,1,none⟩) hx1).trans x1
      obtain⟨b0,b1,b2,b3,b4,b5⟩:=ze.cells
      have vg:Kept (foot g mb mn A) w w1:=lS.out.2.1.drew.grown D_ (fun k hk=>by cases hk;exact .inl (.inr (.inl rfl)))
      have H8:=af (And.intro ze vg)
      have Dh:=af o2k
      have HV2:=af v2
      clear ze o2 o2k v2 hne hown1 D_ hx1 vg c0 c1 c2 c3 c4 c5 x0 x1
      go_wp2
      go_still_tail 16,(by kernel_rfl)
      change wpList _ _ _ _ _ w1.drew
      go_wp2_with (at_mapUpdate;refine wpList_mapUpdate_own _ rfl _ _ _ 157 rfl 9 3 IK Tryz.underlying157 _ mn _ D2 rfl Dh.out (by unfold maxLen;omega) _ _ (EK r.1) rfl rfl (I5 wZ.out.1) (num _) [] (plainElem_int Tryz.underlying3 (WalkArith.wf_i64 (by omega))) ?_;intro w2 hown2 hgrow2)
      go_end0
      rw[Ns.out]
      have Ei:=(H8.out.1.keep (w':=w1.drew) (fun _ _=>rfl)).newName hgrow2 hown2 (HV2.out.put (Dh.out.tidy IK) aiJ aaP wZ.out.1 (g1+kP.length+1)) (ah _)
      have hsum:dV (kP++[r])=dV kP+cr:=by
       rw[←Fa.out]
       unfold dV
       simp
      refine⟨rfl,foot g mb mn A3,⟨mb,mn,A3,xx,rfl,TM.of ⟨?_,?_,D9,?_,hN,?_⟩ hm0 dS (by omega)⟩,H8.out.2.drew.grown hgrow2 (fun k hk=>by cases hk;exact .inl (.inr (.inr (.inl rfl)))),fun k hk=>lS.out.2.2.foot hk⟩
      ·rw[hsum,j6]
       refine Ei.congr (fun r' _=>?_) (fun s _=>?_)
       ·rw[Z0]
       ·rw[show List.map (fun x=>x.fst) [r]=[r.1] from rfl,Z0,List.length_map]
      ·intro r' hr'
       rcases List.mem_append.1 hr' with h | h
       ·exact B_.out.1.2.1 r' h
       ·rw[List.mem_singleton.1 h];exact wZ.out
      ·rw[aN];simp;omega
      ·rw[hsum];omega
end
section
open Go.RowKit
section
variable {P:Program} {w:World}
theorem oI {ops:Array Oper}{o:Oper}{a:Act}{K:Act→World→Prop}{Q:Exit→Act→World→Prop}{E:Prop}(s x:Operand){t e:TypeId}{z:Value}{size bytes:Nat}(hT:rR P t e z size bytes)
 (hgd:o.guard=none) (ho:o.op = .call { callee:=.builtin .append,args:=#[s,x],argTypes:=#[t,t] })
 {base:Nat} {v:Value} {n:Nat} {xs:List Value} (hown:w.ownsRow base e size v n xs) (hs:a.eval s=v)
 {B:Nat} {A:Option Addr} {m c:Nat} {news:List Value} (hr:Rd w B size A m news) (hx:a.eval x = .slice A m c) (h1:∀u ∈ news,u.oneCell'=true)
 (h63:n+m≤maxLen) (hbytes:(n+m)*bytes≤140737488355328) (hbase:base≤w.heap.size)
 (h:∀v' w',w'.ownsRow base e size v' (n+m) (xs++news)→w.grownBy w' v.ownBlock→(v'.ownBlock=v.ownBlock∨v'.ownBlock=some w.heap.size)→K (a.put o.dst v') w') :
 if Region.wanted o (yielded ops a.tmps)=true then Oper.wp P o a w K Q else E:=by
 have hw:Region.wanted o (yielded ops a.tmps)=true:=by simp[Region.wanted,hgd]
 rw[ax hw]
 obtain⟨v',w',hrun,h2,h3,h4⟩:=Tw (P:=P) o.type hT hown hr (c:=c) h1 h63 hbytes hbase
 unfold Oper.wp execOp
 simp only[ho,resolve,invoke,builtin,Sem.run_bind,Sem.run_pure,Result.andThen_ok,List.map_toArray,lV,vU,hs,hx,hrun]
 exact h v' w' h2 h3 h4
end
theorem Rd.pre {w:World}{B size n m:Nat}{A:Option Addr}{xs:List Value}(h:Rd w B size A n xs) (hm:m≤n):Rd w B size A m (xs.take (m*size)):=by
 have fA:m*size≤n*size:=Cf _ hm
 refine⟨by rw[kS,h.1];omega,fun h0=>?_⟩
 obtain⟨b,o,hA,hb,hc⟩:=h.2 (by omega)
 refine⟨b,o,hA,hb,fun j hj=>?_⟩
 rw[hc j (by omega),List.getElem?_take,ax hj]
theorem Small.tail {r:Rw}{l:List Rw}(h:Small (r :: l)):Small l:=⟨by have:=h.1;rw[I7] at this;have:=cost;unfold Small at h;omega,fun r' hr=>h.2 r' (fH _ hr)⟩
end
section
open Go.RowKit
theorem agD (w:World) (B:Nat) (e:TypeId) (a b c:Value) (hB:B≤w.heap.size):(w.alloc (.cells #[a,b,c] e)).ownsRow B e 3 (.slice (some ⟨w.heap.size,0,none⟩) 1 1) 1 [a,b,c]:=
 ⟨by simp,.inr ⟨_,1,#[a,b,c],rfl,hB,aZ _ _,ah _,by unfold maxLen;omega,by simp,by simp⟩⟩
end
section
open Go.RowKit
theorem Tb.Xc (T:Tb) (r:Rw):(T.add r).most=T.most:=by
 unfold Tb.add
 split <;> rfl
theorem TM.more {w:World}{g mb mn c N N':Nat}{A:Option Addr}{T:Tb}(h:TM w g mb mn A c N T) (hn:N≤N') (hN:N'≤1099511627776):TM w g mb mn A c N' T:=
 ⟨h.raw.more hn,h.ok,h.CW,h.Br,h.Ck,by have:=h.many;omega,hN,h.fits⟩
theorem TabIs.more {w:World}{g N N':Nat}{F:Nat→Prop}{T:Tb}(h:TabIs w g F N T) (hn:N≤N') (hN:N'≤1099511627776):TabIs w g F N' T:=by
 obtain⟨mb,mn,A,c,rfl,ht⟩:=h
 exact⟨mb,mn,A,c,rfl,ht.more hn hN⟩
end
section
open Go.RowKit
def fds (l:List Fd):List Value:=l.flatMap fun f=>[.string f.1.1,.string f.1.2,.bool f.2]
theorem Ij (f:Fd) (l:List Fd):fds (f :: l) = .string f.1.1 :: .string f.1.2 :: .bool f.2 :: fds l:=rfl
theorem jJ (l:List Fd):(fds l).length=l.length*3:=by
 induction l with
 | nil=>rfl
 | cons p l ih=>rw[Ij];simp only[fe,ih];omega
theorem oP (l k:List Fd):fds (l++k)=fds l++fds k:=by simp[fds,List.flatMap_append]
theorem yL (l:List Fd):∀u ∈ fds l,u.oneCell'=true:=by
 induction l with
 | nil=>intro u h;cases h
 | cons p L ih=>
  intro u h
  rw[Ij] at h
  simp only[qG] at h
  rcases h with rfl | rfl | rfl | h
  ·rfl
  ·rfl
  ·rfl
  ·exact ih u h
theorem Yd {l:List Fd}:∀{i:Nat}{f:Fd},l[i]?=some f→(fds l)[i*3]?=some (.string f.1.1)∧(fds l)[i*3+1]?=some (.string f.1.2)∧(fds l)[i*3+2]?=some (.bool f.2):=by
 induction l with
 | nil=>intro i p h;simp at h
 | cons q L ih=>
  intro i p h
  rw[Ij]
  cases i with
  | zero=>simp at h;subst h;exact⟨rfl,rfl,rfl⟩
  | succ i=>
   have:=ih (i:=i) (f:=p) (by simpa using h)
   rw[show (i+1)*3=i*3+1+1+1 by omega]
   simpa using this
def p8 (e:Nat):Ending:=.panicked [{ v:=.iface 258 (.agg #[.int .i64 (e:Int)]),recovered:=false }]
theorem Rd.kept {G:Nat→Prop}{w w':World}{size n:Nat}{A:Option Addr}{xs:List Value}(h:Rd w w.heap.size size A n xs) (hk:Kept G w w') (hA : 0<n→∀a,A=some a→¬G a.block):Rd w' w'.heap.size size A n xs:=by
 refine⟨h.1,fun hn=>?_⟩
 by_cases h0 : 0<n
 ·obtain⟨b,o,rfl,hb,hc⟩:=h.2 hn
  refine⟨b,o,rfl,fI hb hk.size,fun j hj=>?_⟩
  rw[←hc j hj]
  exact hk.cell hb (hA h0 _ rfl) _
 ·exact absurd hn (by
   have:n=0:=by omega
   subst this;omega)
def iY (d:Nat) (AL:Option Addr) (n cl:Nat) (fv:Value) (co ch:Nat):Obj:=.cells #[.pointer (some ⟨d,0,none⟩),.slice AL n cl,fv,.int .i64 (co:Int),.int .i64 (ch:Int)] 262 (0,0)
def F_ (mo li:Int) (g:Nat) (br:Bool):Obj:=.cells #[.int .i64 mo,.int .i64 li,.pointer (some ⟨g,0,none⟩),.bool br] 168 (0,0)
structure dh (W w:World) (p d g N:Nat) (F0 F:Nat→Prop) (mo li:Int) (S:eZ) (AL:Option Addr) (cl:Nat) (fv:Value):Prop where
 tab:TabIs w g F N S.T
 dec:w.heap[d]?=some (F_ mo li g false)
 vE:w.heap[p]?=some (iY d AL S.left.length cl fv S.cost S.changes)
 left:Rd w w.heap.size 1 AL S.left.length (ak S.left)
 nS:S.left.length≤cl∧cl≤maxLen
 lF : 0<S.left.length→∀a,AL=some a→¬F a.block∧a.block≠d∧a.block<W.heap.size
 nK:w.ownsRow W.heap.size 26 3 fv S.fields.length (fds S.fields)
 fF:∀k,fv.ownBlock=some k→¬F k∧k≠p
 oz:kX W F0 F
 kept:Kept (fun k=>k=d∨F0 k) W w
 dl:d<W.heap.size
 dF:¬F d
 pl:W.heap.size≤p
 pF:¬F p
section
variable {W w w':World} {p d g N N' cl cl':Nat} {F0 F F':Nat→Prop} {mo li:Int} {S:eZ} {AL AL':Option Addr} {fv kI:Value}
theorem dh.pw (h:dh W w p d g N F0 F mo li S AL cl fv):p<w.heap.size:=(Array.getElem?_eq_some_iff.1 h.vE).1
theorem dh.dw (h:dh W w p d g N F0 F mo li S AL cl fv):d<w.heap.size:=(Array.getElem?_eq_some_iff.1 h.dec).1
theorem dh.cells (h:dh W w p d g N F0 F mo li S AL cl fv):w.cell? ⟨p,0,none⟩=some (.pointer (some ⟨d,0,none⟩))∧w.cell? ⟨p,1,none⟩=some (.slice AL S.left.length cl)∧w.cell? ⟨p,2,none⟩=some fv∧w.cell? ⟨p,3,none⟩=some (.int .i64 (S.cost:Int))∧w.cell? ⟨p,4,none⟩=some (.int .i64 (S.changes:Int)):=by
 refine⟨?_,?_,?_,?_,?_⟩ <;> (unfold World.cell?;rw[h.vE];rfl)
theorem dh.Ju (h:dh W w p d g N F0 F mo li S AL cl fv):w.cell? ⟨d,0,none⟩=some (.int .i64 mo)∧w.cell? ⟨d,1,none⟩=some (.int .i64 li)∧w.cell? ⟨d,2,none⟩=some (.pointer (some ⟨g,0,none⟩))∧w.cell? ⟨d,3,none⟩=some (.bool false):=by
 refine⟨?_,?_,?_,?_⟩ <;> (unfold World.cell?;rw[h.dec];rfl)
theorem dh.free (h:dh W w p d g N F0 F mo li S AL cl fv) (o:Nat):w.frozen? ⟨p,o,none⟩=false:=by unfold World.frozen?;rw[h.vE];simp[iY]
theorem dh.more (h:dh W w p d g N F0 F mo li S AL cl fv) (hn:N≤N') (hN:N'≤1099511627776):dh W w p d g N' F0 F mo li S AL cl fv:=
 {h with tab:=h.tab.more hn hN }
theorem d_ {w w':World}{v:Value}{base n:Nat}{e:TypeId}{size:Nat}{xs:List Value}{F:Nat→Prop}(h:w.ownsRow base e size v n xs) (hk:Kept F w w') (hF:∀q,v.ownBlock=some q→¬F q):w'.ownsRow base e size v n xs:=by
 rcases h with ⟨hl,⟨rfl,h0⟩ | ⟨g,cap,cur,hv,hg,hb,h3⟩⟩
 ·exact⟨hl,.inl ⟨rfl,h0⟩⟩
 ·exact⟨hl,.inr ⟨g,cap,cur,hv,hg,(hk.block g (Array.getElem?_eq_some_iff.1 hb).1 (hF g (by rw[hv];rfl))).trans hb,h3⟩⟩
theorem dh.VQ (h:dh W w p d g N F0 F mo li S AL cl fv){T':Tb}(ht:TabIs w' g F' N' T') (hk:Kept F w w') (hg:kX w F F'):dh W w' p d g N' F0 F' mo li { S with T:=T' } AL cl fv:=
 {tab:=ht
  dec:=(hk.block d h.dw h.dF).trans h.dec
  vE:=(hk.block p h.pw h.pF).trans h.vE
  left:=h.left.kept hk (fun h0 a ha=>(h.lF h0 a ha).1)
  nS:=h.nS
  lF:=fun h0 a ha=>⟨fun hf=>(hg _ hf).elim (h.lF h0 a ha).1 (fun h2=>by have:=(h.lF h0 a ha).2.2;have:=h.kept.size;omega),(h.lF h0 a ha).2⟩
  nK:=d_ h.nK hk (fun q hq=>(h.fF q hq).1)
  fF:=fun k hk'=>⟨fun hf=>(hg k hf).elim (h.fF k hk').1 (fun h2=>by have:=(h.nK.lt k hk').2;omega),(h.fF k hk').2⟩
  oz:=h.oz.trans hg h.kept.size
  kept:=h.kept.trans (hk.mono (G:=fun k=>k=d∨F k) (fun k hk=>.inr hk)) (fun k hk=>hk.elim (fun e=>.inl (.inl e)) (fun hf=>(h.oz k hf).elim (fun a=>.inl (.inr a)) .inr))
  dl:=h.dl
  dF:=fun hf=>(hg _ hf).elim h.dF (fun h2=>by have:=h.dw;omega)
  pl:=h.pl
  pF:=fun hf=>(hg _ hf).elim h.pF (fun h2=>by have:=h.pw;omega) }
theorem dh.below (h:dh W w p d g N F0 F mo li S AL cl fv) (hb:Below w.heap.size w w'):dh W w' p d g N F0 F mo li S AL cl fv:=
 h.VQ (T':=S.T) (h.tab.keep fun k hk=>hb.block k (h.tab.lt k hk)) (Kept.jk hb) (kX.refl _ _)
theorem dh.turn (h:dh W w p d g N F0 F mo li S AL cl fv){S':eZ}(hT:S'.T=S.T) (hk:Kept (fun k=>k=p) w w') (hr:w'.heap[p]?=some (iY d AL' S'.left.length cl' fv S'.cost S'.changes)) (hf:S'.fields=S.fields)
 (hl:Rd w' w'.heap.size 1 AL' S'.left.length (ak S'.left)) (hc:S'.left.length≤cl'∧cl'≤maxLen) (hA : 0<S'.left.length→∀a,AL'=some a→∃b,AL=some b∧a.block=b.block∧0<S.left.length):dh W w' p d g N F0 F mo li S' AL' cl' fv:=
 {tab:=by rw[hT];exact h.tab.keep fun k hk'=>hk.block k (h.tab.lt k hk') (fun e=>h.pF (e ▸ hk'))
  dec:=(hk.block d h.dw (fun e=>by have:=h.dl;have:=h.pl;omega)).trans h.dec
  vE:=hr
  left:=hl
  nS:=hc
  lF:=fun h0 a ha=>by
   obtain⟨b,hb,e,h1⟩:=hA h0 a ha
   rw[e]
   exact h.lF h1 b hb
  nK:=by rw[hf];exact d_ h.nK hk (fun q hq e=>(h.fF q hq).2 e)
  fF:=h.fF
  oz:=h.oz
  kept:=⟨hk.os.trans h.kept.os,hk.tape.trans h.kept.tape,hk.output.trans h.kept.output,gM h.kept.size hk.size,fun k iO hn=>(hk.block k (fI iO h.kept.size) (fun e=>by have:=h.pl;omega)).trans (h.kept.block k iO hn)⟩
  dl:=h.dl
  dF:=h.dF
  pl:=h.pl
  pF:=h.pF }
theorem zB {w:World}{p o:Nat}{cs:Array Value}{t:TypeId}(v:Value) (h:w.heap[p]?=some (.cells cs t (0,0))):(w.setCell ⟨p,o,none⟩ v).heap[p]?=some (.cells (cs.setIfInBounds o v) t (0,0)):=by
 simp only[World.setCell,Array.getElem?_modify,if_true]
 rw[h];rfl
theorem add_block (b:Addr) (k:Nat):(b.add k).block=b.block:=by
 unfold Addr.add
 split <;> rfl
theorem dh.advance (h:dh W w p d g N F0 F mo li S AL cl fv){k:Nat}(iO : 1≤k) (hk:k≤S.left.length){A':Option Addr}(hA':A'=if cl=k then AL else AL.map (·.add k)) :
 dh W (w.setCell ⟨p,1,none⟩ (.slice A' (S.left.length-k) (cl-k))) p d g N F0 F mo li { S with left:=S.left.drop k } A' (cl-k) fv:=by
 have hlen:(S.left.drop k).length=S.left.length-k:=xk
 have jL:=(Kept.refl (fun q=>q=p) w).setCell (g:=p) rfl 1 (.slice A' (S.left.length-k) (cl-k))
 refine h.turn (S':={ S with left:=S.left.drop k }) rfl jL ?_ rfl ?_ ?_ ?_
 ·rw[zB _ h.vE]
  simp only[hlen]
  rfl
 ·have h1:=h.left.piece (lo:=k) (hi:=S.left.length) hk (ah _) h.nS.1
  rw[Nat.mul_one,←hA'] at h1
  have e:((ak S.left).drop k).take ((S.left.length-k)*1)=ak (S.left.drop k):=by
   unfold ak
   rw[←List.map_drop,cB (by simp)]
  rw[e] at h1
  simp only[hlen]
  refine h1.kept jL (fun h0 a ha e=>?_)
  have hl:=h.pl
  by_cases hc:cl=k
  ·rw[ax hc] at hA'
   have:=h.nS.1
   omega
  ·rw[aj hc] at hA'
   rw[hA'] at ha
   cases AL with
   | none=>cases ha
   | some b=>
    injection ha with ha
    have:=(h.lF (by omega) b rfl).2.2
    rw[←ha] at e
    change (b.add k).block=p at e
    rw[add_block] at e
    omega
 ·simp only[hlen]
  have:=h.nS
  omega
 ·intro h0 a ha
  simp only[hlen] at h0
  have hc:cl≠k:=fun e=>by have:=h.nS.1;omega
  rw[hA',aj hc] at ha
  cases AL with
  | none=>cases ha
  | some b=>
   injection ha with ha
   exact⟨b,rfl,by rw[←ha];exact add_block b k,by omega⟩
end
structure Mv (w w':World) (p:Nat) (F F':Nat→Prop) (fv kI:Value):Prop where
 kept:Kept (fun k=>k=p∨F k∨fv.ownBlock=some k) w w'
 oz:kX w F F'
 own:∀k,kI.ownBlock=some k→fv.ownBlock=some k∨w.heap.size≤k
theorem Mv.refl (w:World) (p:Nat) (F:Nat→Prop) (fv:Value):Mv w w p F F fv fv:=⟨Kept.refl _ _,kX.refl _ _,fun _ h=>.inl h⟩
theorem Mv.trans {w w1 w2:World}{p:Nat}{F F1 F2:Nat→Prop}{fv Ay fv2:Value}(h:Mv w w1 p F F1 fv Ay) (h2:Mv w1 w2 p F1 F2 Ay fv2):Mv w w2 p F F2 fv fv2:=
 ⟨h.kept.trans h2.kept (fun k hk=>by
  rcases hk with e | hf | e
  ·exact .inl (.inl e)
  ·exact (h.oz k hf).imp (fun h=>.inr (.inl h)) id
  ·exact (h.own k e).imp (fun h=>.inr (.inr h)) id),h.oz.trans h2.oz h.kept.size,fun k hk=>(h2.own k hk).elim (fun e=>h.own k e) (fun e=>.inr (gM h.kept.size e))⟩
theorem Mv.below {w w1 w2:World}{p:Nat}{F F1:Nat→Prop}{fv Ay:Value}(h:Mv w w1 p F F1 fv Ay) (hb:Below w1.heap.size w1 w2):Mv w w2 p F F1 fv Ay:=
 h.trans ⟨Kept.jk hb,kX.refl _ _,fun _ h=>.inl h⟩
theorem Mv.same (w:World){p:Nat}{F:Nat→Prop}{fv:Value}{w':World}(hk:Kept (fun k=>k=p) w w'):Mv w w' p F F fv fv:=⟨hk.mono fun _ h=>.inl h,kX.refl _ _,fun _ h=>.inl h⟩
theorem Mv.set (w:World) (p:Nat) (F:Nat→Prop) (fv:Value) (o:Nat) (v:Value):Mv w (w.setCell ⟨p,o,none⟩ v) p F F fv fv:=Mv.same w ((Kept.refl (fun k=>k=p) w).setCell rfl o v)
structure By (w:World) (p:Nat) (F:Nat→Prop) (fv:Value) (b:Nat) (o:Option Obj):Prop where
 lt:b<w.heap.size
 np:b≠p
 nF:¬F b
 nv:fv.ownBlock≠some b
 at_:w.heap[b]?=o
theorem By.mv {w w':World}{p b:Nat}{F F':Nat→Prop}{fv kI:Value}{o:Option Obj}(h:By w p F fv b o) (hm:Mv w w' p F F' fv kI):By w' p F' kI b o:=
 ⟨fI h.lt hm.kept.size,h.np,fun hf=>(hm.oz b hf).elim h.nF (fun hl=>by have:=h.lt;omega),fun hf=>(hm.own b hf).elim h.nv (fun hl=>by have:=h.lt;omega),
  (hm.kept.block b h.lt (fun e=>e.elim h.np (fun e=>e.elim h.nF h.nv))).trans h.at_⟩
theorem By.new {W w:World}{p d g N cl:Nat}{F0 F:Nat→Prop}{mo li:Int}{S:eZ}{AL:Option Addr}{fv:Value}(h:dh W w p d g N F0 F mo li S AL cl fv) (o:Obj):By (w.alloc o) p F fv w.heap.size (some o):=
 ⟨by simp,by have:=h.pw;omega,fun hf=>by have:=h.tab.lt _ hf;omega,fun hf=>by have:=(h.nK.lt _ hf).2;omega,aZ _ _⟩
def abQ (W w:World) (p d g N:Nat) (F0 F:Nat→Prop) (mo li:Int) (S:eZ) (fv:Value) (r:Nat×Nat×Nat) (e:Ending) (w':World):Prop:=
 Mv w w' p F F fv fv∧((r.2.2≠0∧e=p8 r.2.2∧∃AL cl,dh W w' p d g N F0 F mo li S AL cl fv)∨(r.2.2=0∧e = .returned (.int .i64 (r.1:Int))∧∃AL cl,dh W w' p d g N F0 F mo li { S with left:=S.left.drop r.2.1 } AL cl fv))
theorem S9 {W w:World}{p d g N cl bits Fm:Nat}{F0 F:Nat→Prop}{mo li:Int}{S:eZ}{AL:Option Addr}{fv:Value}(hF:Full bits Fm) (h:dh W w p d g N F0 F mo li S AL cl fv) :
 Calls Tryz.prog 203 #[.pointer (some ⟨p,0,none⟩),.int .i64 bits] w (abQ W w p d g N F0 F mo li S fv (bB Fm S.left)):=by
 have ht:=aa5 (w:=w) hF h.left h.nS.1 h.nS.2
 have hbd:=EM hF.le.2 S.left
 obtain⟨⟨m,a,z⟩,hv⟩:∃r,bB Fm S.left=r:=⟨_,rfl⟩
 rw[hv] at ht hbd ⊢
 simp only[EO] at ht hbd
 have HT:=af ht
 have HH:=af h
 obtain⟨-,c1,-,-,-⟩:=h.cells
 have f1:=h.free 1
 have hcap:=h.nS
 obtain⟨n,hn⟩:∃n,S.left.length=n:=⟨_,rfl⟩
 have HN:=af hn
 rw[hn] at ht HT c1 hbd hcap
 obtain⟨hc1,hc2⟩:=hcap
 unfold maxLen at hc2
 clear ht hv h hn
 by_cases hz:z=0
 ·subst hz
  obtain⟨Az,ha1,yR,-⟩:=hbd rfl
  obtain⟨b,o,rfl⟩:∃b o,AL=some ⟨b,o,none⟩:=by
   obtain⟨b,o,e,-⟩:=HH.out.left.2 (by rw[HN.out];omega)
   exact⟨b,o,e⟩
  clear hbd
  by_cases hca:cl=a
  ·obtain rfl:cl=n:=by omega
   obtain rfl:a=cl:=by omega
   have HE:=af (HH.out.advance (k:=a) ha1 (by rw[HN.out];exact yR) (A':=some ⟨b,o,none⟩) (by rw[ax rfl]))
   go_enter Tryz.func203,Tryz.ntmps203
   go_wp2_with fail
   refine HT.out.mono ?_
   rintro e w1 ⟨rfl,rfl⟩
   go_wp2
   go_ret
   refine⟨Mv.set _ _ _ _ _ _,.inr ⟨rfl,rfl,some ⟨b,o,none⟩,a-a,?_⟩⟩
   have:=HE.out
   rw[HN.out,zV] at this
   simpa using this
  ·have HE:=af (HH.out.advance (k:=a) ha1 (by rw[HN.out];exact yR) (A':=some ⟨b,o+a,none⟩) (by rw[aj hca];simp[Addr.add_lit]))
   have jA:a<cl:=by omega
   go_enter Tryz.func203,Tryz.ntmps203
   go_wp2_with fail
   refine HT.out.mono ?_
   rintro e w1 ⟨rfl,rfl⟩
   go_wp2
   go_ret
   refine⟨Mv.set _ _ _ _ _ _,.inr ⟨rfl,rfl,some ⟨b,o+a,none⟩,cl-a,?_⟩⟩
   have:=HE.out
   rw[HN.out] at this
   exact this
 ·have hzn:((z:Int)==0)=false:=by rw[fO];omega
  have hzn2:((z:Int) != 0)=true:=by simpa using (show ¬z=0 by omega)
  have HZ:=af hz
  clear hbd hz
  go_enter Tryz.func203,Tryz.ntmps203
  go_wp2_with fail
  refine HT.out.mono ?_
  rintro e w1 ⟨rfl,rfl⟩
  go_wp2
  exact⟨rfl,Mv.refl _ _ _ _,.inl ⟨HZ.out,rfl,_,_,HH.out⟩⟩
def ab7 (W w:World) (p d g N:Nat) (F0 F:Nat→Prop) (mo li:Int) (S:eZ) (fv:Value) (r:Except Nat (ByteArray×List UInt8)) (e:Ending) (w':World):Prop:=
 Mv w w' p F F fv fv∧match r with
 | .error z=>e=p8 z∧∃AL cl,dh W w' p d g N F0 F mo li S AL cl fv
 | .ok (s,l)=>e = .returned (.string s)∧∃AL cl,dh W w' p d g N F0 F mo li { S with left:=l } AL cl fv
theorem VZ {W w:World}{p d g N cl:Nat}{F0 F:Nat→Prop}{mo li:Int}{S:eZ}{AL:Option Addr}{fv:Value}(h:dh W w p d g N F0 F mo li S AL cl fv) (hl:S.left.length≤1048576) :
 Calls Tryz.prog 218 #[.pointer (some ⟨p,0,none⟩)] w (ab7 W w p d g N F0 F mo li S fv (wV S.left)):=by
 have ht:=ai2 (w:=w) h.left h.nS.1 h.nS.2 hl
 have hbd:=(aa2 S.left).1
 unfold wV
 obtain⟨⟨t,a,z⟩,hv⟩:∃r,lQ S.left=r:=⟨_,rfl⟩
 rw[hv] at ht hbd ⊢
 simp only[triT] at ht hbd ⊢
 have HT:=af ht
 have HH:=af h
 have HB:Hid (∀w',Below w.heap.size w w'→dh W w' p d g N F0 F mo li S AL cl fv):=af fun w' hb=>h.below hb
 obtain⟨-,c1,-,-,-⟩:=h.cells
 have hcap:=h.nS
 have hpw:=h.pw
 obtain⟨n,hn⟩:∃n,S.left.length=n:=⟨_,rfl⟩
 have HN:=af hn
 rw[hn] at ht HT c1 hbd hcap hl
 obtain⟨hc1,hc2⟩:=hcap
 unfold maxLen at hc2
 clear ht hv h hn
 by_cases hz:z=0
 ·subst hz
  obtain⟨Az,ha1,yR⟩:=hbd rfl
  rw[aj (by simp)]
  obtain⟨b,o,rfl⟩:∃b o,AL=some ⟨b,o,none⟩:=by
   obtain⟨b,o,e,-⟩:=HH.out.left.2 (by rw[HN.out];omega)
   exact⟨b,o,e⟩
  clear hbd
  by_cases hca:cl=a
  ·obtain rfl:cl=n:=by omega
   obtain rfl:a=cl:=by omega
   go_enter Tryz.func218,Tryz.ntmps218
   go_wp2_with fail
   refine HT.out.mono ?_
   rintro e w1 ⟨rfl,hb1⟩
   have H1:=af (HB.out w1 hb1)
   have HM:=af ((Mv.refl w p F fv).below hb1)
   obtain⟨-,d1,-,-,-⟩:=H1.out.cells
   rw[HN.out] at d1
   have f1:=H1.out.free 1
   clear hb1
   go_wp2
   go_ret
   refine⟨HM.out.trans (Mv.set _ _ _ _ _ _),rfl,some ⟨b,o,none⟩,a-a,?_⟩
   have:=H1.out.advance (k:=a) ha1 (by rw[HN.out];exact yR) (A':=some ⟨b,o,none⟩) (by rw[ax rfl])
   rw[HN.out,zV] at this
   simpa using this
  ·have jA:a<cl:=by omega
   go_enter Tryz.func218,Tryz.ntmps218
   go_wp2_with fail
   refine HT.out.mono ?_
   rintro e w1 ⟨rfl,hb1⟩
   have H1:=af (HB.out w1 hb1)
   have HM:=af ((Mv.refl w p F fv).below hb1)
   obtain⟨-,d1,-,-,-⟩:=H1.out.cells
   rw[HN.out] at d1
   have f1:=H1.out.free 1
   clear hb1
   go_wp2
   go_ret
   refine⟨HM.out.trans (Mv.set _ _ _ _ _ _),rfl,some ⟨b,o+a,none⟩,cl-a,?_⟩
   have:=H1.out.advance (k:=a) ha1 (by rw[HN.out];exact yR) (A':=some ⟨b,o+a,none⟩) (by rw[aj hca];simp[Addr.add_lit])
   rw[HN.out] at this
   exact this
 ·have hzn:((z:Int)==0)=false:=by rw[fO];omega
  have hzn2:((z:Int) != 0)=true:=by simpa using (show ¬z=0 by omega)
  rw[ax hz]
  clear hbd hz
  go_enter Tryz.func218,Tryz.ntmps218
  go_wp2_with fail
  refine HT.out.mono ?_
  rintro e w1 ⟨rfl,hb1⟩
  have H1:=af (HB.out w1 hb1)
  have HM:=af ((Mv.refl w p F fv).below hb1)
  clear hb1
  go_wp2
  exact⟨rfl,HM.out,rfl,_,_,H1.out⟩
def ab3 (W w:World) (p d g N:Nat) (F0 F:Nat→Prop) (mo li:Int) (S:eZ) (AL:Option Addr) (cl:Nat) (fv:Value) (r:Option Rw) (e:Ending) (w':World):Prop:=
 Below w.heap.size w w'∧dh W w' p d g N F0 F mo li S AL cl fv∧e=match r with
 | none=>p8 40
 | some r=>.returned (nJ r false)
theorem aaq {W w:World}{p d g N cl:Nat}{F0 F:Nat→Prop}{mo li:Int}{S:eZ}{AL:Option Addr}{fv:Value}(n:Int) (h:dh W w p d g N F0 F mo li S AL cl fv) (hnb:n≤9223372036854775807) :
 Calls Tryz.prog 202 #[.pointer (some ⟨p,0,none⟩),.int .i64 n] w (ab3 W w p d g N F0 F mo li S AL cl fv (mQ S.T.rows n)):=by
 obtain⟨W0,hW0⟩:∃W0,w.alloc (.cells #[.string cK,.string cK,.bool false] 26)=W0:=⟨_,rfl⟩
 obtain⟨q,hq⟩:∃q,w.heap.size=q:=⟨_,rfl⟩
 have b0:Below w.heap.size w W0:=by rw[←hW0];exact (Below.refl _ _).alloc (ah _) _
 have h0:=h.below b0
 have k0:W0.heap[q]?=some (.cells #[.string cK,.string cK,.bool false] 26 (0,0)):=by rw[←hW0,←hq];exact aZ _ _
 have hql:q<W0.heap.size:=by rw[←hW0,←hq];simp
 obtain⟨c0,-,-,-,-⟩:=h0.cells
 obtain⟨-,-,d2,-⟩:=h0.Ju
 have HA:=af (acB n W0 h0.tab hnb)
 have dY:=af hW0
 have HQ:=af hq
 have HH:=af h
 have dW:=af b0
 have HK:=af k0
 clear hW0 hq b0 h0 k0 h
 go_enter Tryz.func202,Tryz.ntmps202
 go_upto_region 1 with fail
 rw[show (w.alloc (.cells #[.string ⟨#[]⟩,.string ⟨#[]⟩,.bool false] 26))=W0 from dY.out,HQ.out]
 go_wp2_with fail
 refine HA.out.mono ?_
 rintro e w1 ⟨rfl,hb1⟩
 have H1:=af (HH.out.below (dW.out.trans (hb1.mono dW.out.size)))
 have k1:w1.heap[q]?=some (.cells #[.string cK,.string cK,.bool false] 26 (0,0)):=(hb1.block q hql).trans HK.out
 have pO:=af (dW.out.trans (hb1.mono dW.out.size))
 have xO:w.heap.size=q:=HQ.out
 have HQE:Hid (w.heap.size≤q):=af (Nat.le_of_eq xO)
 have fK:q<w1.heap.size:=fI hql hb1.size
 have g0:w1.cell? ⟨q,0,none⟩=some (.string cK):=by unfold World.cell?;rw[k1];rfl
 have g1:w1.cell? ⟨q,1,none⟩=some (.string cK):=by unfold World.cell?;rw[k1];rfl
 have g2:w1.cell? ⟨q,2,none⟩=some (.bool false):=by unfold World.cell?;rw[k1];rfl
 have fz:∀o,w1.frozen? ⟨q,o,none⟩=false:=fun o=>by unfold World.frozen?;rw[k1];simp
 cases hat:mQ S.T.rows n with
 | none=>
  have HAT:=af hat
  clear hb1 hat xO k1
  simp only[tJ,nJ]
  go_wp2
  have hle:=pO.out.size
  refine⟨rfl,pO.out.alloc (by omega) _,H1.out.below ((Below.refl _ _).alloc (ah _) _),?_⟩
  rw[HAT.out];rfl
 | some r=>
  have HAT:=af hat
  clear hb1 xO k1 hat
  simp only[tJ,nJ]
  go_wp2
  refine bodyPost_ret (v:=nJ r false) (by simp[results,Tryz.results202,go_sem,nJ,g0,g1,g2,fK]) rfl ?_
  have hle:=HQE.out
  have rZ:=(((pO.out.setCell (p:=⟨q,0,none⟩) (by simp only;omega) (.string r.1)).setCell (p:=⟨q,1,none⟩) (by simp only;omega) (.string r.2)).setCell (p:=⟨q,2,none⟩) (by simp only;omega) (.bool false)).alloc (by have:=pO.out.size;simp[World.setCell];omega) (.cells #[.string r.1,.string r.2,.bool false] 26)
  exact⟨rZ,HH.out.below rZ,by rw[HAT.out]⟩
end
end Go.Proofs.YtpkmciohehaboaaGreatDoor
