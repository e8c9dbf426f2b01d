/- Part 20 of the proof. -/
import Derived.Test.YtpkmciohehaboaaGreatDoorK0
import Derived.Test.YtpkmciohehaboaaGreatDoorK19
set_option maxRecDepth 100000
set_option maxHeartbeats 100000000
set_option linter.unusedVariables false
set_option linter.unusedSimpArgs false
set_option linter.unusedSectionVars false
set_option linter.unnecessarySimpa false
namespace Go.Proofs.YtpkmciohehaboaaGreatDoor
section
open Go.RowKit Go.Maps
theorem LK {w:World}{a:Addr}{v:Value}(h:w.cell? a=some v):a.block<w.heap.size:=by
 rcases vW a.block w.heap.size with h1 | h1
 ·exact h1
 ·unfold World.cell? at h
  rw[Array.getElem?_eq_none h1] at h
  cases h
def rD (m sc a pt:ByteArray) (v:Value):Array Value:=#[.string m,.string sc,.string a,.string pt,v]
theorem C_ {w:World}{x:Nat}{m sc a pt:ByteArray}{v:Value}(h:(bg x (rD m sc a pt v) 60).P w):w.cell? ⟨x,0,none⟩=some (.string m)∧w.cell? ⟨x,1,none⟩=some (.string sc)∧w.cell? ⟨x,2,none⟩=some (.string a)∧w.cell? ⟨x,3,none⟩=some (.string pt)∧w.cell? ⟨x,4,none⟩=some v:=by
 have h1:w.heap[x]?=some (.cells (rD m sc a pt v) 60 (0,0)):=h
 refine⟨?_,?_,?_,?_,?_⟩ <;> (unfold World.cell?;rw[h1];rfl)
theorem LW {w:World}{x:Nat}{nm vl:ByteArray}{nv:Bool}(h:(bg x #[.string nm,.string vl,.bool nv] 26).P w):w.cell? ⟨x,0,none⟩=some (.string nm)∧w.cell? ⟨x,1,none⟩=some (.string vl)∧w.cell? ⟨x,2,none⟩=some (.bool nv):=by
 have h1:w.heap[x]?=some (.cells #[.string nm,.string vl,.bool nv] 26 (0,0)):=h
 refine⟨?_,?_,?_⟩ <;> (unfold World.cell?;rw[h1];rfl)
theorem LH {w:World}{x:Nat}{cs:Array Value}{t:TypeId}(h:(bg x cs t).P w) (o:Nat):w.frozen? ⟨x,o,none⟩=false:=by
 have h1:w.heap[x]?=some (.cells cs t (0,0)):=h
 unfold World.frozen?
 rw[h1]
 rfl
def x_ (l:List Fd) (k:Nat):List Fd×Bool:=(l.take k).foldl (lN (qf (aF l bK))) ([],false)
theorem aaK {l:List Fd}{k:Nat}{f:Fd}(h:l[k]?=some f):x_ l (k+1)=lN (qf (aF l bK)) (x_ l k) f:=by
 unfold x_
 rw[iw,h,iL,og]
 rfl
theorem aiC (l:List Fd) (k:Nat):(x_ l k).1.length≤k:=by
 induction k with
 | zero=>exact aL _
 | succ k ih=>
  cases h:l[k]? with
  | none=>
   have e:x_ l (k+1)=x_ l k:=by unfold x_;rw[iw,h];simp
   rw[e];omega
  | some f=>
   rw[aaK h]
   unfold lN
   split
   ·omega
   ·split <;> (simp only[aN,fe,List.length_nil];omega)
theorem Y5:∀(vs:List ByteArray) (a:ByteArray),(vs.foldl cj a).size≤a.size+(vs.map fun v=>v.size+2).sum
 | [],a=>by simp
 | v :: vs,a=>by
  have h1:=Y5 vs (cj a v)
  have h2:=XI a v
  rw[nD,lV,List.sum_cons]
  omega
theorem ajr (l:List Fd) (j:ByteArray):((aF l j).map fun v=>v.size+2).sum≤jm l:=by
 have h1:((aF l j).map fun v=>v.size+2).sum=jm (l.filter fun f=>decide (f.1.1=j)):=by unfold aF jm;rw[List.map_map];rfl
 rw[h1]
 exact Nf _ l
theorem ai8 (vs:List ByteArray) (j:Nat):((vs.take j).map fun v=>v.size+2).sum≤(vs.map fun v=>v.size+2).sum:=by
 have h:vs=vs.take j++vs.drop j:=(vV j vs).symm
 conv=>rhs;rw[h,j6,List.sum_append]
 omega
def FW (q g n:Nat) (w:World) (l:List Fd) (m sc a pt:ByteArray) (ck:Value) (iv mv:Value) (wr:World):Prop:=∃(k:Nat) (v:Value),iv = .int .i64 k∧mv = .bool (x_ l k).2∧k≤n ∧
 All q wr [bg g (rD m sc a pt v) 60,lM v (x_ l k).1,sI ck (aF l bK),bg q eX 60]∧Below q w wr
def Ho (q g n fb:Nat) (w:World) (l st:List Fd) (m sc a pt:ByteArray) (v ck:Value) (nm:ByteArray) (nv:Bool) (jv:Value) (wr:World):Prop:=∃j:Nat,jv = .int .i64 j∧j≤n ∧
 All q wr [bg fb #[.string nm,.string (qf ((aF l bK).take j)),.bool nv] 26,bg g (rD m sc a pt v) 60,lM v st,sI ck (aF l bK),bg q eX 60]∧Below q w wr
theorem step_skip {V:ByteArray}{st:List Fd}{mt:Bool}{nm vl:ByteArray}{nv:Bool}(h:(gy nm || decide (nm=aG) || (decide (nm=bK) && mt))=true):lN V (st,mt) ((nm,vl),nv)=(st,mt):=by
 unfold lN
 rw[ax h]
theorem aaN {V:ByteArray}{st:List Fd}{nm vl:ByteArray}{nv:Bool}(h1:gy nm=false) (h2:nm≠aG) (h3:nm=bK):lN V (st,false) ((nm,vl),nv)=(st++[((nm,V),nv)],true):=by
 unfold lN
 dsimp only
 rw[h1,bU h2,De]
 rw[aj (by decide),ax h3]
theorem aaO {V:ByteArray}{st:List Fd}{mt:Bool}{nm vl:ByteArray}{nv:Bool}(h1:gy nm=false) (h2:nm≠aG) (h3:nm≠bK):lN V (st,mt) ((nm,vl),nv)=(st++[((nm,vl),nv)],mt):=by
 unfold lN
 dsimp only
 rw[h1,bU h2,bU h3,Bool.false_and]
 rw[aj (by decide),aj h3]
theorem ae0 {vs:List ByteArray}{j:Nat}{t:ByteArray}(h:vs[j]?=some t):qf (vs.take (j+1))=cj (qf (vs.take j)) t:=by
 unfold qf
 rw[iw,h,iL,og]
 rfl
def FV (w:World) (R:Rq×Nat) (e:Ending) (w':World):Prop:=∃v er,e = .returned (.tuple #[.agg #[.string R.1.aW,.string R.1.iH,.string R.1.ek,.string R.1.path,v],.int .i64 er])∧(er=(0:Int)↔R.2=0)∧bQ w R.1.fields v w'
theorem IU {tmps:Array Value}{w:World}{g:Nat}{cs:Array Value}(hp:tmps.getD 2 undef = .pointer (some ⟨g,0,none⟩)) (hg:w.heap[g]?=some (.cells cs 60 (0,0))) (hs:cs.size=5) :
 (results Tryz.f21 tmps).run Tryz.prog w = .ok (.tuple #[.agg cs,tmps.getD 3 undef]) w:=by
 have h1:=run_loadVar_row (P:=Tryz.prog) w g 60 60 cs (0,0) _ hg Tryz.underlying60 rfl (by rw[mJ,hs])
 have hp':tmps[2]?.getD undef = .pointer (some ⟨g,0,none⟩):=by simpa using hp
 simp[results,Tryz.results21,hp',asAddr,h1]
theorem ajp (l:List Fd){j:ByteArray}(hj:gy j=false):aF (l.filter fun g=>!gy g.1.1) j=aF l j:=by
 unfold aF
 rw[List.filter_filter]
 congr 1
 refine List.filter_congr fun f _=>?_
 by_cases h:f.1.1=j
 ·simp[h,hj]
 ·simp[h]
theorem afP {x y:ByteArray}:aJ (aO x.data.toList)=aJ (aO y.data.toList)↔aO x.data.toList=aO y.data.toList:=by
 constructor
 ·intro h
  have:=congrArg (fun s:ByteArray=>s.data.toList) h
  simpa [l9] using this
 ·intro h;rw[h]
theorem agU {a:Option ByteArray}{hs:List ByteArray}(h1:hs.length≤1) :
 (a.toList++hs=[]∧(iX a hs).2≠0)∨∃x y,(a.toList++hs)[0]?=some x∧(a.toList++hs)[(a.toList++hs).length-1]?=some y ∧
  decide ((iX a hs).2≠0) = !(jW x && jW y && decide (aJ (aO x.data.toList)=aJ (aO y.data.toList)))∧((iX a hs).2=0→(iX a hs).1=aJ (aO x.data.toList)):=by
 have hn:¬1<hs.length:=by omega
 match a,hs,h1 with
 | none,[],_=>left;exact⟨rfl,by decide⟩
 | none,[h],_=>
  right
  refine⟨h,h,rfl,rfl,?_,?_⟩
  ·unfold iX vZ oF
   cases ha:jW h <;> simp[ha,dL]
  ·unfold iX vZ oF
   cases ha:jW h <;> simp[ha,dL]
 | some a,[],_=>
  right
  refine⟨a,a,rfl,rfl,?_,?_⟩
  ·unfold iX vZ oF
   cases ha:jW a <;> simp[ha,dL]
  ·unfold iX vZ oF
   cases ha:jW a <;> simp[ha,dL]
 | some a,[h],_=>
  right
  refine⟨a,h,rfl,rfl,?_,?_⟩
  ·unfold iX vZ oF
   rw[show decide (aJ (aO a.data.toList)=aJ (aO h.data.toList))=decide (aO a.data.toList=aO h.data.toList) from decide_eq_decide.2 afP]
   cases ha:jW h <;> cases hb:jW a <;> by_cases he:aO a.data.toList=aO h.data.toList <;> simp[ha,hb,dL,he]
  ·unfold iX vZ oF
   cases ha:jW h <;> cases hb:jW a <;> by_cases he:aO a.data.toList=aO h.data.toList <;> simp[ha,hb,dL,he]
theorem aiM {w:World}{v:Value}{vs:List ByteArray}{n c:Nat}{A:Option Addr}(h:(sI v vs).P w) (hv:v = .slice A n c) (hn:vs.length=n):∀(i:Nat) (s:ByteArray),vs[i]?=some s→∃b o,A=some ⟨b,o,none⟩∧b<w.heap.size∧∀(j:Nat) (t:ByteArray),vs[j]?=some t→w.cell? ⟨b,o+j,none⟩=some (.string t):=by
 intro i s hi
 have h2:w.ownsRow 0 9 1 v vs.length (strs vs):=h
 obtain⟨A',c',hv',-,-,hr,-⟩:=aC h2
 rw[hv] at hv'
 injection hv' with e1 e2 e3
 subst e1
 have hi2:=(List.getElem?_eq_some_iff.1 hi).1
 obtain⟨-,b,o,hA,hb,hc⟩:=BF hr (by omega)
 exact⟨b,o,hA,hb,hc⟩
theorem row_one {w:World}{v:Value}{o:Option ByteArray}{A:Option Addr}{n c:Nat}(h:(sI v o.toList).P w) (hv:v = .slice A n c) (hn:o.toList.length=n) (h0 : 0<n):∃m b k,A=some ⟨b,k,none⟩∧n=1∧o=some m∧w.cell? ⟨b,k,none⟩=some (.string m):=by
 cases o with
 | none=>simp at hn;omega
 | some m=>
  obtain⟨b,k,hA,-,hc⟩:=aiM h hv hn 0 m rfl
  exact⟨m,b,k,hA,hn.symm,rfl,hc 0 m rfl⟩
theorem LG (M S P:Option ByteArray) (h:M.toList.length=0∨S.toList.length=0∨P.toList.length=0):pW (M.getD ⟨#[]⟩) (S.getD ⟨#[]⟩) (P.getD ⟨#[]⟩)=true:=by
 unfold pW
 rcases h with h | h | h
 ·cases M with
  | some m=>cases h
  | none=>
   rw[show iB ((none:Option ByteArray).getD ⟨#[]⟩).data.toList=false from rfl]
   rfl
 ·cases S with
  | some m=>cases h
  | none=>
   have e1:(decide ((none:Option ByteArray).getD ⟨#[]⟩≠Kg) && decide ((none:Option ByteArray).getD ⟨#[]⟩≠Kh))=true:=by decide +kernel
   rw[e1,Bool.or_true,Bool.true_or]
 ·cases P with
  | some m=>cases h
  | none=>
   have e1:∀m,wR ((none:Option ByteArray).getD ⟨#[]⟩) m=false:=by
    intro m
    unfold wR
    rw[aj (by decide +kernel)]
    rfl
   rw[e1,Bool.not_false,Bool.or_true]
theorem acI {G:Gt}{m s p:ByteArray}(hm:G.1 kz=some m) (hs:G.1 kV=some s) (hp:G.1 kC=some p):pW (gZ G kz) (gZ G kV) (gZ G kC)=pW m s p:=by
 unfold gZ
 rw[hm,hs,hp]
 rfl
theorem ah2 {A:Option Addr}{n c:Nat}{l:List Fd}(w:World) (hl:Rd w w.heap.size 3 A n (fds l)) (hs:jZ l≤10000) :
 Calls Tryz.prog 21 #[.slice A n c] w (FV w (aS l)):=by
 have bf:l.length=n:=by have:=hl.1;rw[jJ] at this;omega
 have hn:n≤1000:=by have:=M0 l;omega
 have hz:Tx l:=fun f hf=>by have:=BG hf;omega
 obtain⟨⟨G,e1⟩,hG⟩:∃G,bG jb Gt.none l=G:=⟨_,rfl⟩
 obtain⟨q,hq⟩:∃q,w.heap.size=q:=⟨_,rfl⟩
 obtain⟨W0,hW0⟩:∃W0,w.alloc (.cells eX 60)=W0:=⟨_,rfl⟩
 obtain⟨W1,hW1⟩:∃W1,W0.alloc (.cells eX 60)=W1:=⟨_,rfl⟩
 have Cr:=gV (gV (All.nil w) eX 60) eX 60
 have hs0:W0.heap.size=q+1:=by rw[←hW0,←hq];simp
 rw[hW0,hW1,hs0,hq] at Cr
 have hb1:Below q w W1:=by rw[←hW1,←hW0];exact ((Below.refl _ _).alloc (by omega) _).alloc (by simp;omega) _
 have hs1:W1.heap.size=q+2:=by rw[←hW1];simp[hs0]
 have bM:=af Cr
 have bH:=af (And.intro hb1 (And.intro hs1 hs0))
 have HL:=af hl
 have HZ:=af hz
 have HS:=af hs
 have HG:=af hG
 have HQ:=af hq
 have dX:=af bf
 have HW:=af (And.intro hW0 hW1)
 have HV:=af (fun (nm:ByteArray) (w1:World) (h:Below q w w1)=>aau (c:=c) nm w1 ((hl.below h (by omega)).more (by have:=h.size;omega)) (by omega))
 have gz:=af (fun (w1:World) (h:Below q w w1)=>KC (c:=c) w1 ((hl.below h (by omega)).more (by have:=h.size;omega)) (by omega) hz)
 have EX:=af (fun (w1:World) (h:Below q w w1)=>fun (A1:Option Addr) (c1:Nat) (hr:Rd w1 w1.heap.size 1 A1 4 (strs jb))=>ahg (c:=c) (c1:=c1) w1 ((hl.below h (by omega)).more (by have:=h.size;omega)) (by omega) hz hr (by omega))
 rw[hG] at EX
 dsimp only at EX
 obtain⟨R,hR⟩:∃R,aS l=R:=⟨_,rfl⟩
 rw[hR]
 have cz:=af hR
 clear bf hz hG hq hW0 hW1 Cr hs0 hb1 hs1 hl hs hR
 unfold eX at HW
 go_enter Tryz.func21,Tryz.ntmps21
 go_upto_region 1 with fail
 refine bI ?_
 intro W0' hW0'
 obtain rfl:W0'=W0:=hW0'.trans HW.out.1
 clear hW0'
 rw[HQ.out]
 go_upto_region 2 with (first
  | (refine wpList_store_rowTo rfl 60 (.tmp 4) (.tmp 17) rfl rfl W0'.heap.size #[.string ⟨#[]⟩,.string ⟨#[]⟩,.string ⟨#[]⟩,.string ⟨#[]⟩,.slice none 0 0] rfl rfl 60 _ (aZ _ _) mJ rfl (by simp[Value.oneCell']) ?_))
 refine bI ?_
 intro zY yP
 rw[HW.out.2,bH.out.2.2] at yP
 obtain⟨jc,hb1⟩:=bM.out.whole eX
 have jc:All q zY [bg (q+1) eX 60,bg q eX 60]:=by rw[yP];exact jc
 have rZ:Below q w zY:=by rw[yP];exact bH.out.1.trans hb1
 have GJ:zY.heap.size=q+2:=by rw[yP,←bH.out.2.1];simp[World.setRow]
 have bM:=af jc
 have HB1':=af (And.intro rZ (And.intro GJ bH.out.2.2))
 rw[bH.out.2.2]
 clear yP HW jc hb1 rZ GJ bH
 have bH:=HB1'
 -- ask
 go_wp2_with fail
 refine LJ ?_
 intro Wa hWa
 have hba:Below zY.heap.size zY Wa:=by rw[hWa];exact (Below.refl _ _).alloc (ah _) _
 have Ej:Rd Wa Wa.heap.size 1 (some ⟨zY.heap.size,0,none⟩) 4 (strs jb):=by rw[hWa,World.size_alloc];exact ZK zY
 have AU:Below q w Wa:=bH.out.1.trans (hba.mono (by have:=bH.out.2.1;omega))
 refine ((EX.out Wa AU) _ 4 Ej).mono ?_
 rintro e w2 ⟨rfl,hb2⟩
 have bY:=af ((bM.out.below hba).below hb2)
 have aI:=af (AU.trans (hb2.mono (by have:=AU.size;have:=bH.out.2.1;have:=hba.size;omega)))
 clear hWa hba Ej AU hb2 EX
 by_cases h0:e1=0
 ·subst h0
  have ee:(((0:Nat):Int)==0)=true:=rfl
  obtain⟨hg1,hg2⟩:=OM l G HG.out
  have zK:=af (And.intro hg1 hg2)
  have HGS:Hid (∀j s,G.1 j=some s→s.size≤10000):=af (by
   have h:=(L6 (names:=jb) (P:=fun s=>s.size≤10000) (Q:=fun _=>True) l Gt.none (fun f hf=>⟨by have:=BG hf;have:=HS.out;omega,trivial⟩) (fun j v h=>by cases h) (fun f hf=>trivial)).1
   rw[HG.out] at h
   exact h)
  clear hg1 hg2
  go_wp2_with fail
  refine (HV.out kz w2 aI.out).mono ?_
  rintro e w3 ⟨mv,rfl,iA,hb3⟩
  obtain⟨Am,cm,iG,-,-,-,-⟩:=aC iA
  have bJ:=af (bY.out.row hb3 iA)
  have aM:=af (aI.out.trans (hb3.mono bY.out.sz))
  obtain⟨nm,hnm⟩:∃k,(aF l kz).length=k:=⟨_,rfl⟩
  rw[hnm] at iG
  subst iG
  have HNM:=af hnm
  clear iA hb3 hnm
  go_wp2_with fail
  refine (HV.out kV w3 aM.out).mono ?_
  rintro e w4 ⟨sv,rfl,sw,hb4⟩
  obtain⟨As,cs,hsv,-,-,-,-⟩:=aC sw
  have aX:=af (bJ.out.row hb4 sw)
  have dz:=af (aM.out.trans (hb4.mono bJ.out.sz))
  obtain⟨ns,Ed⟩:∃k,(aF l kV).length=k:=⟨_,rfl⟩
  rw[Ed] at hsv
  subst hsv
  have jq:=af Ed
  clear sw hb4 Ed
  go_wp2_with fail
  refine (HV.out kC w4 dz.out).mono ?_
  rintro e w5 ⟨pv,rfl,nR,aT⟩
  obtain⟨Ap,cp,hpv,-,-,-,-⟩:=aC nR
  have bT:=af (aX.out.row aT nR)
  have eG:=af (dz.out.trans (aT.mono aX.out.sz))
  obtain⟨np,hnp⟩:∃k,(aF l kC).length=k:=⟨_,rfl⟩
  rw[hnp] at hpv
  subst hpv
  have HNP:=af hnp
  clear nR aT hnp
  have vm:=zK.out.2 kz (by decide +kernel)
  have vs:=zK.out.2 kV (by decide +kernel)
  have vp:=zK.out.2 kC (by decide +kernel)
  have iU:Hid (0<nm→∃m b k,Am=some ⟨b,k,none⟩∧nm=1∧G.1 kz=some m∧w5.cell? ⟨b,k,none⟩=some (.string m)):=af (fun h0=>row_one (v:=.slice Am nm cm) (by rw[←vm];exact (bT.out.pick [_,_]).head) rfl (by rw[←vm];exact HNM.out) h0)
  have fV:Hid (0<ns→∃m b k,As=some ⟨b,k,none⟩∧ns=1∧G.1 kV=some m∧w5.cell? ⟨b,k,none⟩=some (.string m)):=af (fun h0=>row_one (v:=.slice As ns cs) (by rw[←vs];exact (bT.out.pick [_]).head) rfl (by rw[←vs];exact jq.out) h0)
  have qC:Hid (0<np→∃m b k,Ap=some ⟨b,k,none⟩∧np=1∧G.1 kC=some m∧w5.cell? ⟨b,k,none⟩=some (.string m)):=af (fun h0=>row_one (v:=.slice Ap np cp) (by rw[←vp];exact bT.out.head) rfl (by rw[←vp];exact HNP.out) h0)
  obtain⟨BD,DX⟩:∃BD,pW (gZ G kz) (gZ G kV) (gZ G kC)=BD:=⟨_,rfl⟩
  have rH:=af DX
  have Hw:Hid ((nm=0∨ns=0∨np=0)→Hid (Value.bool true = .bool BD)):=af (fun h=>af (by
   rw[←DX]
   unfold gZ
   rw[LG]
   rw[←vm,←vs,←vp,HNM.out,jq.out,HNP.out]
   exact h))
  have KY:Hid (∀m s p,G.1 kz=some m→G.1 kV=some s→G.1 kC=some p→pW m s p=BD):=af (fun m s p hm hs hp=>by rw[←DX,acI hm hs hp])
  have f_:Hid (∀s,(G.1 kz=some s∨G.1 kC=some s)→s.size≤10000):=af (fun s h=>by rcases h with h | h <;> exact HGS.out _ s h)
  clear vm vs vp DX
  go_upto_region 8 with fail
  go_cut [78] (fun y wx=>y = .bool BD∧wx=w5.drew)
  case first=>
   as_aux_lemma=>
   refine abw (c:=aab) (by kernel_rfl) ?_
   refine ahb Hw KY iU fV qC f_ _ _ _ ?_
   intros
   rename_i h9
   go_wp2_with fail
   go_meet
   exact⟨h9,rfl⟩
  case rest=>
   as_aux_lemma=>
   obtain⟨rfl,hwc⟩:=hcut
   subst hwc
   have kY:=af bT.out.drew
   have gK:=af (eG.out.trans (by exact⟨rfl,rfl,rfl,ah _,fun _ _=>rfl⟩:Below q w5 w5.drew))
   obtain⟨w6,xR⟩:∃w6,w5.drew=w6:=⟨_,rfl⟩
   rw[xR] at kY gK ⊢
   clear xR iU fV qC Hw KY f_
   have Fy:Hid (R=if BD then (jR,100) else
    if (iX (G.1 iM) (aF G.2 aG)).2≠0 then (jR,(iX (G.1 iM) (aF G.2 aG)).2)
    else if dn (bV G.2)=none then (jR,102)
    else (⟨gZ G kz,gZ G kV,(iX (G.1 iM) (aF G.2 aG)).1,gZ G kC,jw (bV G.2)⟩,0)):=af (by
    rw[←cz.out]
    unfold aS
    dsimp only
    rw[HG.out]
    dsimp only
    rw[aj (by simp),rH.out])
   clear cz
   cases BD with
   | true=>
    as_aux_lemma=>
    have lG:=kY.out.aP [3,3,3,3,4]
    have hz2:w6.heap[q]?=some (.cells eX 60 (0,0)):=lG.head
    have lG:=kY.out.aP [4,3,3,3,4]
    obtain⟨y0,y1,y2,y3,y4⟩:=G5 (R:=jR) (v:=.slice none 0 0) lG.head
    have lT:Hid (R.1=jR∧R.2≠0):=af (by rw[Fy.out,ax rfl];exact⟨rfl,by decide⟩)
    clear lG
    go_wp2_with (first
     | (refine wpList_store_rowTo rfl 60 (.tmp 2) (.tmp 79) rfl rfl q #[.string ⟨#[]⟩,.string ⟨#[]⟩,.string ⟨#[]⟩,.string ⟨#[]⟩,.slice none 0 0] (by kernel_rfl) (by kernel_rfl) 60 eX hz2 mJ rfl (by simp[Value.oneCell']) ?_))
    refine bodyPost_ret (IU rfl (setRow_heap _ _ _ _ _ _ hz2) rfl) rfl ?_
    unfold FV
    rw[lT.out.1,←HQ.out]
    refine⟨.slice none 0 0,100,rfl,⟨fun h=>absurd h (by omega),fun h=>absurd h lT.out.2⟩,xW ?_⟩
    rw[HQ.out]
    exact yI gK.out (ah _)
   | false=>
    have hmsp:Hid (∃m sc pt,G.1 kz=some m∧G.1 kV=some sc∧G.1 kC=some pt):=af (by
     have h:=rH.out
     unfold gZ at h
     cases hM:G.1 kz with
     | none=>rw[hM,LG _ _ _ (.inl rfl)] at h;cases h
     | some m=>
      cases hS:G.1 kV with
      | none=>rw[hS,LG _ _ _ (.inr (.inl rfl))] at h;cases h
      | some sc=>
       cases hP:G.1 kC with
       | none=>rw[hP,LG _ _ _ (.inr (.inr rfl))] at h;cases h
       | some pt=>exact⟨m,sc,pt,rfl,rfl,rfl⟩)
    go_wp2_with fail
    refine (HV.out aG w6 gK.out).mono ?_
    rintro e w7 ⟨hv,rfl,Ee,dU⟩
    obtain⟨Ah,ch,hhv,-,-,-,-⟩:=aC Ee
    have eY:=af (kY.out.row dU Ee)
    have iZ:=af (gK.out.trans (dU.mono kY.out.sz))
    obtain⟨nh,hnh⟩:∃k,(aF l aG).length=k:=⟨_,rfl⟩
    rw[hnh] at hhv
    subst hhv
    have HNH:=af hnh
    have HHS:Hid (aF G.2 aG=aF l aG):=af (by rw[zK.out.1,ajp l (by decide +kernel)])
    clear Ee dU hnh
    rw[HHS.out] at Fy
    have HNH2:Hid (nh≤1000):=af (by rw[←HNH.out];have:=I9 l aG;have:=dX.out;omega)
    have hnhb:=HNH2.out
    by_cases jK : 1<nh
    ·have t1:((nh:Nat):Int) > 1:=by omega
     as_aux_lemma=>
     have hpl:iX (G.1 iM) (aF l aG)=(⟨#[]⟩,101):=by unfold iX;rw[ax (by rw[HNH.out];exact jK)]
     rw[hpl] at Fy
     have lG:=eY.out.aP [4,4,4,4,4,5]
     have hz2:w7.heap[q]?=some (.cells eX 60 (0,0)):=lG.head
     have lG:=eY.out.aP [5,4,4,4,4,5]
     obtain⟨y0,y1,y2,y3,y4⟩:=G5 (R:=jR) (v:=.slice none 0 0) lG.head
     have lT:Hid (R.1=jR∧R.2≠0):=af (by rw[Fy.out,aj (by simp),ax (by decide)];exact⟨rfl,by decide⟩)
     clear lG
     go_wp2_with (first
      | (refine wpList_store_rowTo rfl 60 (.tmp 2) (.tmp 85) rfl rfl q #[.string ⟨#[]⟩,.string ⟨#[]⟩,.string ⟨#[]⟩,.string ⟨#[]⟩,.slice none 0 0] (by kernel_rfl) (by kernel_rfl) 60 eX hz2 mJ rfl (by simp[Value.oneCell']) ?_))
     refine bodyPost_ret (IU rfl (setRow_heap _ _ _ _ _ _ hz2) rfl) rfl ?_
     unfold FV
     rw[lT.out.1,←HQ.out]
     refine⟨.slice none 0 0,101,rfl,⟨fun h=>absurd h (by omega),fun h=>absurd h lT.out.2⟩,xW ?_⟩
     rw[HQ.out]
     exact yI iZ.out (ah _)
    ·have t1:¬((nh:Nat):Int) > 1:=by omega
     as_aux_lemma=>
     go_wp2_with fail
     refine (HV.out iM w7 iZ.out).mono ?_
     rintro e w8 ⟨av,rfl,xM,bF⟩
     obtain⟨Aa,ca,hav,-,-,-,-⟩:=aC xM
     have jO:=af (eY.out.row bF xM)
     have ja:=af (iZ.out.trans (bF.mono eY.out.sz))
     have va:=zK.out.2 iM (by decide +kernel)
     obtain⟨na,hna⟩:∃k,(aF l iM).length=k:=⟨_,rfl⟩
     rw[hna] at hav
     subst hav
     have hna1:na≤1:=by rw[←hna,va];cases G.1 iM <;> simp
     have Dp:=af hna
     have HVA:=af va
     clear xM bF hna va
     go_wp2_with (at_builtin;refine dI ?_)
     unfold Stop
     have Ej:=(jO.out).head
     have hra2:w8.ownsRow 0 9 1 (.slice Aa na ca) na (strs (aF l iM)):=by have h:w8.ownsRow 0 9 1 (.slice Aa na ca) (aF l iM).length (strs (aF l iM)):=Ej;rwa [Dp.out] at h
     have hrh:Rd w8 w8.heap.size 1 Ah nh (strs (aF l aG)):=by
      have h:w8.ownsRow 0 9 1 (.slice Ah nh ch) (aF l aG).length (strs (aF l aG)):=(jO.out.pick [_]).head
      rw[HNH.out] at h
      exact Rd.lJ h
     refine dQ (.tmp 87) (.tmp 88) Db rfl rfl hra2 rfl hrh rfl (by intro u hu;unfold strs at hu;obtain⟨x,-,rfl⟩:=List.mem_map.1 hu;rfl) (bn (by omega)) (by omega) (aL _) ?_
     intro v9 w9 bR dP mF
     have jd:=jO.out
     rw[Dp.out] at jd
     obtain⟨aU,eu⟩:=jd.app bR dP mF
     obtain⟨A9,c9,eD,-,-,-,-⟩:=aC bR
     subst eD
     obtain⟨n4,hn4⟩:∃n4,na+nh=n4:=⟨_,rfl⟩
     rw[hn4] at aU ⊢
     have HN4:=af hn4
     have hn42:n4≤2:=by omega
     have eF:=af aU
     have iq:=af (ja.out.trans eu)
     clear Ej hra2 hrh jd aU eu bR dP mF hn4
     --CASES14
     have GA:=agU (a:=G.1 iM) (hs:=aF l aG) (by rw[HNH.out];omega)
     rw[←HVA.out] at GA
     obtain⟨BW,hBW⟩:∃BW,decide ((iX (G.1 iM) (aF l aG)).2≠0)=BW:=⟨_,rfl⟩
     have iD:=af hBW
     have Iw:(aF l iM++aF l aG).length=n4:=by rw[aN,Dp.out,HNH.out,HN4.out]
     have hrow4:w9.ownsRow 0 9 1 (.slice A9 n4 c9) n4 (strs (aF l iM++aF l aG)):=by have h:=eF.out.head;unfold strs at h ⊢;rw[j6];exact h
     have Jg:Hid (n4=0→Hid (Value.bool true = .bool BW)):=af (fun h=>af (by
      rcases GA with ⟨-,h2⟩ | ⟨x,y,hx,-⟩
      ·rw[←hBW,bP h2]
      ·have:=(List.getElem?_eq_some_iff.1 hx).1;omega))
     have PZ:∀s ∈ aF l iM++aF l aG,s.size≤10000:=by
      intro s hs
      rcases List.mem_append.1 hs with hs | hs
      ·obtain⟨f,hf,rfl⟩:=I_ hs
       have:=BG hf;have:=HS.out;omega
      ·obtain⟨f,hf,rfl⟩:=I_ hs
       have:=BG hf;have:=HS.out;omega
     have KZ:Hid (0<n4→∃x y b o kk,A9=some ⟨b,o,none⟩∧n4=kk+1∧b<w9.heap.size∧w9.cell? ⟨b,o,none⟩=some (.string x)∧w9.cell? ⟨b,o+kk,none⟩=some (.string y)∧BW=(!(jW x && jW y && decide (aJ (aO x.data.toList)=aJ (aO y.data.toList))))∧x.size≤10000∧y.size≤10000∧((iX (G.1 iM) (aF l aG)).2=0→(iX (G.1 iM) (aF l aG)).1=aJ (aO x.data.toList))):=af (fun h0=>by
      rcases GA with ⟨h1,-⟩ | ⟨x,y,hx,hy,h2,h3⟩
      ·rw[h1] at Iw;simp at Iw;omega
      ·rw[Iw] at hy
       obtain⟨-,b,o,hA,hb,hc⟩:=BF (Rd.lJ hrow4) h0
       refine⟨x,y,b,o,n4-1,hA,by omega,hb,hc 0 x hx,hc (n4-1) y hy,by rw[←hBW,h2],PZ x (fq hx),PZ y (fq hy),h3⟩)
     clear GA hBW Iw hrow4 PZ
     go_upto_region 14 with fail
     go_cut [123] (fun y wx=>y = .bool BW∧Below w9.heap.size w9 wx)
     case first=>
      as_aux_lemma=>
      have sP:Hid (Below w9.heap.size w9 w9.drew):=af (by exact⟨rfl,rfl,rfl,ah _,fun _ _=>rfl⟩)
      have K5:=sP
      refine abw (c:=Z_) (by kernel_rfl) ?_
      refine ag_ hn42 Jg KZ _ _ _ ?_
      intros
      rename_i h8 h9
      go_wp2_with fail
      go_meet
      exact⟨h8,h9⟩
     case rest=>
      as_aux_lemma=>
      obtain⟨rfl,hwc⟩:=hcut
      have vL:=af (eF.out.below hwc)
      have BL:=af (iq.out.trans (hwc.mono eF.out.sz))
      have HWC:=af hwc
      clear hwc
      cases BW with
      | true=>
       as_aux_lemma=>
       --RET
       have lG:=vL.out.aP [5,5,5,5,5,5,6]
       have hz2:wc.heap[q]?=some (.cells eX 60 (0,0)):=lG.head
       have lG:=vL.out.aP [6,5,5,5,5,5,6]
       obtain⟨y0,y1,y2,y3,y4⟩:=G5 (R:=jR) (v:=.slice none 0 0) lG.head
       have lT:Hid (R.1=jR∧R.2≠0):=af (by have h:=of_decide_eq_true iD.out;rw[Fy.out,aj (by simp),ax h];exact⟨rfl,h⟩)
       clear lG
       go_wp2_with (first
        | (refine wpList_store_rowTo rfl 60 (.tmp 2) (.tmp 124) rfl rfl q #[.string ⟨#[]⟩,.string ⟨#[]⟩,.string ⟨#[]⟩,.string ⟨#[]⟩,.slice none 0 0] (by kernel_rfl) (by kernel_rfl) 60 eX hz2 mJ rfl (by simp[Value.oneCell']) ?_))
       refine bodyPost_ret (IU rfl (setRow_heap _ _ _ _ _ _ hz2) rfl) rfl ?_
       unfold FV
       rw[lT.out.1,←HQ.out]
       refine⟨.slice none 0 0,100,rfl,⟨fun h=>absurd h (by omega),fun h=>absurd h lT.out.2⟩,xW ?_⟩
       rw[HQ.out]
       exact yI BL.out (ah _)
      | false=>
       as_aux_lemma=>
       have wz:(iX (G.1 iM) (aF l aG)).2=0:=by have h:=of_decide_eq_false iD.out;omega
       have h40 : 0<n4:=by
        rcases zT n4 with h | h
        ·have h2:=(Jg.out h).out;injection h2 with h2;cases h2
        ·exact h
       have Hz:=gz.out wc BL.out
       have hlf:dn (bV G.2)=dn l:=by
        have h:=afc l
        unfold nT at h
        rw[←zK.out.1] at h
        exact h
       have HR1:Hid (R=if dn l=none then (jR,102) else (⟨gZ G kz,gZ G kV,(iX (G.1 iM) (aF l aG)).1,gZ G kC,jw (bV G.2)⟩,0)):=af (by rw[Fy.out,aj (by simp),aj (by omega),hlf])
       have BS:=af wz
       obtain⟨sd,tl,er,AB⟩:∃a b c,gU (dn l)=(a,b,c):=⟨_,_,_,rfl⟩
       rw[AB] at Hz
       dsimp only at Hz
       have sW:=af AB
       clear hlf wz AB Fy Jg
       have Hz:=af Hz
       go_wp2_with fail
       refine Hz.out.mono ?_
       rintro e ig ⟨rfl,qQ⟩
       have mM:=af (vL.out.below qQ)
       have oK:=af (BL.out.trans (qQ.mono vL.out.sz))
       have HW11:=af (HWC.out.trans (qQ.mono HWC.out.size))
       clear qQ Hz
       by_cases hL:dn l=none
       ·have her:er=102:=by have h:=sW.out;rw[hL] at h;injection h with h1 h2;injection h2 with h3 h4;exact h4.symm
        as_aux_lemma=>
        subst her
        --RET
        have lG:=mM.out.aP [5,5,5,5,5,5,6]
        have hz2:ig.heap[q]?=some (.cells eX 60 (0,0)):=lG.head
        have lG:=mM.out.aP [6,5,5,5,5,5,6]
        obtain⟨y0,y1,y2,y3,y4⟩:=G5 (R:=jR) (v:=.slice none 0 0) lG.head
        have lT:Hid (R.1=jR∧R.2≠0):=af (by rw[HR1.out,ax hL];exact⟨rfl,by decide⟩)
        clear lG
        go_wp2_with (first
         | (refine wpList_store_rowTo rfl 60 (.tmp 2) (.tmp 133) rfl rfl q #[.string ⟨#[]⟩,.string ⟨#[]⟩,.string ⟨#[]⟩,.string ⟨#[]⟩,.slice none 0 0] (by kernel_rfl) (by kernel_rfl) 60 eX hz2 mJ rfl (by simp[Value.oneCell']) ?_))
        refine bodyPost_ret (IU rfl (setRow_heap _ _ _ _ _ _ hz2) rfl) rfl ?_
        unfold FV
        rw[lT.out.1,←HQ.out]
        refine⟨.slice none 0 0,102,rfl,⟨fun h=>absurd h (by omega),fun h=>absurd h lT.out.2⟩,xW ?_⟩
        rw[HQ.out]
        exact yI oK.out (ah _)
       ·have her:er=0:=by
         have h:=sW.out
         cases hq9:dn l with
         | none=>exact absurd hq9 hL
         | some o=>rw[hq9] at h;cases o <;> (injection h with h1 h2;injection h2 with h3 h4;exact h4.symm)
        as_aux_lemma=>
        subst her
        have fU:Hid (R=(⟨gZ G kz,gZ G kV,(iX (G.1 iM) (aF l aG)).1,gZ G kC,jw (bV G.2)⟩,0)):=af (by rw[HR1.out,aj hL])
        have ee3:(((0:Nat):Int)==0)=true:=rfl
        obtain⟨m,sc,pt,hm,hs,hp⟩:=hmsp.out
        have vm:=zK.out.2 kz (by decide +kernel)
        have vs:=zK.out.2 kV (by decide +kernel)
        have vp:=zK.out.2 kC (by decide +kernel)
        rw[hm] at vm
        rw[hs] at vs
        rw[hp] at vp
        have hrm:=mM.out.aP [6,6,5,5,5,5,6]
        have GH:=mM.out.aP [6,6,6,5,5,5,6]
        have Em:=mM.out.aP [6,6,6,6,5,5,6]
        obtain⟨m',bm,om,hAm,hnm1,hm',zm⟩:=row_one (o:=some m) (v:=.slice Am nm cm) (by rw[←vm];exact hrm.head) rfl (by rw[←vm];exact HNM.out) (by have h:=HNM.out;rw[vm] at h;simp at h;omega)
        obtain⟨s',bs,os,hAs,hns1,hs',zs⟩:=row_one (o:=some sc) (v:=.slice As ns cs) (by rw[←vs];exact GH.head) rfl (by rw[←vs];exact jq.out) (by have h:=jq.out;rw[vs] at h;simp at h;omega)
        obtain⟨p',bp,op,hAp,hnp1,hp',zp⟩:=row_one (o:=some pt) (v:=.slice Ap np cp) (by rw[←vp];exact Em.head) rfl (by rw[←vp];exact HNP.out) (by have h:=HNP.out;rw[vp] at h;simp at h;omega)
        obtain rfl:m=m':=qI hm'
        obtain rfl:sc=s':=qI hs'
        obtain rfl:pt=p':=qI hp'
        obtain⟨x,y,b,o,kk,aU,hn4,hbl9,zx9,-,-,hxs,-,iP⟩:=KZ.out h40
        have nY:=af (iP BS.out)
        have zx:ig.cell? ⟨b,o,none⟩=some (.string x):=(HW11.out.cell (p:=⟨b,o,none⟩) hbl9).trans zx9
        subst hAm hnm1 hAs hns1 hAp hnp1 aU hn4
        clear vm vs vp hrm GH Em hm' hs' hp' iP zx9
        have HLq:Hid (∀wr,Below q w wr→Rd wr q 3 A n (fds l)):=af (fun wr h=>by have h2:=HL.out.below (h.mono (by rw[HQ.out];exact ah _)) (ah _);rw[HQ.out] at h2;exact h2)
        obtain⟨LX,hLX⟩:∃LX,aJ (aO x.data.toList)=LX:=⟨_,rfl⟩
        have zM:=af (fun w=>EG x w (by omega))
        rw[hLX] at zM nY
        have jT:Hid (∀wx,Below ig.heap.size ig wx→wx.cell? ⟨bm,om,none⟩=some (.string m)∧wx.cell? ⟨bs,os,none⟩=some (.string sc)∧wx.cell? ⟨b,o,none⟩=some (.string x)∧wx.cell? ⟨bp,op,none⟩=some (.string pt)):=af (fun wx h=>⟨(h.cell (p:=⟨bm,om,none⟩) (LK zm)).trans zm,(h.cell (p:=⟨bs,os,none⟩) (LK zs)).trans zs,(h.cell (p:=⟨b,o,none⟩) (LK zx)).trans zx,(h.cell (p:=⟨bp,op,none⟩) (LK zp)).trans zp⟩)
        have HRF:Hid (R=(⟨m,sc,LX,pt,jw (bV G.2)⟩,0)):=af (by rw[fU.out,nY.out];unfold gZ;rw[hm,hs,hp];rfl)
        clear hLX zm zs zx zp hm hs hp fU HR1 hxs hbl9
        go_upto_region 19 with fail
        go_cut [11] (fun y wx=>∃g,y = .pointer (some ⟨g,0,none⟩)∧All q wx [bg g (rD m sc LX pt (.slice none 0 0)) 60,bg q eX 60]∧Below q w wx)
        case first=>
         as_aux_lemma=>
         --REGION19
         have lG:=mM.out.aP [5,5,5,5,5,5,6]
         have lG:All q ig [bg q eX 60]:=All.init (l:=[_]) lG
         obtain⟨Wd,rX⟩:∃Wd,ig.drew=Wd:=⟨_,rfl⟩
         have lU:Hid (Below ig.heap.size ig Wd):=af (by rw[←rX];exact⟨rfl,rfl,rfl,ah _,fun _ _=>rfl⟩)
         have bE:Hid (All q Wd [bg q eX 60]):=af (by rw[←rX];exact lG.drew)
         clear lG
         refine wp_region_held_drew (S:=fun w'=>w'.cell? ⟨bm,om,none⟩=some (.string m)∧w'.cell? ⟨bs,os,none⟩=some (.string sc)∧w'.cell? ⟨b,o,none⟩=some (.string x)∧w'.cell? ⟨bp,op,none⟩=some (.string pt)) (by kernel_rfl) (by rw[rX];exact jT.out _ lU.out) (fun hH=>?_)
         rw[rX] at hH ⊢
         clear rX
         refine ag 0 135 hH ?_
         refine ag 1 136 hH ?_
         refine ag 2 137 hH ?_
         refine ag 3 138 hH ?_
         refine ag 4 139 hH ?_
         refine ag 5 140 hH ?_
         refine ag 6 141 hH ?_
         refine ag 7 142 hH ?_
         refine ag 8 143 hH ?_
         refine ag 10 145 hH ?_
         refine ag 11 146 hH ?_
         refine ag 12 147 hH ?_
         refine wpAnyH_ready (rs:=[9,14]) (by kernel_rfl) (by simp) ?_
         refine (AllReadyH.cons (o:=⟨some 144,_,_,_,_,_⟩) rfl (fun K hK=>?_) (AllReadyH.cons (o:=⟨some 11,_,_,_,_,_⟩) rfl (fun K hK=>?_) AllReadyH.nil))
         ·
          as_aux_lemma=>
          go_simp
          refine (zM.out _).mono ?_
          rintro ev W1a ⟨rfl,hb⟩
          have HA1a:=af (bE.out.below hb)
          have Le:=af (lU.out.trans (hb.mono lU.out.size))
          clear hb
          refine hK.out _ _ (jT.out _ Le.out) (fun hH=>?_)
          clear hK K
          try simp only[Act.put,az,ay,aA]
          refine ag 13 148 hH ?_
          refine aR 14 (fun K hK=>?_)
          go_simp
          refine gT ?_
          intro W2a AP
          obtain⟨gq,xH⟩:∃gq,W1a.heap.size=gq:=⟨_,rfl⟩
          have JD:W2a=W1a.alloc (.cells eX 60):=AP
          have hAk:=gV HA1a.out eX 60
          rw[←JD] at hAk
          rw[xH] at hAk
          have HA2a:=af hAk
          have HX2a:Hid (Below ig.heap.size ig W2a):=af (by rw[AP];exact Le.out.alloc Le.out.size _)
          have HGE:Hid (ig.heap.size≤gq):=af (by rw[←xH];exact Le.out.size)
          try rw[xH]
          clear AP JD hAk xH
          refine hK.out _ _ (jT.out _ HX2a.out) (fun hH=>?_)
          clear hK K
          try simp only[Act.put,az,ay,aA]
          refine rdZq (o:=⟨none,_,_,_,_,_⟩) 15 rfl (fun K hK=>?_)
          rw[ax (by kernel_rfl)]
          refine wp_store_row 60 (.tmp 11) (.tmp 148) rfl gq _ rfl rfl 60 eX HA2a.out.head mJ rfl (by simp[Value.oneCell']) ?_
          obtain⟨h1,h2⟩:=HA2a.out.whole (rD m sc LX pt (.slice none 0 0))
          have HAe:=af h1
          have HXe:=af (yI (cs:=rD m sc LX pt (.slice none 0 0)) HX2a.out HGE.out)
          clear h1 h2
          refine hK.out _ _ (jT.out _ HXe.out) (fun hH=>?_)
          clear hK K
          try simp only[Act.put]
          refine wpAnyH_done (by kernel_rfl) ?_ _
          go_wp2_with fail
          go_meet
          exact⟨gq,rfl,HAe.out,oK.out.trans (HXe.out.mono mM.out.sz)⟩
          --ENDR19A
         ·
          as_aux_lemma=>
          go_simp
          refine gT ?_
          intro W1b AP
          obtain⟨gq,xH⟩:∃gq,Wd.heap.size=gq:=⟨_,rfl⟩
          have JD:W1b=Wd.alloc (.cells eX 60):=AP
          have hAk:=gV bE.out eX 60
          rw[←JD] at hAk
          rw[xH] at hAk
          have HA1b:=af hAk
          have NR:Hid (Below ig.heap.size ig W1b):=af (by rw[AP];exact lU.out.alloc lU.out.size _)
          have HGE:Hid (ig.heap.size≤gq):=af (by rw[←xH];exact lU.out.size)
          try rw[xH]
          clear AP JD hAk xH
          refine hK.out _ _ (jT.out _ NR.out) (fun hH=>?_)
          clear hK K
          try simp only[Act.put,az,ay,aA]
          refine aR 9 (fun K hK=>?_)
          go_simp
          refine (zM.out _).mono ?_
          rintro ev W2b ⟨rfl,hb⟩
          have HA2b:=af (HA1b.out.below hb)
          have HX2b:=af (NR.out.trans (hb.mono NR.out.size))
          clear hb
          refine hK.out _ _ (jT.out _ HX2b.out) (fun hH=>?_)
          clear hK K
          try simp only[Act.put,az,ay,aA]
          refine ag 13 148 hH ?_
          refine rdZq (o:=⟨none,_,_,_,_,_⟩) 15 rfl (fun K hK=>?_)
          rw[ax (by kernel_rfl)]
          refine wp_store_row 60 (.tmp 11) (.tmp 148) rfl gq _ rfl rfl 60 eX HA2b.out.head mJ rfl (by simp[Value.oneCell']) ?_
          obtain⟨h1,h2⟩:=HA2b.out.whole (rD m sc LX pt (.slice none 0 0))
          have HAe:=af h1
          have HXe:=af (yI (cs:=rD m sc LX pt (.slice none 0 0)) HX2b.out HGE.out)
          clear h1 h2
          refine hK.out _ _ (jT.out _ HXe.out) (fun hH=>?_)
          clear hK K
          try simp only[Act.put]
          refine wpAnyH_done (by kernel_rfl) ?_ _
          go_wp2_with fail
          go_meet
          exact⟨gq,rfl,HAe.out,oK.out.trans (HXe.out.mono mM.out.sz)⟩
          --ENDR19B
         --ajL
        case rest=>
         as_aux_lemma=>
         obtain⟨g,rfl,hAg,hbg⟩:=hcut
         have HAg:=af hAg
         have HBg:=af hbg
         clear hAg hbg
         go_wp2_with fail
         refine (HV.out bK wc HBg.out).mono ?_
         rintro e w13 ⟨cv,rfl,Py,rY⟩
         obtain⟨Ac,cc,hcv,-,-,-,-⟩:=aC Py
         have zH:=af (HAg.out.row rY Py)
         have EZ:=af (HBg.out.trans (rY.mono HAg.out.sz))
         obtain⟨nc,hnc⟩:∃k,(aF l bK).length=k:=⟨_,rfl⟩
         rw[hnc] at hcv
         subst hcv
         have HNC:=af hnc
         have hncb:nc≤1000:=by rw[←hnc];have:=I9 l bK;have:=dX.out;omega
         clear Py rY hnc
         have rO:Hid (FW q g n w l m sc LX pt (.slice Ac nc cc) (.int .i64 0) (.bool false) w13):=af (by
          have h1:All q w13 [sI (.slice Ac nc cc) (aF l bK),bg g (rD m sc LX pt (.slice none 0 0)) 60,bg q eX 60]:=by have h:=zH.out;unfold sI;exact h
          have h2:=h1.Bz 26 3
          have h3:=h2.aP [3,2,2,3]
          exact⟨0,.slice none 0 0,rfl,rfl,aL _,h3,EZ.out⟩)
         go_wp2_with fail
         as_aux_lemma=>
         go_loopw [13,14] (fun mv iv wr=>FW q g n w l m sc LX pt (.slice Ac nc cc) iv mv wr) (fun _ iv _=>n-(intOf iv).toNat)
         case atStart=>exact rO.out
         case round=>
          as_aux_lemma=>
          obtain⟨k,v,rfl,rfl,hk,hA,hb⟩:=hrel
          have HA:=af hA
          have HB:=af hb
          clear hA hb
          by_cases hlt:k<n
          ·obtain⟨-,fk,fo,rfl,hblf,hc⟩:=mE (HLq.out wr HB.out) (by omega)
           as_aux_lemma=>
           obtain⟨f,hf⟩:∃f,l[k]?=some f:=⟨_,a_ (by have:=dX.out;omega)⟩
           obtain⟨z0,z1,z2⟩:=hc k f hf
           have n0:(k:Int)<n:=by omega
           have gL:=af (aaK hf)
           have hfz:=BG (fq hf)
           have K7:=af (aiC l k)
           clear hc hf
           obtain⟨⟨nm,vl⟩,nv⟩:=f
           simp only at z0 z1 z2 hfz
           obtain⟨⟨st,mt⟩,hst⟩:∃x,x_ l k=x:=⟨_,rfl⟩
           rw[hst] at HA gL K7 ⊢
           dsimp only at HA gL K7 ⊢
           have HPS:=af (fun w=>Tu nm w)
           obtain⟨P,hP⟩:∃P,gy nm=P:=⟨_,rfl⟩
           rw[hP] at HPS
           have HP:=af hP
           clear hst hP
           go_upto_region 26 with fail
           refine bI ?_
           intro W4 bA
           have dN:=gV HA.out #[.string nm,.string vl,.bool nv] 26
           have xD:W4=wr.alloc (.cells #[.string nm,.string vl,.bool nv] 26):=bA
           have hb4:Below q w W4:=by rw[xD];exact HB.out.alloc HA.out.sz _
           rw[←xD] at dN
           obtain⟨fb,nQ⟩:∃fb,wr.heap.size=fb:=⟨_,rfl⟩
           rw[nQ] at dN ⊢
           have aX:=af dN
           have dz:=af hb4
           clear dN hb4 bA xD nQ z0 z1 z2
           obtain⟨y0,y1,y2⟩:=LW aX.out.head
           have c1:=Ew (m:=nm) (c:=aG) (l:=[104,111,115,116]) (by decide +kernel)
           have c2:=Ew (m:=nm) (c:=bK) (l:=[99,111,111,107,105,101]) (by decide +kernel)
           go_wp2_with fail
           refine (HPS.out _).mono ?_
           rintro e w5 ⟨rfl,rfl⟩
           cases P with
           | true=>
            as_aux_lemma=>
            clear c1 c2
            --LEAF1
            have HN:Hid (FW q g n w l m sc LX pt (.slice Ac nc cc) (.int .i64 (k+1:Nat)) (.bool mt) W4):=af (by
             have hsk:=step_skip (V:=qf (aF l bK)) (st:=st) (mt:=mt) (nm:=nm) (vl:=vl) (nv:=nv) (by rw[HP.out];rfl)
             refine⟨k+1,v,rfl,by rw[gL.out,hsk],hlt,?_,dz.out⟩
             rw[gL.out,hsk]
             exact aX.out.tail)
            go_wp2
            go_roundw
            case rel=>exact HN.out
            case measure=>simp[intOf];omega
            --ENDLEAF1
           | false=>
            rcases c1 with ⟨k1,e1⟩ | ⟨k1,e1⟩
            ·clear c2
             as_aux_lemma=>
             have Fe:=af k1
             clear k1
             --LEAF2
             have HN:Hid (FW q g n w l m sc LX pt (.slice Ac nc cc) (.int .i64 (k+1:Nat)) (.bool mt) W4):=af (by
              have hsk:=step_skip (V:=qf (aF l bK)) (st:=st) (mt:=mt) (nm:=nm) (vl:=vl) (nv:=nv) (by rw[bP Fe.out,Bool.or_true,Bool.true_or])
              refine⟨k+1,v,rfl,by rw[gL.out,hsk],hlt,?_,dz.out⟩
              rw[gL.out,hsk]
              exact aX.out.tail)
             go_wp2
             go_roundw
             case rel=>exact HN.out
             case measure=>simp[intOf];omega
             --ENDLEAF2
            ·rcases c2 with ⟨k2,e2⟩ | ⟨k2,e2⟩
             ·have Fe:=af k1
              as_aux_lemma=>
              have zL:=af k2
              clear k1 k2
              cases mt with
              | true=>
               as_aux_lemma=>
               --LEAF3
               have HN:Hid (FW q g n w l m sc LX pt (.slice Ac nc cc) (.int .i64 (k+1:Nat)) (.bool true) W4):=af (by
                have hsk:=step_skip (V:=qf (aF l bK)) (st:=st) (mt:=true) (nm:=nm) (vl:=vl) (nv:=nv) (by rw[bP zL.out,Bool.and_true,Bool.or_true])
                refine⟨k+1,v,rfl,by rw[gL.out,hsk],hlt,?_,dz.out⟩
                rw[gL.out,hsk]
                exact aX.out.tail)
               go_wp2
               go_roundw
               case rel=>exact HN.out
               case measure=>simp[intOf];omega
               --ENDLEAF3
              | false=>
               --LEAF4
               have f1:=LH aX.out.head 1
               go_upto_region 30 with fail
               refine bI ?_
               intro W5 kg
               obtain⟨iN,aT⟩:=aX.out.set 1 (.string ⟨#[]⟩)
               rw[←kg] at iN aT
               have HS5:Hid (Ho q g nc fb w l st m sc LX pt v (.slice Ac nc cc) nm nv (.int .i64 0) W5):=af ⟨0,rfl,aL _,iN,dz.out.trans aT⟩
               clear iN aT kg f1 y0 y1 y2
               go_wp2_with fail
               as_aux_lemma=>
               go_loopw [16] (fun jv wy=>Ho q g nc fb w l st m sc LX pt v (.slice Ac nc cc) nm nv jv wy) (fun jv _=>nc-(intOf jv).toNat)
               case atStart=>exact HS5.out
               case round=>
                as_aux_lemma=>
                obtain⟨j,rfl,hj,hAj,hbj⟩:=hrel
                have qA:=af hAj
                have HBJ:=af hbj
                clear hAj hbj
                by_cases hjn:j<nc
                ·obtain⟨y0,y1,y2⟩:=LW qA.out.head
                 as_aux_lemma=>
                 have f1:=LH qA.out.head 1
                 have hrk:wr.ownsRow 0 9 1 (.slice Ac nc cc) nc (strs (aF l bK)):=by have h:wr.ownsRow 0 9 1 (.slice Ac nc cc) (aF l bK).length (strs (aF l bK)):=(qA.out.pick [_,_,_]).head;rw[HNC.out] at h;exact h
                 obtain⟨-,b1,o1,rfl,-,hc1⟩:=BF (Rd.lJ hrk) (by omega)
                 obtain⟨tt,ht⟩:∃tt,(aF l bK)[j]?=some tt:=⟨_,a_ (by have:=HNC.out;omega)⟩
                 have hcell:=hc1 j tt ht
                 have m0:(j:Int)<nc:=by omega
                 have hjs:=ae0 ht
                 have hs1:=Y5 ((aF l bK).take j) ⟨#[]⟩
                 have hs2:=ai8 (aF l bK) j
                 have hs3:=ajr l bK
                 have oZ:=V8 l
                 have hs5:=HS.out
                 have hs6:tt.size≤10000:=by obtain⟨f,hf,rfl⟩:=I_ (fq ht);have:=BG hf;omega
                 obtain⟨aa,haa⟩:∃aa,qf ((aF l bK).take j)=aa:=⟨_,rfl⟩
                 have CQ:aa.size≤10000:=by rw[←haa];unfold qf;have h0:(⟨#[]⟩:ByteArray).size=0:=rfl;omega
                 rw[haa] at y1 hjs qA
                 clear hrk hc1 ht hs1 hs2 hs3 oZ hs5 haa
                 have HJS:=af hjs
                 clear hjs
                 by_cases ha0:aa=⟨#[]⟩
                 ·by_cases qX:tt=⟨#[]⟩
                  ·have ea:(aa.toList == [])=true:=by rw[ha0];decide +kernel
                   as_aux_lemma=>
                   have et:(tt.toList == [])=true:=by rw[qX];decide +kernel
                   have yX:cj aa tt=aa++tt:=by unfold cj;rw[aj (fun h=>h.2 ha0)]
                   obtain⟨u2,l7⟩:∃u,aa++tt=u:=⟨_,rfl⟩
                   obtain⟨z_,s2⟩:=vY l7 (by omega)
                   have yY:cj aa tt=u2:=by rw[yX,l7]
                   have Fb:=af yY
                   clear yY yX ha0 qX
                   go_wp2_with fail
                   go_region
                   go_upto_region 32 with fail
                   refine bI ?_
                   intro W7 eU
                   obtain⟨h2,yH⟩:=qA.out.set 1 (.string u2)
                   have tZ:=HBJ.out.trans yH
                   have HN:Hid (Ho q g nc fb w l st m sc LX pt v (.slice (some ⟨b1,o1,none⟩) nc cc) nm nv (.int .i64 (j+1:Nat)) W7):=af (by
                    refine⟨j+1,rfl,hjn,?_,?_⟩
                    ·rw[HJS.out,Fb.out,eU]
                     exact h2.drew
                    ·rw[eU]
                     exact tZ.trans (by exact⟨rfl,rfl,rfl,ah _,fun _ _=>rfl⟩))
                   clear h2 yH tZ eU
                   go_wp2
                   go_roundw
                   case rel=>exact HN.out
                   case measure=>simp[intOf];omega
                  ·have ea:(aa.toList == [])=true:=by rw[ha0];decide +kernel
                   as_aux_lemma=>
                   have et:(tt.toList == [])=false:=by exact (wU (s:=tt) (fun h=>qX (vG h))).1
                   have yX:cj aa tt=aa++tt:=by unfold cj;rw[aj (fun h=>h.2 ha0)]
                   obtain⟨u2,l7⟩:∃u,aa++tt=u:=⟨_,rfl⟩
                   obtain⟨z_,s2⟩:=vY l7 (by omega)
                   have yY:cj aa tt=u2:=by rw[yX,l7]
                   have Fb:=af yY
                   clear yY yX ha0 qX
                   go_wp2_with fail
                   go_region
                   go_upto_region 32 with fail
                   refine bI ?_
                   intro W7 eU
                   obtain⟨h2,yH⟩:=qA.out.set 1 (.string u2)
                   have tZ:=HBJ.out.trans yH
                   have HN:Hid (Ho q g nc fb w l st m sc LX pt v (.slice (some ⟨b1,o1,none⟩) nc cc) nm nv (.int .i64 (j+1:Nat)) W7):=af (by
                    refine⟨j+1,rfl,hjn,?_,?_⟩
                    ·rw[HJS.out,Fb.out,eU]
                     exact h2.drew
                    ·rw[eU]
                     exact tZ.trans (by exact⟨rfl,rfl,rfl,ah _,fun _ _=>rfl⟩))
                   clear h2 yH tZ eU
                   go_wp2
                   go_roundw
                   case rel=>exact HN.out
                   case measure=>simp[intOf];omega
                 ·by_cases qX:tt=⟨#[]⟩
                  ·have ea:(aa.toList == [])=false:=by exact (wU (s:=aa) (fun h=>ha0 (vG h))).1
                   as_aux_lemma=>
                   have et:(tt.toList == [])=true:=by rw[qX];decide +kernel
                   have yX:cj aa tt=aa++tt:=by unfold cj;rw[aj (fun h=>h.1 qX)]
                   obtain⟨u2,l7⟩:∃u,aa++tt=u:=⟨_,rfl⟩
                   obtain⟨z_,s2⟩:=vY l7 (by omega)
                   have yY:cj aa tt=u2:=by rw[yX,l7]
                   have Fb:=af yY
                   clear yY yX ha0 qX
                   go_wp2_with fail
                   go_region
                   go_upto_region 32 with fail
                   refine bI ?_
                   intro W7 eU
                   obtain⟨h2,yH⟩:=qA.out.set 1 (.string u2)
                   have tZ:=HBJ.out.trans yH
                   have HN:Hid (Ho q g nc fb w l st m sc LX pt v (.slice (some ⟨b1,o1,none⟩) nc cc) nm nv (.int .i64 (j+1:Nat)) W7):=af (by
                    refine⟨j+1,rfl,hjn,?_,?_⟩
                    ·rw[HJS.out,Fb.out,eU]
                     exact h2.drew
                    ·rw[eU]
                     exact tZ.trans (by exact⟨rfl,rfl,rfl,ah _,fun _ _=>rfl⟩))
                   clear h2 yH tZ eU
                   go_wp2
                   go_roundw
                   case rel=>exact HN.out
                   case measure=>simp[intOf];omega
                  ·have ea:(aa.toList == [])=false:=by exact (wU (s:=aa) (fun h=>ha0 (vG h))).1
                   as_aux_lemma=>
                   have et:(tt.toList == [])=false:=by exact (wU (s:=tt) (fun h=>qX (vG h))).1
                   have yX:cj aa tt=aa++KG++tt:=by unfold cj;rw[ax ⟨qX,ha0⟩]
                   obtain⟨u1,vo⟩:∃u,aa++⟨#[59,32]⟩=u:=⟨_,rfl⟩
                   obtain⟨Ci,s1⟩:=vY vo (by show aa.size+2≤_;omega)
                   obtain⟨u2,l7⟩:∃u,u1++tt=u:=⟨_,rfl⟩
                   have s1':u1.size=aa.size+2:=s1
                   obtain⟨z_,s2⟩:=vY l7 (by omega)
                   have yY:cj aa tt=u2:=by rw[yX,←l7,←vo];rfl
                   have hfb1:fb≠b1:=fun e=>(List.pairwise_cons.1 qA.out.apart).1 _ (fH _ (fH _ (iK ..))) fb rfl (by rw[e];rfl)
                   have JQ:(wr.setCell ⟨fb,1,none⟩ (.string u1)).cell? ⟨b1,o1+j,none⟩=some (.string tt):=(World.cell?_setCell_far wr ⟨fb,1,none⟩ ⟨b1,o1+j,none⟩ _ hfb1).trans hcell
                   have YF:(wr.setCell ⟨fb,1,none⟩ (.string u1)).drew.cell? ⟨b1,o1+j,none⟩=some (.string tt):=JQ
                   have Fb:=af yY
                   clear yY yX ha0 qX
                   go_wp2_with fail
                   go_region
                   go_upto_region 32 with fail
                   refine bI ?_
                   intro W7 eU
                   obtain⟨h1,b1'⟩:=qA.out.set 1 (.string u1)
                   obtain⟨h2,yH⟩:=h1.set 1 (.string u2)
                   have tZ:=(HBJ.out.trans b1').trans yH
                   have HN:Hid (Ho q g nc fb w l st m sc LX pt v (.slice (some ⟨b1,o1,none⟩) nc cc) nm nv (.int .i64 (j+1:Nat)) W7):=af (by
                    refine⟨j+1,rfl,hjn,?_,?_⟩
                    ·rw[HJS.out,Fb.out,eU]
                     exact h2.drew
                    ·rw[eU]
                     exact tZ.trans (by exact⟨rfl,rfl,rfl,ah _,fun _ _=>rfl⟩))
                   clear h2 yH tZ eU
                   go_wp2
                   go_roundw
                   case rel=>exact HN.out
                   case measure=>simp[intOf];omega
                ·have hjn2:j=nc:=by omega
                 as_aux_lemma=>
                 subst hjn2
                 have YP:qf ((aF l bK).take j)=qf (aF l bK):=by rw[cB (by have:=HNC.out;omega)]
                 rw[YP] at qA
                 obtain⟨VV,hVV⟩:∃VV,qf (aF l bK)=VV:=⟨_,rfl⟩
                 rw[hVV] at qA gL
                 clear YP hVV
                 --LEAF5
                 obtain⟨y0,y1,y2⟩:=LW qA.out.head
                 obtain⟨-,-,-,-,g4⟩:=C_ (qA.out.pick [_]).head
                 obtain⟨Av,cv,hv,-,-,-,-⟩:=aC (qA.out.pick [_,_]).head
                 have n_:=af hv
                 rw[hv] at g4
                 have hstl:=K7.out
                 clear hv
                 go_wp2_with (at_builtin;refine dI ?_)
                 unfold Stop
                 have hba:Below wr.heap.size wr (wr.alloc (.cells #[.string nm,.string VV,.bool nv] 26)):=(Below.refl _ _).alloc (ah _) _
                 have Gg:=qA.out.below hba
                 have hown:(wr.alloc (.cells #[.string nm,.string VV,.bool nv] 26)).ownsRow 0 26 3 (.slice Av st.length cv) st.length (fds st):=by rw[←n_.out];exact (Gg.pick [_,_]).head
                 refine dQ (.tmp 210) (.tmp 212) j3 rfl rfl hown rfl (Rd.rC _ _ _ _ _) rfl (by simp[Value.oneCell']) (bn (by omega)) (by omega) (aL _) ?_
                 intro v9 w9 bR dP mF
                 rw[←n_.out] at dP mF
                 obtain⟨aU,eu⟩:=(Gg.pick [_,_]).app bR dP mF
                 obtain⟨yj,xy,eD,-,-,-,-⟩:=aC bR
                 subst eD
                 have aU:=aU.aP [1,4,4,3,4]
                 have aU:=All.init (l:=[_,_,_,_]) (r:=[_]) aU
                 have f9:=LH aU.head 4
                 have q9:=(C_ aU.head).2.2.2.2
                 obtain⟨h1,h2⟩:=aU.set 4 (.slice yj (st.length+1) xy)
                 have e9:aD 26 3 (.slice yj (st.length+1) xy) (st.length+1) (fds st++[.string nm,.string VV,.bool nv])=lM (.slice yj (st.length+1) xy) (st++[((nm,VV),nv)]):=by
                  unfold lM
                  rw[aN,oP]
                  rfl
                 rw[e9] at h1
                 have HN:Hid (FW q g n w l m sc LX pt (.slice Ac j cc) (.int .i64 (k+1:Nat)) (.bool true) (w9.setCell ⟨g,4,none⟩ (.slice yj (st.length+1) xy))):=af (by
                  refine⟨k+1,.slice yj (st.length+1) xy,rfl,by rw[gL.out,aaN HP.out Fe.out zL.out],hlt,?_,((HBJ.out.trans (hba.mono qA.out.sz)).trans eu).trans h2⟩
                  rw[gL.out,aaN HP.out Fe.out zL.out]
                  exact h1)
                 clear hba Gg hown bR dP mF aU eu h1 h2 e9 g4
                 go_wp2
                 go_roundw
                 case rel=>exact HN.out
                 case measure=>simp[intOf];omega
                 --ENDLEAF5
               --ENDLEAF4
             ·have Fe:=af k1
              as_aux_lemma=>
              have zL:=af k2
              clear k1 k2 y0 y1 y2
              --LEAF6
              have HSNx:=gL
              obtain⟨y0,y1,y2⟩:=LW aX.out.head
              obtain⟨-,-,-,-,g4⟩:=C_ (aX.out.pick [_]).head
              obtain⟨Av,cv,hv,-,-,-,-⟩:=aC (aX.out.pick [_,_]).head
              have n_:=af hv
              rw[hv] at g4
              have hstl:=K7.out
              clear hv
              go_wp2_with (at_builtin;refine dI ?_)
              unfold Stop
              have hba:Below W4.heap.size W4 (W4.alloc (.cells #[.string nm,.string vl,.bool nv] 26)):=(Below.refl _ _).alloc (ah _) _
              have Gg:=aX.out.below hba
              have hown:(W4.alloc (.cells #[.string nm,.string vl,.bool nv] 26)).ownsRow 0 26 3 (.slice Av st.length cv) st.length (fds st):=by rw[←n_.out];exact (Gg.pick [_,_]).head
              refine dQ (.tmp 210) (.tmp 212) j3 rfl rfl hown rfl (Rd.rC _ _ _ _ _) rfl (by simp[Value.oneCell']) (bn (by omega)) (by omega) (aL _) ?_
              intro v9 w9 bR dP mF
              rw[←n_.out] at dP mF
              obtain⟨aU,eu⟩:=(Gg.pick [_,_]).app bR dP mF
              obtain⟨yj,xy,eD,-,-,-,-⟩:=aC bR
              subst eD
              have aU:=aU.aP [1,4,4,3,4]
              have aU:=All.init (l:=[_,_,_,_]) (r:=[_]) aU
              have f9:=LH aU.head 4
              have q9:=(C_ aU.head).2.2.2.2
              obtain⟨h1,h2⟩:=aU.set 4 (.slice yj (st.length+1) xy)
              have e9:aD 26 3 (.slice yj (st.length+1) xy) (st.length+1) (fds st++[.string nm,.string vl,.bool nv])=lM (.slice yj (st.length+1) xy) (st++[((nm,vl),nv)]):=by
               unfold lM
               rw[aN,oP]
               rfl
              rw[e9] at h1
              have HN:Hid (FW q g n w l m sc LX pt (.slice Ac nc cc) (.int .i64 (k+1:Nat)) (.bool mt) (w9.setCell ⟨g,4,none⟩ (.slice yj (st.length+1) xy))):=af (by
               refine⟨k+1,.slice yj (st.length+1) xy,rfl,by rw[gL.out,aaO HP.out Fe.out zL.out],hlt,?_,((dz.out.trans (hba.mono aX.out.sz)).trans eu).trans h2⟩
               rw[gL.out,aaO HP.out Fe.out zL.out]
               exact h1)
              clear hba Gg hown bR dP mF aU eu h1 h2 e9 g4
              go_wp2
              go_roundw
              case rel=>exact HN.out
              case measure=>simp[intOf];omega
              --ENDLEAF6
          ·have hkn:k=n:=by omega
           as_aux_lemma=>
           subst hkn
           have hall:(x_ l k).1=jw (bV G.2):=by
            unfold x_
            rw[cB (by have:=dX.out;omega),aiH]
            unfold nT
            rw[←zK.out.1]
           rw[hall] at HA
           clear hall
           obtain⟨r0,r1,r2,r3,r4⟩:=C_ HA.out.head
           obtain⟨CF,hCF⟩:∃CF,jw (bV G.2)=CF:=⟨_,rfl⟩
           have HRG:Hid (R=(⟨m,sc,LX,pt,CF⟩,0)):=af (by rw[HRF.out,hCF])
           rw[hCF] at HA
           obtain⟨Av,cv,hv,-,-,-,-⟩:=aC (HA.out.pick [_]).head
           obtain⟨nf,hnf⟩:∃k,CF.length=k:=⟨_,rfl⟩
           rw[hnf] at hv
           subst hv
           have Fj:=af hnf
           clear hCF hnf
           have hz2:wr.heap[q]?=some (.cells eX 60 (0,0)):=(HA.out.pick [_,_,_]).head
           --LEAF7
           go_upto_region 37 with fail
           have hgR:wr.heap[g]?=some (.cells #[.string m,.string sc,.string LX,.string pt,.slice Av nf cv] 60 (0,0)):=HA.out.head
           obtain⟨h1,h2⟩:=(HA.out.pick [_,_,_]).whole #[.string m,.string sc,.string LX,.string pt,.slice Av nf cv]
           have h3:=h1.pick [_,_]
           have sQ:=af h3
           have HEND2:=af h2
           clear h1 h2 h3
           refine wp_region_lit ?_
           refine wpList_load_row rfl 60 (.tmp 11) rfl g (by kernel_rfl) 60 #[.string m,.string sc,.string LX,.string pt,.slice Av nf cv] (0,0) _ hgR Tryz.underlying60 rfl mJ ?_
           refine wpList_store_rowTo rfl 60 (.tmp 2) (.tmp 215) rfl rfl q #[.string m,.string sc,.string LX,.string pt,.slice Av nf cv] (by kernel_rfl) (by kernel_rfl) 60 eX hz2 mJ rfl (by simp[Value.oneCell']) ?_
           refine wpList_plain rfl fun K9 hK9=>?_
           refine Go.BigFrame.wp_assign (.const (.int .i64 0)) rfl (hK9 _ _ ?_)
           refine wpList_nil ?_
           unfold Exit.then
           apply_assumption
           refine wp_ret ?_
           refine bodyPost_ret (v:=.tuple #[.agg #[.string m,.string sc,.string LX,.string pt,.slice Av nf cv],.int .i64 0]) ?_ (by kernel_rfl) ?_
           ·refine Eq.trans (IU (by kernel_rfl) (setRow_heap _ _ _ _ _ _ hz2) rfl) (by kernel_rfl)
           unfold FV
           rw[HRG.out]
           refine⟨.slice Av nf cv,0,rfl,by simp,?_,?_⟩
           ·rw[HQ.out]
            exact ZM sQ.out.head (fun j hj=>sQ.out.base _ (iK ..) j hj)
           ·rw[HQ.out]
            exact HB.out.trans HEND2.out
           --ENDLEAF7
 ·have ee:((e1:Int)==0)=false:=by rw[fO];omega
  as_aux_lemma=>
  have lT:Hid (R=(jR,e1)):=af (by rw[←cz.out];unfold aS;dsimp only;rw[HG.out];rw[ax h0])
  have hz2:w2.heap[q]?=some (.cells eX 60 (0,0)):=(bY.out.pick [_]).head
  obtain⟨y0,y1,y2,y3,y4⟩:=G5 (R:=jR) (v:=.slice none 0 0) bY.out.head
  go_wp2_with (first
   | (refine wpList_store_rowTo rfl 60 (.tmp 2) (.tmp 23) rfl rfl q #[.string ⟨#[]⟩,.string ⟨#[]⟩,.string ⟨#[]⟩,.string ⟨#[]⟩,.slice none 0 0] (by kernel_rfl) (by kernel_rfl) 60 eX hz2 mJ rfl (by simp[Value.oneCell']) ?_))
  refine bodyPost_ret (IU rfl (setRow_heap _ _ _ _ _ _ hz2) rfl) rfl ?_
  rw[lT.out,←HQ.out]
  refine⟨.slice none 0 0,(e1:Int),rfl,by show ((e1:Int)=0↔e1=0);omega,xW ?_⟩
  rw[HQ.out]
  exact yI aI.out (ah _)
end
end Go.Proofs.YtpkmciohehaboaaGreatDoor
