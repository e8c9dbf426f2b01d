/- Part 16 of the proof. -/
import Derived.Test.YtpkmciohehaboaaGreatDoorK0
import Derived.Test.YtpkmciohehaboaaGreatDoorK14
import Derived.Test.YtpkmciohehaboaaGreatDoorK15
set_option maxRecDepth 100000
set_option maxHeartbeats 100000000
set_option linter.unusedVariables false
set_option linter.unusedSimpArgs false
set_option linter.unusedSectionVars false
set_option linter.unnecessarySimpa false
namespace Go.Proofs.YtpkmciohehaboaaGreatDoor
section
open Go.RowKit
def unf (f:Fd):Fd:=(f.1,false)
def unfG (G:Gt):Gt:=(G.1,G.2.map unf)
theorem aco (names:List ByteArray) (G:Gt) (f:Fd):gN names (unfG G) (unf f)=(unfG (gN names G f).1,(gN names G f).2):=by
 unfold gN unfG
 have h1:xX (unf f)=xX f:=rfl
 have h2:(unf f).1=f.1:=rfl
 have h3:(G.2.map unf).isEmpty=G.2.isEmpty:=by cases G.2 <;> rfl
 dsimp only
 rw[h1,h2,h3]
 by_cases hp:gy f.1.1=true
 ·rw[ax hp,ax hp]
  split <;> rfl
 ·rw[aj hp,aj hp]
  split
  ·simp
  ·rfl
theorem Yq (names:List ByteArray):∀(l:List Fd) (G:Gt),bG names (unfG G) (l.map unf)=(unfG (bG names G l).1,(bG names G l).2)
 | [],G=>rfl
 | f :: l,G=>by
  rw[lV,bG,bG,aco]
  dsimp only
  by_cases h:(gN names G f).2=0
  ·rw[ax h,ax h,Yq names l]
  ·rw[aj h,aj h]
theorem abo (l:List Fd) (j:ByteArray):aF (l.map unf) j=aF l j:=by
 induction l with
 | nil=>rfl
 | cons f l ih=>
  unfold aF at ih ⊢
  rw[lV,List.filter_cons,List.filter_cons]
  have h:(unf f).1=f.1:=rfl
  rw[h]
  by_cases e:f.1.1=j
  ·simp[e,ih,h]
  ·simp[e,ih]
theorem SG (l:List Fd):dn (l.map unf)=dn l:=by unfold dn;rw[abo]
theorem ahA (l:List Fd):bV (l.map unf)=(bV l).map unf:=by
 unfold bV
 rw[List.filter_map]
 rfl
theorem Zp (h:Fd→Fd) (hh:∀x,h (unf x)=unf (h x)):∀(s:List Fd) (i:Nat),(s.map unf).modify i h=(s.modify i h).map unf
 | [],i=>by simp
 | x :: s,0=>by simp[hh]
 | x :: s,i+1=>by simp[Zp h hh s i]
def cookG (v:ByteArray) (g:Fd):Fd:=((g.1.1,if v≠⟨#[]⟩∧g.1.2≠⟨#[]⟩ then g.1.2++KG++v else g.1.2++v),g.2)
theorem ads (s:List Fd×Option Nat) (f:Fd):fJ (s.1.map unf,s.2) (unf f)=((fJ s f).1.map unf,(fJ s f).2):=by
 obtain⟨s,o⟩:=s
 unfold fJ
 dsimp only
 have h:(unf f).1=f.1:=rfl
 rw[h]
 by_cases hf:f.1.1=bK
 ·rw[aj (not_not_intro hf),aj (not_not_intro hf)]
  cases o with
  | none=>simp
  | some i=>
   dsimp only
   refine Prod.ext ?_ rfl
   exact Zp (cookG f.1.2) (fun x=>rfl) s i
 ·rw[ax hf,ax hf]
  simp
theorem XT:∀(l:List Fd) (s:List Fd×Option Nat),(l.map unf).foldl fJ (s.1.map unf,s.2)=((l.foldl fJ s).1.map unf,(l.foldl fJ s).2)
 | [],s=>rfl
 | f :: l,s=>by
  rw[lV,nD,nD,ads]
  exact XT l _
theorem adp (l:List Fd):jw (l.map unf)=(jw l).map unf:=by
 unfold jw
 have h:=XT l ([],none)
 rw[vU] at h
 rw[h]
def unfR (R:Rq):Rq:={ R with fields:=R.fields.map unf }
theorem aah (l:List Fd):aS (l.map unf)=(unfR (aS l).1,(aS l).2):=by
 have hg:=Yq jb l Gt.none
 rw[show unfG Gt.none=Gt.none from rfl] at hg
 unfold aS
 dsimp only
 rw[hg]
 obtain⟨⟨G,e⟩,hG⟩:∃x,bG jb Gt.none l=x:=⟨_,rfl⟩
 rw[hG]
 dsimp only
 have g1:∀k,gZ (unfG G) k=gZ G k:=fun k=>rfl
 have g2:(unfG G).1=G.1:=rfl
 have g3:(unfG G).2=G.2.map unf:=rfl
 rw[g1,g1,g1,g2,g3,abo,ahA,SG,adp]
 split
 ·rfl
 ·split
  ·rfl
  ·split
   ·rfl
   ·split
    ·rfl
    ·rfl
theorem Ti (l:List Fd):(aS (l.map told)).2=(aS l).2∧unfR (aS (l.map told)).1=unfR (aS l).1:=by
 have h1:=aah (l.map told)
 rw[List.map_map,show unf ∘ told=unf from rfl,aah] at h1
 exact⟨(congrArg Prod.snd h1).symm,(congrArg Prod.fst h1).symm⟩
theorem abu (l:List Fd) (ns:List ByteArray):dJ (l.map unf) ns=(dJ l ns).map unf:=by
 unfold dJ
 rw[List.filter_map]
 rfl
theorem ab_ (l:List Fd) (n:ByteArray):rU (l.map unf) n=rU l n:=by
 unfold rU oG
 rw[List.filter_map,List.map_map]
 rfl
theorem aiS (l:List Fd):fG (l.map unf)=(fG l).map unf:=by unfold fG;rw[ab_,abu]
theorem Zi (R:Rq) (body who:ByteArray):wN (rz (unfR R) body who)=wN (rz R body who):=by
 unfold wN rz unfR
 dsimp only
 rw[aiS,abu]
 simp[cO,unf,Function.comp_def]
theorem afD (l:List Fd) (body who:ByteArray):wN (rz (aS (l.map told)).1 body who)=wN (rz (aS l).1 body who):=by
 rw[←Zi,(Ti l).2,Zi]
theorem afg (l:List Fd):dn (aS (l.map told)).1.fields=dn (aS l).1.fields:=by
 rw[←SG,←SG (aS l).1.fields]
 exact congrArg (fun R:Rq=>dn R.fields) (Ti l).2
theorem ajk {l:List UInt8}:jl l=l↔∀c ∈ l.head?.toList++l.getLast?.toList,di c=false:=by
 have hd:∀l:List UInt8,l.dropWhile di=l↔∀c ∈ l.head?,di c=false:=by
  intro l
  cases l with
  | nil=>simp
  | cons c r=>
   cases hb:di c with
   | true=>
    rw[List.dropWhile_cons_of_pos hb]
    simp only[List.head?_cons,Option.mem_def,Cg,forall_eq']
    constructor
    ·intro h
     have:=congrArg List.length h
     have h2:=(yB di (l:=r)).length_le
     simp only[fe] at this
     omega
    ·intro h;rw[hb] at h;cases h
   | false=>rw[List.dropWhile_cons_of_neg (by rw[hb];decide)];simp[hb]
 rw[KO]
 constructor
 ·intro h
  have e1:l.dropWhile di=l:=by
   have h1:=(yB di (l:=l))
   have h2:=(yB di (l:=(l.dropWhile di).reverse)).length_le
   have h3:=congrArg List.length h
   rw[List.length_reverse] at h2 h3
   exact h1.eq_of_length (by have:=h1.length_le;omega)
  rw[e1] at h
  have e2:l.reverse.dropWhile di=l.reverse:=by
   have:=congrArg List.reverse h
   rwa [List.reverse_reverse] at this
  intro c hc
  rcases List.mem_append.1 hc with hc | hc
  ·exact (hd l).1 e1 c (by simpa using hc)
  ·exact (hd _).1 e2 c (by simpa using hc)
 ·intro h
  have e1:l.dropWhile di=l:=(hd l).2 fun c hc=>h c (List.mem_append_left _ (by simpa using hc))
  have e2:l.reverse.dropWhile di=l.reverse:=(hd _).2 fun c hc=>h c (List.mem_append_right _ (by simpa using hc))
  rw[e1,e2,List.reverse_reverse]
theorem abn {l:List UInt8}:iI l=true↔jl l=l∧∀c ∈ l,ni c=true:=by
 unfold iI
 rw[pI,tC,tQ]
 exact⟨fun h=>⟨abg h.1,h.2⟩,fun h=>⟨by rw[h.1],h.2⟩⟩
theorem Y8 {a b:List UInt8}(h:b≠[]):(a++b).getLast?=b.getLast?:=by
 rw[List.getLast?_append]
 cases hb:b.getLast? with
 | none=>exact absurd (List.getLast?_eq_none_iff.1 hb) h
 | some x=>rfl
theorem abm {a b m:List UInt8}(ha:iI a=true) (hb:iI b=true) (hm:∀c ∈ m,ni c=true) (h:(a≠[]∧b≠[])∨m=[]):iI (a++m++b)=true:=by
 rw[abn,ajk] at ha hb ⊢
 obtain⟨a1,a2⟩:=ha
 obtain⟨b1,b2⟩:=hb
 refine⟨fun c hc=>?_,fun c hc=>?_⟩
 ·rcases h with ⟨h1,h2⟩ | rfl
  ·rcases List.mem_append.1 hc with hc | hc
   ·refine a1 c (List.mem_append_left _ ?_)
    cases a with
    | nil=>exact absurd rfl h1
    | cons x r=>simpa using hc
   ·refine b1 c (List.mem_append_right _ ?_)
    rwa [Y8 h2] at hc
  ·rw[kR] at hc
   rcases List.mem_append.1 hc with hc | hc
   ·cases a with
    | nil=>exact b1 c (List.mem_append_left _ (by simpa using hc))
    | cons x r=>exact a1 c (List.mem_append_left _ (by simpa using hc))
   ·cases b with
    | nil=>exact a1 c (List.mem_append_right _ (by simpa using hc))
    | cons x r=>
     rw[Y8 (by simp)] at hc
     exact b1 c (List.mem_append_right _ hc)
 ·rcases List.mem_append.1 hc with hc | hc
  ·rcases List.mem_append.1 hc with hc | hc
   ·exact a2 c hc
   ·exact hm c hc
  ·exact b2 c hc
structure vK (f:Fd):Prop where
 tok:iB f.1.1.data.toList=true
 low:aO f.1.1.data.toList=f.1.1.data.toList
 val:iI f.1.2.data.toList=true
 con:nH f.1.1=false
theorem agW {f:Fd}(h:xX f=true):vK f:=by
 unfold xX at h
 simp only[pI,ET,tQ] at h
 exact⟨h.1.1.1.1,h.1.1.1.2,h.1.1.2,h.1.2⟩
theorem adq {s:List Fd×Option Nat}{f:Fd}(hs:∀g ∈ s.1,vK g) (hf:vK f):∀g ∈ (fJ s f).1,vK g:=by
 intro g hg
 unfold fJ at hg
 split at hg
 ·rcases List.mem_append.1 hg with hg | hg
  ·exact hs g hg
  ·rw[List.mem_singleton.1 hg];exact hf
 ·cases ho:s.2 with
  | none=>
   rw[ho] at hg
   rcases List.mem_append.1 hg with hg | hg
   ·exact hs g hg
   ·rw[List.mem_singleton.1 hg];exact hf
  | some i=>
   rw[ho] at hg
   dsimp only at hg
   rw[List.mem_iff_getElem?] at hg
   obtain⟨j,hj⟩:=hg
   rw[List.getElem?_modify] at hj
   cases hx:s.1[j]? with
   | none=>rw[hx] at hj;cases hj
   | some x=>
    rw[hx] at hj
    have hx2:=hs x (fq hx)
    have hj:some (if i=j then _ else x)=some _:=hj
    by_cases hij:i=j
    ·rw[ax hij] at hj
     have e:=qI hj
     subst e
     refine⟨hx2.tok,hx2.low,?_,hx2.con⟩
     dsimp only
     split
     ·rename_i hne
      simp only[ByteArray.data_append,Array.toList_append]
      refine abm hx2.val hf.val (by decide) (.inl ⟨fun h=>hne.2 ?_,fun h=>hne.1 ?_⟩)
      ·exact Go.WideShapes.bytes_inj h
      ·exact Go.WideShapes.bytes_inj h
     ·simp only[ByteArray.data_append,Array.toList_append]
      have:=abm (m:=[]) hx2.val hf.val (by simp) (.inr rfl)
      rwa [kR] at this
    ·rw[aj hij] at hj
     have e:=qI hj
     subst e
     exact hx2
theorem XQ:∀(l:List Fd) (s:List Fd×Option Nat),(∀g ∈ s.1,vK g)→(∀g ∈ l,vK g)→∀g ∈ (l.foldl fJ s).1,vK g
 | [],s,hs,_=>hs
 | f :: l,s,hs,hl=>XQ l (fJ s f) (adq hs (hl f (iK ..))) fun g hg=>hl g (fH _ hg)
theorem Yn {names:List ByteArray}:∀(l:List Fd) (G:Gt),(∀f ∈ G.2,vK f)→∀f ∈ (bG names G l).1.2,vK f
 | [],G,h=>h
 | f :: l,G,h=>by
  have h1:∀g ∈ (gN names G f).1.2,vK g:=by
   intro g hg
   unfold gN at hg
   split at hg
   ·split at hg <;> exact h g hg
   ·split at hg
    ·rename_i hp
     rcases List.mem_append.1 hg with hg | hg
     ·exact h g hg
     ·rw[List.mem_singleton.1 hg];exact agW hp
    ·exact h g hg
  rw[bG]
  split
  ·exact Yn l _ h1
  ·exact h1
theorem Tf (l:List Fd):∀f ∈ (aS l).1.fields,vK f:=by
 unfold aS
 dsimp only
 split
 ·intro f hf;cases hf
 ·split
  ·intro f hf;cases hf
  ·split
   ·intro f hf;cases hf
   ·split
    ·intro f hf;cases hf
    ·refine XQ _ _ (fun g hg=>by cases hg) fun g hg=>?_
     exact Yn (names:=jb) l Gt.none (fun f hf=>by cases hf) g (List.mem_filter.1 hg).1
end
section
open Go.RowKit
theorem afA (l:List UInt8):(aO l).length=l.length:=by simp[aO]
end
section
open Go.RowKit
theorem XO {s:ByteArray}(h:nH s=false) (hl:aO s.data.toList=s.data.toList){c:ByteArray}(hc:c=lg∨c=DI∨c=DJ∨c=oq∨c=DK):dL s.data.toList c.data.toList=false:=by
 unfold nH at h
 rw[decide_eq_false_iff_not] at h
 unfold dL
 rw[decide_eq_false_iff_not]
 intro e
 have e2:aO c.data.toList=c.data.toList:=by rcases hc with rfl | rfl | rfl | rfl | rfl <;> decide +kernel
 rw[hl,e2] at e
 have e3:s=c:=Go.WideShapes.bytes_inj e
 exact h (by rw[e3];exact hc)
theorem Xk:∀c,tK c=true→di (mK c)=false∧ni (mK c)=true:=F6 (p:=fun c=>tK c=true→di (mK c)=false∧ni (mK c)=true) (by decide +kernel)
theorem ag6:∀c,zz c=true→yc c=true:=F6 (p:=fun c=>zz c=true→yc c=true) (by decide +kernel)
theorem acG {t:ByteArray}(h:jW t=true):iI (aJ (aO t.data.toList)).data.toList=true:=by
 unfold jW at h
 rw[pI,tC] at h
 rw[l9,abn]
 constructor
 ·refine abf fun c hc=>?_
  obtain⟨d,hd,rfl⟩:=List.mem_map.1 hc
  exact (Xk d (h.1 d hd)).1
 ·intro c hc
  obtain⟨d,hd,rfl⟩:=List.mem_map.1 hc
  exact (Xk d (h.1 d hd)).2
theorem agM {p m:ByteArray}(h:wR p m=true):qw p.data.toList=true:=by
 unfold wR at h
 unfold qw
 split at h
 ·rename_i e
  rw[e]
  decide +kernel
 ·rw[pI,tC] at h
  rw[pI,tC]
  refine⟨?_,fun c hc=>ag6 c (h.1 c hc)⟩
  cases hp:p.data.toList with
  | nil=>rw[hp] at h;exact absurd h.2 (by decide)
  | cons x r=>rfl
structure AskOk (R:Rq):Prop where
 aW:iB R.aW.data.toList=true
 path:qw R.path.data.toList=true
 ek:iI R.ek.data.toList=true
theorem ZR {a:Option ByteArray}{hs:List ByteArray}(h:(iX a hs).2=0):∃t,t ∈ vZ a hs∧jW t=true∧(iX a hs).1=aJ (aO t.data.toList):=by
 unfold iX at h ⊢
 split at h
 ·cases h
 ·rename_i hn
  rw[aj hn]
  split at h
  ·cases h
  ·rename_i t r e
   rw[e]
   split at h
   ·rename_i hall
    rw[ax hall]
    refine⟨t,iK ..,?_,rfl⟩
    rw[tC] at hall
    have:=hall t (iK ..)
    unfold oF at this
    rw[pI] at this
    exact this.1
   ·cases h
theorem aaj {l:List Fd}(h:(aS l).2=0):∃G,bG jb Gt.none l=(G,0)∧pW (gZ G kz) (gZ G kV) (gZ G kC)=false∧(iX (G.1 iM) (aF G.2 aG)).2=0 ∧
 (aS l).1=⟨gZ G kz,gZ G kV,(iX (G.1 iM) (aF G.2 aG)).1,gZ G kC,jw (bV G.2)⟩:=by
 unfold aS at h ⊢
 dsimp only at h ⊢
 obtain⟨⟨G,e⟩,hG⟩:∃x,bG jb Gt.none l=x:=⟨_,rfl⟩
 rw[hG] at h ⊢
 dsimp only at h ⊢
 split at h
 ·rename_i he;exact absurd h he
 ·rename_i he
  have yZ:e=0:=by omega
  subst yZ
  rw[aj he]
  split at h
  ·cases h
  ·rename_i hb
   rw[aj hb]
   split at h
   ·rename_i hp;exact absurd h hp
   ·rename_i hp
    rw[aj hp]
    split at h
    ·cases h
    ·rename_i hl
     rw[aj hl]
     exact⟨G,rfl,by simpa using hb,by omega,rfl⟩
theorem ahp {l:List Fd}(h:(aS l).2=0):AskOk (aS l).1:=by
 obtain⟨G,-,hb,hp,hR⟩:=aaj h
 obtain⟨t,-,ht,ha⟩:=ZR hp
 unfold pW at hb
 simp only[EU,Bool.not_eq_false'] at hb
 rw[hR]
 refine⟨hb.1.1.1,agM hb.2,?_⟩
 dsimp only
 rw[ha]
 exact acG ht
theorem afI {l:List Fd}(h:(aS l).2=0) (body who:ByteArray) (hw:iI ((⟨#[50,32]⟩:ByteArray)++who).data.toList=true):qg (rz (aS l).1 body who)=true:=by
 have ha:=ahp h
 have hg:=Tf l
 unfold qg rz
 dsimp only
 rw[ha.aW,ha.path,Bool.and_true,Bool.and_true,tC]
 intro f hf
 unfold Ez
 rcases List.mem_append.1 hf with hf | hf
 ·rcases List.mem_append.1 hf with hf | hf
  ·rw[List.mem_singleton.1 hf]
   dsimp only
   rw[ha.ek,show iB aG.data.toList=true by decide +kernel,show wu aG=false by decide +kernel]
   rfl
  ·unfold dJ at hf
   obtain⟨h1,h2⟩:=List.mem_filter.1 hf
   obtain⟨h3,h4⟩:=KI h1
   have hgf:=hg f h3
   have hcl:dL bu.data.toList f.1.1.data.toList=false:=by
    simp only[List.any_cons,List.any_nil,Bool.or_false,ET,EU] at h2
    exact h2.1
   have hte:dL oq.data.toList f.1.1.data.toList=false:=h4 oq (by simp[nine])
   have hfr:wu f.1.1=false:=by
    unfold wu
    rw[KD,hcl,KD,hte]
    rfl
   rw[hgf.tok,hgf.val,hfr]
   rfl
 ·rw[List.mem_singleton.1 hf]
  dsimp only
  rw[hw,show iB rG.data.toList=true by decide +kernel,show wu rG=false by decide +kernel]
  rfl
structure Jo (R:Rq):Prop where
 aW:R.aW.size≤10000
 path:R.path.size≤10000
 ek:R.ek.size≤10000
 no:R.fields.length≤1000
 each:∀f ∈ R.fields,f.1.1.size≤10000∧f.1.2.size≤10000
theorem XR {P:ByteArray→Prop}:∀(l:List Fd) (s:List Fd×Option Nat),(∀g ∈ s.1,P g.1.1)→(∀g ∈ l,P g.1.1)→∀g ∈ (l.foldl fJ s).1,P g.1.1
 | [],s,hs,_=>hs
 | f :: l,s,hs,hl=>by
  refine XR l (fJ s f) (fun g hg=>?_) fun g hg=>hl g (fH _ hg)
  have hf:=hl f (iK ..)
  unfold fJ at hg
  split at hg
  ·rcases List.mem_append.1 hg with hg | hg
   ·exact hs g hg
   ·rw[List.mem_singleton.1 hg];exact hf
  ·cases ho:s.2 with
   | none=>
    rw[ho] at hg
    rcases List.mem_append.1 hg with hg | hg
    ·exact hs g hg
    ·rw[List.mem_singleton.1 hg];exact hf
   | some i=>
    rw[ho] at hg
    dsimp only at hg
    rw[List.mem_iff_getElem?] at hg
    obtain⟨j,hj⟩:=hg
    rw[List.getElem?_modify] at hj
    cases hx:s.1[j]? with
    | none=>rw[hx] at hj;cases hj
    | some x=>
     rw[hx] at hj
     have hx2:=hs x (fq hx)
     have hj:some (if i=j then _ else x)=some _:=hj
     by_cases hij:i=j
     ·rw[ax hij] at hj
      have e:=qI hj
      subst e
      exact hx2
     ·rw[aj hij] at hj
      have e:=qI hj
      subst e
      exact hx2
theorem Nf (p:Fd→Bool) (l:List Fd):jm (l.filter p)≤jm l:=by
 unfold jm
 induction l with
 | nil=>exact ah _
 | cons f l ih=>
  rw[List.filter_cons]
  split
  ·simp only[lV,List.sum_cons];omega
  ·simp only[lV,List.sum_cons];omega
theorem Yr {names:List ByteArray}:∀(l:List Fd) (G:Gt),jm (bG names G l).1.2≤jm G.2+jm l
 | [],G=>Nat.le_add_right _ _
 | f :: l,G=>by
  have e1:jm (f :: l)=f.1.2.size+2+jm l:=by simp[jm]
  have e2:jm (G.2++[f])=jm G.2+(f.1.2.size+2):=by simp[jm]
  have h1:jm (gN names G f).1.2≤jm G.2+(f.1.2.size+2):=by
   unfold gN
   split
   ·split <;> exact Nat.le_add_right _ _
   ·split
    ·exact Nat.le_of_eq e2
    ·exact Nat.le_add_right _ _
  rw[bG]
  split
  ·have:=Yr (names:=names) l (gN names G f).1
   omega
  ·omega
theorem V8 (l:List Fd):jm l≤jZ l:=by
 unfold jm jZ
 induction l with
 | nil=>exact ah _
 | cons f l ih=>simp only[lV,List.sum_cons];unfold cost at ih ⊢;omega
theorem aaT (f:Fd) (l:List Fd):jZ (f :: l)=f.1.1.size+f.1.2.size+32+jZ l:=by simp[jZ,cost]
theorem BG {l:List Fd}{f:Fd}(h:f ∈ l):f.1.1.size+f.1.2.size≤jZ l:=by
 induction l with
 | nil=>cases h
 | cons g l ih=>
  rw[aaT]
  rcases List.mem_cons.1 h with rfl | h
  ·omega
  ·have:=ih h;omega
theorem M0 (l:List Fd):l.length*32≤jZ l:=by
 induction l with
 | nil=>exact aL _
 | cons g l ih=>rw[aaT,fe];omega
theorem ZF {o:Option ByteArray}{n:Nat}(h:∀v,o=some v→v.size≤n):(o.getD ⟨#[]⟩).size≤n:=by
 cases o with
 | none=>exact aL _
 | some v=>exact h v rfl
theorem Tg {l:List Fd}(hs:jZ l≤10000):Jo (aS l).1:=by
 by_cases h:(aS l).2=0
 ·obtain⟨G,hG,-,hp,hR⟩:=aaj h
  obtain⟨hg1,hg2⟩:=OM l G hG
  have hv:∀j v,G.1 j=some v→v.size≤10000:=by
   have:=(L6 (names:=jb) (P:=fun s=>s.size≤10000) (Q:=fun _=>True) l Gt.none (fun f hf=>⟨by have:=BG hf;omega,trivial⟩) (fun j v h=>by cases h) (fun f hf=>trivial)).1
   rw[hG] at this
   exact this
  obtain⟨t,ht,-,ha⟩:=ZR hp
  have hts:t.size≤10000:=by
   unfold vZ at ht
   rcases List.mem_append.1 ht with ht | ht
   ·obtain⟨f,hf,rfl⟩:=I_ ht
    rw[hg1] at hf
    have:=BG (List.mem_filter.1 hf).1
    omega
   ·exact hv iM t (by simpa using ht)
  have ko:=XJ (bV G.2)
  have hvs:jm (bV G.2)≤10000:=by
   have h1:=Nf (fun f=>!decide (f.1.1=aG)) G.2
   have h2:=Nf (fun g=>!gy g.1.1) l
   rw[←hg1] at h2
   have h3:=V8 l
   unfold bV
   omega
  rw[hR]
  refine⟨ZF fun v h=>hv _ v h,ZF fun v h=>hv _ v h,?_,?_,fun f hf=>⟨?_,?_⟩⟩
  ·dsimp only
   rw[ha,pz,afA]
   exact hts
  ·have h1:=ko.len
   have h2:(bV G.2).length≤G.2.length:=List.length_filter_le _ _
   have h3:G.2.length≤l.length:=by rw[hg1];exact List.length_filter_le _ _
   have h4:=M0 l
   show (jw (bV G.2)).length≤_
   unfold jw
   omega
  ·refine XR (P:=fun s=>s.size≤10000) (bV G.2) ([],none) (fun g hg=>by cases hg) (fun g hg=>?_) f hf
   have h1:=(List.mem_filter.1 hg).1
   rw[hg1] at h1
   have:=BG (List.mem_filter.1 h1).1
   omega
  ·have:=ko.sz f hf
   omega
 ·have hno:(aS l).1=jR:=by
   unfold aS at h ⊢
   dsimp only at h ⊢
   split
   ·rfl
   ·split
    ·rfl
    ·split
     ·rfl
     ·split
      ·rfl
      ·rename_i h1 h2 h3 h4
       rw[aj h1,aj h2,aj h3,aj h4] at h
       exact absurd rfl h
  rw[hno]
  exact⟨aL _,aL _,aL _,aL _,fun f hf=>by cases hf⟩
theorem aaU (l:List Fd):jZ (l.map told)=jZ l:=by
 unfold jZ
 rw[List.map_map]
 rfl
theorem Jo.tx {R:Rq}(h:Jo R):Tx R.fields:=fun f hf=>by have:=h.each f hf;omega
end
section
open Go.RowKit Go.Maps
def WX (l:List UInt8) (n:Nat) (iv:Value):Prop:=∃k:Nat,iv = .int .i64 k∧k≤n∧(l.take k).all yc=true
theorem ai9 (s:ByteArray) (w:World) (hs:s.size≤140737488355328):Calls Tryz.prog 107 #[.string s] w fun e w'=>e = .returned (.bool (qw s.data.toList))∧w=w':=by
 obtain⟨R,hR⟩:∃R,qw s.data.toList=R:=⟨_,rfl⟩
 rw[hR]
 unfold qw at hR
 have aQ:=lX s
 have hlen:=gJ s
 obtain⟨l,hl⟩:∃l,s.data.toList=l:=⟨_,rfl⟩
 rw[hl] at aQ hlen hR
 obtain⟨n,hn⟩:∃n,s.size=n:=⟨_,rfl⟩
 have HL:=af (And.intro hlen hl)
 have HR:=af hR
 have HN:=af hn
 have HG:=af aQ
 clear hlen hl hR hn aQ
 go_enter Tryz.func107,Tryz.ntmps107
 go_wp2_with fail
 go_loop [6] (fun iv=>WX l n iv) (fun iv=>n-(intOf iv).toNat)
 case atStart=>exact⟨0,rfl,aL _,rfl⟩
 case round=>
  obtain⟨k,rfl,hk,hall⟩:=hrel
  have dM:=af hall
  clear hall
  by_cases hlt:k<n
  ·have hks:k<s.size:=by have:=HN.out;omega
   have hkl:k<l.length:=by rw[HL.out.1];exact hks
   have k1:(k:Int)<s.size:=by omega
   have h_:=HG.out k hks
   have hb:ba l k=(l[k]).toNat:=kH hkl
   have HB:=af hb
   obtain⟨c,hc⟩:∃c,ba l k=c:=⟨_,rfl⟩
   rw[hc] at h_
   have HC:=af hc
   have cZ:Hid (¬(33≤c∧c≤126)→R=false):=af (fun h=>by
    rw[←HR.out,xu hkl (by unfold yc;rw[←HB.out,HC.out];simp;omega),De])
   clear hb hc
   by_cases Cm:c<33
   ·have i1:(c:Int)<33:=by omega
    have hr:=cZ.out (by omega)
    subst hr
    go_wp2
    go_ret
    exact⟨rfl,rfl⟩
   ·have i1:¬((c:Int)<33):=by omega
    by_cases OP : 126<c
    ·have i2:(c:Int) > 126:=by omega
     have hr:=cZ.out (by omega)
     subst hr
     go_wp2
     go_ret
     exact⟨rfl,rfl⟩
    ·have i2:¬((c:Int) > 126):=by omega
     have HE:Hid (WX l n (.int .i64 (k+1:Nat))):=af ⟨k+1,rfl,hlt,v_ dM.out hkl (by unfold yc;rw[←HB.out,HC.out];simp;omega)⟩
     go_wp2
     go_round
     case rel=>exact HE.out
     case measure=>simp[intOf];have:=HN.out;omega
  ·have hkn:k=s.size:=by have:=HN.out;omega
   have hr:(s.toList == []) = !R:=by
    have h1:=dM.out
    rw[cB (by rw[HL.out.1];omega)] at h1
    rw[←HR.out,h1,Bool.and_true]
    cases hle:l with
    | nil=>
     have GI:s=⟨#[]⟩:=vG (HL.out.2.trans hle)
     rw[GI]
     decide +kernel
    | cons x r=>
     rw[(wU (s:=s) (by rw[HL.out.2,hle];simp)).1]
     rfl
   obtain⟨X,hX⟩:∃X,(!R)=X:=⟨_,rfl⟩
   rw[hX] at hr
   have HX:=af hX
   clear hX
   subst hkn
   go_wp2
   go_ret
   exact⟨by rw[show R = !X by rw[←HX.out,Bool.not_not]];simp,rfl⟩
theorem aer (s:ByteArray) (w:World) (hs:s.size≤140737488351232):Calls Tryz.prog 105 #[.string s] w fun e w'=>e = .returned (.bool (wu s))∧Below w.heap.size w w':=by
 have H1:=af (KE s bu w (by omega) (by decide +kernel))
 have H2:=af (fun w=>KE s oq w (by omega) (by decide +kernel))
 obtain⟨R,hR⟩:∃R,wu s=R:=⟨_,rfl⟩
 rw[hR]
 unfold wu at hR
 obtain⟨a,ha⟩:∃a,dL s.data.toList bu.data.toList=a:=⟨_,rfl⟩
 obtain⟨b,hb⟩:∃b,dL s.data.toList oq.data.toList=b:=⟨_,rfl⟩
 rw[ha] at H1 hR
 rw[hb] at H2 hR
 have HR:=af hR
 unfold bu at H1
 unfold oq at H2
 clear ha hb hR
 go_enter Tryz.func105,Tryz.ntmps105
 go_wp2_with fail
 refine H1.out.mono ?_
 rintro e w1 ⟨rfl,hb1⟩
 have bH:=af hb1
 clear hb1 H1
 cases a with
 | true=>
  go_wp2
  go_ret
  exact⟨by rw[←HR.out];simp,bH.out⟩
 | false=>
  go_wp2_with fail
  refine (H2.out w1).mono ?_
  rintro e w2 ⟨rfl,hb2⟩
  have aI:=af (bH.out.trans (hb2.mono bH.out.size))
  clear hb2 H2
  go_wp2
  go_ret
  exact⟨by rw[←HR.out];simp,aI.out⟩
theorem Ew {m c:ByteArray}{l:List UInt8}(hl:c.toList=l):(m=c∧(m.toList==l)=true)∨(m≠c∧(m.toList==l)=false):=by
 by_cases h:m=c
 ·exact .inl ⟨h,by rw[pg hl];exact bP h⟩
 ·exact .inr ⟨h,by rw[pg hl];exact bU h⟩
theorem afi (a:gW) (v:Value) (w:World):Calls Tryz.prog 67 #[mP a v] w fun e w'=>e = .returned (.bool (zo a))∧Below w.heap.size w w':=by
 obtain⟨R,hR⟩:∃R,zo a=R:=⟨_,rfl⟩
 rw[hR]
 unfold zo at hR
 obtain⟨m,t,fs,b⟩:=a
 dsimp only at hR
 unfold mP
 dsimp only
 have H0:Hid (Below w.heap.size w (w.alloc (.cells #[.string m,.string t,v,.string b] 68))):=af ((Below.refl _ _).alloc (ah _) _)
 have hb:((b.toList == [])=false∧b≠⟨#[]⟩)∨((b.toList == [])=true∧b=⟨#[]⟩):=by
  by_cases h:b=⟨#[]⟩
  ·exact .inr ⟨by rw[h];decide +kernel,h⟩
  ·exact .inl ⟨(wU (s:=b) (fun e=>h (vG e))).1,h⟩
 rcases hb with ⟨e0,hb⟩ | ⟨e0,hb⟩
 ·have hr:R=true:=by rw[←hR,bP hb];simp
  subst hr
  clear hR hb
  go_enter Tryz.func67,Tryz.ntmps67
  go_wp2
  go_ret
  exact⟨rfl,H0.out⟩
 ·rcases Ew (m:=m) (c:=Z5) (l:=[80,79,83,84]) (by decide +kernel) with ⟨h1,e1⟩ | ⟨h1,e1⟩
  ·have hr:R=true:=by rw[←hR,bP h1];simp
   subst hr
   clear hR hb h1
   go_enter Tryz.func67,Tryz.ntmps67
   go_wp2
   go_ret
   exact⟨rfl,H0.out⟩
  ·rcases Ew (m:=m) (c:=Z9) (l:=[80,85,84]) (by decide +kernel) with ⟨h2,e2⟩ | ⟨h2,e2⟩
   ·have hr:R=true:=by rw[←hR,bP h2];simp
    subst hr
    clear hR hb h1 h2
    go_enter Tryz.func67,Tryz.ntmps67
    go_wp2
    go_ret
    exact⟨rfl,H0.out⟩
   ·rcases Ew (m:=m) (c:=ZN) (l:=[80,65,84,67,72]) (by decide +kernel) with ⟨h3,e3⟩ | ⟨h3,e3⟩
    ·have hr:R=true:=by rw[←hR,bP h3];simp
     subst hr
     clear hR hb h1 h2 h3
     go_enter Tryz.func67,Tryz.ntmps67
     go_wp2
     go_ret
     exact⟨rfl,H0.out⟩
    ·have hr:R=false:=by rw[←hR,bU h1,bU h2,bU h3,bU (fun h=>h hb)];rfl
     subst hr
     clear hR hb h1 h2 h3
     go_enter Tryz.func67,Tryz.ntmps67
     go_wp2
     go_ret
     exact⟨rfl,H0.out⟩
def WC (w:World) (n:Nat) (l:List Fd) (iv:Value) (wr:World):Prop:=∃k:Nat,iv = .int .i64 k∧k≤n∧(l.take k).all Ez=true∧Below w.heap.size w wr
theorem afG {A:Option Addr}{n c:Nat}(a:gW) (w:World) (hr:Rd w w.heap.size 3 A n (fds a.fields)) (hn:n≤1048576) (hz:Tx a.fields) (hm:a.aW.size≤140737488351232) (ht:a.tgt.size≤140737488351232) :
 Calls Tryz.prog 65 #[mP a (.slice A n c)] w fun e w'=>e = .returned (.bool (qg a))∧Below w.heap.size w w':=by
 obtain⟨R,hR⟩:∃R,qg a=R:=⟨_,rfl⟩
 rw[hR]
 unfold qg at hR
 obtain⟨m,t,l,b⟩:=a
 dsimp only at hR hr hz hm ht
 have bf:l.length=n:=by have:=hr.1;rw[jJ] at this;omega
 have dX:=af bf
 have HR:=af hr
 have HZ:=af hz
 have cz:=af hR
 have HTM:=af (fun w=>Nb m w (by omega))
 have Du:=af (fun w=>ai9 t w (by omega))
 have hnew:=heap_alloc_new w (.cells #[.string m,.string t,.slice A n c,.string b] 68)
 obtain⟨W,hW⟩:∃W,w.alloc (.cells #[.string m,.string t,.slice A n c,.string b] 68)=W:=⟨_,rfl⟩
 obtain⟨q,hq⟩:∃q,w.heap.size=q:=⟨_,rfl⟩
 have hbW:Below w.heap.size w W:=by rw[←hW];exact (Below.refl _ _).alloc (ah _) _
 have xO:q<W.heap.size:=by rw[←hW,←hq];simp
 rw[hW,hq] at hnew
 have k0:W.cell? ⟨q,0,none⟩=some (.string m):=by unfold World.cell?;rw[hnew];rfl
 have k1:W.cell? ⟨q,1,none⟩=some (.string t):=by unfold World.cell?;rw[hnew];rfl
 have k2:W.cell? ⟨q,2,none⟩=some (.slice A n c):=by unfold World.cell?;rw[hnew];rfl
 have iD:=af hbW
 have HW:=af (And.intro hW hq)
 unfold mP
 dsimp only
 clear hr hz hm ht hR bf hnew hbW hW
 go_enter Tryz.func65,Tryz.ntmps65
 go_upto_region 1 with fail
 try rw[hq]
 rw[HW.out.1]
 clear hq
 go_wp2_with fail
 go_loopw [8] (fun iv wr=>WC W n l iv wr) (fun iv _=>n-(intOf iv).toNat)
 case atStart=>exact⟨0,rfl,aL _,rfl,Below.refl _ _⟩
 case round=>
  obtain⟨k,rfl,hk,hall,hb⟩:=hrel
  have HO:=af (And.intro hall hb)
  have dZ:=hb.size
  have p0:=(hb.cell (p:=⟨q,0,none⟩) xO).trans k0
  have p1:=(hb.cell (p:=⟨q,1,none⟩) xO).trans k1
  have aY:Below w.heap.size w wr:=iD.out.trans (hb.mono iD.out.size)
  clear hall hb
  by_cases hlt:k<n
  ·obtain⟨-,b,o,rfl,hbl,hc⟩:=mE (HR.out.below aY (ah _)) (by omega)
   obtain⟨f,hf⟩:∃f,l[k]?=some f:=⟨_,a_ (by have:=dX.out;omega)⟩
   obtain⟨z0,z1,z2⟩:=hc k f hf
   have n0:(k:Int)<n:=by omega
   have hfz:=HZ.out f (fq hf)
   have gm:=af (fun w=>Nb f.1.1 w (by omega))
   have BN:=af (fun w=>aer f.1.1 w (by omega))
   have FE:=af (fun w=>abp f.1.2 w (by omega))
   have mO:Hid (Ez f=true→(l.take (k+1)).all Ez=true):=af (fun h=>by rw[Xd hf,HO.out.1,h];rfl)
   have cZ:Hid (Ez f=false→R=false):=af (fun h=>by rw[←cz.out,Js hf h];rfl)
   unfold Ez at mO cZ
   have hbw2:=aY.size
   have rZ:b<wr.heap.size:=by omega
   clear hc hf hfz aY
   obtain⟨⟨nm,vl⟩,nv⟩:=f
   simp only at z0 z1 z2 gm BN FE mO cZ
   obtain⟨x1,hx1⟩:∃x,iB nm.data.toList=x:=⟨_,rfl⟩
   obtain⟨x2,hx2⟩:∃x,wu nm=x:=⟨_,rfl⟩
   obtain⟨x3,hx3⟩:∃x,iI vl.data.toList=x:=⟨_,rfl⟩
   rw[hx1] at gm mO cZ
   rw[hx2] at BN mO cZ
   rw[hx3] at FE mO cZ
   have hnew:=heap_alloc_new wr (.cells #[.string nm,.string vl,.bool nv] 26)
   obtain⟨V,hV⟩:∃V,wr.alloc (.cells #[.string nm,.string vl,.bool nv] 26)=V:=⟨_,rfl⟩
   obtain⟨r,hr⟩:∃r,wr.heap.size=r:=⟨_,rfl⟩
   have hbV:Below wr.heap.size wr V:=by rw[←hV];exact (Below.refl _ _).alloc (ah _) _
   have GH:r<V.heap.size:=by rw[←hV,←hr];simp
   rw[hV,hr] at hnew
   have y0:V.cell? ⟨r,0,none⟩=some (.string nm):=by unfold World.cell?;rw[hnew];rfl
   have y1:V.cell? ⟨r,1,none⟩=some (.string vl):=by unfold World.cell?;rw[hnew];rfl
   have jS:=af (HO.out.2.trans (hbV.mono dZ))
   have HV:=af hV
   clear hx1 hx2 hx3 hnew hV hbV
   go_upto_region 4 with fail
   try rw[hr]
   rw[HV.out]
   clear hr
   go_wp2_with fail
   refine (gm.out V).mono ?_
   rintro e w1 ⟨rfl,rfl⟩
   cases x1 with
   | false=>
    have hr:=cZ.out rfl
    subst hr
    go_wp2
    go_ret
    exact⟨rfl,iD.out.trans (jS.out.mono iD.out.size)⟩
   | true=>
    go_wp2_with fail
    refine (BN.out V).mono ?_
    rintro e w2 ⟨rfl,hb2⟩
    have aI:=af (jS.out.trans (hb2.mono jS.out.size))
    have c1:=(hb2.cell (p:=⟨r,1,none⟩) GH).trans y1
    clear hb2 y0 y1
    cases x2 with
    | true=>
     have hr:=cZ.out rfl
     subst hr
     go_wp2
     go_ret
     exact⟨rfl,iD.out.trans (aI.out.mono iD.out.size)⟩
    | false=>
     go_wp2_with fail
     refine (FE.out w2).mono ?_
     rintro e w3 ⟨rfl,hb3⟩
     have aM:=af (aI.out.trans (hb3.mono aI.out.size))
     clear hb3
     cases x3 with
     | false=>
      have hr:=cZ.out rfl
      subst hr
      go_wp2
      go_ret
      exact⟨rfl,iD.out.trans (aM.out.mono iD.out.size)⟩
     | true=>
      have HE:Hid (WC W n l (.int .i64 (k+1:Nat)) w3):=af ⟨k+1,rfl,hlt,mO.out rfl,aM.out⟩
      go_wp2
      go_roundw
      case rel=>exact HE.out
      case measure=>simp[intOf];omega
  ·have hkn:k=n:=by omega
   have hal:=HO.out.1
   rw[cB (by have:=dX.out;omega)] at hal
   have HBF:=af aY
   have oC:(iB m.data.toList && qw t.data.toList)=R:=by rw[←cz.out,hal,zF]
   obtain⟨x1,hx1⟩:∃x,iB m.data.toList=x:=⟨_,rfl⟩
   obtain⟨x2,hx2⟩:∃x,qw t.data.toList=x:=⟨_,rfl⟩
   rw[hx1] at HTM oC
   rw[hx2] at Du oC
   have fU:=af oC
   subst hkn
   clear hal aY oC hx1 hx2
   go_wp2_with fail
   refine (HTM.out wr).mono ?_
   rintro e w1 ⟨rfl,rfl⟩
   cases x1 with
   | false=>
    go_wp2
    go_ret
    exact⟨by rw[←fU.out];simp,HBF.out⟩
   | true=>
    go_wp2_with fail
    refine (Du.out _).mono ?_
    rintro e w2 ⟨rfl,rfl⟩
    go_wp2
    go_ret
    exact⟨by rw[←fU.out];simp,HBF.out⟩
end
section
open Go.RowKit
structure Ct where
 ty:Nat
 fl:Nat
 st:Nat
 A:Option Addr
 n:Nat
 c:Nat
 code:Nat
 last:Nat
 inc:Nat
def Ct.cells (f:Ct):Array Value:=#[.int .i64 f.ty,.int .i64 f.fl,.int .i64 f.st,.string ⟨#[]⟩,.int .i64 0,.slice f.A f.n f.c,.int .i64 f.code,.int .i64 f.last,.int .i64 f.inc,.int .i64 0,.int .i64 0,.bool false]
def ou (f:Ct):Value:=.agg f.cells
def KT (f:Ct):Prop:=f.A=none∧f.n=0∧f.c=0
def CtK (f:Ct):Prop:=(f.ty=3∧KT f∧f.last=0∧f.inc=0)∨(f.ty=4∧f.code=0∧f.last=0∧f.inc=0)∨(f.ty=7∧KT f∧f.inc=0)∨(f.ty=8∧KT f∧f.code=0∧f.last=0)
def rE (ss:List (Nat×Nat)):List Value:=ss.flatMap fun s=>[.int .i64 (s.1:Int),.int .i64 (s.2:Int)]
structure BH (f:Ct) (ss:List (Nat×Nat)):Prop where
 k:CtK f
 fl:f.fl=0∨f.fl=1
 st:f.st≤2147483647
 code:f.code≤4294967295
 last:f.last≤2147483647
 inc:f.inc≤2147483647
 n:f.n≤100
 len:ss.length=f.n
 ss:∀s ∈ ss,s.1≤65535∧s.2≤4294967295
theorem acJ (f:Ct) (w:World) (hk:CtK f) (hfl:f.fl=0∨f.fl=1) :
 Calls Tryz.prog 152 #[ou f] w fun e w'=>e = .returned (gF ⟨f.ty,f.fl,f.st,⟨#[]⟩,0⟩)∧Below w.heap.size w w':=by
 obtain⟨ty,fl,st,A,n,c,code,last,inc⟩:=f
 unfold CtK KT at hk
 dsimp only at hk hfl
 unfold ou gF
 simp only[Ct.cells,Fr.cells,Int.natCast_zero]
 rcases hk with ⟨rfl,⟨rfl,rfl,rfl⟩,rfl,rfl⟩ | ⟨rfl,rfl,rfl,rfl⟩ | ⟨rfl,⟨rfl,rfl,rfl⟩,rfl⟩ | ⟨rfl,⟨rfl,rfl,rfl⟩,rfl,rfl⟩
 all_goals
  rcases hfl with rfl | rfl
  all_goals
   go_enter Tryz.func152,Tryz.ntmps152
   go_wp2_with fail
   refine bodyPost_ret (results_cell_row rfl _ _ (w.heap.size+1) 52 _ (0,0) _ rfl (AV _ _ _) Tryz.underlying52 rfl IG) rfl ?_
   exact⟨rfl,((Below.refl _ _).alloc (ah _) _).alloc (by simp) _⟩
end
section
open Go.RowKit
theorem aix (ss:List (Nat×Nat)):(rE ss).length=2*ss.length:=by
 unfold rE
 induction ss with
 | nil=>rfl
 | cons s r ih=>simp[ih];omega
theorem aaB:∀{ss:List (Nat×Nat)}{k:Nat}{s:Nat×Nat},ss[k]?=some s→(rE ss)[k*2]?=some (.int .i64 (s.1:Int))∧(rE ss)[k*2+1]?=some (.int .i64 (s.2:Int))
 | [],k,s,h=>by cases h
 | x :: r,0,s,h=>by
  injection h with h
  subst h
  exact⟨rfl,rfl⟩
 | x :: r,k+1,s,h=>by
  have:=aaB (ss:=r) (k:=k) (s:=s) (by simpa using h)
  have e:rE (x :: r) = .int .i64 (x.1:Int) :: .int .i64 (x.2:Int) :: rE r:=rfl
  rw[e,show (k+1)*2=k*2+2 by omega,show k*2+2+1=(k*2+1)+2 by omega]
  simpa using this
theorem aaz {w:World}{B n:Nat}{A:Option Addr}{ss:List (Nat×Nat)}(h:Rd w B 2 A n (rE ss)) (hn : 0<n):ss.length=n∧∃b o,A=some ⟨b,o,none⟩∧b<B∧∀j s,ss[j]?=some s→w.cell? ⟨b,o+j*2,none⟩=some (.int .i64 (s.1:Int))∧w.cell? ⟨b,o+j*2+1,none⟩=some (.int .i64 (s.2:Int)):=by
 have hl:=h.1
 rw[aix] at hl
 obtain⟨b,o,hA,hb,hc⟩:=h.2 (by omega)
 refine⟨by omega,b,o,hA,hb,fun j s hs=>?_⟩
 obtain⟨h1,h2⟩:=aaB hs
 have hj:=(List.getElem?_eq_some_iff.1 hs).1
 exact⟨(hc (j*2) (by omega)).trans h1,by rw[xq];exact (hc (j*2+1) (by omega)).trans h2⟩
structure vI (w:World) (x:Nat) (f:Ct):Prop where
 blk:w.heap[x]?=some (.cells f.cells 52 (0,0))
theorem vI.lt {w:World}{x:Nat}{f:Ct}(h:vI w x f):x<w.heap.size:=(Array.getElem?_eq_some_iff.1 h.blk).1
theorem vI.below {w w':World}{x:Nat}{f:Ct}(h:vI w x f) (hb:Below w.heap.size w w'):vI w' x f:=⟨(hb.block x h.lt).trans h.blk⟩
theorem vI.cells {w:World}{x:Nat}{f:Ct}(h:vI w x f):w.cell? ⟨x,0,none⟩=some (.int .i64 f.ty)∧w.cell? ⟨x,1,none⟩=some (.int .i64 f.fl)∧w.cell? ⟨x,2,none⟩=some (.int .i64 f.st)∧w.cell? ⟨x,3,none⟩=some (.string ⟨#[]⟩)∧w.cell? ⟨x,4,none⟩=some (.int .i64 0)∧w.cell? ⟨x,5,none⟩=some (.slice f.A f.n f.c) ∧
 w.cell? ⟨x,6,none⟩=some (.int .i64 f.code)∧w.cell? ⟨x,7,none⟩=some (.int .i64 f.last)∧w.cell? ⟨x,8,none⟩=some (.int .i64 f.inc)∧w.cell? ⟨x,9,none⟩=some (.int .i64 0)∧w.cell? ⟨x,10,none⟩=some (.int .i64 0)∧w.cell? ⟨x,11,none⟩=some (.bool false):=by
 refine⟨?_,?_,?_,?_,?_,?_,?_,?_,?_,?_,?_,?_⟩ <;> (unfold World.cell?;rw[h.blk];rfl)
def McRel (W:World) (n:Nat) (iv:Value) (wr:World):Prop:=∃k:Nat,iv = .int .i64 (k:Nat)∧k≤n∧Below W.heap.size W wr
theorem afH (f:Ct) (ss:List (Nat×Nat)) (w:World) (hf:BH f ss) (hr:Rd w w.heap.size 2 f.A f.n (rE ss)) :
 Calls Tryz.prog 123 #[ou f] w fun e w'=>e = .returned (.bool true)∧Below w.heap.size w w':=by
 have yo:=af (fun w=>acJ f w hf.k hf.fl)
 have HEM:=af (fun w=>adV ⟨f.ty,f.fl,f.st,⟨#[]⟩,0⟩ w rfl rfl)
 have hty:f.ty≤8:=by have:=hf.k;unfold CtK at this;omega
 have HT:=af hf
 obtain⟨W0,hW0⟩:∃W0,w.alloc (.cells f.cells 52)=W0:=⟨_,rfl⟩
 obtain⟨x,hx⟩:∃x,w.heap.size=x:=⟨_,rfl⟩
 have b0:Below w.heap.size w W0:=by rw[←hW0];exact (Below.refl _ _).alloc (ah _) _
 have kx:vI W0 x f:=⟨by rw[←hW0,←hx];exact aZ _ _⟩
 have HS:=af ((hr.below b0 (ah _)).more b0.size)
 have hn:=hf.n
 have GJ:=hf.ss
 have xe:=af GJ
 have HX:=af hx
 have HB:=af b0
 have HK:=af kx
 have HTY:=af hty
 clear hx b0 kx hf hr GJ hty
 obtain⟨ty,fl,st,A,n,c,code,last,inc⟩:=f
 unfold ou gF at *
 simp only[Ct.cells,Fr.cells] at *
 have dY:=af hW0
 clear hW0
 obtain⟨c0,c1,c2,c3,c4,c5,c6,c7,c8,c9,c10,c11⟩:=HK.out.cells
 simp only at c0 c1 c2 c5 c6 c7 c8
 have hxl:=HK.out.lt
 go_enter Tryz.func123,Tryz.ntmps123
 go_upto_region 1 with fail
 rw[dY.out,HX.out]
 go_wp2_with fail
 go_loopw [4,8] (fun _ iv wr=>McRel W0 n iv wr) (fun _ iv _=>n-(intOf iv).toNat)
 case atStart=>exact⟨0,rfl,aL _,Below.refl _ _⟩
 case round=>
  obtain⟨k,rfl,hk,hb⟩:=hrel
  have wY:=af hb
  have dZ:=hb.size
  by_cases hlt:k<n
  ·obtain⟨hl,b,o,rfl,hbl,hc⟩:=aaz (HS.out.below hb (ah _)) (by omega)
   obtain⟨s,hs⟩:∃s,ss[k]?=some s:=⟨_,a_ (by omega)⟩
   obtain⟨z0,z1⟩:=hc k s hs
   obtain⟨hs1,hs2⟩:=xe.out s (fq hs)
   have n1:(k:Int)<n:=by omega
   have aY:b<wr.heap.size:=by omega
   clear hc hs hb hl
   go_wp2_with fail
   refine (KP (xs:=[(s.1:Int)]) 65535 _ (Rd.GV _ _ _ 1 (k:=wr.heap.size+1) (by simp) rfl) (by omega) (by
    intro x hx
    simp only[qG,xm,or_false] at hx
    subst hx;omega)).mono ?_
   rintro e1 w1 ⟨rfl,rfl⟩
   go_wp2_with fail
   refine (KP (xs:=[(s.2:Int)]) 4294967295 _ (Rd.GV _ _ _ 1 (k:=wr.heap.size+1+1) (by simp) rfl) (by omega) (by
    intro x hx
    simp only[qG,xm,or_false] at hx
    subst hx;omega)).mono ?_
   rintro e1 w1 ⟨rfl,rfl⟩
   go_wp2_with fail
   go_roundw
   case rel=>exact⟨k+1,by go_num,hlt,((wY.out.alloc dZ _).alloc (by simp;omega) _).alloc (by simp;omega) _⟩
   case measure=>simp[intOf];omega
  ·have hkn:k=n:=by omega
   have zL:=af (HK.out.below hb)
   clear hb c0 c1 c2 c3 c4 c5 c6 c7 c8 c9 c10 c11
   obtain⟨c0,c1,c2,c3,c4,c5,c6,c7,c8,c9,c10,c11⟩:=zL.out.cells
   simp only at c0 c1 c2 c5 c6 c7 c8
   have hxl2:=zL.out.lt
   go_wp2_with fail
   refine (KP (xs:=[(ty:Int),(fl:Int),0,0]) 255 _ (Rd.lit wr _ _ 4 rfl) (by omega) (by
    have h1:=HTY.out
    have h2:=HT.out.fl
    simp only at h2
    intro x hx
    simp only[qG,xm,or_false] at hx
    rcases hx with rfl | rfl | rfl | rfl <;> omega)).mono ?_
   rintro e1 w1 ⟨rfl,rfl⟩
   go_wp2_with fail
   refine (KP (xs:=[(st:Int),(last:Int),0,(inc:Int)]) 2147483647 _ (Rd.GV _ _ _ 4 (k:=wr.heap.size+1) (by simp) rfl) (by omega) (by
    have h1:=HT.out.st
    have h2:=HT.out.last
    have h3:=HT.out.inc
    simp only at h1 h2 h3
    intro x hx
    simp only[qG,xm,or_false] at hx
    rcases hx with rfl | rfl | rfl | rfl <;> omega)).mono ?_
   rintro e1 w1 ⟨rfl,rfl⟩
   go_wp2_with fail
   refine LJ ?_
   intro W3 hW3
   have b3:Below wr.heap.size wr W3:=by rw[hW3];exact ((((Below.refl _ wr).alloc (ah _) _).alloc (by simp) _).alloc (by simp;omega) _)
   have hr3:Rd W3 W3.heap.size 1 (some ⟨wr.heap.size+1+1,0,none⟩) 1 (MF [(code:Int)]):=by rw[hW3];exact (Rd.GV _ _ _ 1 (k:=wr.heap.size+1+1) (by simp) rfl).more (by simp)
   have nW:=af (zL.out.below b3)
   have aM:=af (HB.out.trans ((wY.out.trans (b3.mono dZ)).mono HB.out.size))
   clear hW3 b3 c0 c1 c2 c3 c4 c5 c6 c7 c8 c9 c10 c11
   obtain⟨c0,c1,c2,c3,c4,c5,c6,c7,c8,c9,c10,c11⟩:=nW.out.cells
   simp only at c0 c1 c2 c5 c6 c7 c8
   refine (KP (xs:=[(code:Int)]) 4294967295 _ hr3 (by omega) (by
    have h1:=HT.out.code
    simp only at h1
    intro x hx
    simp only[qG,xm,or_false] at hx
    subst hx;omega)).mono ?_
   rintro e1 w1 ⟨rfl,rfl⟩
   go_wp2_with fail
   refine (yo.out _).mono ?_
   rintro e1 w1 ⟨rfl,hb1⟩
   have bH:=af (aM.out.trans (hb1.mono aM.out.size))
   clear hb1 c0 c1 c2 c3 c4 c5 c6 c7 c8 c9 c10 c11 hr3
   go_wp2_with fail
   refine (HEM.out _).mono ?_
   rintro e1 w2 ⟨rfl,hb2⟩
   have aI:=af (bH.out.trans (hb2.mono bH.out.size))
   clear hb2
   go_wp2_with fail
   go_ret
   exact⟨rfl,aI.out⟩
end
section
open Go.RowKit
structure vX (W:World) (q:Nat) (s:Nat×Nat) (v:Value) (l:List UInt8) (w:World):Prop where
 own:b_ w W.heap.size v l
 kp:Below W.heap.size W w
 box:w.heap[q]?=some (.cells #[.int .i64 (s.1:Int),.int .i64 (s.2:Int)] 109 (0,0))
 wq:W.heap.size≤q
 ne:v.ownBlock≠some q
section
variable {W w w':World} {q:Nat} {s:Nat×Nat} {v v3:Value} {l k:List UInt8}
theorem vX.ql (h:vX W q s v l w):q<w.heap.size:=(Array.getElem?_eq_some_iff.1 h.box).1
theorem vX.below (h:vX W q s v l w) (hb:Below w.heap.size w w'):vX W q s v l w':=
 ⟨d_ h.own (Kept.jk (F:=fun _=>False) hb) (fun _ _ h=>h),h.kp.trans (hb.mono h.kp.size),(hb.block q h.ql).trans h.box,h.wq,h.ne⟩
theorem vX.app (h:vX W q s v l w) (hown:w'.ownsRow W.heap.size 5 1 v3 (l.length+k.length) (ak l++ak k)) (hg:w.grownBy w' v.ownBlock) (hb:v3.ownBlock=v.ownBlock∨v3.ownBlock=some w.heap.size):vX W q s v3 (l++k) w' where
 own:=by unfold b_;rw[aN,mU];exact hown
 kp:=Below.app h.kp h.own hg (ah _) h.kp.size
 box:=(hg.block q h.ql (fun e1=>h.ne e1.symm)).trans h.box
 wq:=h.wq
 ne:=by
  rcases hb with hb | hb
  ·rw[hb];exact h.ne
  ·rw[hb];intro e1;injection e1 with e1;have:=h.ql;omega
theorem vX.cells (h:vX W q s v l w):w.cell? ⟨q,0,none⟩=some (.int .i64 (s.1:Int))∧w.cell? ⟨q,1,none⟩=some (.int .i64 (s.2:Int)):=by
 constructor <;> (unfold World.cell?;rw[h.box];rfl)
end
def WK (W:World) (n:Nat) (ov iv:Value) (wr:World):Prop:=∃(k:Nat) (l:List UInt8),iv = .int .i64 (k:Nat)∧k≤n∧b_ wr W.heap.size ov l∧l.length=6*k∧Below W.heap.size W wr
def Jp (W:World) (m:Nat) (e:Ending) (w':World):Prop:=∃l v,e = .returned v∧l.length≤m∧b_ w' W.heap.size v l∧Below W.heap.size W w'
theorem ZP (f:Ct) (ss:List (Nat×Nat)) (w:World) (hf:BH f ss) (h4:f.ty=4) (hr:Rd w w.heap.size 2 f.A f.n (rE ss)) :
 Calls Tryz.prog 124 #[ou f] w (Jp w (6*f.n)):=by
 obtain⟨W0,hW0⟩:∃W0,w.alloc (.cells f.cells 52)=W0:=⟨_,rfl⟩
 obtain⟨x,hx⟩:∃x,w.heap.size=x:=⟨_,rfl⟩
 have b0:Below w.heap.size w W0:=by rw[←hW0];exact (Below.refl _ _).alloc (ah _) _
 have kx:vI W0 x f:=⟨by rw[←hW0,←hx];exact aZ _ _⟩
 have HS:=af ((hr.below b0 (ah _)).more b0.size)
 have hn:=hf.n
 have xe:=af hf.ss
 have HX:=af hx
 have HB:=af b0
 have HK:=af kx
 clear hx b0 kx hf hr
 obtain⟨ty,fl,st,A,n,c,code,last,inc⟩:=f
 dsimp only at h4
 have t0:((ty:Int)==0)=false:=by rw[h4];rfl
 have t1:((ty:Int)==1)=false:=by rw[h4];rfl
 have t2:((ty:Int)==2)=false:=by rw[h4];rfl
 have t3:((ty:Int)==3)=false:=by rw[h4];rfl
 have t4:((ty:Int)==4)=true:=by rw[h4];rfl
 clear h4
 unfold ou at *
 simp only[Ct.cells] at *
 have dY:=af hW0
 clear hW0
 obtain⟨c0,c1,c2,c3,c4,c5,c6,c7,c8,c9,c10,c11⟩:=HK.out.cells
 simp only at c0 c1 c2 c5 c6 c7 c8
 have hxl:=HK.out.lt
 go_enter Tryz.func124,Tryz.ntmps124
 go_upto_region 1 with fail
 refine bI ?_
 intro W3 hW3
 obtain rfl:W3=W0:=hW3.trans dY.out
 rw[HX.out]
 clear hW3
 go_wp2_with fail
 go_loopw [3,55] (fun ov iv wr=>WK W3 n ov iv wr) (fun _ iv _=>n-(intOf iv).toNat)
 case atStart=>exact⟨0,[],rfl,aL _,World.ownsRow_nil _ _ _ _,rfl,Below.refl _ _⟩
 case round=>
  obtain⟨k,l,rfl,hk,ho,hl6,hb⟩:=hrel
  have wY:=af hb
  have HO:=af ho
  have dZ:=hb.size
  by_cases hlt:k<n
  ·obtain⟨hl,b,o,rfl,hbl,hc⟩:=aaz (HS.out.below hb (ah _)) (by omega)
   obtain⟨s,hs⟩:∃s,ss[k]?=some s:=⟨_,a_ (by omega)⟩
   obtain⟨z0,z1⟩:=hc k s hs
   obtain⟨hs1,hs2⟩:=xe.out s (fq hs)
   have n1:(k:Int)<n:=by omega
   have aY:b<wr.heap.size:=by omega
   clear hc hs hb hl ho
   go_wp2_with fail
   obtain⟨q,hq⟩:∃q,wr.heap.size=q:=⟨_,rfl⟩
   have HQ:Hid (vX W3 q s u3 l (wr.alloc (.cells #[.int .i64 (s.1:Int),.int .i64 (s.2:Int)] 109))):=af ⟨d_ HO.out ((Kept.refl (fun _=>False) wr).alloc _) (fun _ _ h=>h),wY.out.alloc dZ _,by rw[←hq];exact aZ _ _,by omega,fun e1=>by have:=(World.ownsRow.lt HO.out q e1).2;omega⟩
   have FE:Hid (∀b,u3.ownBlock=some b→b<q):=af (fun b hb=>by have:=(World.ownsRow.lt HO.out b hb).2;omega)
   have hwq:(wr.alloc (.cells #[.int .i64 (s.1:Int),.int .i64 (s.2:Int)] 109)).heap.size=q+1:=by simp[hq]
   rw[hq]
   generalize (wr.alloc (.cells #[.int .i64 (s.1:Int),.int .i64 (s.2:Int)] 109))=wq at *
   have HQD:Hid (vX W3 q s u3 l wq.drew):=af (HQ.out.below (by exact⟨rfl,rfl,rfl,ah _,fun _ _=>rfl⟩))
   have hwd:wq.drew.heap.size=q+1:=hwq
   have ew1:IntKind.u32.wrap (s.1:Int)=s.1:=by rw[IntKind.wrap_u32];omega
   have w_:Hid (∀w,Calls Tryz.prog 125 #[.int .u32 (s.1:Int),.int .i64 2] w (jV w (be 2 s.1))):=af fun w=>Tc s.1 2 w (by omega) (by omega) (by omega)
   have HFO:Hid (∀w,Calls Tryz.prog 126 #[.int .i64 (s.2:Int)] w (jV w (be 4 s.2))):=af fun w=>LZ s.2 w (by omega)
   have HN:Hid (∀v' w',vX W3 q s v' (l++be 2 s.1++be 4 s.2) w'→WK W3 n v' (.int .i64 (k+1:Nat)) w'):=af (fun v' w' h=>⟨k+1,_,rfl,hlt,h.own,by simp[jX];omega,h.kp⟩)
   clear z0 z1 hq hwq c0 c1 c2 c3 c4 c5 c6 c7 c8 c9 c10 c11
   --abX
   refine wp_region_held_drew (S:=fun w'=>w'.cell? ⟨q,0,none⟩=some (.int .i64 (s.1:Int))∧w'.cell? ⟨q,1,none⟩=some (.int .i64 (s.2:Int))) (by kernel_rfl) (HQD.out.cells) (fun hH=>?_)
   refine ag 0 59 hH ?_
   refine ag 1 60 hH ?_
   refine ag 2 61 hH ?_
   refine ag 3 62 hH ?_
   refine ag 6 65 hH ?_
   refine ag 7 66 hH ?_
   refine aR 4 (fun K hK=>?_)
   go_simp
   refine (w_.out _).mono ?_
   rintro ev w1 ⟨v1,rfl,su,hb1⟩
   have HQ1:=af (HQD.out.below hb1)
   obtain⟨A1,c1',rfl,hr1⟩:=su.rd
   have HR1:=af su
   have HBB1:=af hb1
   have hsz1:=hb1.size
   rw[jX] at hr1 ⊢
   have HRD1:=af hr1
   clear su hb1 hr1
   refine hK.out _ _ (HQ1.out.cells) (fun hH=>?_)
   clear hK K
   try simp only[Act.put,az,ay,aA]
   refine rdZq (o:=⟨some 64,_,_,_,_,_⟩) 5 rfl (fun K hK=>?_)
   refine oI (.tmp 59) (.tmp 63) iT rfl rfl HQ1.out.own rfl (HRD1.out) rfl (kZ _) (bn (by omega)) (by omega) HQ1.out.kp.size ?_
   intro va2 w2 hown2 hg2 OV
   have HQ2:=af (HQ1.out.app (k:=be 2 s.1) (by rw[jX];exact hown2) hg2 OV)
   have sV:=af (And.intro hg2 OV)
   have hgs2:=hg2.size
   obtain⟨Ax2,cx2,hv2,-,-,-,-⟩:=aC hown2
   subst hv2
   clear hown2 hg2 OV
   refine hK.out _ _ (HQ2.out.cells) (fun hH=>?_)
   clear hK K
   try simp only[Act.put,az,ay,aA]
   obtain⟨L2,hL2⟩:∃L2,l++be 2 s.1=L2:=⟨_,rfl⟩
   have hl2:l.length+2=L2.length:=by rw[←hL2,aN,jX]
   rw[hL2] at HQ2 HN
   rw[hl2] at HQ2 ⊢
   clear hL2
   refine aR 8 (fun K hK=>?_)
   go_simp
   refine (HFO.out _).mono ?_
   rintro ev w3 ⟨v3,rfl,iA,hb3⟩
   have HQ3:=af (HQ2.out.below hb3)
   obtain⟨A3,xx,rfl,hr3⟩:=iA.rd
   have BU:=af iA
   have HBB3:=af hb3
   have hsz3:=hb3.size
   rw[jX] at hr3 ⊢
   have HRD3:=af hr3
   clear iA hb3 hr3
   refine hK.out _ _ (HQ3.out.cells) (fun hH=>?_)
   clear hK K
   try simp only[Act.put,az,ay,aA]
   refine rdZq (o:=⟨some 68,_,_,_,_,_⟩) 9 rfl (fun K hK=>?_)
   refine oI (.tmp 64) (.tmp 67) iT rfl rfl HQ3.out.own rfl (HRD3.out) rfl (kZ _) (bn (by omega)) (by omega) HQ3.out.kp.size ?_
   intro va4 w4 fT hg4 AQ
   have Fv:=af (HQ3.out.app (k:=be 4 s.2) (by rw[jX];exact fT) hg4 AQ)
   have HG4:=af (And.intro hg4 AQ)
   have hgs4:=hg4.size
   obtain⟨Ax4,cx4,hv4,-,-,-,-⟩:=aC fT
   subst hv4
   clear fT hg4 AQ
   refine hK.out _ _ (Fv.out.cells) (fun hH=>?_)
   clear hK K
   try simp only[Act.put,az,ay,aA]
   refine ag 10 3 hH ?_
   refine wpAnyH_done (by kernel_rfl) ?_ _
   have sQ:=af (HN.out _ _ Fv.out)
   go_wp2_with fail
   go_roundw
   case rel=>exact sQ.out
   case measure=>simp[intOf];omega
  ·have hkn:k=n:=by omega
   have HE:Hid (Jp w (6*n) (.returned u3) wr):=af ⟨l,u3,rfl,by omega,HO.out.base HB.out.size,HB.out.trans (wY.out.mono HB.out.size)⟩
   obtain⟨A9,xy,eD,-,-,-,-⟩:=aC HO.out
   subst eD
   clear hb ho
   go_wp2
   go_ret
   exact HE.out
end
section
open Go.RowKit
def WO (W:World) (m:Nat) (e:Ending) (w':World):Prop:=∃l v,e = .returned (.tuple #[v,.int .i64 0])∧l.length≤m∧b_ w' W.heap.size v l∧Below W.heap.size W w'
theorem aeq {M:Nat}(f:Ct) (ss:List (Nat×Nat)) (w:World) (hf:BH f ss) (hr:Rd w w.heap.size 2 f.A f.n (rE ss)) (hM:M≤1000) (J6:∀w',Below w.heap.size w w'→Calls Tryz.prog 124 #[ou f] w' (Jp w' M)) :
 Calls Tryz.prog 86 #[ou f] w (WO w (M+9)):=by
 obtain⟨W0,hW0⟩:∃W0,w.alloc (.cells f.cells 52)=W0:=⟨_,rfl⟩
 obtain⟨x,hx⟩:∃x,w.heap.size=x:=⟨_,rfl⟩
 have b0:Below w.heap.size w W0:=by rw[←hW0];exact (Below.refl _ _).alloc (ah _) _
 have HF:Hid (vI W0 x f):=af ⟨by rw[←hW0,←hx];exact aZ _ _⟩
 have BQ:=af (afH f ss W0 hf ((hr.below b0 (ah _)).more b0.size))
 have rM:=af J6
 have hty:f.ty≤8:=by have:=hf.k;unfold CtK at this;omega
 have Iq:f.fl<256:=by have:=hf.fl;omega
 have hst:=hf.st
 clear J6 hr hf
 obtain⟨ty,fl,st,A,n,c,code,last,inc⟩:=f
 unfold ou at BQ rM ⊢
 simp only[Ct.cells] at hW0 BQ rM hty Iq hst ⊢
 have HB:=af b0
 have dY:=af hW0
 have HX:=af hx
 clear hW0 hx b0
 have hs0:=HB.out.size
 obtain⟨c0,c1,c2,c3,c4,c5,c6,c7,c8,c9,c10,c11⟩:=HF.out.cells
 simp only at c0 c1 c2 c5 c6 c7 c8
 have hxl:=HF.out.lt
 go_enter Tryz.func86,Tryz.ntmps86
 go_upto_region 1 with fail
 refine bI ?_
 intro W3 hW3
 obtain rfl:W3=W0:=hW3.trans dY.out
 rw[HX.out]
 clear hW3
 go_wp2_with fail
 refine BQ.out.mono ?_
 rintro e1 w1 ⟨rfl,hb1⟩
 have zJ:=af (HF.out.below hb1)
 have bH:=af (HB.out.trans (hb1.mono hs0))
 clear hb1 c0 c1 c2 c3 c4 c5 c6 c7 c8 c9 c10 c11 BQ
 obtain⟨c0,c1,c2,c3,c4,c5,c6,c7,c8,c9,c10,c11⟩:=zJ.out.cells
 simp only at c0 c1 c2 c5 c6 c7 c8
 have hxl1:=zJ.out.lt
 go_wp2_with fail
 refine (rM.out _ bH.out).mono ?_
 rintro e2 w2 ⟨P,v2,rfl,hPl,jh,hb2⟩
 have vO:=af (zJ.out.below hb2)
 have aI:=af (bH.out.trans (hb2.mono bH.out.size))
 obtain⟨A2,c2',rfl,hr2⟩:=jh.rd
 have fU:=af hr2
 have qD:=af hPl
 clear hb2 jh hr2 c0 c1 c2 c3 c4 c5 c6 c7 c8 c9 c10 c11 rM
 have hxl2:=vO.out.lt
 have ew:IntKind.u32.wrap (P.length:Int)=P.length:=by rw[IntKind.wrap_u32];omega
 have ew1:IntKind.u8.wrap (ty:Int)=ty:=by rw[IntKind.wrap_u8];omega
 have ew2:IntKind.u8.wrap (fl:Int)=fl:=by rw[IntKind.wrap_u8];omega
 have w_:Hid (∀w,Calls Tryz.prog 125 #[.int .u32 (P.length:Int),.int .i64 3] w (jV w (be 3 P.length))):=af fun w=>Tc P.length 3 w (by omega) (by omega) (by omega)
 have HFO:Hid (∀w,Calls Tryz.prog 126 #[.int .i64 (st:Int)] w (jV w (be 4 st))):=af fun w=>LZ st w (by omega)
 have HTW:=af (XB (show ty<256 by omega) Iq)
 have Eo:w.heap.size≤w2.heap.size:=aI.out.size
 have CK:P.length≤16777215:=by omega
 clear hPl
 go_upto_region 6 with fail
 go_cut [5] (fun y wx=>b_ wx w2.heap.size y (be 3 P.length++[UInt8.ofNat ty,UInt8.ofNat fl])∧Below w2.heap.size w2 wx)
 case first=>
  have HFD:Hid (vI w2.drew x ⟨ty,fl,st,A,n,c,code,last,inc⟩):=af ⟨vO.out.blk⟩
  have hwd:w2.drew.heap.size=w2.heap.size:=rfl
  have hbd:Hid (Below w2.heap.size w2 w2.drew):=af ⟨rfl,rfl,rfl,ah _,fun _ _=>rfl⟩
  --REGION6
  refine wp_region_held_drew (S:=fun w'=>w'.cell? ⟨x,0,none⟩=some (.int .i64 (ty:Int))∧w'.cell? ⟨x,1,none⟩=some (.int .i64 (fl:Int))) (by kernel_rfl) (⟨HFD.out.cells.1,HFD.out.cells.2.1⟩) (fun hH=>?_)
  refine ag 0 14 hH ?_
  refine ag 1 15 hH ?_
  refine ag 2 16 hH ?_
  refine ag 4 18 hH ?_
  refine ag 5 19 hH ?_
  refine ag 6 20 hH ?_
  refine ag 7 21 hH ?_
  refine ag 8 22 hH ?_
  refine ag 9 23 hH ?_
  refine wpAnyH_ready (rs:=[3,10]) (by kernel_rfl) (by simp) ?_
  refine AllReadyH.cons (o:=⟨some 17,_,_,_,_,_⟩) rfl (fun K hK=>?_) (AllReadyH.cons (o:=⟨some 24,_,_,_,_,_⟩) rfl (fun K hK=>?_) AllReadyH.nil)
  ·go_simp
   refine (w_.out w2.drew).mono ?_
   rintro ev w3 ⟨v3,rfl,iA,hb3⟩
   have aM:Hid (Below w2.heap.size w2 w3):=af (hbd.out.trans hb3)
   have Dj:=af (vO.out.below aM.out)
   obtain⟨A3,xx,rfl,hr3⟩:=iA.rd
   have yw:Hid (w3.ownsRow w2.heap.size 5 1 (.slice A3 3 xx) 3 (ak (be 3 P.length))):=af (by unfold b_ at iA;rw[jX] at iA;exact iA)
   rw[jX]
   clear iA hb3 hr3
   refine hK.out _ _ (⟨Dj.out.cells.1,Dj.out.cells.2.1⟩) (fun hH=>?_)
   clear hK K
   try simp only[Act.put,az,ay,aA]
   refine aR 10 (fun K hK=>?_)
   go_simp
   have oL:=af (Dj.out.below ((Below.refl _ _).alloc (ah _) (.cells #[.int .u8 (ty:Int),.int .u8 (fl:Int)] 5)))
   have pO:Hid (Below w2.heap.size w2 (w3.alloc (.cells #[.int .u8 (ty:Int),.int .u8 (fl:Int)] 5))):=af (aM.out.alloc aM.out.size _)
   have HOW:=af (World.ownsRow.alloc yw.out (.cells #[.int .u8 (ty:Int),.int .u8 (fl:Int)] 5))
   have Dr:=af (Rd.GV w3 #[.int .u8 (ty:Int),.int .u8 (fl:Int)] 5 2 (k:=w3.heap.size) rfl rfl)
   refine hK.out _ _ (⟨oL.out.cells.1,oL.out.cells.2.1⟩) (fun hH=>?_)
   clear hK K oL
   try simp only[Act.put,az,ay,aA]
   refine rdZq (o:=⟨some 25,_,_,_,_,_⟩) 11 rfl (fun K hK=>?_)
   refine oI (.tmp 17) (.tmp 24) iT rfl rfl HOW.out rfl Dr.out rfl (by simp[Value.oneCell']) (bn (by omega)) (by omega) pO.out.size ?_
   intro v4 w4 fT hg4 hb4
   have tq:Hid (b_ w4 w2.heap.size v4 (be 3 P.length++[UInt8.ofNat ty,UInt8.ofNat fl])∧Below w2.heap.size w2 w4):=af ⟨by
    have h4:=fT
    rw[←HTW.out,←mU] at h4
    exact MO h4,Below.app pO.out HOW.out hg4 (ah _) pO.out.size⟩
   have oL:=af (vO.out.below tq.out.2)
   clear fT hg4 hb4
   refine hK.out _ _ (⟨oL.out.cells.1,oL.out.cells.2.1⟩) (fun hH=>?_)
   clear hK K
   try simp only[Act.put,az,ay,aA]
   refine ag 12 5 hH ?_
   refine wpAnyH_done (by kernel_rfl) ?_ _
   go_wp2_with fail
   go_meet
   exact tq.out
  ·go_simp
   have oL:=af (HFD.out.below ((Below.refl _ _).alloc (ah _) (.cells #[.int .u8 (ty:Int),.int .u8 (fl:Int)] 5)))
   have yo:Hid (Below w2.heap.size w2 (w2.drew.alloc (.cells #[.int .u8 (ty:Int),.int .u8 (fl:Int)] 5))):=af (hbd.out.alloc (ah _) _)
   have HRA:=af (Rd.GV w2.drew #[.int .u8 (ty:Int),.int .u8 (fl:Int)] 5 2 (k:=w2.heap.size) rfl rfl)
   have CQ:(w2.drew.alloc (.cells #[.int .u8 (ty:Int),.int .u8 (fl:Int)] 5)).heap.size=w2.heap.size+1:=by simp[hwd]
   refine hK.out _ _ (⟨oL.out.cells.1,oL.out.cells.2.1⟩) (fun hH=>?_)
   clear hK K oL
   try simp only[Act.put,az,ay,aA]
   refine aR 3 (fun K hK=>?_)
   go_simp
   refine (w_.out _).mono ?_
   rintro ev w3 ⟨v3,rfl,iA,hb3⟩
   have hsa2:(w2.alloc (.cells #[.int .u8 (ty:Int),.int .u8 (fl:Int)] 5)).drew.heap.size=w2.heap.size+1:=CQ
   rw[hsa2] at hb3 iA
   have pO:Hid (Below w2.heap.size w2 w3):=af (yo.out.trans (hb3.mono (by omega)))
   have Dj:=af (vO.out.below pO.out)
   have Dr:=af (HRA.out.below hb3 (ah _))
   obtain⟨A3,xx,rfl,hr3⟩:=iA.rd
   have HOW:Hid (w3.ownsRow w2.heap.size 5 1 (.slice A3 3 xx) 3 (ak (be 3 P.length))):=af (by unfold b_ at iA;rw[jX] at iA;exact pG iA (by omega))
   rw[jX]
   clear iA hb3 hr3
   refine hK.out _ _ (⟨Dj.out.cells.1,Dj.out.cells.2.1⟩) (fun hH=>?_)
   clear hK K
   try simp only[Act.put,az,ay,aA]
   refine rdZq (o:=⟨some 25,_,_,_,_,_⟩) 11 rfl (fun K hK=>?_)
   refine oI (.tmp 17) (.tmp 24) iT rfl rfl HOW.out rfl Dr.out rfl (by simp[Value.oneCell']) (bn (by omega)) (by omega) pO.out.size ?_
   intro v4 w4 fT hg4 hb4
   have tq:Hid (b_ w4 w2.heap.size v4 (be 3 P.length++[UInt8.ofNat ty,UInt8.ofNat fl])∧Below w2.heap.size w2 w4):=af ⟨by
    have h4:=fT
    rw[←HTW.out,←mU] at h4
    exact MO h4,Below.app pO.out HOW.out hg4 (ah _) pO.out.size⟩
   have oL:=af (vO.out.below tq.out.2)
   clear fT hg4 hb4
   refine hK.out _ _ (⟨oL.out.cells.1,oL.out.cells.2.1⟩) (fun hH=>?_)
   clear hK K
   try simp only[Act.put,az,ay,aA]
   refine ag 12 5 hH ?_
   refine wpAnyH_done (by kernel_rfl) ?_ _
   go_wp2_with fail
   go_meet
   exact tq.out
 case rest=>
  obtain⟨nR,aT⟩:=hcut
  have HF5:=af (vO.out.below aT)
  have eG:=af (aI.out.trans (aT.mono aI.out.size))
  have HR5:=af (fU.out.below aT (ah _))
  have hsz5:w2.heap.size≤wc.heap.size:=aT.size
  have hL3:(be 3 P.length++[UInt8.ofNat ty,UInt8.ofNat fl]).length=5:=by rw[aN,jX];rfl
  have HO5:Hid (wc.ownsRow w2.heap.size 5 1 u5 5 (ak (be 3 P.length++[UInt8.ofNat ty,UInt8.ofNat fl]))):=af (by unfold b_ at nR;rwa [hL3] at nR)
  clear aT nR hL3
  obtain⟨c0,c1,c2,c3,c4,c5,c6,c7,c8,c9,c10,c11⟩:=HF5.out.cells
  simp only at c0 c1 c2 c5 c6 c7 c8
  go_wp2_with fail
  refine (HFO.out _).mono ?_
  rintro e6 w6 ⟨v6,rfl,ho6,dO⟩
  have Fp:Hid (w6.ownsRow w2.heap.size 5 1 u5 5 (ak (be 3 P.length++[UInt8.ofNat ty,UInt8.ofNat fl]))):=af (d_ HO5.out (Kept.jk (F:=fun _=>False) dO) (fun _ _ h=>h))
  have BV:=af (HR5.out.below (dO.mono hsz5) (ah _))
  have gK:=af (eG.out.trans (dO.mono eG.out.size))
  have hsz6:wc.heap.size≤w6.heap.size:=dO.size
  obtain⟨A6,c6',rfl,dH⟩:=ho6.rd
  have J8:Rd w6 w6.heap.size 1 A6 4 (ak (be 4 st)):=by rw[jX] at dH;exact dH
  have HS6:=af J8
  rw[jX]
  clear dO ho6 dH J8 c0 c1 c2 c3 c4 c5 c6 c7 c8 c9 c10 c11
  go_wp2_with (at_builtin;refine dI ?_)
  unfold Stop
  refine dQ (.tmp 26) (.tmp 29) iT rfl rfl Fp.out rfl HS6.out rfl (kZ _) (bn (by omega)) (by omega) (by omega) ?_
  intro v7 w7 za Cx _
  have BR:=af (And.intro za Cx)
  have BX:=af (BV.out.grown Cx (by omega) (fun g hg=>(World.ownsRow.lt Fp.out g hg).1))
  have o8:=Cx.size
  obtain⟨A7,c7',Er,-,-,-,-⟩:=aC za
  rw[Er] at BR
  subst Er
  clear za Cx
  go_wp2_with (at_builtin;refine dI ?_)
  unfold Stop
  refine dQ (.tmp 30) (.tmp 31) iT rfl rfl BR.out.1 rfl BX.out rfl (kZ _) (bn (by have:=qD.out;omega)) (by have:=qD.out;omega) (by omega) ?_
  intro v8 w8 mZ qc _
  have HE:Hid (WO w (M+9) (.returned (.tuple #[v8,.int .i64 0])) w8):=af (by
   have h8:=mZ
   rw[←mU,←mU] at h8
   refine⟨_,v8,rfl,?_,(MO h8).base Eo,Below.app (Below.app gK.out Fp.out BR.out.2 Eo (by omega)) BR.out.1 qc Eo (by omega)⟩
   have:=qD.out
   simp only[aN,jX,fe,List.length_nil]
   omega)
  obtain⟨A8,c8',Es,-,-,-,-⟩:=aC mZ
  subst Es
  clear mZ qc
  go_wp2
  go_ret2
  exact HE.out
end
section
open Go.RowKit Go.Maps
structure Cv where
 l0:Int
 l1:Int
 l2:Int
 l3:Int
 feed:Value
 dec:Value
 enc:Value
 book:Value
 frames:Int
 live:Nat
 closed:Value
 how:Nat
 last:Int
 block:Value
 cu:Int
 jI:Bool
 gG:Bool
 mX:Bool
 floor:Int
 over:Bool
 bytes:Value
 news:Value
def Cv.cells (c:Cv):Array Value:=#[.int .i64 c.l0,.int .i64 c.l1,.int .i64 c.l2,.int .i64 c.l3,c.feed,c.dec,c.enc,c.book,.int .i64 c.frames,.map (some c.live),c.closed,.map (some c.how),.int .i64 c.last,c.block,.int .i64 c.cu,.bool c.jI,.bool c.gG,.bool c.mX,.int .i64 c.floor,.bool c.over,c.bytes,c.news]
def aK (p:Nat) (c:Cv):dx:=bg p c.cells 100
section
variable {B p:Nat} {w:World} {c:Cv} {cs:List dx}
theorem All.conn (h:All B w (aK p c :: cs)):w.heap[p]?=some (.cells c.cells 100 (0,0)):=h.head
theorem All.cc (h:All B w (aK p c :: cs)) (o:Nat) (v:Value) (hv:c.cells[o]?=some v):w.cell? ⟨p,o,none⟩=some v:=by
 unfold World.cell?
 rw[h.conn]
 exact hv
theorem All.cf (h:All B w (aK p c :: cs)) (o:Nat):w.frozen? ⟨p,o,none⟩=false:=by
 unfold World.frozen?
 rw[h.conn]
 rfl
end
def Left (B:Nat) (w:World) (R:World→Prop) (e:Ending) (w':World):Prop:=e = .returned (.tuple #[])∧Below B w w'∧R w'
theorem Nh {M B p n:Nat}{c:Cv}{xs:List Value}{cs:List dx}(f:Ct) (ss:List (Nat×Nat)) (w:World) (h:All B w (aK p c :: aD 5 1 c.bytes n xs :: cs)) (hf:BH f ss) (hr:Rd w w.heap.size 2 f.A f.n (rE ss)) (hM:M≤1000)
 (J6:∀w',Below w.heap.size w w'→Calls Tryz.prog 124 #[ou f] w' (Jp w' M)) (hn:n≤1000000) :
 Calls Tryz.prog 49 #[.pointer (some ⟨p,0,none⟩),ou f] w (Left B w fun w'=>∃v n' xs',n'≤n+M+9∧All B w' (aK p { c with bytes:=v } :: aD 5 1 v n' xs' :: cs)):=by
 obtain⟨W0,hW0⟩:∃W0,w.alloc (.cells f.cells 52)=W0:=⟨_,rfl⟩
 have b0:Below w.heap.size w W0:=by rw[←hW0];exact (Below.refl _ _).alloc (ah _) _
 have HP:=af (aeq f ss W0 hf ((hr.below b0 (ah _)).more b0.size) hM (fun w' hb=>J6 w' (b0.trans (hb.mono b0.size))))
 have HA:=af (h.below b0)
 have HF:Hid (vI W0 w.heap.size f):=af ⟨by rw[←hW0];exact aZ _ _⟩
 have hsz:=h.sz
 have dW:=af (b0.mono h.sz)
 clear h J6 hf hr b0
 obtain⟨ty,fl,st,A,n0,c0,code,last,inc⟩:=f
 unfold ou at HP ⊢
 simp only[Ct.cells] at hW0 HP ⊢
 have dY:=af hW0
 clear hW0
 go_enter Tryz.func49,Tryz.ntmps49
 go_upto_region 1 with fail
 refine bI ?_
 intro W3 hW3
 obtain rfl:W3=W0:=hW3.trans dY.out
 clear hW3
 obtain⟨k0,k1,k2,k3,k4,k5,k6,k7,k8,k9,bS,bN⟩:=HF.out.cells
 simp only at k0 k1 k2 k5 k6 k7 k8
 go_wp2_with fail
 refine HP.out.mono ?_
 rintro e1 w1 ⟨l,v1,rfl,hl,su,hb1⟩
 have bM:=af (HA.out.below hb1)
 have bH:=af (dW.out.trans (hb1.mono HA.out.sz))
 obtain⟨A1,c1,rfl,hr1⟩:=su.rd
 have q20:=bM.out.cc 20 c.bytes rfl
 clear su hb1 k0 k1 k2 k3 k4 k5 k6 k7 k8 k9 bS bN HP HF
 have hrow:=(bM.out.pick [aK p c]).head
 obtain⟨A0,nI,hv0,-,-,-,-⟩:=aC hrow
 have yx:=af hrow
 rw[hv0] at q20
 have j4:=af hv0
 clear hrow hv0
 go_wp2_with (at_builtin;refine dI ?_)
 unfold Stop
 have hrow2:=yx.out
 rw[j4.out] at hrow2
 refine dQ (.tmp 15) (.tmp 16) iT rfl rfl hrow2 rfl hr1 rfl (kZ _) (bn (by omega)) (by omega) (aL _) ?_
 intro v3 w3 eB hg3 hb3
 rw[←j4.out] at hg3 hb3
 obtain⟨gp,gP⟩:=(bM.out.pick [aK p c]).app eB hg3 hb3
 have bJ:=af (gp.pick [_])
 have aM:=af (bH.out.trans gP)
 obtain⟨A3,c3,hv3,-,-,-,-⟩:=aC eB
 subst hv3
 have q20:=bJ.out.cc 20 c.bytes rfl
 have f20:=bJ.out.cf 20
 clear eB hg3 hb3 gp gP hrow2
 go_wp2_with fail
 go_end0
 obtain⟨h1,h2⟩:=bJ.out.set 20 (.slice A3 (n+l.length) c3)
 exact⟨rfl,aM.out.trans h2,.slice A3 (n+l.length) c3,n+l.length,xs++ak l,by omega,h1⟩
end
end Go.Proofs.YtpkmciohehaboaaGreatDoor
