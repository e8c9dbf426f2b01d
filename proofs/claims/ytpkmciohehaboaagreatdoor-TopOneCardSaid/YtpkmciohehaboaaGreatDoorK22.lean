/- Part 22 of the proof. -/
import Derived.Test.YtpkmciohehaboaaGreatDoorK0
import Derived.Test.YtpkmciohehaboaaGreatDoorK21
import Derived.Lib.SlBytesConst
set_option maxRecDepth 100000
set_option maxHeartbeats 100000000
set_option linter.unusedVariables false
set_option linter.unusedSimpArgs false
set_option linter.unusedSectionVars false
set_option linter.unnecessarySimpa false
namespace Go.Proofs.YtpkmciohehaboaaGreatDoor
section
open Go.RowKit
structure RQ (W:World) (e q:Nat) (f:Fd) (v:Value) (L:List UInt8) (w:World):Prop where
 own:b_ w W.heap.size v L
 enc:Dy w e 0
 kp:Kept (fun b=>b=e) W w
 el:e<W.heap.size
 wq:W.heap.size≤q
 box:w.heap[q]?=some (.cells #[.string f.1.1,.string f.1.2,.bool f.2] 26 (0,0))
 ne:v.ownBlock≠some q
section
variable {W w w':World} {e q:Nat} {f:Fd} {v v3:Value} {L k:List UInt8}
theorem RQ.ql (h:RQ W e q f v L w):q<w.heap.size:=(Array.getElem?_eq_some_iff.1 h.box).1
theorem RQ.esz (h:RQ W e q f v L w):e<w.heap.size:=fI h.el h.kp.size
theorem RQ.below (h:RQ W e q f v L w) (hb:Below w.heap.size w w'):RQ W e q f v L w' where
 own:=d_ h.own (Kept.jk (F:=fun _=>False) hb) (fun _ _ h=>h)
 enc:=(hb.block e h.esz).trans h.enc
 kp:=h.kp.same (Kept.jk hb)
 el:=h.el
 wq:=h.wq
 box:=(hb.block q h.ql).trans h.box
 ne:=h.ne
theorem RQ.app (h:RQ W e q f v L w) (hown:w'.ownsRow W.heap.size 5 1 v3 (L.length+k.length) (ak L++ak k)) (hg:w.grownBy w' v.ownBlock) (hb:v3.ownBlock=v.ownBlock∨v3.ownBlock=some w.heap.size):RQ W e q f v3 (L++k) w' where
 own:=by unfold b_;rw[aN,mU];exact hown
 enc:=(hg.block e h.esz (fun e1=>by have:=(World.ownsRow.lt h.own e e1.symm).1;have:=h.el;omega)).trans h.enc
 kp:=h.kp.grown hg (fun b hb=>.inr (World.ownsRow.lt h.own b hb).1)
 el:=h.el
 wq:=h.wq
 box:=(hg.block q h.ql (fun e1=>h.ne e1.symm)).trans h.box
 ne:=by
  rcases hb with hb | hb
  ·rw[hb];exact h.ne
  ·rw[hb];intro e1;injection e1 with e1;have:=h.ql;omega
theorem RQ.cells (h:RQ W e q f v L w):w.cell? ⟨q,0,none⟩=some (.string f.1.1)∧w.cell? ⟨q,1,none⟩=some (.string f.1.2)∧w.cell? ⟨q,2,none⟩=some (.bool f.2)∧w.cell? ⟨e,4,none⟩=some (.slice none 0 0)∧w.cell? ⟨e,3,none⟩=some (.int .i64 0):=by
 refine⟨?_,?_,?_,?_,?_⟩
 ·unfold World.cell?;rw[h.box];rfl
 ·unfold World.cell?;rw[h.box];rfl
 ·unfold World.cell?;rw[h.box];rfl
 ·unfold World.cell?;rw[h.enc];rfl
 ·unfold World.cell?;rw[h.enc];rfl
end
theorem agf (f:Fd):∃(m:Nat) (wh:Bool),qa iR f.1=(((m:Nat):Int),wh)∧m≤61 ∧
 (jy T0 f).1=(if vz f=true then eP 16 15 m++(if m=0 then kW f.1.1.data.toList else [])++kW f.1.2.data.toList else if wh=true then eP 128 127 m else eP 0 15 m++(if m=0 then kW f.1.1.data.toList else [])++kW f.1.2.data.toList):=by
 have hex:∃(m:Nat) (wh:Bool),qa iR f.1=(((m:Nat):Int),wh)∧m≤61:=by
  unfold qa
  split
  ·rename_i i hi
   refine⟨i+1,true,by simp,?_⟩
   have:=(List.findIdx?_eq_some_iff_getElem.1 hi).1
   rw[BC] at this
   omega
  ·have:=SV iR f.1.1
   rw[BC] at this
   exact⟨wP iR f.1.1,false,rfl,this⟩
 obtain⟨m,wh,h1,h2⟩:=hex
 refine⟨m,wh,h1,h2,?_⟩
 have hf:yM T0 f.1=(((m:Nat):Int),wh):=by
  unfold yM
  rw[show iR++T0.rows.reverse=iR from by simp[T0],h1]
 have hn:ji T0 f.1=m:=by unfold ji;rw[hf];simp
 have hc:T0.most<(cost f.1:Int):=by show (0:Int)<(cost f.1:Int);unfold cost;omega
 unfold jy wO
 rw[hf,hn]
 by_cases h3:vz f=true
 ·simp[h3]
 ·by_cases h4:wh=true
  ·simp[h3,h4]
  ·simp[h3,h4,hc]
theorem ah1 {W w:World}{e:Nat}{f:Fd}{v:Value}{L:List UInt8}(hown:b_ w W.heap.size v L) (D8:Dy w e 0) (hkp:Kept (fun b=>b=e) W w) (hel:e<W.heap.size) :
 RQ W e w.heap.size f v L (w.alloc (.cells #[.string f.1.1,.string f.1.2,.bool f.2] 26)) where
 own:=d_ hown ((Kept.refl (fun _=>False) w).alloc _) (fun _ _ h=>h)
 enc:=(Below.heap_alloc _ _ _ (fI hel hkp.size)).trans D8
 kp:=hkp.alloc _
 el:=hel
 wq:=hkp.size
 box:=aZ _ _
 ne:=fun e1=>by have:=(World.ownsRow.lt hown _ e1).2;omega
theorem aak {e n c:Nat}{A:Option Addr}(l:List Fd) (w:World) (h:Dy w e 4096) (hr:Rd w w.heap.size 3 A n (fds l)) (hne : 0<n→∀a,A=some a→a.block≠e) (hn:n≤65536) (hf:∀f ∈ l,f.1.1.size≤1048576∧f.1.2.size≤1048576) :
 Calls Tryz.prog 17 #[.pointer (some ⟨e,0,none⟩),.slice A n c] w (fun ev w'=>∃v,ev = .returned v∧b_ w' w.heap.size v (E0.run l).1∧Kept (fun b=>b=e) w w'):=by
 have bf:l.length=n:=by have:=hr.1;rw[jJ] at this;omega
 have hel:e<w.heap.size:=(Array.getElem?_eq_some_iff.1 h).1
 have c1:w.cell? ⟨e,1,none⟩=some (.int .i64 4096):=by unfold World.cell?;rw[h];rfl
 have c2:w.cell? ⟨e,2,none⟩=some (.int .i64 0):=by unfold World.cell?;rw[h];rfl
 have c3:w.cell? ⟨e,3,none⟩=some (.int .i64 0):=by unfold World.cell?;rw[h];rfl
 have H:=af h
 have HR:=af (And.intro hr hne)
 have HF:=af hf
 have dX:=af bf
 have HP0:=af (fun w=>IX 32 5 0 31 w Ym (by omega) (by omega) (by omega))
 have hrun:(E0.run l).1=32 :: (eH T0 l).1:=by
  show Gb E0++(eH T0 l).1=_
  rw[show Gb E0=[32] from by decide +kernel]
  rfl
 rw[hrun]
 have hlenL:=adY T0
 clear h hr hne hf bf hrun
 go_enter Tryz.func17,Tryz.ntmps17
 go_wp2_with fail
 go_region
 all_goals go_wp2_with fail
 refine (HP0.out _).mono ?_
 rintro ev w1 ⟨v1,rfl,su,hb1⟩
 rw[show eP 32 31 0=[32] from by decide +kernel] at su
 have D5:Below w.heap.size w w1:=⟨hb1.os,hb1.tape,hb1.output,hb1.size,hb1.block⟩
 obtain⟨A1,c1',rfl,hr1⟩:=su.rd
 clear c1 c2 c3 hb1 HP0
 go_wp2_with (at_builtin;refine dI ?_)
 unfold Stop
 refine dQ (.tmp 54) (.tmp 57) iT rfl rfl (World.ownsRow_nil w1 w.heap.size 5 1) rfl hr1 rfl (kZ _) (bn (by simp)) (by simp) D5.size ?_
 intro v2 w2 hown2 hg2 _
 have hb2:=Below.app D5 (World.ownsRow_nil w1 w.heap.size 5 1) hg2 (ah _) D5.size
 have jh:b_ w2 w.heap.size v2 [32]:=by
  unfold b_
  simpa using hown2
 have Gp:w2.heap[e]?=some (.cells #[.int .i64 0,.int .i64 4096,.int .i64 0,.int .i64 0,.slice none 0 0] 113 (0,0)):=(hb2.block e hel).trans H.out
 have hfz:∀o,w2.frozen? ⟨e,o,none⟩=false:=fun o=>by unfold World.frozen?;rw[Gp];rfl
 have g_:=hfz 1
 have hf2:=hfz 2
 have d1:w2.cell? ⟨e,1,none⟩=some (.int .i64 4096):=by unfold World.cell?;rw[Gp];rfl
 have d2:w2.cell? ⟨e,2,none⟩=some (.int .i64 0):=by unfold World.cell?;rw[Gp];rfl
 have HS:Hid (b_ ((w2.setCell ⟨e,1,none⟩ (.int .i64 0)).setCell ⟨e,2,none⟩ (.int .i64 0)) w.heap.size v2 (32 :: (eH T0 (l.take 0)).1)∧Dy ((w2.setCell ⟨e,1,none⟩ (.int .i64 0)).setCell ⟨e,2,none⟩ (.int .i64 0)) e 0∧Kept (fun b=>b=e) w ((w2.setCell ⟨e,1,none⟩ (.int .i64 0)).setCell ⟨e,2,none⟩ (.int .i64 0))):=af (by
  have hk:Kept (fun b=>b=e) w2 ((w2.setCell ⟨e,1,none⟩ (.int .i64 0)).setCell ⟨e,2,none⟩ (.int .i64 0)):=((Kept.refl (fun b=>b=e) w2).setCell (g:=e) rfl 1 _).setCell (g:=e) rfl 2 _
  refine⟨d_ jh hk (fun b hb e1=>by have:=(World.ownsRow.lt jh b hb).1;omega),?_,(Kept.jk hb2).same hk⟩
  unfold Dy
  rw[oH _ (oH _ Gp)]
  rfl)
 obtain⟨A2,c2,hv2,-,-,-,-⟩:=aC jh
 subst hv2
 clear hown2 hg2 su D5 hr1 jh hb2 Gp hfz
 go_wp2_with fail
 generalize ((w2.setCell ⟨e,1,none⟩ (.int .i64 0)).setCell ⟨e,2,none⟩ (.int .i64 0))=w3 at *
 clear g_ hf2 d1 d2
 go_loopw [5,7] (fun ov iv wr=>WM w e n l ov iv wr) (fun _ iv _=>n-(intOf iv).toNat)
 case atStart=>exact⟨0,rfl,aL _,HS.out⟩
 case round=>
  obtain⟨k,rfl,hk,ho,D8,hkp⟩:=hrel
  have HO:=af (And.intro ho (And.intro D8 hkp))
  have dZ:=hkp.size
  clear ho D8 hkp
  by_cases hlt:k<n
  ·obtain⟨xJ,b,o,rfl,hbl,hc⟩:=mE HR.out.1 (by omega)
   obtain⟨f,r_⟩:∃f,l[k]?=some f:=⟨_,a_ (by omega)⟩
   obtain⟨z0,z1,z2⟩:=hc k f r_
   have hbe:b≠e:=HR.out.2 (by omega) _ rfl
   have hcc:∀o',wr.cell? ⟨b,o',none⟩=w.cell? ⟨b,o',none⟩:=fun o'=>HO.out.2.2.cell hbl hbe o'
   rw[←hcc] at z0 z1 z2
   have n0:(k:Int)<n:=by omega
   have aY:b<wr.heap.size:=by omega
   have HQ:=af (ah1 (f:=f) HO.out.1 HO.out.2.1 HO.out.2.2 hel)
   have HK:=af (ad1 r_)
   have hbd:=Ya T0 f (HF.out f (fq r_)).1 (HF.out f (fq r_)).2
   have hsz1:=(HF.out f (fq r_)).1
   have PY:=(HF.out f (fq r_)).2
   have hLk:(32 :: (eH T0 (l.take k)).1).length≤137443147777:=by
    have h1:=hlenL (l.take k) (fun f hf=>HF.out f (List.mem_of_mem_take hf))
    rw[kS] at h1
    have h2:min k l.length*2097200≤65536*2097200:=Cf _ (by omega)
    simp only[fe];omega
   obtain⟨L,hL⟩:∃L,32 :: (eH T0 (l.take k)).1=L:=⟨_,rfl⟩
   have HN:Hid (∀v' w',RQ w e wr.heap.size f v' (L++(jy T0 f).1) w'→WM w e n l v' (.int .i64 (k+1:Nat)) w'):=af (fun v' w' h=>⟨k+1,rfl,hlt,(by rw[HK.out,←oM,hL];exact h.own),h.enc,h.kp⟩)
   rw[hL] at hLk HQ
   have HFI:=af (fun w h=>ahI (g:=e) f.1 f.2 w h)
   clear hc r_ xJ hcc hL HK HO
   obtain⟨⟨nm,vl⟩,nv⟩:=f
   simp only at z0 z1 z2 hsz1 PY
   go_wp2_with fail
   --REGION14
   obtain⟨q,hq⟩:∃q,wr.heap.size=q:=⟨_,rfl⟩
   rw[hq] at HQ HN ⊢
   generalize (wr.alloc (.cells #[.string nm,.string vl,.bool nv] 26))=wq at *
   have HQD:Hid (RQ w e q ((nm,vl),nv) u5 L wq.drew):=af (HQ.out.below (by exact⟨rfl,rfl,rfl,ah _,fun _ _=>rfl⟩))
   obtain⟨m,wh,hfind,hm,hone⟩:=agf ((nm,vl),nv)
   have zO:=af hone
   dsimp only at hfind
   clear hone z0 z1 z2 hq
   refine wp_region_held_drew (S:=fun w'=>w'.cell? ⟨q,0,none⟩=some (.string nm)∧w'.cell? ⟨q,1,none⟩=some (.string vl)∧w'.cell? ⟨q,2,none⟩=some (.bool nv)∧w'.cell? ⟨e,4,none⟩=some (.slice none 0 0)∧w'.cell? ⟨e,3,none⟩=some (.int .i64 0)) (by kernel_rfl) (HQD.out.cells) (fun hH=>?_)
   refine ag 0 78 hH ?_
   refine ag 1 79 hH ?_
   refine ag 2 80 hH ?_
   refine ag 3 81 hH ?_
   refine aR 4 (fun K hK=>?_)
   go_simp
   refine (HFI.out _ hH.2.2.2.1).mono ?_
   rintro ev w4 ⟨rfl,hb4⟩
   rw[hfind]
   have Fv:=af (HQD.out.below hb4)
   clear hb4
   refine hK.out _ _ (Fv.out.cells) (fun hH=>?_)
   clear hK K
   refine ag 5 77 hH ?_
   refine ag 6 83 hH ?_
   refine ag 7 84 hH ?_
   refine ag 8 9 hH ?_
   refine ag 9 10 hH ?_
   refine wpAnyH_done (by kernel_rfl) ?_ _
   obtain⟨k0,k1,k2,-,-⟩:=Fv.out.cells
   clear HQ HQD HFI hfind
   go_upto_region 15 with fail
   go_cut [11] (fun y wx=>y = .bool (vz ((nm,vl),nv))∧wx=w4)
   case first=>
    cases nv with
    | true=>
     go_wp2_with fail
     go_meet
     exact⟨rfl,rfl⟩
    | false=>
     by_cases ha:nm=LA
     ·have e1:(nm.toList == [97,117,116,104,111,114,105,122,97,116,105,111,110])=true:=by rw[ha];decide +kernel
      have e3:vz ((nm,vl),false)=true:=by unfold vz;simp[ha]
      clear ha
      go_wp2_with fail
      go_meet
      exact⟨by rw[e3],rfl⟩
     ·have e1:=(Lib.bytes_beq_false_iff nm LA).2 ha
      rw[show LA.toList=[97,117,116,104,111,114,105,122,97,116,105,111,110] from by decide +kernel] at e1
      by_cases hb:nm=LP
      ·have e2:(nm.toList == [115,101,116,45,99,111,111,107,105,101])=true:=by rw[hb];decide +kernel
       have e3:vz ((nm,vl),false)=true:=by unfold vz;simp[hb]
       clear hb ha
       go_wp2_with fail
       go_meet
       exact⟨by rw[e3],rfl⟩
      ·have e2:=(Lib.bytes_beq_false_iff nm LP).2 hb
       rw[show LP.toList=[115,101,116,45,99,111,111,107,105,101] from by decide +kernel] at e2
       have e3:vz ((nm,vl),false)=false:=by unfold vz;simp[ha,hb]
       clear ha hb
       go_wp2_with fail
       go_meet
       exact⟨by rw[e3],rfl⟩
   case rest=>
   obtain⟨rfl,rfl⟩:=hcut
   obtain⟨N,hN⟩:∃N,vz ((nm,vl),nv)=N:=⟨_,rfl⟩
   rw[hN] at zO ⊢
   clear hN k0 k1 k2
   have HQE:Hid (RQ w e q ((nm,vl),nv) u5 L wc.drew):=af (Fv.out.below (by exact⟨rfl,rfl,rfl,ah _,fun _ _=>rfl⟩))
   cases N with
   | true=>
    dsimp only[if_true] at zO
    simp only[if_true] at zO
    cases wh
    all_goals
     go_wp2_with fail
     refine wp_region_held_drew (S:=fun w'=>w'.cell? ⟨q,0,none⟩=some (.string nm)∧w'.cell? ⟨q,1,none⟩=some (.string vl)∧w'.cell? ⟨q,2,none⟩=some (.bool nv)∧w'.cell? ⟨e,4,none⟩=some (.slice none 0 0)∧w'.cell? ⟨e,3,none⟩=some (.int .i64 0)) (by kernel_rfl) (HQE.out.cells) (fun hH=>?_)
     refine ag 0 107 hH ?_
     refine ag 1 108 hH ?_
     refine ag 2 109 hH ?_
     refine ai 3 110 hH ?_
     refine ai 5 112 hH ?_
     refine ai 6 113 hH ?_
     refine ai 7 114 hH ?_
     refine ai 8 115 hH ?_
     refine ai 9 116 hH ?_
     refine aR 4 (fun K hK=>?_)
     go_simp
     refine hK.out _ _ hH (fun hH=>?_)
     clear hK K
     try simp only[Act.put,az,ay,aA]
     refine ai 10 117 hH ?_
     refine ag 11 118 hH ?_
     refine ag 12 12 hH ?_
     refine wpAnyH_done (by kernel_rfl) ?_ _
     go_wp2_with fail
     refine (IX 16 4 m 15 _ OJ (by omega) (by omega) (by omega)).mono ?_
     rintro ev wp1 ⟨vp1,rfl,Ef,D6⟩
     have qC:=af (HQE.out.below D6)
     obtain⟨Ap1,cp1,rfl,En⟩:=Ef.rd
     have Dq:=af En
     have J7:=(vD 16 15 m).1
     obtain⟨P1,yO⟩:∃P1,eP 16 15 m=P1:=⟨_,rfl⟩
     rw[yO] at Dq J7 ⊢
     have Fs:=af yO
     clear Ef D6 En yO
     go_wp2_with (at_builtin;refine dI ?_)
     unfold Stop
     refine dQ (.tmp 126) (.tmp 129) iT rfl rfl qC.out.own rfl Dq.out rfl (kZ _) (bn (by omega)) (by omega) qC.out.kp.size ?_
     intro va1 wa1 hown1 hg1 hb1
     obtain⟨L1,t_⟩:∃L1,L++P1=L1:=⟨_,rfl⟩
     have bM:=af (qC.out.app hown1 hg1 hb1)
     have iE:=congrArg List.length t_
     simp only[aN] at iE
     rw[t_] at bM
     obtain⟨Ax1,cx1,Bh,-,-,-,-⟩:=aC bM.out.own
     subst Bh
     have Ff:=af t_
     clear hown1 hg1 hb1 t_
     by_cases hm0:m=0
     ·have em:((m:Int)==0)=true:=by rw[hm0];rfl
      have cc2:=bM.out.cells
      obtain⟨k0,k1,k2,-,-⟩:=cc2
      go_wp2_with fail
      refine (IW nm _ (by omega)).mono ?_
      rintro ev wp2 ⟨vp2,rfl,J4,JK⟩
      have BS:=af (bM.out.below JK)
      obtain⟨Ap2,cp2,rfl,Kb⟩:=J4.rd
      have Jj:=af Kb
      have PL:=EN (s:=nm) (by omega)
      obtain⟨P2,wz⟩:∃P2,kW nm.data.toList=P2:=⟨_,rfl⟩
      rw[wz] at Jj PL ⊢
      have NM:=af wz
      clear J4 JK Kb wz k0 k1 k2
      go_wp2_with (at_builtin;refine dI ?_)
      unfold Stop
      refine dQ (.tmp 138) (.tmp 141) iT rfl rfl BS.out.own rfl Jj.out rfl (kZ _) (bn (by omega)) (by omega) BS.out.kp.size ?_
      intro va2 wa2 hown2 hg2 hb2
      obtain⟨L2,hL2⟩:∃L2,L1++P2=L2:=⟨_,rfl⟩
      have bY:=af (BS.out.app hown2 hg2 hb2)
      have hl2:=congrArg List.length hL2
      simp only[aN] at hl2
      rw[hL2] at bY
      obtain⟨Ax2,cx2,hv2,-,-,-,-⟩:=aC bY.out.own
      subst hv2
      have HL2:=af hL2
      clear hown2 hg2 hb2 hL2
      have F7:=bY.out.cells
      obtain⟨k0,k1,k2,-,-⟩:=F7
      go_wp2_with fail
      refine (IW vl _ (by omega)).mono ?_
      rintro ev wp3 ⟨vp3,rfl,y_,yS⟩
      have rJ:=af (bY.out.below yS)
      obtain⟨Ap3,cp3,rfl,zh⟩:=y_.rd
      have yz:=af zh
      have Gz:=EN (s:=vl) (by omega)
      obtain⟨P3,rW⟩:∃P3,kW vl.data.toList=P3:=⟨_,rfl⟩
      rw[rW] at yz Gz ⊢
      have Fu:=af rW
      clear y_ yS zh rW k0 k1 k2
      go_wp2_with (at_builtin;refine dI ?_)
      unfold Stop
      refine dQ (.tmp 143) (.tmp 146) iT rfl rfl rJ.out.own rfl yz.out rfl (kZ _) (bn (by omega)) (by omega) rJ.out.kp.size ?_
      intro va3 wa3 eB hg3 hb3
      obtain⟨L3,hL3⟩:∃L3,L2++P3=L3:=⟨_,rfl⟩
      have bJ:=af (rJ.out.app eB hg3 hb3)
      have xJ:=congrArg List.length hL3
      simp only[aN] at xJ
      rw[hL3] at bJ
      obtain⟨Ax3,cx3,hv3,-,-,-,-⟩:=aC bJ.out.own
      subst hv3
      have Fg:=af hL3
      clear eB hg3 hb3 hL3
      have sQ:=af (HN.out _ _ (by rw[zO.out,←jf,←jf,Fs.out,Ff.out,ax hm0,NM.out,HL2.out,Fu.out,Fg.out];exact bJ.out))
      go_wp2_with fail
      go_roundw
      case rel=>exact sQ.out
      case measure=>simp[intOf];omega
     ·have em:((m:Int)==0)=false:=by simp;omega
      have F7:=bM.out.cells
      obtain⟨k0,k1,k2,-,-⟩:=F7
      go_wp2_with fail
      refine (IW vl _ (by omega)).mono ?_
      rintro ev wp3 ⟨vp3,rfl,y_,yS⟩
      have rJ:=af (bM.out.below yS)
      obtain⟨Ap3,cp3,rfl,zh⟩:=y_.rd
      have yz:=af zh
      have Gz:=EN (s:=vl) (by omega)
      obtain⟨P3,rW⟩:∃P3,kW vl.data.toList=P3:=⟨_,rfl⟩
      rw[rW] at yz Gz ⊢
      have Fu:=af rW
      clear y_ yS zh rW k0 k1 k2
      go_wp2_with (at_builtin;refine dI ?_)
      unfold Stop
      refine dQ (.tmp 143) (.tmp 146) iT rfl rfl rJ.out.own rfl yz.out rfl (kZ _) (bn (by omega)) (by omega) rJ.out.kp.size ?_
      intro va3 wa3 eB hg3 hb3
      obtain⟨L3,hL3⟩:∃L3,L1++P3=L3:=⟨_,rfl⟩
      have bJ:=af (rJ.out.app eB hg3 hb3)
      have xJ:=congrArg List.length hL3
      simp only[aN] at xJ
      rw[hL3] at bJ
      obtain⟨Ax3,cx3,hv3,-,-,-,-⟩:=aC bJ.out.own
      subst hv3
      have Fg:=af hL3
      clear eB hg3 hb3 hL3
      have sQ:=af (HN.out _ _ (by rw[zO.out,aj hm0,kR,←jf,Fs.out,Ff.out,Fu.out,Fg.out];exact bJ.out))
      go_wp2_with fail
      go_roundw
      case rel=>exact sQ.out
      case measure=>simp[intOf];omega
   | false=>
    cases wh with
    | true=>
     simp only[zD,if_false,if_true] at zO
     go_wp2_with fail
     refine (IX 128 7 m 127 _ Jz (by omega) (by omega) (by omega)).mono ?_
     rintro ev wp1 ⟨vp1,rfl,Ef,D6⟩
     have qC:=af (Fv.out.below D6)
     obtain⟨Ap1,cp1,rfl,En⟩:=Ef.rd
     have Dq:=af En
     have J7:=(vD 128 127 m).1
     obtain⟨P1,yO⟩:∃P1,eP 128 127 m=P1:=⟨_,rfl⟩
     rw[yO] at Dq J7 ⊢
     have Fs:=af yO
     clear Ef D6 En yO
     go_wp2_with (at_builtin;refine dI ?_)
     unfold Stop
     refine dQ (.tmp 102) (.tmp 105) iT rfl rfl qC.out.own rfl Dq.out rfl (kZ _) (bn (by omega)) (by omega) qC.out.kp.size ?_
     intro va1 wa1 hown1 hg1 hb1
     obtain⟨L1,t_⟩:∃L1,L++P1=L1:=⟨_,rfl⟩
     have bM:=af (qC.out.app hown1 hg1 hb1)
     have iE:=congrArg List.length t_
     simp only[aN] at iE
     rw[t_] at bM
     obtain⟨Ax1,cx1,Bh,-,-,-,-⟩:=aC bM.out.own
     subst Bh
     have Ff:=af t_
     clear hown1 hg1 hb1 t_
     have sQ:=af (HN.out _ _ (by rw[zO.out,Fs.out,Ff.out];exact bM.out))
     go_wp2_with fail
     go_roundw
     case rel=>exact sQ.out
     case measure=>simp[intOf];omega
    | false=>
     simp only[zD,if_false] at zO
     go_wp2_with fail
     refine wp_region_held_drew (S:=fun w'=>w'.cell? ⟨q,0,none⟩=some (.string nm)∧w'.cell? ⟨q,1,none⟩=some (.string vl)∧w'.cell? ⟨q,2,none⟩=some (.bool nv)∧w'.cell? ⟨e,4,none⟩=some (.slice none 0 0)∧w'.cell? ⟨e,3,none⟩=some (.int .i64 0)) (by kernel_rfl) (HQE.out.cells) (fun hH=>?_)
     refine ag 0 107 hH ?_
     refine ag 1 108 hH ?_
     refine ag 2 109 hH ?_
     refine ag 3 110 hH ?_
     refine ag 5 112 hH ?_
     refine ag 6 113 hH ?_
     refine ag 7 114 hH ?_
     refine ag 8 115 hH ?_
     refine ag 9 116 hH ?_
     refine aR 4 (fun K hK=>?_)
     go_simp
     refine (adv (nm,vl) nv _ (by dsimp only;omega) (by dsimp only;omega)).mono ?_
     rintro ev w5 ⟨rfl,rfl⟩
     have HQ5:=af (HQE.out.below ((Below.refl _ _).alloc (ah _) (.cells #[.string nm,.string vl,.bool nv] 26)))
     refine hK.out _ _ (HQ5.out.cells) (fun hH=>?_)
     clear hK K
     refine ag 10 117 hH ?_
     refine ag 11 118 hH ?_
     refine ag 12 12 hH ?_
     refine wpAnyH_done (by kernel_rfl) ?_ _
     go_wp2_with fail
     refine (IX 0 4 m 15 _ OJ (by omega) (by omega) (by omega)).mono ?_
     rintro ev wp1 ⟨vp1,rfl,Ef,D6⟩
     have qC:=af (HQ5.out.below D6)
     obtain⟨Ap1,cp1,rfl,En⟩:=Ef.rd
     have Dq:=af En
     have J7:=(vD 0 15 m).1
     obtain⟨P1,yO⟩:∃P1,eP 0 15 m=P1:=⟨_,rfl⟩
     rw[yO] at Dq J7 ⊢
     have Fs:=af yO
     clear Ef D6 En yO
     go_wp2_with (at_builtin;refine dI ?_)
     unfold Stop
     refine dQ (.tmp 131) (.tmp 134) iT rfl rfl qC.out.own rfl Dq.out rfl (kZ _) (bn (by omega)) (by omega) qC.out.kp.size ?_
     intro va1 wa1 hown1 hg1 hb1
     obtain⟨L1,t_⟩:∃L1,L++P1=L1:=⟨_,rfl⟩
     have bM:=af (qC.out.app hown1 hg1 hb1)
     have iE:=congrArg List.length t_
     simp only[aN] at iE
     rw[t_] at bM
     obtain⟨Ax1,cx1,Bh,-,-,-,-⟩:=aC bM.out.own
     subst Bh
     have Ff:=af t_
     clear hown1 hg1 hb1 t_
     by_cases hm0:m=0
     ·have em:((m:Int)==0)=true:=by rw[hm0];rfl
      have cc2:=bM.out.cells
      obtain⟨k0,k1,k2,-,-⟩:=cc2
      go_wp2_with fail
      refine (IW nm _ (by omega)).mono ?_
      rintro ev wp2 ⟨vp2,rfl,J4,JK⟩
      have BS:=af (bM.out.below JK)
      obtain⟨Ap2,cp2,rfl,Kb⟩:=J4.rd
      have Jj:=af Kb
      have PL:=EN (s:=nm) (by omega)
      obtain⟨P2,wz⟩:∃P2,kW nm.data.toList=P2:=⟨_,rfl⟩
      rw[wz] at Jj PL ⊢
      have NM:=af wz
      clear J4 JK Kb wz k0 k1 k2
      go_wp2_with (at_builtin;refine dI ?_)
      unfold Stop
      refine dQ (.tmp 138) (.tmp 141) iT rfl rfl BS.out.own rfl Jj.out rfl (kZ _) (bn (by omega)) (by omega) BS.out.kp.size ?_
      intro va2 wa2 hown2 hg2 hb2
      obtain⟨L2,hL2⟩:∃L2,L1++P2=L2:=⟨_,rfl⟩
      have bY:=af (BS.out.app hown2 hg2 hb2)
      have hl2:=congrArg List.length hL2
      simp only[aN] at hl2
      rw[hL2] at bY
      obtain⟨Ax2,cx2,hv2,-,-,-,-⟩:=aC bY.out.own
      subst hv2
      have HL2:=af hL2
      clear hown2 hg2 hb2 hL2
      have F7:=bY.out.cells
      obtain⟨k0,k1,k2,-,-⟩:=F7
      go_wp2_with fail
      refine (IW vl _ (by omega)).mono ?_
      rintro ev wp3 ⟨vp3,rfl,y_,yS⟩
      have rJ:=af (bY.out.below yS)
      obtain⟨Ap3,cp3,rfl,zh⟩:=y_.rd
      have yz:=af zh
      have Gz:=EN (s:=vl) (by omega)
      obtain⟨P3,rW⟩:∃P3,kW vl.data.toList=P3:=⟨_,rfl⟩
      rw[rW] at yz Gz ⊢
      have Fu:=af rW
      clear y_ yS zh rW k0 k1 k2
      go_wp2_with (at_builtin;refine dI ?_)
      unfold Stop
      refine dQ (.tmp 143) (.tmp 146) iT rfl rfl rJ.out.own rfl yz.out rfl (kZ _) (bn (by omega)) (by omega) rJ.out.kp.size ?_
      intro va3 wa3 eB hg3 hb3
      obtain⟨L3,hL3⟩:∃L3,L2++P3=L3:=⟨_,rfl⟩
      have bJ:=af (rJ.out.app eB hg3 hb3)
      have xJ:=congrArg List.length hL3
      simp only[aN] at xJ
      rw[hL3] at bJ
      obtain⟨Ax3,cx3,hv3,-,-,-,-⟩:=aC bJ.out.own
      subst hv3
      have Fg:=af hL3
      clear eB hg3 hb3 hL3
      have sQ:=af (HN.out _ _ (by rw[zO.out,←jf,←jf,Fs.out,Ff.out,ax hm0,NM.out,HL2.out,Fu.out,Fg.out];exact bJ.out))
      go_wp2_with fail
      go_roundw
      case rel=>exact sQ.out
      case measure=>simp[intOf];omega
     ·have em:((m:Int)==0)=false:=by simp;omega
      have F7:=bM.out.cells
      obtain⟨k0,k1,k2,-,-⟩:=F7
      go_wp2_with fail
      refine (IW vl _ (by omega)).mono ?_
      rintro ev wp3 ⟨vp3,rfl,y_,yS⟩
      have rJ:=af (bM.out.below yS)
      obtain⟨Ap3,cp3,rfl,zh⟩:=y_.rd
      have yz:=af zh
      have Gz:=EN (s:=vl) (by omega)
      obtain⟨P3,rW⟩:∃P3,kW vl.data.toList=P3:=⟨_,rfl⟩
      rw[rW] at yz Gz ⊢
      have Fu:=af rW
      clear y_ yS zh rW k0 k1 k2
      go_wp2_with (at_builtin;refine dI ?_)
      unfold Stop
      refine dQ (.tmp 143) (.tmp 146) iT rfl rfl rJ.out.own rfl yz.out rfl (kZ _) (bn (by omega)) (by omega) rJ.out.kp.size ?_
      intro va3 wa3 eB hg3 hb3
      obtain⟨L3,hL3⟩:∃L3,L1++P3=L3:=⟨_,rfl⟩
      have bJ:=af (rJ.out.app eB hg3 hb3)
      have xJ:=congrArg List.length hL3
      simp only[aN] at xJ
      rw[hL3] at bJ
      obtain⟨Ax3,cx3,hv3,-,-,-,-⟩:=aC bJ.out.own
      subst hv3
      have Fg:=af hL3
      clear eB hg3 hb3 hL3
      have sQ:=af (HN.out _ _ (by rw[zO.out,aj hm0,kR,←jf,Fs.out,Ff.out,Fu.out,Fg.out];exact bJ.out))
      go_wp2_with fail
      go_roundw
      case rel=>exact sQ.out
      case measure=>simp[intOf];omega
  ·have hkn:k=n:=by omega
   have HE:Hid (∃v,Ending.returned u5 = .returned v∧b_ wr w.heap.size v (32 :: (eH T0 l).1)∧Kept (fun b=>b=e) w wr):=af (by
    have h1:=HO.out.1
    rw[cB (by have:=dX.out;omega)] at h1
    exact⟨_,rfl,h1,HO.out.2.2⟩)
   obtain⟨A9,c9,eD,-,-,-,-⟩:=aC HO.out.1
   subst eD
   go_wp2
   go_ret
   exact HE.out
end
section
open Go.RowKit
theorem be3v (n:Nat):ak (be 3 n)=[.int .u8 ((n / 65536%256:Nat):Int),.int .u8 ((n / 256%256:Nat):Int),.int .u8 ((n%256:Nat):Int)]:=by
 rw[be3,Ak (by omega) (by omega),Ak (by omega) (by omega),Ak (by omega) (by omega)];rfl
theorem be4v (n:Nat):ak (be 4 n)=[.int .u8 ((n / 16777216%256:Nat):Int),.int .u8 ((n / 65536%256:Nat):Int),.int .u8 ((n / 256%256:Nat):Int),.int .u8 ((n%256:Nat):Int)]:=by
 rw[be4,Ak (by omega) (by omega),Ak (by omega) (by omega),Ak (by omega) (by omega),Ak (by omega) (by omega)];rfl
theorem aaf (w:World) (a b c d:Value) (t t2:TypeId) (j:Nat):Rd ((w.alloc (.cells #[a,b,c,d] t)).alloc (.cells #[] t2)) (w.heap.size+1) 1 (some ⟨w.heap.size,j,none⟩) (4-j) ([a,b,c,d].drop j):=by
 refine⟨by simp,fun _=>⟨_,_,rfl,by omega,fun i hi=>?_⟩⟩
 have h1:((w.alloc (.cells #[a,b,c,d] t)).alloc (.cells #[] t2)).heap[w.heap.size]?=some (.cells #[a,b,c,d] t (0,0)):=(Below.heap_alloc _ _ _ (by simp)).trans (aZ _ _)
 unfold World.cell?
 rw[h1]
 simp
theorem agC (w:World) (B:Nat) (e:TypeId) (size:Nat) (hB:B≤w.heap.size):(w.alloc (.cells #[] e)).ownsRow B e size (.slice (some ⟨w.heap.size,0,none⟩) 0 0) 0 []:=
 ⟨by simp,.inr ⟨_,0,#[],rfl,hB,aZ _ _,ah _,by unfold maxLen;omega,by simp,by simp⟩⟩
theorem MN (w:World) (o:Obj) (B:Nat) (e:TypeId) (size:Nat) (hB:B≤w.heap.size):((w.alloc o).alloc (.cells #[] e)).ownsRow B e size (.slice (some ⟨w.heap.size+1,0,none⟩) 0 0) 0 []:=by
 have h:=agC (w.alloc o) B e size (by simp;omega)
 rwa [World.size_alloc] at h
theorem aaa (n size:Nat) (w:World) (hn:n<4294967296) (hs:size=3∨size=4) :
 Calls Tryz.prog 57 #[.int .u32 n,.int .i64 size] w (jV w (be size n)):=by
 have hA:∀(a b c d:Value),Below w.heap.size w ((w.alloc (.cells #[a,b,c,d] 5)).alloc (.cells #[] 5)):=fun a b c d=>((Below.refl _ _).alloc (ah _) _).alloc (by simp) _
 have HA:=af hA
 clear hA
 go_enter Tryz.func57,Tryz.ntmps57
 rcases hs with rfl | rfl
 ·go_wp2_with (at_builtin;refine dI ?_)
  unfold Stop
  refine dQ (.tmp 27) (.tmp 31) iT rfl rfl (MN w _ w.heap.size _ _ (ah _)) rfl (aaf _ _ _ _ _ _ _ 1) rfl (by simp[Value.oneCell']) (bn (by omega)) (by omega) (by simp;omega) ?_
  intro v5 w5 bZ dR _
  have aT:=Below.app (HA.out _ _ _ _) (MN w _ w.heap.size _ 1 (ah _)) dR (ah _) (by simp;omega)
  have HE:Hid (jV w (be 3 n) (.returned v5) w5):=af ⟨v5,rfl,(by
   unfold b_
   rw[jX,be3v]
   exact bZ),aT⟩
  obtain⟨A5,c5,fB,-,-,-,-⟩:=aC bZ
  rw[fB] at HE ⊢
  clear bZ dR fB aT
  go_wp2
  go_ret
  exact HE.out
 ·go_wp2_with (at_builtin;refine dI ?_)
  unfold Stop
  refine dQ (.tmp 27) (.tmp 31) iT rfl rfl (MN w _ w.heap.size _ _ (ah _)) rfl (aaf _ _ _ _ _ _ _ 0) rfl (by simp[Value.oneCell']) (bn (by omega)) (by omega) (by simp;omega) ?_
  intro v5 w5 bZ dR _
  have aT:=Below.app (HA.out _ _ _ _) (MN w _ w.heap.size _ 1 (ah _)) dR (ah _) (by simp;omega)
  have HE:Hid (jV w (be 4 n) (.returned v5) w5):=af ⟨v5,rfl,(by
   unfold b_
   rw[jX,be4v,Nat.mod_eq_of_lt (show n / 16777216<256 by omega)]
   exact bZ),aT⟩
  obtain⟨A5,c5,fB,-,-,-,-⟩:=aC bZ
  rw[fB] at HE ⊢
  clear bZ dR fB aT
  go_wp2
  go_ret
  exact HE.out
theorem aha (n:Nat) (w:World) (hn:n<4294967296):Calls Tryz.prog 58 #[.int .i64 n] w (jV w (be 4 n)):=by
 have HP:=af (aaa n 4 w hn (.inr rfl))
 have ew:IntKind.u32.wrap (n:Int)=n:=by rw[IntKind.wrap_u32];omega
 go_enter Tryz.func58,Tryz.ntmps58
 go_wp2_with fail
 refine HP.out.mono ?_
 rintro e w1 ⟨v,rfl,h⟩
 obtain⟨A5,c5,fB,-,-,-,-⟩:=aC h.1
 have HH:=af h
 subst fB
 clear h
 go_wp2
 go_ret
 exact⟨_,rfl,HH.out⟩
end
section
open Go.RowKit
def FQ (ty fl:Nat):Prop:=(ty=1∧fl=5)∨(ty=1∧fl=0)∨(ty=9∧fl=4)∨(ty=0∧fl=1)∨(ty=4∧fl=0)
structure Kn (f:Fr):Prop where
 k:FQ f.ty f.fl
 st:f.st≤1
 pad:f.pad=0
 d4:f.ty=4→f.data=⟨#[]⟩
 data:f.data.size≤1048576
theorem aeD (ty fl:Nat) (of fg:Int) (w:World) (h:FQ ty fl) (Gu:(of=0∧fg=8)∨(of=1∧fg=8)∨(of=1∧fg=32)) :
 Calls Tryz.prog 92 #[.int .i64 ty,.int .i64 fl,.int .i64 of,.int .i64 fg] w fun e w'=>e = .returned (.bool false)∧w=w':=by
 rcases h with ⟨rfl,rfl⟩ | ⟨rfl,rfl⟩ | ⟨rfl,rfl⟩ | ⟨rfl,rfl⟩ | ⟨rfl,rfl⟩
 all_goals
  rcases Gu with ⟨rfl,rfl⟩ | ⟨rfl,rfl⟩ | ⟨rfl,rfl⟩
  all_goals
   go_enter Tryz.func92,Tryz.ntmps92
   go_wp2_with fail
   go_ret
   exact⟨rfl,rfl⟩
theorem aeE (f:Fr) (fg:Int) (w:World) (h:FQ f.ty f.fl) (Gu:fg=8∨fg=32) :
 Calls Tryz.prog 93 #[gF f,.int .i64 fg] w fun e w'=>e = .returned (.bool false)∧Below w.heap.size w w':=by
 obtain⟨ty,fl,st,data,pad⟩:=f
 unfold gF Fr.cells
 dsimp only at h ⊢
 rcases h with ⟨rfl,rfl⟩ | ⟨rfl,rfl⟩ | ⟨rfl,rfl⟩ | ⟨rfl,rfl⟩ | ⟨rfl,rfl⟩
 all_goals
  rcases Gu with rfl | rfl
  all_goals
   go_enter Tryz.func93,Tryz.ntmps93
   go_wp2_with fail
   go_ret
   exact⟨rfl,(Below.refl _ _).alloc (ah _) _⟩
def RgRel (W:World) (iv:Value) (wr:World):Prop:=iv = .int .i64 0∧wr=W
theorem ahf (f:Fr) (w:World) (h:Kn f) :
 Calls Tryz.prog 91 #[gF f] w fun e w'=>e = .returned (.bool true)∧Below w.heap.size w w':=by
 obtain⟨hk,hst,wI,-,-⟩:=h
 obtain⟨ty,fl,st,data,pad⟩:=f
 unfold gF Fr.cells
 dsimp only at hk hst wI ⊢
 subst wI
 have PW:st=0∨st=1:=by omega
 clear hst
 have HB:Hid (∀o,Below w.heap.size w (w.alloc o)):=af (fun o=>(Below.refl _ _).alloc (ah _) o)
 rcases hk with ⟨rfl,rfl⟩ | ⟨rfl,rfl⟩ | ⟨rfl,rfl⟩ | ⟨rfl,rfl⟩ | ⟨rfl,rfl⟩
 all_goals
  rcases PW with rfl | rfl
  all_goals
   go_enter Tryz.func91,Tryz.ntmps91
   go_wp2_with fail
   go_loopw [3] (fun iv wr=>RgRel (w.alloc (.cells _ 52)) iv wr) (fun _ _=>0)
   case atStart=>exact⟨rfl,rfl⟩
   case round=>
    obtain⟨rfl,rfl⟩:=hrel
    go_wp2_with fail
    go_ret
    exact⟨rfl,HB.out _⟩
end
section
open Go.RowKit
theorem ahL (f:Fr) (w:World) (h:Kn f) :
 Calls Tryz.prog 55 #[gF f] w fun e w'=>e = .returned (.bool true)∧Below w.heap.size w w':=by
 have hb0:Below w.heap.size w (w.alloc (.cells f.cells 52)):=(Below.refl _ _).alloc (ah _) _
 have hnew:=aZ w (.cells f.cells 52)
 have hsz:(w.alloc (.cells f.cells 52)).heap.size=w.heap.size+1:=by simp
 have HRG:=af (ahf f (w.alloc (.cells f.cells 52)) h)
 obtain⟨hk,hst,wI,D7,-⟩:=h
 obtain⟨ty,fl,st,data,pad⟩:=f
 have HH:=af (fun of fg w h=>aeD ty fl of fg w hk h)
 unfold gF at HRG ⊢
 unfold Fr.cells at HRG hb0 hnew hsz ⊢
 dsimp only at hk hst wI D7 HRG HH hb0 hnew hsz ⊢
 subst wI
 have dW:=af hb0
 have qB:=af hnew
 have f_:=af hsz
 have mG:ty=4∨data=⟨#[]⟩∨(data.toList == [])=false:=by
  by_cases hd:data=⟨#[]⟩
  ·exact .inr (.inl hd)
  ·right;right
   have h1:=(Lib.bytes_beq_false_iff data ⟨#[]⟩).2 hd
   rwa [show (⟨#[]⟩:ByteArray).toList=[] from by decide +kernel] at h1
 clear hb0 hnew hsz hst
 rcases hk with ⟨rfl,rfl⟩ | ⟨rfl,rfl⟩ | ⟨rfl,rfl⟩ | ⟨rfl,rfl⟩ | ⟨rfl,rfl⟩
 all_goals
  rcases mG with h4 | rfl | e1
  all_goals
   first
   | (exfalso;omega)
   | skip
 all_goals
  first
  | (have hd:=D7 rfl;subst hd)
  | skip
 all_goals
  clear D7
  go_enter Tryz.func55,Tryz.ntmps55
  go_wp2_with fail
  refine HRG.out.mono ?_
  rintro e w1 ⟨rfl,hb1⟩
  have hq:=(hb1.block w.heap.size (by have:=f_.out;omega)).trans qB.out
  have bH:=af (dW.out.trans (hb1.mono (by have:=f_.out;omega)))
  obtain⟨c0,c1,c2,c3,c4,c5,c6,c7,c8,c9,c10,c11,hxl⟩:=fD.of (f:=⟨_,_,_,_,_⟩) hq
  simp only at c0 c1 c2 c3 c4
  clear hb1 hq
  go_wp2_with fail
  refine (HH.out 0 8 _ (.inl ⟨rfl,rfl⟩)).mono ?_
  rintro e w2 ⟨rfl,rfl⟩
  go_wp2_with fail
  refine (HH.out 1 8 _ (.inr (.inl ⟨rfl,rfl⟩))).mono ?_
  rintro e w2 ⟨rfl,rfl⟩
  go_wp2_with fail
  refine (HH.out 1 32 _ (.inr (.inr ⟨rfl,rfl⟩))).mono ?_
  rintro e w2 ⟨rfl,rfl⟩
  go_wp2_with fail
  go_ret
  exact⟨rfl,bH.out⟩
end
section
open Go.RowKit
def zX (W:World) (V iv:Value) (wr:World):Prop:=iv=V∧wr=W
theorem ahX (f:Fr) (w:World) (h:Kn f) :
 Calls Tryz.prog 56 #[gF f] w (jV w f.data.data.toList):=by
 have hb0:Below w.heap.size w (w.alloc (.cells f.cells 52)):=(Below.refl _ _).alloc (ah _) _
 have hnew:=aZ w (.cells f.cells 52)
 have hsz:(w.alloc (.cells f.cells 52)).heap.size=w.heap.size+1:=by simp
 obtain⟨hk,hst,wI,D7,hda⟩:=h
 have HH:=af (fun fg w h=>aeE f fg w hk h)
 obtain⟨ty,fl,st,data,pad⟩:=f
 unfold gF at HH ⊢
 unfold Fr.cells at HH hb0 hnew hsz ⊢
 dsimp only at hk hst wI D7 hda HH hb0 hnew hsz ⊢
 subst wI
 have qB:=af hnew
 clear hst D7
 rcases hk with ⟨rfl,rfl⟩ | ⟨rfl,rfl⟩ | ⟨rfl,rfl⟩ | ⟨rfl,rfl⟩ | ⟨rfl,rfl⟩
 ·have HX:=af (And.intro hb0 (And.intro hnew (show w.heap.size<(w.alloc (.cells _ 52)).heap.size by rw[hsz];exact rQ _)))
  clear hb0 hnew hsz
  go_enter Tryz.func56,Tryz.ntmps56
  go_wp2_with fail
  refine (HH.out 8 _ (by simp)).mono ?_
  rintro e w1 ⟨rfl,hb1⟩
  have HX:=af (And.intro (HX.out.1.trans (hb1.mono HX.out.1.size)) ((hb1.block w.heap.size HX.out.2.2).trans HX.out.2.1))
  have HX:=af (And.intro HX.out.1 (And.intro HX.out.2 (fI (Array.getElem?_eq_some_iff.1 HX.out.2).1 (ah _))))
  clear hb1
  obtain⟨c0,c1,c2,c3,c4,c5,c6,c7,c8,c9,c10,c11,hxl⟩:=fD.of (f:=⟨_,_,_,_,_⟩) HX.out.2.1
  simp only at c0 c1 c2 c3 c4
  go_wp2_with fail
  refine (HH.out 32 _ (by simp)).mono ?_
  rintro e w1 ⟨rfl,hb1⟩
  have HX:=af (And.intro (HX.out.1.trans (hb1.mono HX.out.1.size)) ((hb1.block w.heap.size HX.out.2.2).trans HX.out.2.1))
  have HX:=af (And.intro HX.out.1 (And.intro HX.out.2 (fI (Array.getElem?_eq_some_iff.1 HX.out.2).1 (ah _))))
  clear hb1
  obtain⟨c0,c1,c2,c3,c4,c5,c6,c7,c8,c9,c10,c11,hxl⟩:=fD.of (f:=⟨_,_,_,_,_⟩) HX.out.2.1
  simp only at c0 c1 c2 c3 c4
  go_wp2_with fail
  go_loopw [3,5] (fun bv iv wr=>bv = .slice none 0 0∧zX _ (.int .i64 0) iv wr) (fun _ _ _=>0)
  case atStart=>exact⟨rfl,rfl,rfl⟩
  case round=>
   obtain⟨rfl,rfl,rfl⟩:=hrel
   go_wp2_with (at_builtin;refine dI ?_)
   unfold Stop
   refine KQ (.tmp 102) (.tmp 104) rfl rfl (World.ownsRow_nil _ w.heap.size 5 1) rfl data rfl (by omega) HX.out.1.size ?_
   intro v5 w5 bZ dR
   rw[mh,jQ] at bZ
   have aT:=Below.app HX.out.1 (World.ownsRow_nil _ w.heap.size 5 1) dR (ah _) HX.out.1.size
   have HE:Hid (jV w data.data.toList (.returned v5) w5):=af ⟨v5,rfl,(by
    unfold b_
    rw[gJ data]
    exact bZ),aT⟩
   obtain⟨A5,c5,fB,-,-,-,-⟩:=aC bZ
   have h5:=(dR.block w.heap.size HX.out.2.2 (by simp[Value.ownBlock])).trans HX.out.2.1
   have c4:w5.cell? ⟨w.heap.size,4,none⟩=some (.int .i64 0):=by unfold World.cell?;rw[h5];rfl
   rw[fB] at HE ⊢
   clear bZ dR fB aT h5 HX qB HH
   go_wp2_with fail
   go_loopw [3,6] (fun bv iv wr=>bv = .slice A5 data.size c5∧zX w5 (.int .i64 0) iv wr) (fun _ _ _=>0)
   case atStart=>exact⟨rfl,rfl,rfl⟩
   case round=>
    obtain⟨rfl,rfl,rfl⟩:=hrel
    go_wp2_with fail
    go_ret
    exact HE.out
 ·have HX:=af (And.intro hb0 (And.intro hnew (show w.heap.size<(w.alloc (.cells _ 52)).heap.size by rw[hsz];exact rQ _)))
  clear hb0 hnew hsz
  go_enter Tryz.func56,Tryz.ntmps56
  go_wp2_with fail
  refine (HH.out 8 _ (by simp)).mono ?_
  rintro e w1 ⟨rfl,hb1⟩
  have HX:=af (And.intro (HX.out.1.trans (hb1.mono HX.out.1.size)) ((hb1.block w.heap.size HX.out.2.2).trans HX.out.2.1))
  have HX:=af (And.intro HX.out.1 (And.intro HX.out.2 (fI (Array.getElem?_eq_some_iff.1 HX.out.2).1 (ah _))))
  clear hb1
  obtain⟨c0,c1,c2,c3,c4,c5,c6,c7,c8,c9,c10,c11,hxl⟩:=fD.of (f:=⟨_,_,_,_,_⟩) HX.out.2.1
  simp only at c0 c1 c2 c3 c4
  go_wp2_with fail
  refine (HH.out 32 _ (by simp)).mono ?_
  rintro e w1 ⟨rfl,hb1⟩
  have HX:=af (And.intro (HX.out.1.trans (hb1.mono HX.out.1.size)) ((hb1.block w.heap.size HX.out.2.2).trans HX.out.2.1))
  have HX:=af (And.intro HX.out.1 (And.intro HX.out.2 (fI (Array.getElem?_eq_some_iff.1 HX.out.2).1 (ah _))))
  clear hb1
  obtain⟨c0,c1,c2,c3,c4,c5,c6,c7,c8,c9,c10,c11,hxl⟩:=fD.of (f:=⟨_,_,_,_,_⟩) HX.out.2.1
  simp only at c0 c1 c2 c3 c4
  go_wp2_with fail
  go_loopw [3,5] (fun bv iv wr=>bv = .slice none 0 0∧zX _ (.int .i64 0) iv wr) (fun _ _ _=>0)
  case atStart=>exact⟨rfl,rfl,rfl⟩
  case round=>
   obtain⟨rfl,rfl,rfl⟩:=hrel
   go_wp2_with (at_builtin;refine dI ?_)
   unfold Stop
   refine KQ (.tmp 102) (.tmp 104) rfl rfl (World.ownsRow_nil _ w.heap.size 5 1) rfl data rfl (by omega) HX.out.1.size ?_
   intro v5 w5 bZ dR
   rw[mh,jQ] at bZ
   have aT:=Below.app HX.out.1 (World.ownsRow_nil _ w.heap.size 5 1) dR (ah _) HX.out.1.size
   have HE:Hid (jV w data.data.toList (.returned v5) w5):=af ⟨v5,rfl,(by
    unfold b_
    rw[gJ data]
    exact bZ),aT⟩
   obtain⟨A5,c5,fB,-,-,-,-⟩:=aC bZ
   have h5:=(dR.block w.heap.size HX.out.2.2 (by simp[Value.ownBlock])).trans HX.out.2.1
   have c4:w5.cell? ⟨w.heap.size,4,none⟩=some (.int .i64 0):=by unfold World.cell?;rw[h5];rfl
   rw[fB] at HE ⊢
   clear bZ dR fB aT h5 HX qB HH
   go_wp2_with fail
   go_loopw [3,6] (fun bv iv wr=>bv = .slice A5 data.size c5∧zX w5 (.int .i64 0) iv wr) (fun _ _ _=>0)
   case atStart=>exact⟨rfl,rfl,rfl⟩
   case round=>
    obtain⟨rfl,rfl,rfl⟩:=hrel
    go_wp2_with fail
    go_ret
    exact HE.out
 ·have HX:=af (And.intro hb0 (And.intro hnew (show w.heap.size<(w.alloc (.cells _ 52)).heap.size by rw[hsz];exact rQ _)))
  clear hb0 hnew hsz
  go_enter Tryz.func56,Tryz.ntmps56
  go_wp2_with fail
  go_loopw [3,5] (fun bv iv wr=>bv = .slice none 0 0∧zX _ (.int .i64 0) iv wr) (fun _ _ _=>0)
  case atStart=>exact⟨rfl,rfl,rfl⟩
  case round=>
   obtain⟨rfl,rfl,rfl⟩:=hrel
   go_wp2_with (at_builtin;refine dI ?_)
   unfold Stop
   refine KQ (.tmp 102) (.tmp 104) rfl rfl (World.ownsRow_nil _ w.heap.size 5 1) rfl data rfl (by omega) HX.out.1.size ?_
   intro v5 w5 bZ dR
   rw[mh,jQ] at bZ
   have aT:=Below.app HX.out.1 (World.ownsRow_nil _ w.heap.size 5 1) dR (ah _) HX.out.1.size
   have HE:Hid (jV w data.data.toList (.returned v5) w5):=af ⟨v5,rfl,(by
    unfold b_
    rw[gJ data]
    exact bZ),aT⟩
   obtain⟨A5,c5,fB,-,-,-,-⟩:=aC bZ
   have h5:=(dR.block w.heap.size HX.out.2.2 (by simp[Value.ownBlock])).trans HX.out.2.1
   have c4:w5.cell? ⟨w.heap.size,4,none⟩=some (.int .i64 0):=by unfold World.cell?;rw[h5];rfl
   rw[fB] at HE ⊢
   clear bZ dR fB aT h5 HX qB HH
   go_wp2_with fail
   go_loopw [3,6] (fun bv iv wr=>bv = .slice A5 data.size c5∧zX w5 (.int .i64 0) iv wr) (fun _ _ _=>0)
   case atStart=>exact⟨rfl,rfl,rfl⟩
   case round=>
    obtain⟨rfl,rfl,rfl⟩:=hrel
    go_wp2_with fail
    go_ret
    exact HE.out
 ·have HX:=af (And.intro hb0 (And.intro hnew (show w.heap.size<(w.alloc (.cells _ 52)).heap.size by rw[hsz];exact rQ _)))
  clear hb0 hnew hsz
  go_enter Tryz.func56,Tryz.ntmps56
  go_wp2_with fail
  refine (HH.out 8 _ (by simp)).mono ?_
  rintro e w1 ⟨rfl,hb1⟩
  have HX:=af (And.intro (HX.out.1.trans (hb1.mono HX.out.1.size)) ((hb1.block w.heap.size HX.out.2.2).trans HX.out.2.1))
  have HX:=af (And.intro HX.out.1 (And.intro HX.out.2 (fI (Array.getElem?_eq_some_iff.1 HX.out.2).1 (ah _))))
  clear hb1
  obtain⟨c0,c1,c2,c3,c4,c5,c6,c7,c8,c9,c10,c11,hxl⟩:=fD.of (f:=⟨_,_,_,_,_⟩) HX.out.2.1
  simp only at c0 c1 c2 c3 c4
  go_wp2_with fail
  go_loopw [3,5] (fun bv iv wr=>bv = .slice none 0 0∧zX _ (.int .i64 0) iv wr) (fun _ _ _=>0)
  case atStart=>exact⟨rfl,rfl,rfl⟩
  case round=>
   obtain⟨rfl,rfl,rfl⟩:=hrel
   go_wp2_with (at_builtin;refine dI ?_)
   unfold Stop
   refine KQ (.tmp 102) (.tmp 104) rfl rfl (World.ownsRow_nil _ w.heap.size 5 1) rfl data rfl (by omega) HX.out.1.size ?_
   intro v5 w5 bZ dR
   rw[mh,jQ] at bZ
   have aT:=Below.app HX.out.1 (World.ownsRow_nil _ w.heap.size 5 1) dR (ah _) HX.out.1.size
   have HE:Hid (jV w data.data.toList (.returned v5) w5):=af ⟨v5,rfl,(by
    unfold b_
    rw[gJ data]
    exact bZ),aT⟩
   obtain⟨A5,c5,fB,-,-,-,-⟩:=aC bZ
   have h5:=(dR.block w.heap.size HX.out.2.2 (by simp[Value.ownBlock])).trans HX.out.2.1
   have c4:w5.cell? ⟨w.heap.size,4,none⟩=some (.int .i64 0):=by unfold World.cell?;rw[h5];rfl
   rw[fB] at HE ⊢
   clear bZ dR fB aT h5 HX qB HH
   go_wp2_with fail
   go_loopw [3,6] (fun bv iv wr=>bv = .slice A5 data.size c5∧zX w5 (.int .i64 0) iv wr) (fun _ _ _=>0)
   case atStart=>exact⟨rfl,rfl,rfl⟩
   case round=>
    obtain⟨rfl,rfl,rfl⟩:=hrel
    go_wp2_with fail
    go_ret
    exact HE.out
 ·have HX:=af (And.intro hb0 (And.intro hnew (show w.heap.size<(w.alloc (.cells _ 52)).heap.size by rw[hsz];exact rQ _)))
  clear hb0 hnew hsz
  go_enter Tryz.func56,Tryz.ntmps56
  go_wp2_with fail
  go_loopw [3,5] (fun bv iv wr=>bv = .slice none 0 0∧zX _ (.int .i64 0) iv wr) (fun _ _ _=>0)
  case atStart=>exact⟨rfl,rfl,rfl⟩
  case round=>
   obtain⟨rfl,rfl,rfl⟩:=hrel
   go_wp2_with (at_builtin;refine dI ?_)
   unfold Stop
   refine KQ (.tmp 102) (.tmp 104) rfl rfl (World.ownsRow_nil _ w.heap.size 5 1) rfl data rfl (by omega) HX.out.1.size ?_
   intro v5 w5 bZ dR
   rw[mh,jQ] at bZ
   have aT:=Below.app HX.out.1 (World.ownsRow_nil _ w.heap.size 5 1) dR (ah _) HX.out.1.size
   have HE:Hid (jV w data.data.toList (.returned v5) w5):=af ⟨v5,rfl,(by
    unfold b_
    rw[gJ data]
    exact bZ),aT⟩
   obtain⟨A5,c5,fB,-,-,-,-⟩:=aC bZ
   have h5:=(dR.block w.heap.size HX.out.2.2 (by simp[Value.ownBlock])).trans HX.out.2.1
   have c4:w5.cell? ⟨w.heap.size,4,none⟩=some (.int .i64 0):=by unfold World.cell?;rw[h5];rfl
   rw[fB] at HE ⊢
   clear bZ dR fB aT h5 HX qB HH
   go_wp2_with fail
   go_loopw [3,6] (fun bv iv wr=>bv = .slice A5 data.size c5∧zX w5 (.int .i64 0) iv wr) (fun _ _ _=>0)
   case atStart=>exact⟨rfl,rfl,rfl⟩
   case round=>
    obtain⟨rfl,rfl,rfl⟩:=hrel
    go_wp2_with fail
    go_ret
    exact HE.out
end
section
open Go.RowKit
theorem ae4 (f:Fr) (h:Kn f):dG f false=f.data.data.toList:=by
 unfold dG
 rw[h.pad]
 simp
theorem Tv (f:Fr) (w:World) (h:Kn f):Calls Tryz.prog 18 #[gF f] w (WN w (bD f false) 0):=by
 obtain⟨W0,hW0⟩:∃W0,w.alloc (.cells f.cells 52)=W0:=⟨_,rfl⟩
 obtain⟨x,hx⟩:∃x,w.heap.size=x:=⟨_,rfl⟩
 have b0:Below w.heap.size w W0:=by rw[←hW0];exact (Below.refl _ _).alloc (ah _) _
 have kx:W0.heap[x]?=some (.cells f.cells 52 (0,0)):=by rw[←hW0,←hx];exact aZ _ _
 have HF:=af (fD.of kx)
 have BQ:=af (ahL f W0 h)
 have rM:=af (fun w=>ahX f w h)
 have hkt:=h.k
 have hst:=h.st
 have hpl:f.data.data.toList.length=f.data.size:=gJ f.data
 have hda:=h.data
 rw[←hpl] at hda
 have hpy:=ae4 f h
 obtain⟨P,hP⟩:∃P,f.data.data.toList=P:=⟨_,rfl⟩
 have HFB:Hid (bD f false=be 3 P.length++[UInt8.ofNat f.ty,UInt8.ofNat f.fl]++be 4 f.st++P):=af (by unfold bD;rw[hpy,hP])
 rw[hP] at rM hda
 obtain⟨R,hR⟩:∃R,bD f false=R:=⟨_,rfl⟩
 rw[hR] at HFB ⊢
 clear hP hR hpy hpl h
 obtain⟨ty,fl,st,data,pad⟩:=f
 dsimp only at hkt hst HFB
 have P7:ty<256:=by unfold FQ at hkt;omega
 have hfl:fl<256:=by unfold FQ at hkt;omega
 unfold gF at BQ rM ⊢
 simp only[Fr.cells] at hW0 BQ rM ⊢
 have HB:=af b0
 have dY:=af hW0
 have HX:=af hx
 clear hW0 hx b0 kx hkt
 have hs0:=HB.out.size
 have w_:Hid (∀w,Calls Tryz.prog 57 #[.int .u32 (P.length:Int),.int .i64 3] w (jV w (be 3 P.length))):=af fun w=>aaa P.length 3 w (by omega) (.inl rfl)
 have HR4:Hid (∀w,Calls Tryz.prog 58 #[.int .i64 st] w (jV w (be 4 st))):=af fun w=>aha st w (by omega)
 have ew:IntKind.u32.wrap (P.length:Int)=P.length:=by rw[IntKind.wrap_u32];omega
 have ew1:IntKind.u8.wrap (ty:Int)=ty:=by rw[IntKind.wrap_u8];omega
 have ew2:IntKind.u8.wrap (fl:Int)=fl:=by rw[IntKind.wrap_u8];omega
 have HTW:=af (XB P7 hfl)
 go_enter Tryz.func18,Tryz.ntmps18
 go_upto_region 1 with fail
 refine bI ?_
 intro W3 hW3
 obtain rfl:W3=W0:=hW3.trans dY.out
 rw[HX.out]
 clear hW3
 obtain⟨c0,c1,c2,c3,c4,c5,c6,c7,c8,c9,c10,c11,hxl⟩:=HF.out
 simp only at c0 c1 c2 c3 c4
 go_wp2_with fail
 refine BQ.out.mono ?_
 rintro e1 w1 ⟨rfl,hb1⟩
 have zJ:=af (HF.out.below hb1)
 have bH:=af (HB.out.trans (hb1.mono hs0))
 clear hb1 c0 c1 c2 c3 c4 c5 c6 c7 c8 c9 c10 c11 BQ
 obtain⟨c0,c1,c2,c3,c4,c5,c6,c7,c8,c9,c10,c11,dl⟩:=zJ.out
 simp only at c0 c1 c2 c3 c4
 go_wp2_with fail
 refine (rM.out _).mono ?_
 rintro e2 w2 ⟨v2,rfl,jh,hb2⟩
 have vO:=af (zJ.out.below hb2)
 have aI:=af (bH.out.trans (hb2.mono bH.out.size))
 obtain⟨A2,c2',rfl,hr2⟩:=jh.rd
 have fU:=af hr2
 clear hb2 jh hr2 c0 c1 c2 c3 c4 c5 c6 c7 c8 c9 c10 c11 rM
 go_wp2_with fail
 refine (w_.out w2).mono ?_
 rintro e3 w3 ⟨v3,rfl,iA,hb3⟩
 have Dj:=af (vO.out.below hb3)
 have aM:=af (aI.out.trans (hb3.mono aI.out.size))
 have BU:=af (fU.out.below hb3 (ah _))
 have iV:=af (And.intro hb3.size aI.out.size)
 unfold b_ at iA
 rw[jX] at iA
 have yw:=af iA
 have HB23:=af hb3
 clear hb3 iA
 obtain⟨c0,c1,c2,c3,c4,c5,c6,c7,c8,c9,c10,c11,dl3⟩:=Dj.out
 simp only at c0 c1 c2 c3 c4
 go_wp2_with (at_builtin;refine dI ?_)
 unfold Stop
 refine dQ (.tmp 18) (.tmp 25) iT rfl rfl (World.ownsRow.alloc yw.out _) rfl (Rd.GV w3 #[.int .u8 (ty:Int),.int .u8 (fl:Int)] 5 2 (k:=w3.heap.size) rfl rfl) rfl (by simp[Value.oneCell']) (bn (by omega)) (by omega) (by have:=iV.out.1;simp;omega) ?_
 intro v4 w4 fT hg4 _
 have tq:Hid (w4.ownsRow w2.heap.size 5 1 v4 5 (ak (be 3 P.length++[UInt8.ofNat ty,UInt8.ofNat fl]))):=af (by rw[mU,HTW.out];exact fT)
 have HB34:=af (Below.app ((Below.refl w2.heap.size w3).alloc iV.out.1 _) (World.ownsRow.alloc yw.out _) hg4 (ah _) (by have:=iV.out.1;simp;omega))
 have Je:=af (HB23.out.trans HB34.out)
 have oL:=af (vO.out.keep Je.out.size (Je.out.block x vO.out.lt))
 have HRP:=af (fU.out.below Je.out (ah _))
 obtain⟨A4,Cj,hv4,-,-,-,-⟩:=aC fT
 rw[hv4] at tq
 subst hv4
 clear fT hg4 HB34 yw aM BU c0 c1 c2 c3 c4 c5 c6 c7 c8 c9 c10 c11
 have hs24:=Je.out.size
 obtain⟨c0,c1,c2,c3,c4,c5,c6,c7,c8,c9,c10,c11,dl4⟩:=oL.out
 simp only at c0 c1 c2 c3 c4
 go_wp2_with fail
 refine (HR4.out _).mono ?_
 rintro e6 w6 ⟨v6,rfl,ho6,dO⟩
 have Fp:Hid (w6.ownsRow w2.heap.size 5 1 (.slice A4 (3+2) Cj) 5 (ak (be 3 P.length++[UInt8.ofNat ty,UInt8.ofNat fl]))):=af (d_ tq.out (Kept.jk (F:=fun _=>False) dO) (fun _ _ h=>h))
 have BV:=af (HRP.out.below (dO.mono hs24) (ah _))
 have HB26:=af (Je.out.trans (dO.mono hs24))
 have hs26:=HB26.out.size
 obtain⟨A6,c6',rfl,dH⟩:=ho6.rd
 have J8:Rd w6 w6.heap.size 1 A6 4 (ak (be 4 st)):=by rw[jX] at dH;exact dH
 have HS6:=af J8
 rw[jX]
 have Eo:=iV.out.2
 clear dO ho6 dH J8 c0 c1 c2 c3 c4 c5 c6 c7 c8 c9 c10 c11
 go_wp2_with (at_builtin;refine dI ?_)
 unfold Stop
 refine dQ (.tmp 27) (.tmp 30) iT rfl rfl Fp.out rfl HS6.out rfl (kZ _) (bn (by omega)) (by omega) (by omega) ?_
 intro v7 w7 za Cx _
 have BR:=af (And.intro za Cx)
 have BX:=af (BV.out.grown Cx (by omega) (fun g hg=>(World.ownsRow.lt Fp.out g hg).1))
 have o8:=Cx.size
 obtain⟨A7,c7',Er,-,-,-,-⟩:=aC za
 rw[Er] at BR
 subst Er
 clear za Cx
 go_wp2_with (at_builtin;refine dI ?_)
 unfold Stop
 refine dQ (.tmp 32) (.tmp 33) iT rfl rfl BR.out.1 rfl BX.out rfl (kZ _) (bn (by omega)) (by omega) (by omega) ?_
 intro v8 w8 mZ qc _
 have HE:Hid (WN w R 0 (.returned (.tuple #[v8,.int .i64 0])) w8):=af (by
  refine⟨v8,rfl,?_,Below.app (Below.app (aI.out.trans (HB26.out.mono Eo)) Fp.out BR.out.2 Eo (by omega)) BR.out.1 qc Eo (by omega)⟩
  have h8:=mZ
  rw[←mU,←mU] at h8
  rw[HFB.out]
  exact (MO h8).base Eo)
 obtain⟨A8,c8',Es,-,-,-,-⟩:=aC mZ
 subst Es
 clear mZ qc
 go_wp2
 go_ret2
 exact HE.out
end
section
open Go.RowKit
theorem agA (w:World) (B:Nat) (cs:Array Value) (t:TypeId) (size n:Nat) (hs:cs.size=n*size) (hB:B≤w.heap.size) (hn:n≤1000000):(w.alloc (.cells cs t)).ownsRow B t size (.slice (some ⟨w.heap.size,0,none⟩) n n) n cs.toList:=
 ⟨by simp[hs],.inr ⟨_,n,cs,rfl,hB,aZ _ _,ah _,by unfold maxLen;omega,hs,by rw[cB (by simp[hs])]⟩⟩
theorem ae5:Kn gI:=⟨by unfold FQ gI;simp,by decide,rfl,fun _=>rfl,by decide⟩
def oD:List UInt8:=zw++bD gI false
theorem ag4 (w:World):(convert 48 48 (.slice (some ⟨w.heap.size,0,none⟩) 24 24)).run Tryz.prog (w.alloc (.cells #[.int .u8 80,.int .u8 82,.int .u8 73,.int .u8 32,.int .u8 42,.int .u8 32,.int .u8 72,.int .u8 84,.int .u8 84,.int .u8 80,.int .u8 47,.int .u8 50,.int .u8 46,.int .u8 48,.int .u8 13,.int .u8 10,.int .u8 13,.int .u8 10,.int .u8 83,.int .u8 77,.int .u8 13,.int .u8 10,.int .u8 13,.int .u8 10] 5)) = .ok (.slice (some ⟨w.heap.size,0,none⟩) 24 24) (w.alloc (.cells #[.int .u8 80,.int .u8 82,.int .u8 73,.int .u8 32,.int .u8 42,.int .u8 32,.int .u8 72,.int .u8 84,.int .u8 84,.int .u8 80,.int .u8 47,.int .u8 50,.int .u8 46,.int .u8 48,.int .u8 13,.int .u8 10,.int .u8 13,.int .u8 10,.int .u8 83,.int .u8 77,.int .u8 13,.int .u8 10,.int .u8 13,.int .u8 10] 5 (24,25))):=
 Lib.run_convert_bytes_const w 48 5 #[.int .u8 80,.int .u8 82,.int .u8 73,.int .u8 32,.int .u8 42,.int .u8 32,.int .u8 72,.int .u8 84,.int .u8 84,.int .u8 80,.int .u8 47,.int .u8 50,.int .u8 46,.int .u8 48,.int .u8 13,.int .u8 10,.int .u8 13,.int .u8 10,.int .u8 83,.int .u8 77,.int .u8 13,.int .u8 10,.int .u8 13,.int .u8 10] 24 24 Tryz.underlying48 Tryz.underlying5
theorem ag3 (w:World) (fz:Nat×Nat):∀j u,(ak zw)[j]?=some u→(w.alloc (.cells #[.int .u8 80,.int .u8 82,.int .u8 73,.int .u8 32,.int .u8 42,.int .u8 32,.int .u8 72,.int .u8 84,.int .u8 84,.int .u8 80,.int .u8 47,.int .u8 50,.int .u8 46,.int .u8 48,.int .u8 13,.int .u8 10,.int .u8 13,.int .u8 10,.int .u8 83,.int .u8 77,.int .u8 13,.int .u8 10,.int .u8 13,.int .u8 10] 5 fz)).cell? ((⟨w.heap.size,0,none⟩:Addr).add j)=some u:=by
 intro j u hu
 rw[Addr.add_lit,mh]
 have h:=aZ w (.cells #[.int .u8 80,.int .u8 82,.int .u8 73,.int .u8 32,.int .u8 42,.int .u8 32,.int .u8 72,.int .u8 84,.int .u8 84,.int .u8 80,.int .u8 47,.int .u8 50,.int .u8 46,.int .u8 48,.int .u8 13,.int .u8 10,.int .u8 13,.int .u8 10,.int .u8 83,.int .u8 77,.int .u8 13,.int .u8 10,.int .u8 13,.int .u8 10] 5 fz)
 unfold World.cell?
 rw[h]
 dsimp only
 have e:(#[.int .u8 80,.int .u8 82,.int .u8 73,.int .u8 32,.int .u8 42,.int .u8 32,.int .u8 72,.int .u8 84,.int .u8 84,.int .u8 80,.int .u8 47,.int .u8 50,.int .u8 46,.int .u8 48,.int .u8 13,.int .u8 10,.int .u8 13,.int .u8 10,.int .u8 83,.int .u8 77,.int .u8 13,.int .u8 10,.int .u8 13,.int .u8 10]:Array Value)=(ak zw).toArray:=rfl
 rw[e]
 simpa using hu
theorem YK (w:World):Calls Tryz.prog 20 #[] w (jV w oD):=by
 have HP:=af (Tv gI w ae5)
 have sS:=af (show (bD gI false).length=9 from by decide +kernel)
 obtain⟨S,hS⟩:∃S,bD gI false=S:=⟨_,rfl⟩
 have HS:=af hS
 rw[hS] at HP sS
 unfold oD
 rw[hS]
 unfold gF Fr.cells gI at HP
 dsimp only at HP
 clear hS
 go_enter Tryz.func20,Tryz.ntmps20
 go_wp2_with fail
 refine HP.out.mono ?_
 rintro e w1 ⟨v1,rfl,su,hb1⟩
 obtain⟨A1,c1,rfl,hr1⟩:=su.rd
 have hs1:=hb1.size
 have hcv:=ag4 w1
 obtain⟨-,b,o,rfl,hbl,hcc⟩:=hr1.tL (by have:=sS.out;omega)
 have HC:Hid (∀(j:Nat) (u:Value),(ak S)[j]?=some u→w1.cell? ⟨b,o+j,none⟩=some u):=af (fun j u hu=>by
  have hj:j<S.length:=by have:=(List.getElem?_eq_some_iff.1 hu).1;rwa [tO] at this
  obtain⟨b',o',hA,-,h2⟩:=hr1.at_ (by have:=sS.out;omega)
  injection hA with hA
  injection hA with h3 h4
  subst h3 h4
  rw[h2 j (by omega)]
  exact hu)
 have bH:=af hb1
 clear su hr1 hcc hb1
 go_wp2_with (at_builtin;refine dI ?_)
 unfold Stop
 obtain⟨i,hi,hz,hsz,hby⟩:=info_parts iT.info
 refine wpList_append_grows _ rfl (.tmp 9) (.tmp 10) 48 rfl 5 i _ 1 1 Tryz.underlying48 hi hz hsz hby rfl (by decide) (some ⟨w1.heap.size,0,none⟩) 24 24 (ak zw) rfl (fun h=>by cases h) (by decide +kernel) (fun b hb j u hu=>by
  injection hb with hb
  subst hb
  exact ag3 w1 _ j u hu) ⟨b,o,none⟩ S.length c1 (ak S) rfl (by rw[tO,Nat.mul_one]) (fun j u hu=>by
  rw[Addr.add_lit]
  exact Lib.cell?_alloc_marked _ (HC.out j u hu)) (kZ _) (by have:=sS.out;omega) (bn (by have:=sS.out;omega)) (by have:=sS.out;omega) ?_
 intro v2 w2 hown2 hg2
 have HE:Hid (jV w (zw++S) (.returned v2) w2):=af ⟨v2,rfl,(by
  have h2:=pG hown2 (show w.heap.size≤(w1.alloc _).heap.size by simp;omega)
  unfold b_
  rw[aN,mU]
  exact h2),(bH.out.alloc hs1 _).grown hg2 (by simp;omega) (fun k hk=>by cases hk)⟩
 obtain⟨A2,c2,hv2,-,-,-,-⟩:=aC hown2
 subst hv2
 clear hown2 hg2
 go_wp2
 go_ret
 exact HE.out
def fMeth:Fd:=((⟨#[58,109,101,116,104,111,100]⟩,⟨#[71,69,84]⟩),false)
def fSch:Fd:=((⟨#[58,115,99,104,101,109,101]⟩,⟨#[104,116,116,112]⟩),false)
def fAuth:Fd:=((⟨#[58,97,117,116,104,111,114,105,116,121]⟩,⟨#[104]⟩),false)
def fPath:Fd:=((⟨#[58,112,97,116,104]⟩,⟨#[47]⟩),false)
def rV:List Fd:=[fMeth,fSch,fAuth,fPath]
def F4:List UInt8:=(E0.run rV).1
def mq:Fr:=⟨1,5,1,aJ F4,0⟩
theorem Oq:F4.length≤1000:=by decide +kernel
theorem ae3:Kn mq:=⟨by unfold FQ mq;simp,by decide,rfl,(fun h=>absurd h (by decide)),(by
 show (aJ F4).size≤_
 rw[pz]
 have:=Oq
 omega)⟩
theorem acm (w:World):Calls Tryz.prog 30 #[.int .i64 1,.string ⟨#[71,69,84]⟩,.string ⟨#[104]⟩,.string ⟨#[47]⟩,.slice none 0 0] w (jV w (bD mq false)):=by
 have HN:=af (aal w)
 have HP:=af (fun w=>Tv mq w ae3)
 have sS:=af (show (bD mq false).length≤2000 from by decide +kernel)
 obtain⟨S,hS⟩:∃S,bD mq false=S:=⟨_,rfl⟩
 rw[hS] at HP sS ⊢
 unfold gF Fr.cells mq at HP
 dsimp only at HP
 clear hS
 have HOW:=af (fun (w0 w1:World) (hB:w0.heap.size≤w1.heap.size)=>agA w1 w0.heap.size (fds rV).toArray 26 3 4 (by decide +kernel) hB (by omega))
 go_enter Tryz.func30,Tryz.ntmps30
 go_wp2_with fail
 refine HN.out.mono ?_
 rintro e w1 ⟨rfl,D8,hb1⟩
 have hs1:=hb1.size
 have hel:w.heap.size<w1.heap.size:=(Array.getElem?_eq_some_iff.1 D8).1
 go_wp2_with (at_builtin;refine dI ?_)
 unfold Stop
 refine dQ (.tmp 27) (.tmp 28) j3 rfl rfl (HOW.out w1 w1 (ah _)) rfl (show Rd _ 0 3 none 0 [] from ⟨rfl,fun h=>absurd h (Ce 0)⟩) rfl (by simp) (bn (by omega)) (by omega) (by simp) ?_
 intro v2 w2 hown2 hg2 _
 rw[kR] at hown2
 have hb2:=Below.app ((Below.refl w1.heap.size w1).alloc (ah _) _) (HOW.out w1 w1 (ah _)) hg2 (ah _) (by simp)
 obtain⟨A2,c2,rfl,-,-,CP,Yv⟩:=aC hown2
 have YL:Dy w2 w.heap.size 4096:=(hb2.block _ hel).trans D8
 have HEN:=af (aak (c:=c2) rV w2 YL CP (fun _ a ha e1=>by have:=Yv a ha;omega) (by omega) (by decide +kernel))
 have aI:=af (hb1.trans (hb2.mono hs1))
 have hs2:=hb2.size
 clear hown2 hg2 hb2 CP Yv YL D8 hb1 HN HOW
 go_wp2_with fail
 refine HEN.out.mono ?_
 rintro e w3 ⟨v3,rfl,iA,hk3⟩
 obtain⟨A3,c3,rfl,hrd3⟩:=iA.rd
 have e3:=sJ Tryz.underlying48 Tryz.underlying5 Tryz.underlying9 hrd3 c3
 rw[show (⟨((E0.run rV).1).toArray⟩:ByteArray)=aJ F4 from rfl] at e3
 have aM:Hid (Below w.heap.size w w3):=af (aI.out.trans (hk3.below (fun k hk=>by omega) (by omega)))
 obtain⟨nb,hnb⟩:∃nb,((E0.run rV).1).length=nb:=⟨_,rfl⟩
 rw[hnb] at e3 ⊢
 clear hrd3 iA hk3 HEN hnb
 go_wp2_with fail
 refine (HP.out _).mono ?_
 rintro e w4 ⟨v4,rfl,sw,hb4⟩
 have HE:Hid (jV w S (.returned v4) w4):=af ⟨v4,rfl,sw.base aM.out.size,aM.out.trans (hb4.mono aM.out.size)⟩
 obtain⟨A4,c4,hv4,-,-,-,-⟩:=aC sw
 subst hv4
 clear sw hb4 HP
 go_wp2
 go_ret
 exact HE.out
end
section
open Go.RowKit Go.Maps
def tb0:Tb:=⟨0,0,[]⟩
theorem acw:sH 0 1000 tb0 (aJ F4).data.toList=(rV,0,some tb0):=by kernel_rfl
theorem acv:(bV (bG jb Gt.none rV).1.2)=[]:=by decide +kernel
theorem acy:(aS rV).2=0:=by decide +kernel
theorem acr:(aS rV).1.ek=⟨#[104]⟩:=by decide +kernel
theorem acu:(aS rV).1.fields=[]:=by decide +kernel
end
end Go.Proofs.YtpkmciohehaboaaGreatDoor
