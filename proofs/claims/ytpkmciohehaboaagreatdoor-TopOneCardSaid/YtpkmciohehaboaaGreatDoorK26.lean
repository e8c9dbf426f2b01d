/- Part 26 of the proof. -/
import Derived.Test.YtpkmciohehaboaaGreatDoorK0
import Derived.Test.YtpkmciohehaboaaGreatDoorK18
set_option maxRecDepth 100000
set_option maxHeartbeats 100000000
set_option linter.unusedVariables false
set_option linter.unusedSimpArgs false
set_option linter.unusedSectionVars false
set_option linter.unnecessarySimpa false
namespace Go.Proofs.YtpkmciohehaboaaGreatDoor
section
open Go.RowKit Go.Maps
theorem ahD {tmps:Array Value}{w:World}{g:Nat}{cs:Array Value}(hp:tmps.getD 2 undef = .pointer (some ⟨g,0,none⟩)) (hg:w.heap[g]?=some (.cells cs 68 (0,0))) (hs:cs.size=4) :
 (results Tryz.f28 tmps).run Tryz.prog w = .ok (.agg cs) w:=by
 have h1:=run_loadVar_row (P:=Tryz.prog) w g 68 68 cs (0,0) _ hg Tryz.underlying68 rfl (by rw[vw,hs])
 have hp':tmps[2]?.getD undef = .pointer (some ⟨g,0,none⟩):=by simpa using hp
 simp[results,Tryz.results28,hp',asAddr,h1]
def oO (m t:ByteArray) (v:Value) (b:ByteArray):Array Value:=#[.string m,.string t,v,.string b]
theorem Ai {w:World}{x:Nat}{m t b:ByteArray}{v:Value}(h:(bg x (oO m t v b) 68).P w):w.cell? ⟨x,0,none⟩=some (.string m)∧w.cell? ⟨x,1,none⟩=some (.string t)∧w.cell? ⟨x,2,none⟩=some v∧w.cell? ⟨x,3,none⟩=some (.string b):=by
 have h1:w.heap[x]?=some (.cells (oO m t v b) 68 (0,0)):=h
 refine⟨?_,?_,?_,?_⟩ <;> (unfold World.cell?;rw[h1];rfl)
theorem Ot {w:World}{x:Nat}{cs:Array Value}{t:TypeId}(h:(bg x cs t).P w) (o:Nat):w.frozen? ⟨x,o,none⟩=false:=by
 have h1:w.heap[x]?=some (.cells cs t (0,0)):=h
 unfold World.frozen?
 rw[h1]
 rfl
def Jn (q:Nat) (w:World) (a:gW) (A:Option Addr) (n c:Nat) (iv:Value) (wr:World):Prop:=∃(k:Nat) (v:Value),iv = .int .i64 k∧k≤n ∧
 All q wr [bg (q+2) (oO a.aW a.tgt v a.body) 68,lM v ((a.fields.take k).map cO),bg (q+1) iC 68,bg q (oO a.aW a.tgt (.slice A n c) a.body) 68]∧Below q w wr
theorem afC {l:List Fd}{k:Nat}{f:Fd}(h:l[k]?=some f):(l.take (k+1)).map cO=(l.take k).map cO++[cO f]:=by
 rw[iw,h,iL,j6]
 rfl
theorem ahK {A:Option Addr}{n c:Nat}(a:gW) (w:World) (hr:Rd w w.heap.size 3 A n (fds a.fields)) (hn:n≤1000000) (hz:Tx a.fields) :
 Calls Tryz.prog 28 #[mP a (.slice A n c)] w fun e w'=>∃v,e = .returned (mP (wN a) v)∧bQ w (wN a).fields v w':=by
 have bf:a.fields.length=n:=by have:=hr.1;rw[jJ] at this;omega
 obtain⟨q,hq⟩:∃q,w.heap.size=q:=⟨_,rfl⟩
 obtain⟨m,t,l,b⟩:=a
 dsimp only at hr hz bf
 have HR:=af (fun (wr:World) (h:Below q w wr)=>(show Rd wr q 3 A n (fds l) from hq ▸ hr.below h (by omega)))
 have HZ:=af hz
 have dX:=af bf
 have Cr:=gV (gV (All.nil w) (oO m t (.slice A n c) b) 68) iC 68
 obtain⟨W3,hW3⟩:∃W3,(w.alloc (.cells (oO m t (.slice A n c) b) 68)).alloc (.cells iC 68)=W3:=⟨_,rfl⟩
 have hb3:Below q w W3:=by rw[←hW3];exact ((Below.refl _ _).alloc (by omega) _).alloc (by simp;omega) _
 have hs3:W3.heap.size=q+2:=by rw[←hW3,←hq];simp
 simp only[World.size_alloc,hq] at Cr
 rw[hW3] at Cr
 have bJ:=af Cr
 have aM:=af (And.intro hb3 hs3)
 have yA:=af hW3
 have HQ:=af hq
 obtain⟨c0,c1,c2,c3⟩:=Ai (Cr.pick [_]).head
 have HC:=af (And.intro c0 (And.intro c1 (And.intro c2 c3)))
 unfold mP
 dsimp only
 clear hr hz bf Cr hb3 hW3 hs3 c0 c1 c2 c3
 unfold oO iC at yA
 go_enter Tryz.func28,Tryz.ntmps28
 go_upto_region 1 with fail
 refine bI ?_
 intro W3' Ik
 obtain rfl:W3'=W3:=Ik.trans yA.out
 clear Ik yA hq
 obtain⟨c0,c1,c2,c3⟩:=HC.out
 go_upto_region 2 with (first
  | (refine wpList_store_rowTo rfl 68 (.tmp 3) (.tmp 11) rfl rfl W3'.heap.size #[.string ⟨#[]⟩,.string ⟨#[]⟩,.slice none 0 0,.string ⟨#[]⟩] rfl rfl 68 _ (aZ _ _) vw rfl (by simp[Value.oneCell']) ?_))
 refine bI ?_
 intro W4 bA
 have dN:=gV bJ.out (oO m t (.slice none 0 0) b) 68
 have xD:W4=W3'.alloc (.cells (oO m t (.slice none 0 0) b) 68):=bA
 rw[←xD,aM.out.2] at dN
 have hb4:Below q w W4:=by rw[bA];exact aM.out.1.alloc (by have:=aM.out.2;omega) _
 have HS4:Hid (Jn q w ⟨m,t,l,b⟩ A n c (.int .i64 0) W4):=af ⟨0,.slice none 0 0,rfl,aL _,((dN.Bz 26 3).pick [_]),hb4⟩
 try rw[aM.out.2]
 clear dN xD bA hb4 c0 c1 c2 c3
 go_wp2_with fail
 go_loopw [4] (fun iv wr=>Jn q w ⟨m,t,l,b⟩ A n c iv wr) (fun iv _=>n-(intOf iv).toNat)
 case atStart=>exact HS4.out
 case round=>
  obtain⟨k,v,rfl,hk,hA,hb⟩:=hrel
  have HA:=af hA
  have HB:=af hb
  obtain⟨i0,i1,i2,i3⟩:=Ai (hA.pick [_,_,_]).head
  obtain⟨o0,o1,o2,o3⟩:=Ai hA.head
  dsimp only at i0 i1 i2 i3 o0 o1 o2 o3
  by_cases hlt:k<n
  ·obtain⟨-,bx,ox,rfl,hbl,hc⟩:=mE (HR.out wr hb) (by omega)
   obtain⟨f,hf⟩:∃f,l[k]?=some f:=⟨_,a_ (by have:=dX.out;omega)⟩
   obtain⟨z0,z1,z2⟩:=hc k f hf
   have n0:(k:Int)<n:=by omega
   have hfz:=HZ.out f (fq hf)
   have gL:=af (afC hf)
   clear hc hf hA hb
   obtain⟨⟨nm,vl⟩,nv⟩:=f
   simp only at z0 z1 hfz
   have zM:=af (fun w=>EG nm w hfz.1)
   have hrow:=(HA.out.pick [_]).head
   obtain⟨Av,cv,hv,-,-,-,-⟩:=aC hrow
   have hlk:((l.take k).map cO).length=k:=by rw[List.length_map,kS];have:=dX.out;omega
   rw[hlk] at hv
   have HV:=af hv
   rw[hv] at o2
   have BP:=af hlk
   have jT:Hid (∀wx,(bg q (oO m t (.slice (some ⟨bx,ox,none⟩) n c) b) 68).P wx→Below q wr wx→wx.cell? ⟨q,2,none⟩=some (.slice (some ⟨bx,ox,none⟩) n c)∧wx.cell? ⟨bx,ox+k*3,none⟩=some (.string nm)∧wx.cell? ⟨bx,ox+k*3+1,none⟩=some (.string vl)):=af (fun wx h1 h2=>
    ⟨(Ai h1).2.2.1,(h2.cell (p:=⟨bx,ox+k*3,none⟩) hbl).trans z0,(h2.cell (p:=⟨bx,ox+k*3+1,none⟩) hbl).trans z1⟩)
   have O2:=af o2
   have hqw:=HA.out.sz
   go_upto_region 5 with fail
   clear hrow hv hlk i0 i1 i3 o0 o1 o3 z2 hfz o2 i2 z0 z1
   --REGION5
   obtain⟨Wd,rX⟩:∃Wd,wr.drew=Wd:=⟨_,rfl⟩
   have lU:Hid (Below q wr Wd):=af (by rw[←rX];exact⟨rfl,rfl,rfl,ah _,fun _ _=>rfl⟩)
   have bE:Hid (All q Wd [bg (q+2) (oO m t v b) 68,lM v ((l.take k).map cO),bg (q+1) iC 68,bg q (oO m t (.slice (some ⟨bx,ox,none⟩) n c) b) 68]):=af (by rw[←rX];exact HA.out.drew)
   refine wp_region_held_drew (S:=fun w'=>w'.cell? ⟨q,2,none⟩=some (.slice (some ⟨bx,ox,none⟩) n c)∧w'.cell? ⟨bx,ox+k*3,none⟩=some (.string nm)∧w'.cell? ⟨bx,ox+k*3+1,none⟩=some (.string vl)) (by kernel_rfl) (by rw[rX];exact jT.out _ (bE.out.pick [_,_,_]).head lU.out) (fun hH=>?_)
   rw[rX] at hH ⊢
   clear rX
   refine ag 0 19 hH ?_
   refine ag 2 21 hH ?_
   refine ag 3 22 hH ?_
   refine ag 4 23 hH ?_
   refine ag 5 24 hH ?_
   refine ag 6 25 hH ?_
   refine ag 7 26 hH ?_
   refine ag 9 28 hH ?_
   refine ag 10 29 hH ?_
   refine ag 11 30 hH ?_
   refine ag 12 31 hH ?_
   refine ag 13 32 hH ?_
   refine ag 14 33 hH ?_
   refine wpAnyH_ready (rs:=[1,8]) (by kernel_rfl) (by simp) ?_
   refine (AllReadyH.cons (o:=⟨some 20,_,_,_,_,_⟩) rfl (fun K hK=>?_) (AllReadyH.cons (o:=⟨some 27,_,_,_,_,_⟩) rfl (fun K hK=>?_) AllReadyH.nil))
   ·have oo:Wd.cell? ⟨q+2,2,none⟩=some (.slice Av k cv):=by rw[←HV.out];exact (Ai bE.out.head).2.2.1
    go_simp
    refine hK.out _ _ (jT.out _ (bE.out.pick [_,_,_]).head lU.out) (fun hH=>?_)
    clear hK K oo
    try simp only[Act.put,az,ay,aA]
    refine aR 8 (fun K hK=>?_)
    ·go_simp
     refine (zM.out _).mono ?_
     rintro ev tH ⟨rfl,hb⟩
     have bY:=af (bE.out.below hb)
     have xg:=af (lU.out.trans (hb.mono bE.out.sz))
     clear hb
     refine hK.out _ _ (jT.out _ (bY.out.pick [_,_,_]).head xg.out) (fun hH=>?_)
     clear hK K
     try simp only[Act.put,az,ay,aA]
     refine ag 15 34 hH ?_
     refine aR 16 (fun K hK=>?_)
     ·go_simp
      refine gT ?_
      intro Ch dm
      have hb:Below tH.heap.size tH Ch:=by rw[dm];exact (Below.refl _ _).alloc (ah _) _
      have hrd:Rd Ch (tH.heap.size+1) 3 (some ⟨tH.heap.size,0,none⟩) 1 [.string (aJ (aO nm.data.toList)),.string vl,.bool false]:=by rw[dm];exact Rd.rC tH _ _ _ _
      have bJ:=af (bY.out.below hb)
      have FM:=af (xg.out.trans (hb.mono bY.out.sz))
      have kQ:=af hrd
      clear hb hrd dm
      refine hK.out _ _ (jT.out _ (bJ.out.pick [_,_,_]).head FM.out) (fun hH=>?_)
      clear hK K
      try simp only[Act.put,az,ay,aA]
      refine rdZq (o:=⟨some 36,_,_,_,_,_⟩) 17 rfl (fun K hK=>?_)
      ·have hown:Ch.ownsRow 0 26 3 (.slice Av k cv) k (fds ((l.take k).map cO)):=by have h:=(bJ.out.pick [_]).head;rw[←HV.out];have h2:Ch.ownsRow 0 26 3 v ((l.take k).map cO).length (fds ((l.take k).map cO)):=h;rw[BP.out] at h2;exact h2
       refine oI (.tmp 20) (.tmp 35) j3 (by rfl) (by rfl) hown (by rfl) kQ.out (by rfl) (by simp[Value.oneCell']) (bn (by omega)) (by omega) (aL _) ?_
       intro v9 w9 bR dP mF
       rw[←HV.out] at dP mF
       obtain⟨aU,eu⟩:=(bJ.out.pick [_]).app bR dP mF
       have aU:=aU.pick [_]
       have e9:aD 26 3 v9 (k+1) (fds ((l.take k).map cO)++[.string (aJ (aO nm.data.toList)),.string vl,.bool false])=lM v9 ((l.take (k+1)).map cO):=by
        unfold lM
        rw[gL.out,aN,BP.out,oP]
        rfl
       rw[e9] at aU
       have eF:=af aU
       have pU:=af (FM.out.trans eu)
       obtain⟨A9,c9,eD,-,-,-,-⟩:=aC bR
       subst eD
       have f9:=Ot aU.head 2
       clear hown bR dP mF aU eu e9
       refine hK.out _ _ (jT.out _ (eF.out.pick [_,_,_]).head pU.out) (fun hH=>?_)
       clear hK K
       try simp only[Act.put,az,ay,aA]
       refine ag 18 37 hH ?_
       refine rdZq (o:=⟨none,_,_,_,_,_⟩) 19 rfl (fun K hK=>?_)
       have oo:=(Ai eF.out.head).2.2.1
       go_simp
       obtain⟨h1,h2⟩:=eF.out.set 2 (.slice A9 (k+1) c9)
       refine gT ?_
       intro Dz DZ
       rw[←DZ] at h1 h2
       have vL:Hid (All q Dz [bg (q+2) (oO m t (.slice A9 (k+1) c9) b) 68,lM (.slice A9 (k+1) c9) ((l.take (k+1)).map cO),bg (q+1) iC 68,bg q (oO m t (.slice (some ⟨bx,ox,none⟩) n c) b) 68]):=af h1
       have vS:=af (pU.out.trans h2)
       clear h1 h2 DZ oo f9
       refine hK.out _ _ (jT.out _ (vL.out.pick [_,_,_]).head vS.out) (fun hH=>?_)
       clear hK K
       try simp only[Act.put,az,ay,aA]
       refine wpAnyH_done (by kernel_rfl) ?_ _
       have HN:Hid (Jn q w ⟨m,t,l,b⟩ (some ⟨bx,ox,none⟩) n c (.int .i64 (k+1:Nat)) Dz):=af ⟨k+1,_,rfl,hlt,vL.out,HB.out.trans vS.out⟩
       go_wp2
       go_roundw
       case rel=>exact HN.out
       case measure=>simp[intOf];omega
   ·go_simp
    refine (zM.out _).mono ?_
    rintro ev qK ⟨rfl,hb⟩
    have bT:=af (bE.out.below hb)
    have xh:=af (lU.out.trans (hb.mono bE.out.sz))
    clear hb
    refine hK.out _ _ (jT.out _ (bT.out.pick [_,_,_]).head xh.out) (fun hH=>?_)
    clear hK K
    try simp only[Act.put,az,ay,aA]
    refine ag 15 34 hH ?_
    refine wpAnyH_ready (rs:=[1,16]) (by kernel_rfl) (by simp) ?_
    refine (AllReadyH.cons (o:=⟨some 20,_,_,_,_,_⟩) rfl (fun K hK=>?_) (AllReadyH.cons (o:=⟨some 35,_,_,_,_,_⟩) rfl (fun K hK=>?_) AllReadyH.nil))
    ·have oo:qK.cell? ⟨q+2,2,none⟩=some (.slice Av k cv):=by rw[←HV.out];exact (Ai bT.out.head).2.2.1
     go_simp
     refine hK.out _ _ (jT.out _ (bT.out.pick [_,_,_]).head xh.out) (fun hH=>?_)
     clear hK K oo
     try simp only[Act.put,az,ay,aA]
     refine aR 16 (fun K hK=>?_)
     ·go_simp
      refine gT ?_
      intro W7x dm
      have hb:Below qK.heap.size qK W7x:=by rw[dm];exact (Below.refl _ _).alloc (ah _) _
      have hrd:Rd W7x (qK.heap.size+1) 3 (some ⟨qK.heap.size,0,none⟩) 1 [.string (aJ (aO nm.data.toList)),.string vl,.bool false]:=by rw[dm];exact Rd.rC qK _ _ _ _
      have eY:=af (bT.out.below hb)
      have FN:=af (xh.out.trans (hb.mono bT.out.sz))
      have kQ:=af hrd
      clear hb hrd dm
      refine hK.out _ _ (jT.out _ (eY.out.pick [_,_,_]).head FN.out) (fun hH=>?_)
      clear hK K
      try simp only[Act.put,az,ay,aA]
      refine rdZq (o:=⟨some 36,_,_,_,_,_⟩) 17 rfl (fun K hK=>?_)
      ·have hown:W7x.ownsRow 0 26 3 (.slice Av k cv) k (fds ((l.take k).map cO)):=by have h:=(eY.out.pick [_]).head;rw[←HV.out];have h2:W7x.ownsRow 0 26 3 v ((l.take k).map cO).length (fds ((l.take k).map cO)):=h;rw[BP.out] at h2;exact h2
       refine oI (.tmp 20) (.tmp 35) j3 (by rfl) (by rfl) hown (by rfl) kQ.out (by rfl) (by simp[Value.oneCell']) (bn (by omega)) (by omega) (aL _) ?_
       intro v9 w9 bR dP mF
       rw[←HV.out] at dP mF
       obtain⟨aU,eu⟩:=(eY.out.pick [_]).app bR dP mF
       have aU:=aU.pick [_]
       have e9:aD 26 3 v9 (k+1) (fds ((l.take k).map cO)++[.string (aJ (aO nm.data.toList)),.string vl,.bool false])=lM v9 ((l.take (k+1)).map cO):=by
        unfold lM
        rw[gL.out,aN,BP.out,oP]
        rfl
       rw[e9] at aU
       have eF:=af aU
       have pU:=af (FN.out.trans eu)
       obtain⟨A9,c9,eD,-,-,-,-⟩:=aC bR
       subst eD
       have f9:=Ot aU.head 2
       clear hown bR dP mF aU eu e9
       refine hK.out _ _ (jT.out _ (eF.out.pick [_,_,_]).head pU.out) (fun hH=>?_)
       clear hK K
       try simp only[Act.put,az,ay,aA]
       refine ag 18 37 hH ?_
       refine rdZq (o:=⟨none,_,_,_,_,_⟩) 19 rfl (fun K hK=>?_)
       have oo:=(Ai eF.out.head).2.2.1
       go_simp
       obtain⟨h1,h2⟩:=eF.out.set 2 (.slice A9 (k+1) c9)
       refine gT ?_
       intro Dz DZ
       rw[←DZ] at h1 h2
       have vL:Hid (All q Dz [bg (q+2) (oO m t (.slice A9 (k+1) c9) b) 68,lM (.slice A9 (k+1) c9) ((l.take (k+1)).map cO),bg (q+1) iC 68,bg q (oO m t (.slice (some ⟨bx,ox,none⟩) n c) b) 68]):=af h1
       have vS:=af (pU.out.trans h2)
       clear h1 h2 DZ oo f9
       refine hK.out _ _ (jT.out _ (vL.out.pick [_,_,_]).head vS.out) (fun hH=>?_)
       clear hK K
       try simp only[Act.put,az,ay,aA]
       refine wpAnyH_done (by kernel_rfl) ?_ _
       have HN:Hid (Jn q w ⟨m,t,l,b⟩ (some ⟨bx,ox,none⟩) n c (.int .i64 (k+1:Nat)) Dz):=af ⟨k+1,_,rfl,hlt,vL.out,HB.out.trans vS.out⟩
       go_wp2
       go_roundw
       case rel=>exact HN.out
       case measure=>simp[intOf];omega
    ·go_simp
     refine gT ?_
     intro qL dm
     have hb:Below qK.heap.size qK qL:=by rw[dm];exact (Below.refl _ _).alloc (ah _) _
     have hrd:Rd qL (qK.heap.size+1) 3 (some ⟨qK.heap.size,0,none⟩) 1 [.string (aJ (aO nm.data.toList)),.string vl,.bool false]:=by rw[dm];exact Rd.rC qK _ _ _ _
     have eF:=af (bT.out.below hb)
     have pU:=af (xh.out.trans (hb.mono bT.out.sz))
     have kQ:=af hrd
     clear hb hrd dm
     refine hK.out _ _ (jT.out _ (eF.out.pick [_,_,_]).head pU.out) (fun hH=>?_)
     clear hK K
     try simp only[Act.put,az,ay,aA]
     refine rdZq (o:=⟨some 20,_,_,_,_,_⟩) 1 rfl (fun K hK=>?_)
     ·have oo:qL.cell? ⟨q+2,2,none⟩=some (.slice Av k cv):=by rw[←HV.out];exact (Ai eF.out.head).2.2.1
      go_simp
      refine hK.out _ _ (jT.out _ (eF.out.pick [_,_,_]).head pU.out) (fun hH=>?_)
      clear hK K oo
      try simp only[Act.put,az,ay,aA]
      refine rdZq (o:=⟨some 36,_,_,_,_,_⟩) 17 rfl (fun K hK=>?_)
      ·have hown:qL.ownsRow 0 26 3 (.slice Av k cv) k (fds ((l.take k).map cO)):=by have h:=(eF.out.pick [_]).head;rw[←HV.out];have h2:qL.ownsRow 0 26 3 v ((l.take k).map cO).length (fds ((l.take k).map cO)):=h;rw[BP.out] at h2;exact h2
       refine oI (.tmp 20) (.tmp 35) j3 (by rfl) (by rfl) hown (by rfl) kQ.out (by rfl) (by simp[Value.oneCell']) (bn (by omega)) (by omega) (aL _) ?_
       intro v9 w9 bR dP mF
       rw[←HV.out] at dP mF
       obtain⟨aU,eu⟩:=(eF.out.pick [_]).app bR dP mF
       have aU:=aU.pick [_]
       have e9:aD 26 3 v9 (k+1) (fds ((l.take k).map cO)++[.string (aJ (aO nm.data.toList)),.string vl,.bool false])=lM v9 ((l.take (k+1)).map cO):=by
        unfold lM
        rw[gL.out,aN,BP.out,oP]
        rfl
       rw[e9] at aU
       have eF:=af aU
       have pU:=af (pU.out.trans eu)
       obtain⟨A9,c9,eD,-,-,-,-⟩:=aC bR
       subst eD
       have f9:=Ot aU.head 2
       clear hown bR dP mF aU eu e9
       refine hK.out _ _ (jT.out _ (eF.out.pick [_,_,_]).head pU.out) (fun hH=>?_)
       clear hK K
       try simp only[Act.put,az,ay,aA]
       refine ag 18 37 hH ?_
       refine rdZq (o:=⟨none,_,_,_,_,_⟩) 19 rfl (fun K hK=>?_)
       have oo:=(Ai eF.out.head).2.2.1
       go_simp
       obtain⟨h1,h2⟩:=eF.out.set 2 (.slice A9 (k+1) c9)
       refine gT ?_
       intro Dz DZ
       rw[←DZ] at h1 h2
       have vL:Hid (All q Dz [bg (q+2) (oO m t (.slice A9 (k+1) c9) b) 68,lM (.slice A9 (k+1) c9) ((l.take (k+1)).map cO),bg (q+1) iC 68,bg q (oO m t (.slice (some ⟨bx,ox,none⟩) n c) b) 68]):=af h1
       have vS:=af (pU.out.trans h2)
       clear h1 h2 DZ oo f9
       refine hK.out _ _ (jT.out _ (vL.out.pick [_,_,_]).head vS.out) (fun hH=>?_)
       clear hK K
       try simp only[Act.put,az,ay,aA]
       refine wpAnyH_done (by kernel_rfl) ?_ _
       have HN:Hid (Jn q w ⟨m,t,l,b⟩ (some ⟨bx,ox,none⟩) n c (.int .i64 (k+1:Nat)) Dz):=af ⟨k+1,_,rfl,hlt,vL.out,HB.out.trans vS.out⟩
       go_wp2
       go_roundw
       case rel=>exact HN.out
       case measure=>simp[intOf];omega
   --END5
  ·have hkn:k=n:=by omega
   subst hkn
   have hl:l.take k=l:=cB (by have:=dX.out;omega)
   rw[hl] at HA
   have hz1:=(HA.out.pick [_,_]).head
   obtain⟨A9,c9,eD,-,-,-,-⟩:=aC ((HA.out.pick [_]).head)
   rw[List.length_map] at eD
   subst eD
   clear hA hb hl
   go_wp2_with (first
    | (refine wpList_store_rowTo rfl 68 (.tmp 2) _ rfl rfl (q+1) #[.string m,.string t,.slice A9 _ c9,.string b] rfl rfl 68 iC hz1 vw rfl (by simp[Value.oneCell']) ?_))
   refine bodyPost_ret (ahD rfl (setRow_heap _ _ _ _ _ _ hz1) rfl) rfl ?_
   obtain⟨h1,h2⟩:=(HA.out.pick [_,_]).whole #[.string m,.string t,.slice A9 l.length c9,.string b]
   have h3:=h1.pick [_,_]
   refine⟨_,rfl,?_,?_⟩
   ·rw[HQ.out]
    exact ZM h3.head (fun j hj=>h3.base _ (iK ..) j hj)
   ·rw[HQ.out]
    exact HB.out.trans h2
end
section
open Go.RowKit Go.Maps
theorem ahF {tmps:Array Value}{w:World}{g:Nat}{cs:Array Value}(hp:tmps.getD 6 undef = .pointer (some ⟨g,0,none⟩)) (hg:w.heap[g]?=some (.cells cs 68 (0,0))) (hs:cs.size=4) :
 (results Tryz.f25 tmps).run Tryz.prog w = .ok (.agg cs) w:=by
 have h1:=run_loadVar_row (P:=Tryz.prog) w g 68 68 cs (0,0) _ hg Tryz.underlying68 rfl (by rw[vw,hs])
 have hp':tmps[6]?.getD undef = .pointer (some ⟨g,0,none⟩):=by simpa using hp
 simp[results,Tryz.results25,hp',asAddr,h1]
theorem bQ.later {W w w':World}{l:List Fd}{v:Value}(h:bQ W l v w) (hb:Below w.heap.size w w'):bQ W l v w':=⟨d_ h.1 (Kept.jk (F:=fun _=>False) hb) (fun _ _ h=>h),h.2.trans (hb.mono h.2.size)⟩
theorem Rd.later {w w':World}{size n:Nat}{A:Option Addr}{xs:List Value}(h:Rd w w.heap.size size A n xs) (hb:Below w.heap.size w w'):Rd w' w'.heap.size size A n xs:=(h.below hb (ah _)).more hb.size
theorem KA (w:World) (x y:Value) (t:TypeId):Rd (w.alloc (.cells #[x,y] t)) (w.alloc (.cells #[x,y] t)).heap.size 1 (some ⟨w.heap.size,0,none⟩) 2 [x,y]:=by
 rw[World.size_alloc]
 exact Rd.lit w #[x,y] t 2 rfl
theorem agb {A:Option Addr}{n c:Nat}(R:Rq) (body who:ByteArray) (w:World) (hr:Rd w w.heap.size 3 A n (fds R.fields)) (hn:n≤1000000) (hz:Tx R.fields) (hv:∀f ∈ R.fields,f.1.2.size≤1048575) (hno:∀f ∈ R.fields,dL f.1.1.data.toList lg.data.toList=false) (hw:who.size≤1000000) :
 Calls Tryz.prog 25 #[.agg #[.string R.aW,.string R.iH,.string R.ek,.string R.path,.slice A n c],.string body,.string who] w fun e w'=>∃v,e = .returned (mP (rz R body who) v)∧bQ w (rz R body who).fields v w':=by
 obtain⟨m,sc,au,pa,l⟩:=R
 dsimp only at hr hz hv hno ⊢
 have bf:l.length=n:=by have:=hr.1;rw[jJ] at this;omega
 obtain⟨q,hq⟩:∃q,w.heap.size=q:=⟨_,rfl⟩
 have hal:rU l lg=[]:=all_none hno
 have HST:Hid (∀w1,Below q w w1→Calls Tryz.prog 10 #[.slice A n c] w1 (fun e w'=>∃v,e = .returned v∧bQ w1 (fG l) v w')):=af (fun w1 hb=>aiT w1 ((hr.below hb (by omega)).more (by have:=hb.size;omega)) (by omega) hz hv (by rw[hal];exact aL _) (by rw[hal];intro x hx;cases hx))
 have wJ:Tx (fG l):=fun f hf=>hz f (KI hf).1
 obtain⟨ns,Ed⟩:∃ns,(fG l).length=ns:=⟨_,rfl⟩
 have fM:ns≤n:=by rw[←bf,←Ed];exact ER _ _
 obtain⟨m2,hm2⟩:∃m2,(dJ (fG l) [bu,aG]).length=m2:=⟨_,rfl⟩
 have hsl2:m2≤ns:=by rw[←Ed,←hm2];exact ER _ _
 have jq:=af (And.intro Ed hm2)
 have nC:Hid (∀(w1:World) (A1:Option Addr) (c1:Nat) (A2:Option Addr) (c2:Nat),Rd w1 w1.heap.size 3 A1 ns (fds (fG l))→Rd w1 w1.heap.size 1 A2 2 (strs [bu,aG])→Calls Tryz.prog 38 #[.slice A1 ns c1,.slice A2 2 c2] w1 (fun e w'=>∃v,e = .returned v∧bQ w1 (dJ (fG l) [bu,aG]) v w')):=af (fun w1 A1 c1 A2 c2 h1 h2=>abv w1 h1 (by omega) wJ h2 (by omega) (by
  intro s hs
  have h:∀s ∈ [bu,aG],s.size≤140737488351232:=by decide +kernel
  exact h s hs))
 have Ci:∀w',(Op.stringOp .add ⟨#[50,32]⟩ who).run Tryz.prog w' = .ok (.string (⟨#[50,32]⟩ ++ who)) w':=fun w'=>run_string_add_sum (P:=Tryz.prog) w' ⟨#[50,32]⟩ who (by show 2+who.size≤_;omega)
 obtain⟨W2,hW2⟩:∃W2,(w.alloc (.cells #[.string m,.string sc,.string au,.string pa,.slice A n c] 60)).alloc (.cells iC 68)=W2:=⟨_,rfl⟩
 have hb2:Below q w W2:=by rw[←hW2];exact ((Below.refl _ _).alloc (by omega) _).alloc (by simp;omega) _
 have hs2:W2.heap.size=q+2:=by rw[←hW2,←hq];simp
 have hk0:W2.heap[q]?=some (.cells #[.string m,.string sc,.string au,.string pa,.slice A n c] 60 (0,0)):=by
  rw[←hW2,←hq]
  exact (Below.heap_alloc _ _ _ (by simp)).trans (aZ _ _)
 have iO:W2.heap[q+1]?=some (.cells iC 68 (0,0)):=by
  have h:=aZ (w.alloc (.cells #[.string m,.string sc,.string au,.string pa,.slice A n c] 60)) (.cells iC 68)
  rw[World.size_alloc,hq,hW2] at h
  exact h
 have hcells:∀wr,Below W2.heap.size W2 wr→wr.cell? ⟨q,0,none⟩=some (.string m)∧wr.cell? ⟨q,2,none⟩=some (.string au)∧wr.cell? ⟨q,3,none⟩=some (.string pa)∧wr.cell? ⟨q,4,none⟩=some (.slice A n c):=fun wr hb=>by
  have h:=(hb.block q (by omega)).trans hk0
  refine⟨?_,?_,?_,?_⟩ <;> (unfold World.cell?;rw[h];rfl)
 have HC:=af hcells
 have aI:=af hb2
 have HK:=af (And.intro iO hs2)
 have HQ:=af hq
 have nA:=af hW2
 have lU:Hid (Below W2.heap.size W2 W2):=af (Below.refl _ _)
 clear hr hz hv hno wJ bf hb2 hs2 hk0 iO hcells hW2 hal Ed hm2
 unfold iC at nA
 go_enter Tryz.func25,Tryz.ntmps25
 go_upto_region 1 with fail
 refine bI ?_
 intro W3 hW3
 obtain rfl:W3=W2:=hW3.trans nA.out
 clear hW3 hq nA
 go_cut [7] (fun y wx=>∃A7 c7,y = .slice A7 (1+m2) c7∧bQ W3 ([((aG,au),false)]++dJ (fG l) [bu,aG]) (.slice A7 (1+m2) c7) wx)
 case first=>
  refine wp_region_held_drew (S:=fun w'=>w'.cell? ⟨q,2,none⟩=some (.string au)∧w'.cell? ⟨q,4,none⟩=some (.slice A n c)) (by kernel_rfl) (⟨(HC.out _ lU.out).2.1,(HC.out _ lU.out).2.2.2⟩) (fun hH=>?_)
  refine ag 0 8 hH ?_
  refine ag 1 9 hH ?_
  refine ag 2 10 hH ?_
  refine ag 4 12 hH ?_
  refine ag 5 13 hH ?_
  obtain⟨Wd,rX⟩:∃Wd,W3.drew=Wd:=⟨_,rfl⟩
  have lU:Hid (Below W3.heap.size W3 Wd):=af (by rw[←rX];exact⟨rfl,rfl,rfl,ah _,fun _ _=>rfl⟩)
  rw[rX]
  clear rX
  refine wpAnyH_ready (rs:=[3,6,7]) (by kernel_rfl) (by simp) ?_
  refine (AllReadyH.cons (o:=⟨some 11,_,_,_,_,_⟩) rfl (fun K hK=>?_) (AllReadyH.cons (o:=⟨some 14,_,_,_,_,_⟩) rfl (fun K hK=>?_) (AllReadyH.cons (o:=⟨some 15,_,_,_,_,_⟩) rfl (fun K hK=>?_) AllReadyH.nil)))
  ·go_simp
   refine gT ?_
   intro zZ dm
   have dD:Below Wd.heap.size Wd zZ:=by rw[dm];first | exact (Below.refl _ _).alloc (ah _) _ | exact (Below.trans (by exact⟨rfl,rfl,rfl,ah _,fun _ _=>rfl⟩:Below Wd.heap.size Wd Wd.drew) ((Below.refl _ _).alloc (ah _) _)) | exact (((Below.refl _ _).alloc (ah _) _).trans (by exact⟨rfl,rfl,rfl,ah _,fun _ _=>rfl⟩))
   obtain⟨x1,hx1⟩:∃x,Wd.heap.size=x:=⟨_,rfl⟩
   have hnew:bQ W3 [((aG,au),false)] (.slice (some ⟨x1,0,none⟩) 1 1) zZ:=by
    rw[←hx1,dm]
    exact ED W3 Wd ((aG,au),false) lU.out
   have HN1:=af hnew
   have HBx1:=af dD
   try rw[hx1]
   clear hnew dD dm hx1
   have FI:Hid (Below W3.heap.size W3 zZ):=af (lU.out.trans (HBx1.out.mono lU.out.size))
   refine hK.out _ _ (⟨(HC.out _ FI.out).2.1,(HC.out _ FI.out).2.2.2⟩) (fun hH=>?_)
   clear hK K
   try simp only[Act.put,az,ay,aA]
   refine wpAnyH_ready (rs:=[6,7]) (by kernel_rfl) (by simp) ?_
   refine (AllReadyH.cons (o:=⟨some 14,_,_,_,_,_⟩) rfl (fun K hK=>?_) (AllReadyH.cons (o:=⟨some 15,_,_,_,_,_⟩) rfl (fun K hK=>?_) AllReadyH.nil))
   ·go_simp
    refine (HST.out _ (aI.out.trans (FI.out.mono (by have:=HK.out.2;omega)))).mono ?_
    rintro ev tH ⟨v2,rfl,ho⟩
    obtain⟨A2,c2,rfl,-,-,dH,-⟩:=aC ho.1
    have nu:=af dH
    rw[jq.out.1] at nu ⊢
    have HBx2:=af ho.2
    clear ho dH
    have xg:Hid (Below W3.heap.size W3 tH):=af (FI.out.trans (HBx2.out.mono FI.out.size))
    have host2:=af (HN1.out.later HBx2.out)
    refine hK.out _ _ (⟨(HC.out _ xg.out).2.1,(HC.out _ xg.out).2.2.2⟩) (fun hH=>?_)
    clear hK K
    try simp only[Act.put,az,ay,aA]
    refine aR 7 (fun K hK=>?_)
    ·go_simp
     refine gT ?_
     intro Ch dm
     have dD:Below tH.heap.size tH Ch:=by rw[dm];first | exact (Below.refl _ _).alloc (ah _) _ | exact (Below.trans (by exact⟨rfl,rfl,rfl,ah _,fun _ _=>rfl⟩:Below tH.heap.size tH tH.drew) ((Below.refl _ _).alloc (ah _) _)) | exact (((Below.refl _ _).alloc (ah _) _).trans (by exact⟨rfl,rfl,rfl,ah _,fun _ _=>rfl⟩))
     obtain⟨x3,hx3⟩:∃x,tH.heap.size=x:=⟨_,rfl⟩
     have hnew:Rd Ch Ch.heap.size 1 (some ⟨x3,0,none⟩) 2 (strs [bu,aG]):=by
      rw[←hx3,dm]
      exact KA tH (.string bu) (.string aG) 9
     have HN3:=af hnew
     have NF:=af dD
     try rw[hx3]
     clear hnew dD dm hx3
     have FM:Hid (Below W3.heap.size W3 Ch):=af (xg.out.trans (NF.out.mono xg.out.size))
     have aiQ:=af (nu.out.later NF.out)
     have host3:=af (host2.out.later NF.out)
     refine hK.out _ _ (⟨(HC.out _ FM.out).2.1,(HC.out _ FM.out).2.2.2⟩) (fun hH=>?_)
     clear hK K
     try simp only[Act.put,az,ay,aA]
     refine aR 8 (fun K hK=>?_)
     ·go_simp
      refine (nC.out _ _ _ _ _ aiQ.out HN3.out).mono ?_
      rintro ev W4x ⟨v4,rfl,ho⟩
      obtain⟨A4,c4,rfl,-,-,dH,-⟩:=aC ho.1
      have HN4:=af dH
      rw[jq.out.2] at HN4 ⊢
      have HBx4:=af ho.2
      clear ho dH
      have HX4:Hid (Below W3.heap.size W3 W4x):=af (FM.out.trans (HBx4.out.mono FM.out.size))
      have host4:=af (host3.out.later HBx4.out)
      refine hK.out _ _ (⟨(HC.out _ HX4.out).2.1,(HC.out _ HX4.out).2.2.2⟩) (fun hH=>?_)
      clear hK K
      try simp only[Act.put,az,ay,aA]
      refine rdZq (o:=⟨some 17,_,_,_,_,_⟩) 9 rfl (fun K hK=>?_)
      obtain⟨hrow,aY⟩:=host4.out
      refine oI (.tmp 11) (.tmp 16) j3 (by rfl) (by rfl) hrow (by rfl) HN4.out (by rfl) (yL _) (bn (by show 1+m2≤_;omega)) (by show (1+m2)*_≤_;omega) HX4.out.size ?_
      intro v9 w9 bR dP _
      have H9:Hid (bQ W3 ([((aG,au),false)]++dJ (fG l) [bu,aG]) v9 w9):=af (by
       refine⟨?_,Below.app aY hrow dP (ah _) HX4.out.size⟩
       rw[aN,jq.out.2,oP]
       exact bR)
      obtain⟨A9,c9,eD,-,-,-,-⟩:=aC bR
      subst eD
      clear bR dP hrow aY
      refine hK.out _ _ (⟨(HC.out _ H9.out.2).2.1,(HC.out _ H9.out.2).2.2.2⟩) (fun hH=>?_)
      clear hK K
      try simp only[Act.put,az,ay,aA]
      refine ag 10 7 hH ?_
      refine wpAnyH_done (by kernel_rfl) ?_ _
      go_wp2_with fail
      go_meet
      exact⟨A9,c9,rfl,H9.out⟩
   ·go_simp
    refine gT ?_
    intro qK dm
    have dD:Below zZ.heap.size zZ qK:=by rw[dm];first | exact (Below.refl _ _).alloc (ah _) _ | exact (Below.trans (by exact⟨rfl,rfl,rfl,ah _,fun _ _=>rfl⟩:Below zZ.heap.size zZ zZ.drew) ((Below.refl _ _).alloc (ah _) _)) | exact (((Below.refl _ _).alloc (ah _) _).trans (by exact⟨rfl,rfl,rfl,ah _,fun _ _=>rfl⟩))
    obtain⟨x5,Et⟩:∃x,zZ.heap.size=x:=⟨_,rfl⟩
    have hnew:Rd qK qK.heap.size 1 (some ⟨x5,0,none⟩) 2 (strs [bu,aG]):=by
     rw[←Et,dm]
     exact KA zZ (.string bu) (.string aG) 9
    have HN5:=af hnew
    have HBx5:=af dD
    try rw[Et]
    clear hnew dD dm Et
    have xh:Hid (Below W3.heap.size W3 qK):=af (FI.out.trans (HBx5.out.mono FI.out.size))
    have host5:=af (HN1.out.later HBx5.out)
    refine hK.out _ _ (⟨(HC.out _ xh.out).2.1,(HC.out _ xh.out).2.2.2⟩) (fun hH=>?_)
    clear hK K
    try simp only[Act.put,az,ay,aA]
    refine aR 6 (fun K hK=>?_)
    ·go_simp
     refine (HST.out _ (aI.out.trans (xh.out.mono (by have:=HK.out.2;omega)))).mono ?_
     rintro ev W6x ⟨v6,rfl,ho⟩
     obtain⟨A6,c6,rfl,-,-,dH,-⟩:=aC ho.1
     have HN6:=af dH
     rw[jq.out.1] at HN6 ⊢
     have NG:=af ho.2
     clear ho dH
     have HX6:Hid (Below W3.heap.size W3 W6x):=af (xh.out.trans (NG.out.mono xh.out.size))
     have afZ:=af (HN5.out.later NG.out)
     have host6:=af (host5.out.later NG.out)
     refine hK.out _ _ (⟨(HC.out _ HX6.out).2.1,(HC.out _ HX6.out).2.2.2⟩) (fun hH=>?_)
     clear hK K
     try simp only[Act.put,az,ay,aA]
     refine aR 8 (fun K hK=>?_)
     ·go_simp
      refine (nC.out _ _ _ _ _ HN6.out afZ.out).mono ?_
      rintro ev W7x ⟨v7,rfl,ho⟩
      obtain⟨A7,c7,rfl,-,-,dH,-⟩:=aC ho.1
      have HN7:=af dH
      rw[jq.out.2] at HN7 ⊢
      have HBx7:=af ho.2
      clear ho dH
      have FN:Hid (Below W3.heap.size W3 W7x):=af (HX6.out.trans (HBx7.out.mono HX6.out.size))
      have host7:=af (host6.out.later HBx7.out)
      refine hK.out _ _ (⟨(HC.out _ FN.out).2.1,(HC.out _ FN.out).2.2.2⟩) (fun hH=>?_)
      clear hK K
      try simp only[Act.put,az,ay,aA]
      refine rdZq (o:=⟨some 17,_,_,_,_,_⟩) 9 rfl (fun K hK=>?_)
      obtain⟨hrow,aY⟩:=host7.out
      refine oI (.tmp 11) (.tmp 16) j3 (by rfl) (by rfl) hrow (by rfl) HN7.out (by rfl) (yL _) (bn (by show 1+m2≤_;omega)) (by show (1+m2)*_≤_;omega) FN.out.size ?_
      intro v9 w9 bR dP _
      have H9:Hid (bQ W3 ([((aG,au),false)]++dJ (fG l) [bu,aG]) v9 w9):=af (by
       refine⟨?_,Below.app aY hrow dP (ah _) FN.out.size⟩
       rw[aN,jq.out.2,oP]
       exact bR)
      obtain⟨A9,c9,eD,-,-,-,-⟩:=aC bR
      subst eD
      clear bR dP hrow aY
      refine hK.out _ _ (⟨(HC.out _ H9.out.2).2.1,(HC.out _ H9.out.2).2.2.2⟩) (fun hH=>?_)
      clear hK K
      try simp only[Act.put,az,ay,aA]
      refine ag 10 7 hH ?_
      refine wpAnyH_done (by kernel_rfl) ?_ _
      go_wp2_with fail
      go_meet
      exact⟨A9,c9,rfl,H9.out⟩
  ·go_simp
   refine (HST.out _ (aI.out.trans (lU.out.mono (by have:=HK.out.2;omega)))).mono ?_
   rintro ev rT ⟨v8,rfl,ho⟩
   obtain⟨A8,c8,rfl,-,-,dH,-⟩:=aC ho.1
   have HN8:=af dH
   rw[jq.out.1] at HN8 ⊢
   have HBx8:=af ho.2
   clear ho dH
   have FO:Hid (Below W3.heap.size W3 rT):=af (lU.out.trans (HBx8.out.mono lU.out.size))
   refine hK.out _ _ (⟨(HC.out _ FO.out).2.1,(HC.out _ FO.out).2.2.2⟩) (fun hH=>?_)
   clear hK K
   try simp only[Act.put,az,ay,aA]
   refine wpAnyH_ready (rs:=[3,7]) (by kernel_rfl) (by simp) ?_
   refine (AllReadyH.cons (o:=⟨some 11,_,_,_,_,_⟩) rfl (fun K hK=>?_) (AllReadyH.cons (o:=⟨some 15,_,_,_,_,_⟩) rfl (fun K hK=>?_) AllReadyH.nil))
   ·go_simp
    refine gT ?_
    intro qL dm
    have dD:Below rT.heap.size rT qL:=by rw[dm];first | exact (Below.refl _ _).alloc (ah _) _ | exact (Below.trans (by exact⟨rfl,rfl,rfl,ah _,fun _ _=>rfl⟩:Below rT.heap.size rT rT.drew) ((Below.refl _ _).alloc (ah _) _)) | exact (((Below.refl _ _).alloc (ah _) _).trans (by exact⟨rfl,rfl,rfl,ah _,fun _ _=>rfl⟩))
    obtain⟨x9,hx9⟩:∃x,rT.heap.size=x:=⟨_,rfl⟩
    have hnew:bQ W3 [((aG,au),false)] (.slice (some ⟨x9,0,none⟩) 1 1) qL:=by
     rw[←hx9,dm]
     exact ED W3 rT ((aG,au),false) FO.out
    have HN9:=af hnew
    have HBx9:=af dD
    try rw[hx9]
    clear hnew dD dm hx9
    have pU:Hid (Below W3.heap.size W3 qL):=af (FO.out.trans (HBx9.out.mono FO.out.size))
    have aiR:=af (HN8.out.later HBx9.out)
    refine hK.out _ _ (⟨(HC.out _ pU.out).2.1,(HC.out _ pU.out).2.2.2⟩) (fun hH=>?_)
    clear hK K
    try simp only[Act.put,az,ay,aA]
    refine aR 7 (fun K hK=>?_)
    ·go_simp
     refine gT ?_
     intro Lu dm
     have dD:Below qL.heap.size qL Lu:=by rw[dm];first | exact (Below.refl _ _).alloc (ah _) _ | exact (Below.trans (by exact⟨rfl,rfl,rfl,ah _,fun _ _=>rfl⟩:Below qL.heap.size qL qL.drew) ((Below.refl _ _).alloc (ah _) _)) | exact (((Below.refl _ _).alloc (ah _) _).trans (by exact⟨rfl,rfl,rfl,ah _,fun _ _=>rfl⟩))
     obtain⟨x10,Qa⟩:∃x,qL.heap.size=x:=⟨_,rfl⟩
     have hnew:Rd Lu Lu.heap.size 1 (some ⟨x10,0,none⟩) 2 (strs [bu,aG]):=by
      rw[←Qa,dm]
      exact KA qL (.string bu) (.string aG) 9
     have HN10:=af hnew
     have Nz:=af dD
     try rw[Qa]
     clear hnew dD dm Qa
     have vS:Hid (Below W3.heap.size W3 Lu):=af (pU.out.trans (Nz.out.mono pU.out.size))
     have aeO:=af (HN9.out.later Nz.out)
     have aiN:=af (aiR.out.later Nz.out)
     refine hK.out _ _ (⟨(HC.out _ vS.out).2.1,(HC.out _ vS.out).2.2.2⟩) (fun hH=>?_)
     clear hK K
     try simp only[Act.put,az,ay,aA]
     refine aR 8 (fun K hK=>?_)
     ·go_simp
      refine (nC.out _ _ _ _ _ aiN.out HN10.out).mono ?_
      rintro ev W11x ⟨v11,rfl,ho⟩
      obtain⟨yh,c11,rfl,-,-,dH,-⟩:=aC ho.1
      have HN11:=af dH
      rw[jq.out.2] at HN11 ⊢
      have Wq:=af ho.2
      clear ho dH
      have K_:Hid (Below W3.heap.size W3 W11x):=af (vS.out.trans (Wq.out.mono vS.out.size))
      have aeP:=af (aeO.out.later Wq.out)
      refine hK.out _ _ (⟨(HC.out _ K_.out).2.1,(HC.out _ K_.out).2.2.2⟩) (fun hH=>?_)
      clear hK K
      try simp only[Act.put,az,ay,aA]
      refine rdZq (o:=⟨some 17,_,_,_,_,_⟩) 9 rfl (fun K hK=>?_)
      obtain⟨hrow,aY⟩:=aeP.out
      refine oI (.tmp 11) (.tmp 16) j3 (by rfl) (by rfl) hrow (by rfl) HN11.out (by rfl) (yL _) (bn (by show 1+m2≤_;omega)) (by show (1+m2)*_≤_;omega) K_.out.size ?_
      intro v9 w9 bR dP _
      have H9:Hid (bQ W3 ([((aG,au),false)]++dJ (fG l) [bu,aG]) v9 w9):=af (by
       refine⟨?_,Below.app aY hrow dP (ah _) K_.out.size⟩
       rw[aN,jq.out.2,oP]
       exact bR)
      obtain⟨A9,c9,eD,-,-,-,-⟩:=aC bR
      subst eD
      clear bR dP hrow aY
      refine hK.out _ _ (⟨(HC.out _ H9.out.2).2.1,(HC.out _ H9.out.2).2.2.2⟩) (fun hH=>?_)
      clear hK K
      try simp only[Act.put,az,ay,aA]
      refine ag 10 7 hH ?_
      refine wpAnyH_done (by kernel_rfl) ?_ _
      go_wp2_with fail
      go_meet
      exact⟨A9,c9,rfl,H9.out⟩
   ·go_simp
    refine gT ?_
    intro yE dm
    have dD:Below rT.heap.size rT yE:=by rw[dm];first | exact (Below.refl _ _).alloc (ah _) _ | exact (Below.trans (by exact⟨rfl,rfl,rfl,ah _,fun _ _=>rfl⟩:Below rT.heap.size rT rT.drew) ((Below.refl _ _).alloc (ah _) _)) | exact (((Below.refl _ _).alloc (ah _) _).trans (by exact⟨rfl,rfl,rfl,ah _,fun _ _=>rfl⟩))
    obtain⟨x12,Qb⟩:∃x,rT.heap.size=x:=⟨_,rfl⟩
    have hnew:Rd yE yE.heap.size 1 (some ⟨x12,0,none⟩) 2 (strs [bu,aG]):=by
     rw[←Qb,dm]
     exact KA rT (.string bu) (.string aG) 9
    have HN12:=af hnew
    have Ws:=af dD
    try rw[Qb]
    clear hnew dD dm Qb
    have FJ:Hid (Below W3.heap.size W3 yE):=af (FO.out.trans (Ws.out.mono FO.out.size))
    have aaQ:=af (HN8.out.later Ws.out)
    refine hK.out _ _ (⟨(HC.out _ FJ.out).2.1,(HC.out _ FJ.out).2.2.2⟩) (fun hH=>?_)
    clear hK K
    try simp only[Act.put,az,ay,aA]
    refine wpAnyH_ready (rs:=[3,8]) (by kernel_rfl) (by simp) ?_
    refine (AllReadyH.cons (o:=⟨some 11,_,_,_,_,_⟩) rfl (fun K hK=>?_) (AllReadyH.cons (o:=⟨some 16,_,_,_,_,_⟩) rfl (fun K hK=>?_) AllReadyH.nil))
    ·go_simp
     refine gT ?_
     intro Oh dm
     have dD:Below yE.heap.size yE Oh:=by rw[dm];first | exact (Below.refl _ _).alloc (ah _) _ | exact (Below.trans (by exact⟨rfl,rfl,rfl,ah _,fun _ _=>rfl⟩:Below yE.heap.size yE yE.drew) ((Below.refl _ _).alloc (ah _) _)) | exact (((Below.refl _ _).alloc (ah _) _).trans (by exact⟨rfl,rfl,rfl,ah _,fun _ _=>rfl⟩))
     obtain⟨x13,Qc⟩:∃x,yE.heap.size=x:=⟨_,rfl⟩
     have hnew:bQ W3 [((aG,au),false)] (.slice (some ⟨x13,0,none⟩) 1 1) Oh:=by
      rw[←Qc,dm]
      exact ED W3 yE ((aG,au),false) FJ.out
     have HN13:=af hnew
     have NA:=af dD
     try rw[Qc]
     clear hnew dD dm Qc
     have La:Hid (Below W3.heap.size W3 Oh):=af (FJ.out.trans (NA.out.mono FJ.out.size))
     have afV:=af (HN12.out.later NA.out)
     have aiO:=af (aaQ.out.later NA.out)
     refine hK.out _ _ (⟨(HC.out _ La.out).2.1,(HC.out _ La.out).2.2.2⟩) (fun hH=>?_)
     clear hK K
     try simp only[Act.put,az,ay,aA]
     refine aR 8 (fun K hK=>?_)
     ·go_simp
      refine (nC.out _ _ _ _ _ aiO.out afV.out).mono ?_
      rintro ev W14x ⟨v14,rfl,ho⟩
      obtain⟨A14,c14,rfl,-,-,dH,-⟩:=aC ho.1
      have HN14:=af dH
      rw[jq.out.2] at HN14 ⊢
      have Wt:=af ho.2
      clear ho dH
      have Lb:Hid (Below W3.heap.size W3 W14x):=af (La.out.trans (Wt.out.mono La.out.size))
      have aeQ:=af (HN13.out.later Wt.out)
      refine hK.out _ _ (⟨(HC.out _ Lb.out).2.1,(HC.out _ Lb.out).2.2.2⟩) (fun hH=>?_)
      clear hK K
      try simp only[Act.put,az,ay,aA]
      refine rdZq (o:=⟨some 17,_,_,_,_,_⟩) 9 rfl (fun K hK=>?_)
      obtain⟨hrow,aY⟩:=aeQ.out
      refine oI (.tmp 11) (.tmp 16) j3 (by rfl) (by rfl) hrow (by rfl) HN14.out (by rfl) (yL _) (bn (by show 1+m2≤_;omega)) (by show (1+m2)*_≤_;omega) Lb.out.size ?_
      intro v9 w9 bR dP _
      have H9:Hid (bQ W3 ([((aG,au),false)]++dJ (fG l) [bu,aG]) v9 w9):=af (by
       refine⟨?_,Below.app aY hrow dP (ah _) Lb.out.size⟩
       rw[aN,jq.out.2,oP]
       exact bR)
      obtain⟨A9,c9,eD,-,-,-,-⟩:=aC bR
      subst eD
      clear bR dP hrow aY
      refine hK.out _ _ (⟨(HC.out _ H9.out.2).2.1,(HC.out _ H9.out.2).2.2.2⟩) (fun hH=>?_)
      clear hK K
      try simp only[Act.put,az,ay,aA]
      refine ag 10 7 hH ?_
      refine wpAnyH_done (by kernel_rfl) ?_ _
      go_wp2_with fail
      go_meet
      exact⟨A9,c9,rfl,H9.out⟩
    ·go_simp
     refine (nC.out _ _ _ _ _ aaQ.out HN12.out).mono ?_
     rintro ev DC ⟨v15,rfl,ho⟩
     obtain⟨A15,c15,rfl,-,-,dH,-⟩:=aC ho.1
     have HN15:=af dH
     rw[jq.out.2] at HN15 ⊢
     have HBx15:=af ho.2
     clear ho dH
     have Jk:Hid (Below W3.heap.size W3 DC):=af (FJ.out.trans (HBx15.out.mono FJ.out.size))
     refine hK.out _ _ (⟨(HC.out _ Jk.out).2.1,(HC.out _ Jk.out).2.2.2⟩) (fun hH=>?_)
     clear hK K
     try simp only[Act.put,az,ay,aA]
     refine aR 3 (fun K hK=>?_)
     ·go_simp
      refine gT ?_
      intro Oi dm
      have dD:Below DC.heap.size DC Oi:=by rw[dm];first | exact (Below.refl _ _).alloc (ah _) _ | exact (Below.trans (by exact⟨rfl,rfl,rfl,ah _,fun _ _=>rfl⟩:Below DC.heap.size DC DC.drew) ((Below.refl _ _).alloc (ah _) _)) | exact (((Below.refl _ _).alloc (ah _) _).trans (by exact⟨rfl,rfl,rfl,ah _,fun _ _=>rfl⟩))
      obtain⟨x16,Qd⟩:∃x,DC.heap.size=x:=⟨_,rfl⟩
      have hnew:bQ W3 [((aG,au),false)] (.slice (some ⟨x16,0,none⟩) 1 1) Oi:=by
       rw[←Qd,dm]
       exact ED W3 DC ((aG,au),false) Jk.out
      have HN16:=af hnew
      have Wu:=af dD
      try rw[Qd]
      clear hnew dD dm Qd
      have Lc:Hid (Below W3.heap.size W3 Oi):=af (Jk.out.trans (Wu.out.mono Jk.out.size))
      have wo16:=af (HN15.out.later Wu.out)
      refine hK.out _ _ (⟨(HC.out _ Lc.out).2.1,(HC.out _ Lc.out).2.2.2⟩) (fun hH=>?_)
      clear hK K
      try simp only[Act.put,az,ay,aA]
      refine rdZq (o:=⟨some 17,_,_,_,_,_⟩) 9 rfl (fun K hK=>?_)
      obtain⟨hrow,aY⟩:=HN16.out
      refine oI (.tmp 11) (.tmp 16) j3 (by rfl) (by rfl) hrow (by rfl) wo16.out (by rfl) (yL _) (bn (by show 1+m2≤_;omega)) (by show (1+m2)*_≤_;omega) Lc.out.size ?_
      intro v9 w9 bR dP _
      have H9:Hid (bQ W3 ([((aG,au),false)]++dJ (fG l) [bu,aG]) v9 w9):=af (by
       refine⟨?_,Below.app aY hrow dP (ah _) Lc.out.size⟩
       rw[aN,jq.out.2,oP]
       exact bR)
      obtain⟨A9,c9,eD,-,-,-,-⟩:=aC bR
      subst eD
      clear bR dP hrow aY
      refine hK.out _ _ (⟨(HC.out _ H9.out.2).2.1,(HC.out _ H9.out.2).2.2.2⟩) (fun hH=>?_)
      clear hK K
      try simp only[Act.put,az,ay,aA]
      refine ag 10 7 hH ?_
      refine wpAnyH_done (by kernel_rfl) ?_ _
      go_wp2_with fail
      go_meet
      exact⟨A9,c9,rfl,H9.out⟩
  ·go_simp
   refine gT ?_
   intro yF dm
   have dD:Below Wd.heap.size Wd yF:=by rw[dm];first | exact (Below.refl _ _).alloc (ah _) _ | exact (Below.trans (by exact⟨rfl,rfl,rfl,ah _,fun _ _=>rfl⟩:Below Wd.heap.size Wd Wd.drew) ((Below.refl _ _).alloc (ah _) _)) | exact (((Below.refl _ _).alloc (ah _) _).trans (by exact⟨rfl,rfl,rfl,ah _,fun _ _=>rfl⟩))
   obtain⟨x17,Qe⟩:∃x,Wd.heap.size=x:=⟨_,rfl⟩
   have hnew:Rd yF yF.heap.size 1 (some ⟨x17,0,none⟩) 2 (strs [bu,aG]):=by
    rw[←Qe,dm]
    exact KA Wd (.string bu) (.string aG) 9
   have HN17:=af hnew
   have HBx17:=af dD
   try rw[Qe]
   clear hnew dD dm Qe
   have Dv:Hid (Below W3.heap.size W3 yF):=af (lU.out.trans (HBx17.out.mono lU.out.size))
   refine hK.out _ _ (⟨(HC.out _ Dv.out).2.1,(HC.out _ Dv.out).2.2.2⟩) (fun hH=>?_)
   clear hK K
   try simp only[Act.put,az,ay,aA]
   refine wpAnyH_ready (rs:=[3,6]) (by kernel_rfl) (by simp) ?_
   refine (AllReadyH.cons (o:=⟨some 11,_,_,_,_,_⟩) rfl (fun K hK=>?_) (AllReadyH.cons (o:=⟨some 14,_,_,_,_,_⟩) rfl (fun K hK=>?_) AllReadyH.nil))
   ·go_simp
    refine gT ?_
    intro Oj dm
    have dD:Below yF.heap.size yF Oj:=by rw[dm];first | exact (Below.refl _ _).alloc (ah _) _ | exact (Below.trans (by exact⟨rfl,rfl,rfl,ah _,fun _ _=>rfl⟩:Below yF.heap.size yF yF.drew) ((Below.refl _ _).alloc (ah _) _)) | exact (((Below.refl _ _).alloc (ah _) _).trans (by exact⟨rfl,rfl,rfl,ah _,fun _ _=>rfl⟩))
    obtain⟨x18,Qf⟩:∃x,yF.heap.size=x:=⟨_,rfl⟩
    have hnew:bQ W3 [((aG,au),false)] (.slice (some ⟨x18,0,none⟩) 1 1) Oj:=by
     rw[←Qf,dm]
     exact ED W3 yF ((aG,au),false) Dv.out
    have HN18:=af hnew
    have Wv:=af dD
    try rw[Qf]
    clear hnew dD dm Qf
    have Jl:Hid (Below W3.heap.size W3 Oj):=af (Dv.out.trans (Wv.out.mono Dv.out.size))
    have afW:=af (HN17.out.later Wv.out)
    refine hK.out _ _ (⟨(HC.out _ Jl.out).2.1,(HC.out _ Jl.out).2.2.2⟩) (fun hH=>?_)
    clear hK K
    try simp only[Act.put,az,ay,aA]
    refine aR 6 (fun K hK=>?_)
    ·go_simp
     refine (HST.out _ (aI.out.trans (Jl.out.mono (by have:=HK.out.2;omega)))).mono ?_
     rintro ev W19x ⟨v19,rfl,ho⟩
     obtain⟨A19,c19,rfl,-,-,dH,-⟩:=aC ho.1
     have HN19:=af dH
     rw[jq.out.1] at HN19 ⊢
     have NB:=af ho.2
     clear ho dH
     have Ld:Hid (Below W3.heap.size W3 W19x):=af (Jl.out.trans (NB.out.mono Jl.out.size))
     have aeR:=af (HN18.out.later NB.out)
     have afX:=af (afW.out.later NB.out)
     refine hK.out _ _ (⟨(HC.out _ Ld.out).2.1,(HC.out _ Ld.out).2.2.2⟩) (fun hH=>?_)
     clear hK K
     try simp only[Act.put,az,ay,aA]
     refine aR 8 (fun K hK=>?_)
     ·go_simp
      refine (nC.out _ _ _ _ _ HN19.out afX.out).mono ?_
      rintro ev W20x ⟨v20,rfl,ho⟩
      obtain⟨A20,c20,rfl,-,-,dH,-⟩:=aC ho.1
      have HN20:=af dH
      rw[jq.out.2] at HN20 ⊢
      have Ww:=af ho.2
      clear ho dH
      have Lf:Hid (Below W3.heap.size W3 W20x):=af (Ld.out.trans (Ww.out.mono Ld.out.size))
      have aeS:=af (aeR.out.later Ww.out)
      refine hK.out _ _ (⟨(HC.out _ Lf.out).2.1,(HC.out _ Lf.out).2.2.2⟩) (fun hH=>?_)
      clear hK K
      try simp only[Act.put,az,ay,aA]
      refine rdZq (o:=⟨some 17,_,_,_,_,_⟩) 9 rfl (fun K hK=>?_)
      obtain⟨hrow,aY⟩:=aeS.out
      refine oI (.tmp 11) (.tmp 16) j3 (by rfl) (by rfl) hrow (by rfl) HN20.out (by rfl) (yL _) (bn (by show 1+m2≤_;omega)) (by show (1+m2)*_≤_;omega) Lf.out.size ?_
      intro v9 w9 bR dP _
      have H9:Hid (bQ W3 ([((aG,au),false)]++dJ (fG l) [bu,aG]) v9 w9):=af (by
       refine⟨?_,Below.app aY hrow dP (ah _) Lf.out.size⟩
       rw[aN,jq.out.2,oP]
       exact bR)
      obtain⟨A9,c9,eD,-,-,-,-⟩:=aC bR
      subst eD
      clear bR dP hrow aY
      refine hK.out _ _ (⟨(HC.out _ H9.out.2).2.1,(HC.out _ H9.out.2).2.2.2⟩) (fun hH=>?_)
      clear hK K
      try simp only[Act.put,az,ay,aA]
      refine ag 10 7 hH ?_
      refine wpAnyH_done (by kernel_rfl) ?_ _
      go_wp2_with fail
      go_meet
      exact⟨A9,c9,rfl,H9.out⟩
   ·go_simp
    refine (HST.out _ (aI.out.trans (Dv.out.mono (by have:=HK.out.2;omega)))).mono ?_
    rintro ev DD ⟨v21,rfl,ho⟩
    obtain⟨A21,c21,rfl,-,-,dH,-⟩:=aC ho.1
    have NK:=af dH
    rw[jq.out.1] at NK ⊢
    have Wx:=af ho.2
    clear ho dH
    have FK:Hid (Below W3.heap.size W3 DD):=af (Dv.out.trans (Wx.out.mono Dv.out.size))
    have Zv:=af (HN17.out.later Wx.out)
    refine hK.out _ _ (⟨(HC.out _ FK.out).2.1,(HC.out _ FK.out).2.2.2⟩) (fun hH=>?_)
    clear hK K
    try simp only[Act.put,az,ay,aA]
    refine wpAnyH_ready (rs:=[3,8]) (by kernel_rfl) (by simp) ?_
    refine (AllReadyH.cons (o:=⟨some 11,_,_,_,_,_⟩) rfl (fun K hK=>?_) (AllReadyH.cons (o:=⟨some 16,_,_,_,_,_⟩) rfl (fun K hK=>?_) AllReadyH.nil))
    ·go_simp
     refine gT ?_
     intro Ol dm
     have dD:Below DD.heap.size DD Ol:=by rw[dm];first | exact (Below.refl _ _).alloc (ah _) _ | exact (Below.trans (by exact⟨rfl,rfl,rfl,ah _,fun _ _=>rfl⟩:Below DD.heap.size DD DD.drew) ((Below.refl _ _).alloc (ah _) _)) | exact (((Below.refl _ _).alloc (ah _) _).trans (by exact⟨rfl,rfl,rfl,ah _,fun _ _=>rfl⟩))
     obtain⟨x22,Qg⟩:∃x,DD.heap.size=x:=⟨_,rfl⟩
     have hnew:bQ W3 [((aG,au),false)] (.slice (some ⟨x22,0,none⟩) 1 1) Ol:=by
      rw[←Qg,dm]
      exact ED W3 DD ((aG,au),false) FK.out
     have HN22:=af hnew
     have NC:=af dD
     try rw[Qg]
     clear hnew dD dm Qg
     have Lg:Hid (Below W3.heap.size W3 Ol):=af (FK.out.trans (NC.out.mono FK.out.size))
     have aiP:=af (NK.out.later NC.out)
     have afY:=af (Zv.out.later NC.out)
     refine hK.out _ _ (⟨(HC.out _ Lg.out).2.1,(HC.out _ Lg.out).2.2.2⟩) (fun hH=>?_)
     clear hK K
     try simp only[Act.put,az,ay,aA]
     refine aR 8 (fun K hK=>?_)
     ·go_simp
      refine (nC.out _ _ _ _ _ aiP.out afY.out).mono ?_
      rintro ev W23x ⟨v23,rfl,ho⟩
      obtain⟨A23,c23,rfl,-,-,dH,-⟩:=aC ho.1
      have HN23:=af dH
      rw[jq.out.2] at HN23 ⊢
      have Wy:=af ho.2
      clear ho dH
      have Lh:Hid (Below W3.heap.size W3 W23x):=af (Lg.out.trans (Wy.out.mono Lg.out.size))
      have aeT:=af (HN22.out.later Wy.out)
      refine hK.out _ _ (⟨(HC.out _ Lh.out).2.1,(HC.out _ Lh.out).2.2.2⟩) (fun hH=>?_)
      clear hK K
      try simp only[Act.put,az,ay,aA]
      refine rdZq (o:=⟨some 17,_,_,_,_,_⟩) 9 rfl (fun K hK=>?_)
      obtain⟨hrow,aY⟩:=aeT.out
      refine oI (.tmp 11) (.tmp 16) j3 (by rfl) (by rfl) hrow (by rfl) HN23.out (by rfl) (yL _) (bn (by show 1+m2≤_;omega)) (by show (1+m2)*_≤_;omega) Lh.out.size ?_
      intro v9 w9 bR dP _
      have H9:Hid (bQ W3 ([((aG,au),false)]++dJ (fG l) [bu,aG]) v9 w9):=af (by
       refine⟨?_,Below.app aY hrow dP (ah _) Lh.out.size⟩
       rw[aN,jq.out.2,oP]
       exact bR)
      obtain⟨A9,c9,eD,-,-,-,-⟩:=aC bR
      subst eD
      clear bR dP hrow aY
      refine hK.out _ _ (⟨(HC.out _ H9.out.2).2.1,(HC.out _ H9.out.2).2.2.2⟩) (fun hH=>?_)
      clear hK K
      try simp only[Act.put,az,ay,aA]
      refine ag 10 7 hH ?_
      refine wpAnyH_done (by kernel_rfl) ?_ _
      go_wp2_with fail
      go_meet
      exact⟨A9,c9,rfl,H9.out⟩
    ·go_simp
     refine (nC.out _ _ _ _ _ NK.out Zv.out).mono ?_
     rintro ev DF ⟨v24,rfl,ho⟩
     obtain⟨A24,c24,rfl,-,-,dH,-⟩:=aC ho.1
     have HN24:=af dH
     rw[jq.out.2] at HN24 ⊢
     have HBx24:=af ho.2
     clear ho dH
     have Jm:Hid (Below W3.heap.size W3 DF):=af (FK.out.trans (HBx24.out.mono FK.out.size))
     refine hK.out _ _ (⟨(HC.out _ Jm.out).2.1,(HC.out _ Jm.out).2.2.2⟩) (fun hH=>?_)
     clear hK K
     try simp only[Act.put,az,ay,aA]
     refine aR 3 (fun K hK=>?_)
     ·go_simp
      refine gT ?_
      intro Om dm
      have dD:Below DF.heap.size DF Om:=by rw[dm];first | exact (Below.refl _ _).alloc (ah _) _ | exact (Below.trans (by exact⟨rfl,rfl,rfl,ah _,fun _ _=>rfl⟩:Below DF.heap.size DF DF.drew) ((Below.refl _ _).alloc (ah _) _)) | exact (((Below.refl _ _).alloc (ah _) _).trans (by exact⟨rfl,rfl,rfl,ah _,fun _ _=>rfl⟩))
      obtain⟨x25,Qh⟩:∃x,DF.heap.size=x:=⟨_,rfl⟩
      have hnew:bQ W3 [((aG,au),false)] (.slice (some ⟨x25,0,none⟩) 1 1) Om:=by
       rw[←Qh,dm]
       exact ED W3 DF ((aG,au),false) Jm.out
      have HN25:=af hnew
      have Wz:=af dD
      try rw[Qh]
      clear hnew dD dm Qh
      have Li:Hid (Below W3.heap.size W3 Om):=af (Jm.out.trans (Wz.out.mono Jm.out.size))
      have wo25:=af (HN24.out.later Wz.out)
      refine hK.out _ _ (⟨(HC.out _ Li.out).2.1,(HC.out _ Li.out).2.2.2⟩) (fun hH=>?_)
      clear hK K
      try simp only[Act.put,az,ay,aA]
      refine rdZq (o:=⟨some 17,_,_,_,_,_⟩) 9 rfl (fun K hK=>?_)
      obtain⟨hrow,aY⟩:=HN25.out
      refine oI (.tmp 11) (.tmp 16) j3 (by rfl) (by rfl) hrow (by rfl) wo25.out (by rfl) (yL _) (bn (by show 1+m2≤_;omega)) (by show (1+m2)*_≤_;omega) Li.out.size ?_
      intro v9 w9 bR dP _
      have H9:Hid (bQ W3 ([((aG,au),false)]++dJ (fG l) [bu,aG]) v9 w9):=af (by
       refine⟨?_,Below.app aY hrow dP (ah _) Li.out.size⟩
       rw[aN,jq.out.2,oP]
       exact bR)
      obtain⟨A9,c9,eD,-,-,-,-⟩:=aC bR
      subst eD
      clear bR dP hrow aY
      refine hK.out _ _ (⟨(HC.out _ H9.out.2).2.1,(HC.out _ H9.out.2).2.2.2⟩) (fun hH=>?_)
      clear hK K
      try simp only[Act.put,az,ay,aA]
      refine ag 10 7 hH ?_
      refine wpAnyH_done (by kernel_rfl) ?_ _
      go_wp2_with fail
      go_meet
      exact⟨A9,c9,rfl,H9.out⟩
 case rest=>
  obtain⟨A9,c9,rfl,H9x⟩:=hcut
  have H9:=af H9x
  have hl9:([((aG,au),false)]++dJ (fG l) [bu,aG]:List Fd).length=1+m2:=by rw[aN,jq.out.2];rfl
  have Ei:Rd wc wc.heap.size 3 A9 (1+m2) (fds ([((aG,au),false)]++dJ (fG l) [bu,aG])):=by
   have h1:=H9x.1
   rw[hl9] at h1
   exact Rd.lJ (pG h1 (aL _))
  have HVI:=af (fun (w1:World) (h:Below wc.heap.size wc w1)=>aju (c:=c9) (⟨#[50,32]⟩ ++ who) w1 (Ei.later h) (by omega))
  have HL9:=af hl9
  clear H9x hl9 Ei
  go_upto_region 2 with fail
  refine wp_region_held_drew (S:=fun w'=>w'.cell? ⟨q,0,none⟩=some (.string m)∧w'.cell? ⟨q,3,none⟩=some (.string pa)) (by kernel_rfl) (⟨(HC.out _ H9.out.2).1,(HC.out _ H9.out.2).2.2.1⟩) (fun hH=>?_)
  refine ag 0 18 hH ?_
  refine ag 1 19 hH ?_
  refine ag 2 20 hH ?_
  refine ag 3 21 hH ?_
  refine ag 4 22 hH ?_
  refine ag 5 23 hH ?_
  refine ag 6 24 hH ?_
  refine ag 8 26 hH ?_
  refine aR 7 (fun K hK=>?_)
  go_simp
  refine (HVI.out _ (by first | exact Below.refl _ _ | exact⟨rfl,rfl,rfl,ah _,fun _ _=>rfl⟩)).mono ?_
  rintro ev ig ⟨v11,rfl,J2⟩
  have qQ:Below wc.heap.size wc ig:=by first | exact J2.2 | exact Below.trans (by exact⟨rfl,rfl,rfl,ah _,fun _ _=>rfl⟩) J2.2
  have oK:=af (H9.out.2.trans (qQ.mono H9.out.2.size))
  have Bc:([((aG,au),false)]++dJ (fG l) [bu,aG]++[((rG,⟨#[50,32]⟩ ++ who),false)]:List Fd).length=1+m2+1:=by rw[aN,HL9.out];rfl
  obtain⟨yh,c11,IE,-,-,-,-⟩:=aC J2.1
  subst IE
  rw[Bc]
  have EW:=af (pG J2.1 (show W3.heap.size≤_ from H9.out.2.size))
  rw[Bc] at EW
  have HZ1:=af ((oK.out.block (q+1) (by have:=HK.out.2;omega)).trans HK.out.1)
  have HL11:=af Bc
  clear J2 qQ Bc
  refine hK.out _ _ (⟨(HC.out _ oK.out).1,(HC.out _ oK.out).2.2.1⟩) (fun hH=>?_)
  clear hK K
  try simp only[Act.put,az,ay,aA]
  refine ag 9 27 hH ?_
  refine rdZq (o:=⟨none,_,_,_,_,_⟩) 10 rfl (fun K hK=>?_)
  rw[ax (by kernel_rfl)]
  refine wp_store_row 68 (.tmp 6) (.tmp 27) rfl (q+1) _ rfl rfl 68 iC HZ1.out vw rfl (by simp[Value.oneCell']) ?_
  have hrw:Below w.heap.size w (ig.setRow (q+1) #[.string m,.string pa,.slice yh (1+m2+1) c11,.string body]):=yI (aI.out.trans (oK.out.mono (by have:=HK.out.2;omega)) |> fun h=>by rw[HQ.out];exact h) (by rw[HQ.out];omega)
  refine hK.out _ _ (⟨by rw[World.cell?_of_block (setRow_other _ _ _ _ (by show q≠q+1;omega))];exact (HC.out _ oK.out).1,by rw[World.cell?_of_block (setRow_other _ _ _ _ (by show q≠q+1;omega))];exact (HC.out _ oK.out).2.2.1⟩) (fun hH=>?_)
  clear hK K
  try simp only[Act.put]
  refine wpAnyH_done (by kernel_rfl) ?_ _
  go_wp2_with fail
  refine bodyPost_ret (ahF rfl (setRow_heap _ _ _ _ _ _ HZ1.out) rfl) rfl ?_
  refine⟨.slice yh (1+m2+1) c11,rfl,?_,hrw⟩
  have hk:Kept (fun b=>b=q+1) ig (ig.setRow (q+1) #[.string m,.string pa,.slice yh (1+m2+1) c11,.string body]):=⟨rfl,rfl,rfl,by simp,fun k hk hF=>setRow_other _ _ _ _ hF⟩
  have h1:=EW.out
  have h2:=pG (d_ h1 hk (fun b hb e=>by
   have:=(World.ownsRow.lt h1 b hb).1
   have:=HK.out.2
   omega)) (show w.heap.size≤W3.heap.size by rw[HQ.out,HK.out.2];omega)
  show World.ownsRow _ w.heap.size 26 3 _ ([((aG,au),false)]++dJ (fG l) [bu,aG]++[((rG,⟨#[50,32]⟩ ++ who),false)]:List Fd).length _
  rw[HL11.out]
  exact h2
end
section
open Go.RowKit Go.Maps
theorem tAsks:rR Tryz.prog 70 68 (.agg #[.string ByteArray.empty,.string ByteArray.empty,.slice none 0 0,.string ByteArray.empty]) 4 72:=⟨Tryz.underlying70,by kernel_rfl,rfl,by decide⟩
theorem ahm (w:World) (cs:Array Value) (t:TypeId) (size:Nat) (hs:cs.size=size):Rd (w.alloc (.cells cs t)) (w.alloc (.cells cs t)).heap.size size (some ⟨w.heap.size,0,none⟩) 1 cs.toList:=by
 refine⟨by simp[hs],fun _=>⟨_,_,rfl,by simp,fun j hj=>?_⟩⟩
 rw[World.cell?_alloc_at _ _ _ _ rfl]
 simp
def V_ (w:World) (n:Nat) (a:gW) (ov at_:Value) (wr:World):Prop:=(at_ = .int .i64 0∧ov = .slice none 0 0∧Below w.heap.size w wr) ∨
 (at_ = .int .i64 (n:Int)∧∃v2,wr.ownsRow w.heap.size 68 4 ov 1 [.string a.aW,.string a.tgt,v2,.string a.body]∧bQ w (a.fields.map cO) v2 wr)
theorem ahd {A:Option Addr}{n c:Nat}{L:List UInt8}(a:gW) (w:World) (hr:Rd w w.heap.size 1 A n (ak L)) (hL:jB a++a.body.data.toList=L) (hc:n≤c) (hn:n≤1000000) (h:qg a=true) :
 Calls Tryz.prog 26 #[.slice A n c] w fun e w'=>∃v v2,e = .returned (.tuple #[v,.int .i64 0])∧w'.ownsRow w.heap.size 68 4 v 1 [.string a.aW,.string a.tgt,v2,.string a.body]∧bQ w (a.fields.map cO) v2 w':=by
 have hn0 : 0<n:=by
  have h1:=hr.mR
  have h2:=congrArg List.length hL
  have h3 : 2≤(jB a).length:=by unfold jB;simp only[aN,fe];omega
  rw[aN] at h2
  omega
 have HR:=af hr
 have HT:Hid (∀w1,Below w.heap.size w w1→Calls Tryz.prog 70 #[.slice A n c] w1 fun e w'=>∃v,e = .returned (.tuple #[mP a v,.int .i64 (n:Int),.int .i64 0])∧bQ w1 (a.fields.map cO) v w'):=af (fun w1 hb=>ah4 a w1 ((hr.below hb (ah _)).more hb.size) hL hc hn h)
 obtain⟨A',hA',Ep⟩:=aaH A n c 0 (aL _)
 have dA:A'=A:=by
  rw[hA']
  split
  ·rfl
  ·cases A with
   | none=>rfl
   | some x=>simp[Addr.add]
 subst dA
 rw[Nat.sub_zero,Nat.sub_zero] at Ep
 have hsf2:∀w,(Instr.slice 48 (.slice A' n c) (some (.int .i64 0)) none none).run Tryz.prog w = .ok (.slice A' n c) w:=Ep
 clear hr hL h hA' Ep
 go_enter Tryz.func26,Tryz.ntmps26
 go_wp2_with fail
 go_loopw [4,5] (fun ov at_ wr=>V_ w n a ov at_ wr) (fun _ at_ _=>n-(intOf at_).toNat)
 case atStart=>exact .inl ⟨rfl,rfl,Below.refl _ _⟩
 case round=>
  rcases hrel with ⟨rfl,rfl,hb⟩ | ⟨rfl,v2,hrow,hown⟩
  ·have HB:=af hb
   have n0:(0:Int)<n:=by omega
   have dZ:=hb.size
   clear hb
   go_wp2_with fail
   refine (HT.out wr HB.out).mono ?_
   rintro e w2 ⟨v,rfl,ho⟩
   unfold mP
   obtain⟨Av,cv,hv,-,-,-,-⟩:=aC ho.1
   have hlm:(a.fields.map cO).length=a.fields.length:=List.length_map ..
   rw[hlm] at hv
   subst hv
   have HO:=af ho
   have hs2:=ho.2.size
   clear ho hlm
   go_upto_region 5 with (first
    | (refine wpList_store_rowTo rfl 68 (.tmp 6) (.tmp 18) rfl rfl w2.heap.size #[.string a.aW,.string a.tgt,.slice Av a.fields.length cv,.string a.body] rfl rfl 68 iC (aZ _ _) vw rfl (by simp[Value.oneCell']) ?_))
   refine bI ?_
   intro W3 hW3
   have hk3:W3.heap[w2.heap.size]?=some (.cells #[.string a.aW,.string a.tgt,.slice Av a.fields.length cv,.string a.body] 68 (0,0)):=by
    rw[hW3]
    exact setRow_heap _ _ _ _ _ _ (aZ _ _)
   have hb3:Below w2.heap.size w2 W3:=by
    rw[hW3]
    exact ((Below.refl _ w2).alloc (ah _) _).trans ⟨rfl,rfl,rfl,by simp,fun k hk=>setRow_other _ _ _ _ (by omega)⟩
   have hs3:w2.heap.size<W3.heap.size:=(Array.getElem?_eq_some_iff.1 hk3).1
   obtain⟨x,hx⟩:∃x,w2.heap.size=x:=⟨_,rfl⟩
   have aM:=af hb3
   rw[hx] at hk3 hs3 ⊢
   have HX:=af hx
   have k0:W3.cell? ⟨x,0,none⟩=some (.string a.aW):=by unfold World.cell?;rw[hk3];rfl
   have k1:W3.cell? ⟨x,1,none⟩=some (.string a.tgt):=by unfold World.cell?;rw[hk3];rfl
   have k2:W3.cell? ⟨x,2,none⟩=some (.slice Av a.fields.length cv):=by unfold World.cell?;rw[hk3];rfl
   have k3:W3.cell? ⟨x,3,none⟩=some (.string a.body):=by unfold World.cell?;rw[hk3];rfl
   clear hW3 hk3 hb3 hx
   go_wp2_with (at_builtin;refine dI ?_)
   unfold Stop
   have HNIL:=World.ownsRow_nil (W3.alloc (.cells #[.string a.aW,.string a.tgt,.slice Av a.fields.length cv,.string a.body] 68)) w.heap.size 68 4
   refine dQ (.tmp 24) (.tmp 26) tAsks rfl rfl HNIL rfl (ahm W3 #[.string a.aW,.string a.tgt,.slice Av a.fields.length cv,.string a.body] 68 4 rfl) rfl (by simp[Value.oneCell']) (bn (by omega)) (by omega) (by simp;have:=HX.out;omega) ?_
   intro v9 w9 bR dP _
   rw[mh,jQ] at bR
   have HN:Hid (V_ w n a v9 (.int .i64 (n:Int)) w9):=af (by
    have dB:Below (W3.alloc (.cells #[.string a.aW,.string a.tgt,.slice Av a.fields.length cv,.string a.body] 68)).heap.size (W3.alloc (.cells #[.string a.aW,.string a.tgt,.slice Av a.fields.length cv,.string a.body] 68)) w9:=Below.app (Below.refl _ _) (World.ownsRow_nil _ _ 68 4) dP (ah _) (ah _)
    have hb29:Below w2.heap.size w2 w9:=(aM.out.alloc (by have:=aM.out.size;omega) _).trans (dB.mono (by have:=aM.out.size;simp;omega))
    refine .inr ⟨rfl,.slice Av a.fields.length cv,bR,?_,?_⟩
    ·refine pG (d_ HO.out.1 (Kept.jk (F:=fun _=>False) hb29) (fun _ _ h=>h)) dZ
    ·exact (HB.out.trans (HO.out.2.mono dZ)).trans (hb29.mono (by omega)))
   obtain⟨A9,c9,eD,-,-,-,-⟩:=aC bR
   rw[eD] at HN ⊢
   clear bR dP eD k0 k1 k2 k3 HNIL
   go_wp2
   go_roundw
   case rel=>exact HN.out
   case measure=>simp[intOf];omega
  ·obtain⟨A4,c4,hv4,-,-,-,-⟩:=aC hrow
   have HE:=af (And.intro hrow hown)
   clear hrow hown
   go_wp2
   exact bodyPost_ret (v:=.tuple #[u4,.int .i64 0]) (by simp[results,Tryz.results26,go_sem]) rfl ⟨_,_,rfl,HE.out.1,HE.out.2⟩
end
end Go.Proofs.YtpkmciohehaboaaGreatDoor
