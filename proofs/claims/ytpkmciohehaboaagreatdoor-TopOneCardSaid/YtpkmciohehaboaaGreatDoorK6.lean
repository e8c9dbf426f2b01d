/- Part 6 of the proof. -/
import Derived.Test.YtpkmciohehaboaaGreatDoorK0
import Derived.Test.YtpkmciohehaboaaGreatDoorK5
set_option maxRecDepth 100000
set_option maxHeartbeats 100000000
set_option linter.unusedVariables false
set_option linter.unusedSimpArgs false
set_option linter.unusedSectionVars false
set_option linter.unnecessarySimpa false
namespace Go.Proofs.YtpkmciohehaboaaGreatDoor
section
open Go.RowKit
theorem Rd.rC (w:World) (x y z:Value) (t:TypeId):Rd (w.alloc (.cells #[x,y,z] t)) (w.heap.size+1) 3 (some ⟨w.heap.size,0,none⟩) 1 [x,y,z]:=by
 refine⟨rfl,fun _=>⟨_,_,rfl,by omega,fun j hj=>?_⟩⟩
 rw[World.cell?_alloc_at _ _ _ _ rfl]
 simp
theorem dh.app {W w w4:World}{p d g N cl:Nat}{F0 F:Nat→Prop}{mo li:Int}{S:eZ}{AL:Option Addr}{fv v4:Value}{o:Obj}(f:Fd) (h:dh W w p d g N F0 F mo li S AL cl fv) (hown:w4.ownsRow W.heap.size 26 3 v4 (S.fields.length+1) (fds S.fields++[.string f.1.1,.string f.1.2,.bool f.2]))
 (hg:(w.alloc o).drew.grownBy w4 fv.ownBlock) (hb:v4.ownBlock=fv.ownBlock∨v4.ownBlock=some (w.alloc o).drew.heap.size) :
 dh W (w4.setCell ⟨p,2,none⟩ v4) p d g N F0 F mo li { S with fields:=S.fields++[f] } AL cl v4:=by
 have hsz:w.heap.size+1≤w4.heap.size:=by have:=hg.size;simpa [World.drew] using this
 have jL:Kept (fun k=>fv.ownBlock=some k) w w4:=((Kept.refl _ _).alloc o).drew.grown hg (fun k hk=>.inl hk)
 have hold:∀k,k<w.heap.size→fv.ownBlock≠some k→k≠p→(w4.setCell ⟨p,2,none⟩ v4).heap[k]?=w.heap[k]?:=fun k hk hn hp=>
  (Below.heap_setCell _ _ _ _ hp).trans (jL.block k hk hn)
 have hfF:∀k,v4.ownBlock=some k→¬F k∧k≠p:=fun k hk=>by
  rcases hb with e | e
  ·exact h.fF k (e ▸ hk)
  ·rw[e] at hk
   injection hk with hk
   simp[World.drew] at hk
   exact⟨fun hf=>by have:=h.tab.lt k hf;omega,by have:=h.pw;omega⟩
 have hkc:Kept (fun k=>k=p∨fv.ownBlock=some k) w (w4.setCell ⟨p,2,none⟩ v4):=(jL.mono (fun k hk=>.inr hk)).setCell (.inl rfl) _ _
 exact
 {tab:=h.tab.keep fun k hk=>hold k (h.tab.lt k hk) (fun e=>(h.fF k e).1 hk) (fun e=>h.pF (e ▸ hk))
  dec:=(hold d h.dw (fun e=>by have:=(h.nK.lt d e).1;have:=h.dl;omega) (fun e=>by have:=h.dl;have:=h.pl;omega)).trans h.dec
  vE:=by
   have hp4:w4.heap[p]?=some (iY d AL S.left.length cl fv S.cost S.changes):=(jL.block p h.pw (fun e=>(h.fF p e).2 rfl)).trans h.vE
   rw[zB _ hp4]
   rfl
  left:=h.left.kept hkc (fun h0 a ha e=>by
   have h1:=(h.lF h0 a ha).2.2
   rcases e with e | e
   ·have:=h.pl;omega
   ·have:=(h.nK.lt _ e).1;omega)
  nS:=h.nS
  lF:=h.lF
  nK:=by
   rw[aN,oP]
   exact d_ hown ((Kept.refl (fun k=>k=p) w4).setCell rfl 2 v4) (fun q hq e=>(hfF q hq).2 e)
  fF:=hfF
  oz:=h.oz
  kept:=⟨hkc.os.trans h.kept.os,hkc.tape.trans h.kept.tape,hkc.output.trans h.kept.output,gM h.kept.size hkc.size,fun k iO hn=>(hkc.block k (fI iO h.kept.size) (fun e=>by
   rcases e with e | e
   ·have:=h.pl;omega
   ·have:=(h.nK.lt _ e).1;omega)).trans (h.kept.block k iO hn)⟩
  dl:=h.dl
  dF:=h.dF
  pl:=h.pl
  pF:=h.pF }
theorem Te {W w:World}{p d g N cl L:Nat}{F0 F:Nat→Prop}{mo li:Int}{S:eZ}{AL:Option Addr}{fv:Value}(f:Fd) (h:dh W w p d g N F0 F mo li S AL cl fv) (hok:jr L S) (hL:L≤1048576) (h1:f.1.1.size≤65536) (h2:f.1.2.size≤65536) :
 Calls Tryz.prog 201 #[.pointer (some ⟨p,0,none⟩),.agg #[.string f.1.1,.string f.1.2,.bool f.2]] w fun e w'=>e = .returned (.tuple #[])∧∃kI,dh W w' p d g N F0 F mo li (S.put S.left f) AL cl kI∧Mv w w' p F F fv kI:=by
 obtain⟨W0,hW0⟩:∃W0,w.alloc (.cells #[.string f.1.1,.string f.1.2,.bool f.2] 26)=W0:=⟨_,rfl⟩
 obtain⟨q,hq⟩:∃q,w.heap.size=q:=⟨_,rfl⟩
 have b0:Below w.heap.size w W0:=by rw[←hW0];exact (Below.refl _ _).alloc (ah _) _
 have h0:=h.below b0
 have k0:W0.heap[q]?=some (.cells #[.string f.1.1,.string f.1.2,.bool f.2] 26 (0,0)):=by rw[←hW0,←hq];exact aZ _ _
 have g0:W0.cell? ⟨q,0,none⟩=some (.string f.1.1):=by unfold World.cell?;rw[k0];rfl
 have g1:W0.cell? ⟨q,1,none⟩=some (.string f.1.2):=by unfold World.cell?;rw[k0];rfl
 have g2:W0.cell? ⟨q,2,none⟩=some (.bool f.2):=by unfold World.cell?;rw[k0];rfl
 obtain⟨-,-,-,c3,-⟩:=h0.cells
 have f3:=h0.free 3
 have hpq:p≠q:=by have:=h.pw;omega
 have hc:=hok.adw
 have hcl:=hok.len
 have dY:=af hW0
 have HQ:=af hq
 have H0:=af h0
 have dW:=af b0
 have HK:=af k0
 clear hW0 hq b0 h0 k0 h
 go_enter Tryz.func201,Tryz.ntmps201
 go_upto_region 1 with fail
 rw[dY.out,HQ.out]
 go_region
 obtain⟨W1,hW1⟩:∃W1,(W0.setCell ⟨p,3,none⟩ (.int .i64 ((S.cost:Int)+((f.1.1.size:Int)+f.1.2.size+32)))).drew=W1:=⟨_,rfl⟩
 have h1:dh W W1 p d g N F0 F mo li { S with cost:=S.cost+cost f.1 } AL cl fv:=by
  rw[←hW1]
  have jL:=((Kept.refl (fun q=>q=p) W0).setCell (g:=p) rfl 3 (.int .i64 ((S.cost:Int)+((f.1.1.size:Int)+f.1.2.size+32)))).drew
  refine H0.out.turn (S':={ S with cost:=S.cost+cost f.1 }) rfl jL ?_ rfl (H0.out.left.kept jL (fun h0 a ha e=>by have:=(H0.out.lF h0 a ha).2.2;have:=H0.out.pl;omega)) H0.out.nS (fun h0 a ha=>⟨a,ha,rfl,h0⟩)
  show (W0.setCell ⟨p,3,none⟩ _).heap[p]?=_
  rw[zB _ H0.out.vE]
  rfl
 have fK:W1.heap[q]?=W0.heap[q]?:=by rw[←hW1];exact Below.heap_setCell _ _ _ _ (fun e=>hpq e.symm)
 have iU:Hid (Mv w W1 p F F fv fv):=af (by rw[←hW1];exact (((Mv.refl w p F fv).below dW.out).trans (Mv.set _ _ _ _ _ _)).below (Below.refl _ _).drew)
 rw[hW1]
 clear hW1
 have k1:=fK.trans HK.out
 have e0:W1.cell? ⟨q,0,none⟩=some (.string f.1.1):=by unfold World.cell?;rw[k1];rfl
 have e1:W1.cell? ⟨q,1,none⟩=some (.string f.1.2):=by unfold World.cell?;rw[k1];rfl
 have e2:W1.cell? ⟨q,2,none⟩=some (.bool f.2):=by unfold World.cell?;rw[k1];rfl
 obtain⟨-,-,c2,-,-⟩:=h1.cells
 have f2:=h1.free 2
 have hpw:=h1.pw
 obtain⟨A9,c9,eD,-⟩:=aC h1.nK
 simp only at eD
 subst eD
 have H1:=af h1
 obtain⟨n,hn⟩:∃n,S.fields.length=n:=⟨_,rfl⟩
 have HN:=af hn
 have hown:=h1.nK
 simp only at hown
 rw[hn] at hcl hown hc c2
 have nX:=af hown
 clear g0 g1 g2 c3 f3 fK k1 h1 hn hown
 go_upto_region 2 with fail
 go_region_law (first
  | (refine oI (.tmp 23) (.tmp 25) j3 rfl rfl (nX.out.alloc _) rfl (Rd.rC W1 _ _ _ _) rfl (yL [f]) (bn (by omega)) (by omega) (by have:=H1.out.kept.size;simp;omega) ?_;intro v4 w4 fT hg4 hb4;obtain⟨A4,c4,rfl,-,-,-,hbase⟩:=aC fT;have hp5:w4.heap[p]?=W1.heap[p]?:=(hg4.block p (by simp;omega) (fun e=>(H1.out.fF p (by rw[HN.out];exact e.symm)).2 rfl)).trans (Below.heap_alloc W1 _ p hpw);have m1:w4.cell? ⟨p,2,none⟩=some (.slice A9 n c9):=(World.cell?_of_block (a:=⟨p,2,none⟩) hp5).trans c2;have mf:w4.frozen? ⟨p,2,none⟩=false:=(World.frozen?_of_block (a:=⟨p,2,none⟩) hp5).trans f2;have H5:=af (And.intro fT (And.intro hg4 (And.intro hb4 hp5)));clear fT hg4 hbase hp5 hb4))
 all_goals
  go_wp2_with fail
  go_end0
  obtain⟨fT,hg4,hb4,hp5⟩:=H5.out
  have h9:=H1.out.app f (by rw[HN.out];exact fT) (by rw[HN.out];exact hg4) (by rw[HN.out];exact hb4)
  have hm:Mv W1 (w4.setCell ⟨p,2,none⟩ (.slice A4 (n+1) c4)) p F F (.slice A9 S.fields.length c9) (.slice A4 (n+1) c4):=by
   have hgg:(W1.alloc (.cells #[.string f.1.1,.string f.1.2,.bool f.2] 26)).drew.grownBy w4 (Value.slice A9 S.fields.length c9).ownBlock:=by rw[HN.out];exact hg4
   refine⟨((((Kept.refl _ W1).alloc _).drew).grown hgg (fun k hk=>.inl (.inr (.inr hk)))).setCell (.inl rfl) _ _,kX.refl _ _,fun k hk=>?_⟩
   rcases hb4 with e | e
   ·left;rw[HN.out];rw[←e];exact hk
   ·right
    rw[e] at hk
    injection hk with hk
    simp[World.drew] at hk
    omega
  first
   | exact⟨rfl,_,h9,iU.out.trans hm⟩
   | exact⟨rfl,_,h9.below ((Below.refl _ _).drew),(iU.out.trans hm).below ((Below.refl _ _).drew)⟩
def zA (mo:Int) (S:eZ):Except Nat eZ:=
 if (bB 31 S.left).2.2≠0 then .error (bB 31 S.left).2.2
 else if 0<S.fields.length∨2<S.changes+1∨mo<((bB 31 S.left).1:Int) then .error 50
 else .ok { S with T:=S.T.resize (bB 31 S.left).1,left:=S.left.drop (bB 31 S.left).2.1,changes:=S.changes+1 }
def WJ (W w:World) (p d g N:Nat) (F0 F:Nat→Prop) (mo li:Int) (fv:Value) (r:Except Nat eZ) (e:Ending) (w':World):Prop:=
 match r with
 | .error z=>e=p8 z∧∃S' F' AL cl kI,dh W w' p d g N F0 F' mo li S' AL cl kI∧Mv w w' p F F' fv kI
 | .ok S'=>e = .returned (.tuple #[])∧∃F' AL cl kI,dh W w' p d g N F0 F' mo li S' AL cl kI∧Mv w w' p F F' fv kI
theorem dh.aim {W w:World}{p d g N cl:Nat}{F0 F:Nat→Prop}{mo li:Int}{S:eZ}{AL:Option Addr}{fv:Value}(h:dh W w p d g N F0 F mo li S AL cl fv){k:Nat}{v:Int}(hv:v=(k:Int)):dh W (w.setCell ⟨p,4,none⟩ (.int .i64 v)) p d g N F0 F mo li { S with changes:=k } AL cl fv:=by
 subst hv
 have jL:=(Kept.refl (fun q=>q=p) w).setCell (g:=p) rfl 4 (.int .i64 (k:Int))
 refine h.turn (S':={ S with changes:=k }) rfl jL ?_ rfl (h.left.kept jL (fun h0 a ha e=>by have:=(h.lF h0 a ha).2.2;have:=h.pl;omega)) h.nS (fun h0 a ha=>⟨a,ha,rfl,h0⟩)
 rw[zB _ h.vE]
 rfl
theorem Ym:Full 5 31:=by constructor <;> decide
theorem ahy {W w:World}{p d g N cl L:Nat}{F0 F:Nat→Prop}{mo li:Int}{S:eZ}{AL:Option Addr}{fv:Value}(h:dh W w p d g N F0 F mo li S AL cl fv) (hok:jr L S) (hmo:mo≤65536) :
 Calls Tryz.prog 206 #[.pointer (some ⟨p,0,none⟩)] w (WJ W w p d g N F0 F mo li fv (zA mo S)):=by
 have HN:=af (S9 Ym h)
 have hchg:=hok.yJ
 have hlen:=hok.len
 have hbd:=EM (show 31≤255 by omega) S.left
 obtain⟨⟨n,a,z⟩,hv⟩:∃r,bB 31 S.left=r:=⟨_,rfl⟩
 have E0:Hid (z≠0→zA mo S = .error z):=af fun h=>by unfold zA;rw[hv];exact ax h
 have E1:Hid (z=0→(0<S.fields.length∨2<S.changes+1∨mo<(n:Int))→zA mo S = .error 50):=af fun h h2=>by unfold zA;rw[hv];rw[aj (by simpa using h)];exact ax h2
 have E2:Hid (z=0→¬(0<S.fields.length∨2<S.changes+1∨mo<(n:Int))→zA mo S = .ok { S with T:=S.T.resize n,left:=S.left.drop a,changes:=S.changes+1 }):=af fun h h2=>by unfold zA;rw[hv];rw[aj (by simpa using h)];exact aj h2
 rw[hv] at HN hbd
 simp only at hbd
 clear hv h hok
 go_enter Tryz.func206,Tryz.ntmps206
 go_wp2_with fail
 refine HN.out.mono ?_
 rintro e w1 ⟨dS,⟨hz,rfl,qx,qP,h1⟩ | ⟨hz,rfl,qx,qP,h1⟩⟩
 ·simp only at hz
  have H1:=af h1
  have HZ:=af hz
  have iU:=af dS
  clear h1 hbd hz dS
  unfold p8
  go_wp2
  rw[E0.out HZ.out]
  exact⟨rfl,rfl,_,_,_,_,_,H1.out,iU.out⟩
 ·simp only at hz
  subst hz
  simp only at h1
  obtain⟨Az,-,-,-⟩:=hbd rfl
  obtain⟨-,-,-,-,c4⟩:=h1.cells
  have f4:=h1.free 4
  have H2:=af (h1.aim (k:=S.changes+1) (v:=(S.changes:Int)+1) (by omega))
  clear h1 hbd
  simp only at c4
  obtain⟨w2,hw2⟩:∃w2,w1.setCell ⟨p,4,none⟩ (.int .i64 ((S.changes:Int)+1))=w2:=⟨_,rfl⟩
  rw[hw2] at H2
  have sZ:Hid (Mv w w2 p F F fv fv):=af (by rw[←hw2];exact dS.trans (Mv.set _ _ _ _ _ _))
  clear dS
  obtain⟨d0,-,d2,-,d4⟩:=H2.out.cells
  obtain⟨e0,-,e2,-⟩:=H2.out.Ju
  simp only at d2 d4
  obtain⟨A9,c9,eD,-⟩:=aC H2.out.nK
  simp only at eD
  subst eD
  obtain⟨fl,hfl⟩:∃fl,S.fields.length=fl:=⟨_,rfl⟩
  rw[hfl] at d2 hlen E1 E2
  obtain⟨ch,hch⟩:∃ch,S.changes+1=ch:=⟨_,rfl⟩
  have hch1:(S.changes:Int)+1=ch:=by omega
  have nA:=af hw2
  rw[hch] at d4 E1 E2 H2
  have HCH:=af hch1
  clear hfl hch hw2 hch1
  go_upto_region 2 with fail
  rw[nA.out]
  have oV : 0<fl∨(¬0<fl∧2<ch)∨(¬0<fl∧¬2<ch∧mo<n)∨(¬0<fl∧¬2<ch∧¬mo<n):=by omega
  clear c4 f4
  rcases oV with q1 | ⟨q1,q2⟩ | ⟨q1,q2,q3⟩ | ⟨q1,q2,q3⟩
  ·have E9:=af (E1.out (by trivial) (.inl q1))
   have q4:(0:Int)<fl:=by omega
   clear q1
   go_wp2
   rw[E9.out]
   exact⟨rfl,rfl,_,_,_,_,_,H2.out,sZ.out⟩
  ·have E9:=af (E1.out (by trivial) (.inr (.inl q2)))
   have q4:¬(0:Int)<fl:=by omega
   have q5:(2:Int)<ch:=by omega
   clear q1 q2
   go_wp2
   rw[E9.out]
   exact⟨rfl,rfl,_,_,_,_,_,H2.out,sZ.out⟩
  ·have E9:=af (E1.out (by trivial) (.inr (.inr q3)))
   have q4:¬(0:Int)<fl:=by omega
   have q5:¬(2:Int)<ch:=by omega
   clear q1 q2
   go_wp2
   rw[E9.out]
   exact⟨rfl,rfl,_,_,_,_,_,H2.out,sZ.out⟩
  ·have E9:=af (E2.out (by trivial) (by omega))
   have q4:¬(0:Int)<fl:=by omega
   have q5:¬(2:Int)<ch:=by omega
   have HR:=af (ahx (n:Int) w2 H2.out.tab (by omega) (by omega))
   clear q1 q2
   go_wp2_with fail
   refine HR.out.mono ?_
   rintro e w3 ⟨rfl,F3,ht3,hk3,hg3⟩
   have H3:=af (H2.out.VQ ht3 hk3 hg3)
   have vQ:=af (sZ.out.trans (⟨hk3.mono (fun _ h=>.inr (.inl h)),hg3,fun _ h=>.inl h⟩:Mv w2 w3 p F F3 _ _))
   clear ht3 hk3 hg3
   go_wp2_with fail
   go_end0
   rw[E9.out]
   exact⟨rfl,_,_,_,_,H3.out,vQ.out⟩
end
section
open Go.RowKit
def qZ (Fm:Nat) (T:Tb) (l:List UInt8):Except Nat (Rw×List UInt8):=if (bB Fm l).2.2≠0 then .error (bB Fm l).2.2 else wL T (bB Fm l).1 (l.drop (bB Fm l).2.1)
def abL (W w:World) (p d g N:Nat) (F0 F:Nat→Prop) (mo li:Int) (S:eZ) (fv:Value) (nv:Bool) (r:Except Nat (Rw×List UInt8)) (e:Ending) (w':World):Prop:=
 Mv w w' p F F fv fv∧match r with
 | .error z=>e=p8 z∧∃S' AL cl,dh W w' p d g N F0 F mo li S' AL cl fv
 | .ok (f,l)=>e = .returned (nJ f nv)∧∃AL cl,dh W w' p d g N F0 F mo li { S with left:=l } AL cl fv
section
variable {W w w' w0:World} {p d g N cl b b':Nat} {F0 F F':Nat→Prop} {mo li:Int} {S:eZ} {AL:Option Addr} {fv kI:Value} {o:Option Obj}
theorem dh.aside (h:dh W w p d g N F0 F mo li S AL cl fv) (hb:By w p F fv b o) (hW:W.heap.size≤b) (j:Nat) (v:Value):dh W (w.setCell ⟨b,j,none⟩ v) p d g N F0 F mo li S AL cl fv:=by
 have jL:Kept (fun k=>k=b) w (w.setCell ⟨b,j,none⟩ v):=(Kept.refl (fun k=>k=b) w).setCell rfl j v
 exact
 {tab:=h.tab.keep fun k hk=>jL.block k (h.tab.lt k hk) (fun e=>hb.nF (e ▸ hk))
  dec:=(jL.block d h.dw (fun e=>by have:=h.dl;omega)).trans h.dec
  vE:=(jL.block p h.pw (fun e=>hb.np e.symm)).trans h.vE
  left:=h.left.kept jL (fun h0 a ha e=>by have:=(h.lF h0 a ha).2.2;omega)
  nS:=h.nS
  lF:=h.lF
  nK:=d_ h.nK jL (fun q hq e=>hb.nv (by rw[hq,e]))
  fF:=h.fF
  oz:=h.oz
  kept:=⟨jL.os.trans h.kept.os,jL.tape.trans h.kept.tape,jL.output.trans h.kept.output,gM h.kept.size jL.size,fun k iO hn=>(jL.block k (fI iO h.kept.size) (fun e=>by omega)).trans (h.kept.block k iO hn)⟩
  dl:=h.dl
  dF:=h.dF
  pl:=h.pl
  pF:=h.pF }
theorem Mv.aside (h:Mv w0 w p F F' fv kI) (hb:w0.heap.size≤b) (j:Nat) (v:Value):Mv w0 (w.setCell ⟨b,j,none⟩ v) p F F' fv kI:=
 ⟨⟨h.kept.os,h.kept.tape,h.kept.output,by have:=h.kept.size;simpa [World.setCell] using this,fun k hk hn=>(Below.heap_setCell _ ⟨b,j,none⟩ v _ (by show k≠b;omega)).trans (h.kept.block k hk hn)⟩,h.oz,h.own⟩
theorem By.other (h:By w p F fv b o) (hne:b≠b') (j:Nat) (v:Value):By (w.setCell ⟨b',j,none⟩ v) p F fv b o:=
 ⟨by simpa [World.setCell] using h.lt,h.np,h.nF,h.nv,(Below.heap_setCell _ ⟨b',j,none⟩ v _ hne).trans h.at_⟩
theorem By.set {cs:Array Value}{t:TypeId}(h:By w p F fv b (some (.cells cs t (0,0)))) (j:Nat) (v:Value):By (w.setCell ⟨b,j,none⟩ v) p F fv b (some (.cells (cs.setIfInBounds j v) t (0,0))):=
 ⟨by simpa [World.setCell] using h.lt,h.np,h.nF,h.nv,zB v h.at_⟩
theorem By.below (h:By w p F fv b o) (hb:Below w.heap.size w w'):By w' p F fv b o:=⟨fI h.lt hb.size,h.np,h.nF,h.nv,(hb.block b h.lt).trans h.at_⟩
end
def ES:Obj:=.cells #[.string cK,.string cK,.bool false] 26 (0,0)
theorem Zc {W w:World}{p d g N cl bits Fm:Nat}{F0 F:Nat→Prop}{mo li:Int}{S:eZ}{AL:Option Addr}{fv:Value}(nv:Bool) (hF:Full bits Fm) (h:dh W w p d g N F0 F mo li S AL cl fv) (hl:S.left.length≤1048576) :
 Calls Tryz.prog 204 #[.pointer (some ⟨p,0,none⟩),.int .i64 bits,.bool nv] w (abL W w p d g N F0 F mo li S fv nv (qZ Fm S.T S.left)):=by
 have run_skip:∀(x y z:Value) (w:World),(Instr.field 26 (.agg #[x,y,z]) 0).run Tryz.prog w = .ok x w:=fun _ _ _ _=>rfl
 obtain⟨W0,hW0⟩:∃W0,w.alloc (.cells #[.string cK,.string cK,.bool false] 26)=W0:=⟨_,rfl⟩
 obtain⟨q,hq⟩:∃q,w.heap.size=q:=⟨_,rfl⟩
 have b0:Below w.heap.size w W0:=by rw[←hW0];exact (Below.refl _ _).alloc (ah _) _
 have hby0:By W0 p F fv q (some ES):=by rw[←hW0,←hq];exact By.new h _
 have hm0:=af ((Mv.refl w p F fv).below b0)
 have hqW:W.heap.size≤q:=by rw[←hq];exact h.kept.size
 have Fw:Hid (w.heap.size≤q):=af (Nat.le_of_eq hq)
 have HN:=af (S9 hF (h.below b0))
 have hbd:=EM hF.le.2 S.left
 have dY:=af hW0
 have HQ:=af hq
 have HBY0:=af hby0
 obtain⟨⟨n,a,z⟩,hv⟩:∃r,bB Fm S.left=r:=⟨_,rfl⟩
 have E0:Hid (z≠0→qZ Fm S.T S.left = .error z):=af fun h=>by unfold qZ;rw[hv];exact ax h
 have E1:Hid (z=0→qZ Fm S.T S.left=wL S.T n (S.left.drop a)):=af fun h=>by unfold qZ;rw[hv];rw[aj (by simpa using h)]
 rw[hv] at HN hbd
 obtain⟨R,hR⟩:∃R,qZ Fm S.T S.left=R:=⟨_,rfl⟩
 rw[hR] at E0 E1 ⊢
 clear hv h hW0 hq hby0 b0 hR
 go_enter Tryz.func204,Tryz.ntmps204
 go_upto_region 1 with fail
 rw[show (w.alloc (.cells #[.string ⟨#[]⟩,.string ⟨#[]⟩,.bool false] 26))=W0 from dY.out,HQ.out]
 go_wp2_with fail
 refine HN.out.mono ?_
 rintro e w1 ⟨dS,⟨hz,rfl,qx,qP,h1⟩ | ⟨hz,rfl,qx,qP,h1⟩⟩
 ·simp only at hz
  have H1:=af h1
  have HZ:=af hz
  have iU:=af (hm0.out.trans dS)
  clear h1 hbd hz dS
  unfold p8
  go_wp2
  rw[E0.out HZ.out]
  exact⟨rfl,iU.out,rfl,_,_,_,H1.out⟩
 simp only at hz
 subst hz
 obtain⟨Az,ha1,yR,-⟩:=hbd rfl
 simp only at h1 Az ha1 yR
 have iU:=af (hm0.out.trans dS)
 have K3:=af (HBY0.out.mv dS)
 have e1:=E1.out (by trivial)
 clear dS hbd E0 E1 HBY0
 obtain⟨W2,hW2⟩:∃W2,w1.alloc (.cells #[.string cK,.string cK,.bool false] 26)=W2:=⟨_,rfl⟩
 obtain⟨x,hx⟩:∃x,w1.heap.size=x:=⟨_,rfl⟩
 have b2:Below w1.heap.size w1 W2:=by rw[←hW2];exact (Below.refl _ _).alloc (ah _) _
 have BM:Hid (By W2 p F fv x (some ES)):=af (by rw[←hW2,←hx];exact By.new h1 _)
 have HBY2:=af (K3.out.below b2)
 have sZ:=af (iU.out.below b2)
 have hqx:q≠x:=by have:=K3.out.lt;omega
 have hxw:w.heap.size≤x:=by rw[←hx];exact iU.out.kept.size
 have hxW:W.heap.size≤x:=by have:=Fw.out;have:=K3.out.lt;omega
 have H2:=af (h1.below b2)
 have nA:=af hW2
 have HX:=af hx
 clear h1 b2 hW2 hx iU K3
 go_upto_region 3 with fail
 rw[show (w1.alloc (.cells #[.string ⟨#[]⟩,.string ⟨#[]⟩,.bool false] 26))=W2 from nA.out,HX.out]
 have HT0:=af hqW
 have BZ:=af hqx
 have HT2:=af hxw
 have HT3:=af hxW
 clear hqW hqx hxw hxW nA HX
 by_cases hn0 : 0<n
 ·have n0:(0:Int)<n:=by omega
  have HR:=af (aaq (n:Int) H2.out (by omega))
  simp only at HR
  cases hat:mQ S.T.rows n with
  | none=>
   have E9:Hid (R = .error 40):=af (by rw[e1];unfold wL takeN;rw[ax hn0,hat])
   rw[hat] at HR
   clear e1 hat hn0
   go_wp2_with fail
   refine HR.out.mono ?_
   rintro e w3 ⟨hb3,h3,rfl⟩
   have H3:=af h3
   have vQ:=af (sZ.out.below hb3)
   clear h3 hb3
   simp only
   unfold p8
   go_wp2
   rw[E9.out]
   exact⟨rfl,vQ.out,rfl,_,_,_,H3.out⟩
  | some r=>
   have E9:Hid (R=match wV (S.left.drop a) with
    | .error e=>.error e
    | .ok (v,l2)=>.ok ((r.1,v),l2)):=af (by rw[e1];unfold wL takeN;rw[ax hn0,hat];rfl)
   rw[hat] at HR
   clear e1 hat hn0
   go_wp2_with fail
   refine HR.out.mono ?_
   rintro e w3 ⟨hb3,h3,rfl⟩
   have vQ:=af (sZ.out.below hb3)
   have E5:=af (BM.out.below hb3)
   have Nw:=af (HBY2.out.below hb3)
   have H3:=af h3
   obtain⟨l1,iE⟩:∃l,S.left.drop a=l:=⟨_,rfl⟩
   have dX:Hid (l1.length≤1048576):=af (by rw[←iE,xk];omega)
   rw[iE] at E9 H3
   obtain⟨nm,hnm⟩:∃nm,r.1=nm:=⟨_,rfl⟩
   rw[hnm] at E9
   have k3:=E5.out.at_
   have x0:w3.cell? ⟨x,0,none⟩=some (.string cK):=by unfold World.cell?;rw[k3];rfl
   have fx:w3.frozen? ⟨x,0,none⟩=false:=by unfold World.frozen?;rw[k3];simp[ES]
   clear hb3 h3 iE k3
   simp only
   unfold nJ
   rw[hnm]
   clear hnm
   go_upto_region 6 with fail
   obtain⟨W4,bA⟩:∃W4,w3.setCell ⟨x,0,none⟩ (.string nm)=W4:=⟨_,rfl⟩
   have H4:Hid (dh W W4 p d g N F0 F mo li { S with left:=l1 } qx qP fv):=af (by rw[←bA];exact H3.out.aside E5.out HT3.out _ _)
   have Nv:Hid (By W4 p F fv x (some (.cells #[.string nm,.string cK,.bool false] 26 (0,0)))):=af (by rw[←bA];exact E5.out.set 0 _)
   have Ny:Hid (By W4 p F fv q (some ES)):=af (by rw[←bA];exact Nw.out.other BZ.out _ _)
   have vR:Hid (Mv w W4 p F F fv fv):=af (by rw[←bA];exact vQ.out.aside HT2.out _ _)
   rw[bA]
   have pR:=af (VZ H4.out dX.out)
   simp only at pR
   clear bA x0 fx
   obtain⟨tr,GK⟩:∃tr,wV l1=tr:=⟨_,rfl⟩
   rw[GK] at pR E9
   cases tr with
   | error z5=>
    go_wp2_with fail
    refine pR.out.mono ?_
    rintro e w5 ⟨si,rfl,AL5,cl5,h5⟩
    have H5:=af h5
    have Fh:=af (vR.out.trans si)
    clear h5 si GK
    unfold p8
    go_wp2
    rw[E9.out]
    exact⟨rfl,Fh.out,rfl,_,_,_,H5.out⟩
   | ok sl=>
    obtain⟨vl,l5⟩:=sl
    go_wp2_with fail
    refine pR.out.mono ?_
    rintro e w5 ⟨si,rfl,AL5,cl5,h5⟩
    simp only at h5
    have H5:=af h5
    have Fh:=af (vR.out.trans si)
    have E8:=af (Nv.out.mv si)
    have Jh:=af (Ny.out.mv si)
    have k5:=E8.out.at_
    have y0:w5.cell? ⟨x,0,none⟩=some (.string nm):=by unfold World.cell?;rw[k5];rfl
    have y1:w5.cell? ⟨x,1,none⟩=some (.string cK):=by unfold World.cell?;rw[k5];rfl
    have y2:w5.cell? ⟨x,2,none⟩=some (.bool false):=by unfold World.cell?;rw[k5];rfl
    have fy:∀o,w5.frozen? ⟨x,o,none⟩=false:=fun o=>by unfold World.frozen?;rw[k5];simp
    have k6:=Jh.out.at_
    have u0:w5.cell? ⟨q,0,none⟩=some (.string cK):=by unfold World.cell?;rw[k6];rfl
    have u1:w5.cell? ⟨q,1,none⟩=some (.string cK):=by unfold World.cell?;rw[k6];rfl
    have u2:w5.cell? ⟨q,2,none⟩=some (.bool false):=by unfold World.cell?;rw[k6];rfl
    have fu:∀o,w5.frozen? ⟨q,o,none⟩=false:=fun o=>by unfold World.frozen?;rw[k6];simp[ES]
    have hqx:q≠x:=BZ.out
    have hxq:x≠q:=fun e=>hqx e.symm
    clear h5 si GK k5 k6
    go_wp2
    refine bodyPost_ret (v:=nJ (nm,vl) nv) (by simp[results,Tryz.results204,go_sem,nJ,u0,u1,u2]) rfl ?_
    rw[E9.out]
    have hs5:=E8.out.set 1 (.string vl)
    have hq5:=Jh.out.other BZ.out 1 (.string vl)
    have vk:=H5.out.aside E8.out HT3.out 1 (.string vl)
    have hs6:=hs5.set 2 (.bool nv)
    have hq6:=hq5.other BZ.out 2 (.bool nv)
    have dH:=vk.aside hs5 HT3.out 2 (.bool nv)
    have Eh:=By.set (cs:=#[.string cK,.string cK,.bool false]) hq6 0 (.string nm)
    have Bg:=dH.aside hq6 HT0.out 0 (.string nm)
    have hq8:=Eh.set 1 (.string vl)
    have ze:=Bg.aside Eh HT0.out 1 (.string vl)
    have Ei:=ze.aside hq8 HT0.out 2 (.bool nv)
    exact⟨((((Fh.out.aside HT2.out _ _).aside HT2.out _ _).aside Fw.out _ _).aside Fw.out _ _).aside Fw.out _ _,rfl,_,_,Ei⟩
 ·obtain rfl:n=0:=by omega
  have n0:¬(0:Int)<((0:Nat):Int):=by omega
  have HR:=af (VZ H2.out (by show (S.left.drop a).length≤1048576;rw[xk];omega))
  simp only at HR
  obtain⟨tr0,IC⟩:∃tr,wV (S.left.drop a)=tr:=⟨_,rfl⟩
  rw[IC] at HR
  cases tr0 with
  | error z3=>
   have E9:Hid (R = .error z3):=af (by rw[e1];unfold wL takeN;rw[aj (by omega),IC])
   clear e1 IC hn0
   go_wp2_with fail
   refine HR.out.mono ?_
   rintro e w3 ⟨y9,rfl,AL3,cl3,h3⟩
   have H3:=af h3
   have vQ:=af (sZ.out.trans y9)
   clear h3 y9
   unfold p8
   go_wp2
   rw[E9.out]
   exact⟨rfl,vQ.out,rfl,_,_,_,H3.out⟩
  | ok sl=>
   obtain⟨nm,l1⟩:=sl
   have E9:Hid (R=match wV l1 with
    | .error e=>.error e
    | .ok (v,l2)=>.ok ((nm,v),l2)):=af (by rw[e1];unfold wL takeN;rw[aj (by omega),IC];rfl)
   have dX:Hid (l1.length≤1048576):=af (by have:=(VR IC).2;rw[xk] at this;omega)
   clear e1 IC hn0
   go_wp2_with fail
   refine HR.out.mono ?_
   rintro e w3 ⟨y9,rfl,AL3,cl3,h3⟩
   simp only at h3
   have H3:=af h3
   have vQ:=af (sZ.out.trans y9)
   have E5:=af (BM.out.mv y9)
   have Nw:=af (HBY2.out.mv y9)
   have k3:=E5.out.at_
   have x0:w3.cell? ⟨x,0,none⟩=some (.string cK):=by unfold World.cell?;rw[k3];rfl
   have fx:w3.frozen? ⟨x,0,none⟩=false:=by unfold World.frozen?;rw[k3];simp[ES]
   clear h3 y9 k3
   go_upto_region 6 with fail
   obtain⟨W4,bA⟩:∃W4,w3.setCell ⟨x,0,none⟩ (.string nm)=W4:=⟨_,rfl⟩
   have H4:Hid (dh W W4 p d g N F0 F mo li { S with left:=l1 } AL3 cl3 fv):=af (by rw[←bA];exact H3.out.aside E5.out HT3.out _ _)
   have Nv:Hid (By W4 p F fv x (some (.cells #[.string nm,.string cK,.bool false] 26 (0,0)))):=af (by rw[←bA];exact E5.out.set 0 _)
   have Ny:Hid (By W4 p F fv q (some ES)):=af (by rw[←bA];exact Nw.out.other BZ.out _ _)
   have vR:Hid (Mv w W4 p F F fv fv):=af (by rw[←bA];exact vQ.out.aside HT2.out _ _)
   rw[bA]
   have pR:=af (VZ H4.out dX.out)
   simp only at pR
   clear bA x0 fx
   obtain⟨tr,GK⟩:∃tr,wV l1=tr:=⟨_,rfl⟩
   rw[GK] at pR E9
   cases tr with
   | error z5=>
    go_wp2_with fail
    refine pR.out.mono ?_
    rintro e w5 ⟨si,rfl,AL5,cl5,h5⟩
    have H5:=af h5
    have Fh:=af (vR.out.trans si)
    clear h5 si GK
    unfold p8
    go_wp2
    rw[E9.out]
    exact⟨rfl,Fh.out,rfl,_,_,_,H5.out⟩
   | ok sl=>
    obtain⟨vl,l5⟩:=sl
    go_wp2_with fail
    refine pR.out.mono ?_
    rintro e w5 ⟨si,rfl,AL5,cl5,h5⟩
    simp only at h5
    have H5:=af h5
    have Fh:=af (vR.out.trans si)
    have E8:=af (Nv.out.mv si)
    have Jh:=af (Ny.out.mv si)
    have k5:=E8.out.at_
    have y0:w5.cell? ⟨x,0,none⟩=some (.string nm):=by unfold World.cell?;rw[k5];rfl
    have y1:w5.cell? ⟨x,1,none⟩=some (.string cK):=by unfold World.cell?;rw[k5];rfl
    have y2:w5.cell? ⟨x,2,none⟩=some (.bool false):=by unfold World.cell?;rw[k5];rfl
    have fy:∀o,w5.frozen? ⟨x,o,none⟩=false:=fun o=>by unfold World.frozen?;rw[k5];simp
    have k6:=Jh.out.at_
    have u0:w5.cell? ⟨q,0,none⟩=some (.string cK):=by unfold World.cell?;rw[k6];rfl
    have u1:w5.cell? ⟨q,1,none⟩=some (.string cK):=by unfold World.cell?;rw[k6];rfl
    have u2:w5.cell? ⟨q,2,none⟩=some (.bool false):=by unfold World.cell?;rw[k6];rfl
    have fu:∀o,w5.frozen? ⟨q,o,none⟩=false:=fun o=>by unfold World.frozen?;rw[k6];simp[ES]
    have hqx:q≠x:=BZ.out
    have hxq:x≠q:=fun e=>hqx e.symm
    clear h5 si GK k5 k6
    go_wp2
    refine bodyPost_ret (v:=nJ (nm,vl) nv) (by simp[results,Tryz.results204,go_sem,nJ,u0,u1,u2]) rfl ?_
    rw[E9.out]
    have hs5:=E8.out.set 1 (.string vl)
    have hq5:=Jh.out.other BZ.out 1 (.string vl)
    have vk:=H5.out.aside E8.out HT3.out 1 (.string vl)
    have hs6:=hs5.set 2 (.bool nv)
    have hq6:=hq5.other BZ.out 2 (.bool nv)
    have dH:=vk.aside hs5 HT3.out 2 (.bool nv)
    have Eh:=By.set (cs:=#[.string cK,.string cK,.bool false]) hq6 0 (.string nm)
    have Bg:=dH.aside hq6 HT0.out 0 (.string nm)
    have hq8:=Eh.set 1 (.string vl)
    have ze:=Bg.aside Eh HT0.out 1 (.string vl)
    have Ei:=ze.aside hq8 HT0.out 2 (.bool nv)
    exact⟨((((Fh.out.aside HT2.out _ _).aside HT2.out _ _).aside Fw.out _ _).aside Fw.out _ _).aside Fw.out _ _,rfl,_,_,Ei⟩
end
section
open Go.RowKit
section
variable {mo:Int} {S:eZ} {c:Nat}
theorem agG (hc:ba S.left 0=c) (h : 128≤c):((bB 127 S.left).2.2≠0→jD mo S = .error (bB 127 S.left).2.2) ∧
 ((bB 127 S.left).2.2=0→mQ S.T.rows (bB 127 S.left).1=none→jD mo S = .error 40) ∧
 (∀r,(bB 127 S.left).2.2=0→mQ S.T.rows (bB 127 S.left).1=some r→jD mo S = .ok (S.put (S.left.drop (bB 127 S.left).2.1) (r,false))):=by
 have e:kU c=127:=by unfold kU;rw[ax h]
 unfold jD
 rw[hc,e]
 refine⟨fun h1=>ax h1,fun h1 h2=>?_,fun r h1 h2=>?_⟩
 ·rw[aj (by simpa using h1)];unfold Ae;rw[ax h,h2]
 ·rw[aj (by simpa using h1)];unfold Ae;rw[ax h,h2]
theorem agI (hc:ba S.left 0=c) (h1:¬128≤c) (h : 64≤c):(∀z,qZ 63 S.T S.left = .error z→jD mo S = .error z) ∧
 (∀f l2,qZ 63 S.T S.left = .ok (f,l2)→jD mo S = .ok ({ S with T:=S.T.add f }.put l2 (f,false))):=by
 have e:kU c=63:=by unfold kU;rw[aj h1,ax h]
 unfold jD qZ
 rw[hc,e]
 by_cases hz:(bB 63 S.left).2.2≠0
 ·rw[ax hz,ax hz]
  exact⟨fun z hq=>by injection hq with hq;rw[hq],fun f l2 hq=>by cases hq⟩
 ·rw[aj hz,aj hz]
  unfold Ae
  rw[aj h1,ax h]
  exact⟨fun z hq=>by rw[hq],fun f l2 hq=>by rw[hq]⟩
theorem agH (hc:ba S.left 0=c) (h1:¬128≤c) (h2:¬64≤c) (h : 32≤c):jD mo S=zA mo S:=by
 have e:kU c=31:=by unfold kU;rw[aj h1,aj h2,ax h]
 unfold jD zA
 rw[hc,e]
 unfold Ae
 rw[aj h1,aj h2,ax h]
theorem agF (hc:ba S.left 0=c) (h:¬32≤c):(∀z,qZ 15 S.T S.left = .error z→jD mo S = .error z) ∧
 (∀f l2,qZ 15 S.T S.left = .ok (f,l2)→jD mo S = .ok (S.put l2 (f,decide (16≤c)))):=by
 have h1:¬128≤c:=by omega
 have h2:¬64≤c:=by omega
 have e:kU c=15:=by unfold kU;rw[aj h1,aj h2,aj h]
 unfold jD qZ
 rw[hc,e]
 by_cases hz:(bB 15 S.left).2.2≠0
 ·rw[ax hz,ax hz]
  exact⟨fun z hq=>by injection hq with hq;rw[hq],fun f l2 hq=>by cases hq⟩
 ·rw[aj hz,aj hz]
  unfold Ae
  rw[aj h1,aj h2,aj h]
  exact⟨fun z hq=>by rw[hq],fun f l2 hq=>by rw[hq]⟩
end
theorem Zb {T:Tb}(hT:j_ T){Fm:Nat}(hF:Fm≤255){l l2:List UInt8}{f:Rw}(h:qZ Fm T l = .ok (f,l2)):f.1.size≤65536∧f.2.size≤4096∧l2.length<l.length:=by
 unfold qZ at h
 split at h
 ·cases h
 ·rename_i h0
  have:=EM hF l (by simpa using h0)
  have h2:=SL hT h
  rw[xk] at h2
  omega
theorem OJ:Full 4 15:=by constructor <;> decide
theorem full6:Full 6 63:=by constructor <;> decide
theorem agJ {W w:World}{p d g N cl L:Nat}{F0 F:Nat→Prop}{mo li:Int}{S:eZ}{AL:Option Addr}{fv:Value}(h:dh W w p d g N F0 F mo li S AL cl fv) (hok:jr L S) (hL:L≤1048576) (hmo:mo≤65536) (h0 : 0<S.left.length) (hN:N+1≤1099511627776) :
 Calls Tryz.prog 191 #[.pointer (some ⟨p,0,none⟩)] w (WJ W w p d g (N+1) F0 F mo li fv (jD mo S)):=by
 obtain⟨hlen,b,o,rfl,aY,hcs⟩:=h.left.tL h0
 have q0:=hcs 0 h0
 rw[Nat.add_zero] at q0
 have hba:=jg S.left 0
 obtain⟨c,hc⟩:∃c,ba S.left 0=c:=⟨_,rfl⟩
 rw[hc] at q0 hba
 obtain⟨-,c1,-,-,-⟩:=h.cells
 have H:=af h
 have jG:=af hok
 have HC:=af hc
 have hl20:S.left.length≤1048576:=by have:=hok.len;omega
 have HL20:=af hl20
 obtain⟨R,hR⟩:∃R,jD mo S=R:=⟨_,rfl⟩
 have HR:=af hR
 obtain⟨ln,iF⟩:∃ln,S.left.length=ln:=⟨_,rfl⟩
 have gz:=af iF
 rw[hR]
 rw[iF] at c1 h0
 have n0:(0:Int)<ln:=by omega
 clear hR hcs h hok hc hl20 iF
 by_cases hc1 : 128≤c
 ·have E:=agG (mo:=mo) HC.out hc1
  rw[HR.out] at E
  have HE:=af E
  have hbd:=EM (show 127≤255 by omega) S.left
  have HNU:=af (S9 Jz H.out)
  obtain⟨⟨n,a,z⟩,hv⟩:∃r,bB 127 S.left=r:=⟨_,rfl⟩
  rw[hv] at HE HNU hbd
  have g1:(128:Int)≤c:=by omega
  clear E hv hc1
  go_enter Tryz.func191,Tryz.ntmps191
  go_wp2_with fail
  refine HNU.out.mono ?_
  rintro e w1 ⟨dS,⟨hz,rfl,qx,qP,h1⟩ | ⟨hz,rfl,qx,qP,h1⟩⟩
  ·simp only at hz
   have H1:=af (h1.more (zU N) hN)
   have HZ:=af hz
   have iU:=af dS
   clear h1 hbd hz dS
   unfold p8
   go_wp2
   rw[HE.out.1 HZ.out]
   exact⟨rfl,rfl,_,_,_,_,_,H1.out,iU.out⟩
  ·simp only at hz
   subst hz
   obtain⟨Az,ha1,yR,-⟩:=hbd rfl
   simp only at h1 Az ha1 yR
   have lS:=af (aaq (n:Int) h1 (by omega))
   have iU:=af dS
   simp only at lS
   clear dS hbd h1
   cases hat:mQ S.T.rows n with
   | none=>
    have E9:=af (HE.out.2.1 (by trivial) hat)
    rw[hat] at lS
    clear hat
    go_wp2_with fail
    refine lS.out.mono ?_
    rintro e w3 ⟨hb3,h3,rfl⟩
    have H3:=af (h3.more (zU N) hN)
    have vQ:=af (iU.out.below hb3)
    clear h3 hb3
    simp only
    unfold p8
    go_wp2
    rw[E9.out]
    exact⟨rfl,rfl,_,_,_,_,_,H3.out,vQ.out⟩
   | some r=>
    have E9:=af (HE.out.2.2 r (by trivial) hat)
    have GH:=Oo jG.out.tok hat
    rw[hat] at lS
    clear hat
    go_wp2_with fail
    refine lS.out.mono ?_
    rintro e w3 ⟨hb3,h3,rfl⟩
    have vQ:=af (iU.out.below hb3)
    have Bd:jr L { S with left:=S.left.drop a }:={ tok:=jG.out.tok,sz:=jG.out.sz,cost:=jG.out.cost,len:=by have:=jG.out.len;simp only[xk];omega,yJ:=jG.out.yJ }
    have HP:=af (Te (r,false) (h3.more (zU N) hN) Bd hL GH.1 GH.2)
    simp only at HP
    clear h3 hb3 Bd
    simp only
    unfold nJ
    go_wp2_with fail
    refine HP.out.mono ?_
    rintro e w4 ⟨rfl,Gf,h4,xK⟩
    have H4:=af h4
    have vR:=af (vQ.out.trans xK)
    clear h4 xK
    go_wp2_with fail
    go_end0
    rw[E9.out]
    exact⟨rfl,_,_,_,_,H4.out,vR.out⟩
 by_cases hc2 : 64≤c
 ·have E:=agI (mo:=mo) HC.out hc1 hc2
  rw[HR.out] at E
  have HE:=af E
  have g1:¬(128:Int)≤c:=by omega
  have g2:(64:Int)≤c:=by omega
  have kE:=af (Zc false full6 H.out HL20.out)
  obtain⟨lr,hlr⟩:∃lr,qZ 63 S.T S.left=lr:=⟨_,rfl⟩
  rw[hlr] at kE HE
  have sW:=af hlr
  clear hc1 hc2 E hlr
  go_enter Tryz.func191,Tryz.ntmps191
  go_wp2_with fail
  refine kE.out.mono ?_
  cases lr with
  | error z=>
   rintro e w1 ⟨dS,rfl,S1,qx,qP,h1⟩
   have H1:=af (h1.more (zU N) hN)
   have iU:=af dS
   clear h1 dS
   unfold p8
   go_wp2
   rw[HE.out.1 z rfl]
   exact⟨rfl,rfl,_,_,_,_,_,H1.out,iU.out⟩
  | ok fl=>
   obtain⟨f,l2⟩:=fl
   have hfs:=Zb jG.out.tok (by omega) sW.out
   rintro e w1 ⟨dS,rfl,qx,qP,h1⟩
   obtain⟨W2,hW2⟩:∃W2,w1.alloc (.cells #[.string f.1,.string f.2,.bool false] 26)=W2:=⟨_,rfl⟩
   obtain⟨x,hx⟩:∃x,w1.heap.size=x:=⟨_,rfl⟩
   have b2:Below w1.heap.size w1 W2:=by rw[←hW2];exact (Below.refl _ _).alloc (ah _) _
   have BM:Hid (By W2 p F fv x (some (.cells #[.string f.1,.string f.2,.bool false] 26 (0,0)))):=af (by rw[←hW2,←hx];exact By.new h1 _)
   have sZ:=af (dS.below b2)
   have h2:=h1.below b2
   have hdx:d≠x:=by have:=h1.dw;omega
   obtain⟨d0,-,-,-,-⟩:=h2.cells
   obtain⟨-,-,e2,-⟩:=h2.Ju
   have k2:=BM.out.at_
   have x0:W2.cell? ⟨x,0,none⟩=some (.string f.1):=by unfold World.cell?;rw[k2];rfl
   have x1:W2.cell? ⟨x,1,none⟩=some (.string f.2):=by unfold World.cell?;rw[k2];rfl
   have x2:W2.cell? ⟨x,2,none⟩=some (.bool false):=by unfold World.cell?;rw[k2];rfl
   have H2:=af h2
   have HA:Hid (∀w',w'.heap=W2.heap→Calls Tryz.prog 205 #[.pointer (some ⟨g,0,none⟩),.agg #[.string f.1,.string f.2,.bool false]] w' (Od w' g F (N+1) (S.T.add f) (.tuple #[]))):=af fun w' hw=>ab8 f false w' (h2.tab.keep fun k _=>by rw[hw]) (by omega) (by omega) hN
   have nA:=af hW2
   have HX:=af hx
   clear h1 dS hW2 hx b2 h2 k2 c1
   unfold nJ
   go_upto_region 6 with fail
   rw[nA.out,HX.out]
   go_region_held3 (fun w'=>w'.cell? ⟨p,0,none⟩=some (.pointer (some ⟨d,0,none⟩))∧w'.cell? ⟨d,2,none⟩=some (.pointer (some ⟨g,0,none⟩))∧w'.cell? ⟨x,0,none⟩=some (.string f.1)∧w'.cell? ⟨x,1,none⟩=some (.string f.2)∧w'.cell? ⟨x,2,none⟩=some (.bool false))
    (first | go_keep | exact⟨k0,k1,k2,k3,k4⟩)
    (first
     | (go_at_call 205;refine (HA.out _ (by rfl)).mono ?_;rintro e w3 ⟨rfl,F3,ht3,hk3,hg3⟩;have Pj:Kept F W2 w3:=⟨hk3.os,hk3.tape,hk3.output,hk3.size,hk3.block⟩;have hg3':kX W2 F F3:=hg3;have h3:=H2.out.VQ ht3 Pj hg3';have y9:Mv W2 w3 p F F3 fv fv:=⟨Pj.mono (fun _ h=>.inr (.inl h)),hg3',fun _ h=>.inl h⟩;have hb3:=BM.out.mv y9;obtain⟨k0,-,-,-,-⟩:=h3.cells;obtain⟨-,-,k1,-⟩:=h3.Ju;have kk:=hb3.at_;have k2:w3.cell? ⟨x,0,none⟩=some (.string f.1):=(by unfold World.cell?;rw[kk];rfl);have k3:w3.cell? ⟨x,1,none⟩=some (.string f.2):=(by unfold World.cell?;rw[kk];rfl);have k4:w3.cell? ⟨x,2,none⟩=some (.bool false):=(by unfold World.cell?;rw[kk];rfl);have H3:=af (And.intro h3 (And.intro y9 hb3));clear ht3 hk3 hg3 Pj hg3' h3 y9 hb3 kk))
   all_goals
    have Bd:jr L { S with T:=S.T.add f,left:=l2 }:={ tok:=jG.out.tok.add (by omega) (by omega),sz:=jG.out.sz,cost:=jG.out.cost,len:=by have:=jG.out.len;simp only;omega,yJ:=jG.out.yJ }
    have HP:Hid (∀w',Below w3.heap.size w3 w'→Calls Tryz.prog 201 #[.pointer (some ⟨p,0,none⟩),.agg #[.string f.1,.string f.2,.bool false]] w' fun e w4=>e = .returned (.tuple #[])∧∃Gf,dh W w4 p d g (N+1) F0 F3 mo li ({ S with T:=S.T.add f }.put l2 (f,false)) qx qP Gf∧Mv w w4 p F F3 fv Gf):=af fun w' hb=>by
     refine (Te (f,false) (H3.out.1.below hb) Bd hL hfs.1 (by simp only;omega)).mono ?_
     rintro e w4 ⟨rfl,Gf,h4,xK⟩
     exact⟨rfl,Gf,h4,(sZ.out.trans (H3.out.2.1.below hb)).trans xK⟩
    clear Bd x0 x1 x2 d0 e2
    go_wp2_with fail
    refine (HP.out _ (by first | exact Below.refl _ _ | exact (Below.refl _ _).drew)).mono ?_
    rintro e w4 ⟨rfl,Gf,h4,xK⟩
    have H4:=af h4
    have vR:=af xK
    clear h4 xK
    go_wp2_with fail
    go_end0
    rw[HE.out.2 f l2 rfl]
    exact⟨rfl,_,_,_,_,H4.out,vR.out⟩
 by_cases hc3 : 32≤c
 ·have E9:Hid (R=zA mo S):=af (HR.out.symm.trans (agH HC.out hc1 hc2 hc3))
  have HS:=af (ahy H.out jG.out hmo)
  have g1:¬(128:Int)≤c:=by omega
  have g2:¬(64:Int)≤c:=by omega
  have g3:(32:Int)≤c:=by omega
  obtain⟨R2,oC⟩:∃R2,zA mo S=R2:=⟨_,rfl⟩
  rw[oC] at HS E9
  clear hc1 hc2 hc3 oC
  go_enter Tryz.func191,Tryz.ntmps191
  go_wp2_with fail
  refine HS.out.mono ?_
  cases R2 with
  | error z=>
   rintro e w1 ⟨rfl,S1,F1,qx,qP,Ay,h1,dS⟩
   have H1:=af (h1.more (zU N) hN)
   have iU:=af dS
   clear h1 dS
   unfold p8
   go_wp2
   rw[E9.out]
   exact⟨rfl,rfl,_,_,_,_,_,H1.out,iU.out⟩
  | ok S1=>
   rintro e w1 ⟨rfl,F1,qx,qP,Ay,h1,dS⟩
   have H1:=af (h1.more (zU N) hN)
   have iU:=af dS
   clear h1 dS
   go_wp2_with fail
   go_end0
   rw[E9.out]
   exact⟨rfl,_,_,_,_,H1.out,iU.out⟩
 ·have E:=agF (mo:=mo) HC.out hc3
  rw[HR.out] at E
  have HE:=af E
  have g1:¬(128:Int)≤c:=by omega
  have g2:¬(64:Int)≤c:=by omega
  have g3:¬(32:Int)≤c:=by omega
  obtain⟨nv,CJ⟩:∃nv,decide (16≤c)=nv:=⟨_,rfl⟩
  have hnv2:decide ((16:Int)≤c)=nv:=by rw[←CJ];congr 1;simp;omega
  rw[CJ] at HE
  have kE:=af (Zc nv OJ H.out HL20.out)
  obtain⟨lr,hlr⟩:∃lr,qZ 15 S.T S.left=lr:=⟨_,rfl⟩
  rw[hlr] at kE HE
  have sW:=af hlr
  clear hc1 hc2 hc3 CJ E hlr
  go_enter Tryz.func191,Tryz.ntmps191
  go_wp2_with fail
  refine kE.out.mono ?_
  cases lr with
  | error z=>
   rintro e w1 ⟨dS,rfl,S1,qx,qP,h1⟩
   have H1:=af (h1.more (zU N) hN)
   have iU:=af dS
   clear h1 dS
   unfold p8
   go_wp2
   rw[HE.out.1 z rfl]
   exact⟨rfl,rfl,_,_,_,_,_,H1.out,iU.out⟩
  | ok fl=>
   obtain⟨f,l2⟩:=fl
   have hfs:=Zb jG.out.tok (by omega) sW.out
   rintro e w1 ⟨dS,rfl,qx,qP,h1⟩
   have iU:=af dS
   have Bd:jr L { S with left:=l2 }:={ tok:=jG.out.tok,sz:=jG.out.sz,cost:=jG.out.cost,len:=by have:=jG.out.len;simp only;omega,yJ:=jG.out.yJ }
   have HP:=af (Te (f,nv) (h1.more (zU N) hN) Bd hL hfs.1 (by simp only;omega))
   simp only at HP
   clear h1 dS Bd
   unfold nJ
   go_wp2_with fail
   refine HP.out.mono ?_
   rintro e w4 ⟨rfl,Gf,h4,xK⟩
   have H4:=af h4
   have vR:=af (iU.out.trans xK)
   clear h4 xK
   go_wp2_with fail
   go_end0
   rw[HE.out.2 f l2 rfl]
   exact⟨rfl,_,_,_,_,H4.out,vR.out⟩
end
end Go.Proofs.YtpkmciohehaboaaGreatDoor
