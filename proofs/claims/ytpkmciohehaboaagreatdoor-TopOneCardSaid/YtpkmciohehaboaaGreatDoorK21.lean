/- Part 21 of the proof. -/
import Derived.Test.YtpkmciohehaboaaGreatDoorK0
import Derived.Test.YtpkmciohehaboaaGreatDoorK18
set_option maxRecDepth 100000
set_option maxHeartbeats 100000000
set_option linter.unusedVariables false
set_option linter.unusedSimpArgs false
set_option linter.unusedSectionVars false
set_option linter.unnecessarySimpa false
namespace Go.Proofs.YtpkmciohehaboaaGreatDoor
section
open Go.RowKit
section
variable {w:World} {base:Nat} {v:Value} {n:Nat} {xs:List Value}
theorem ack (ty:TypeId) (hown:w.ownsRow base 5 1 v n xs) (s:ByteArray) (hb:n+s.size≤1099511627776){v':Value}{w':World}
 (h:(Builtin.append_ #[48,9] ty #[v,.string s]).run Tryz.prog w = .ok v' w'):v'.ownBlock=v.ownBlock∨v'.ownBlock=some w.heap.size:=by
 obtain⟨i,hi,hz,hsize,hby⟩:=info_parts (show (Tryz.prog.info? 5).map (fun i=>(i.zero,i.size,i.bytes))=some (some (.int .u8 0),1,1) by kernel_rfl)
 have ht:=Tryz.underlying48
 have hu:=Tryz.underlying9
 rcases hown.2 with ⟨rfl,rfl⟩ | ⟨g,cap,cur,rfl,hbg,hg,hnc,hcm,hcs,htake⟩
 ·by_cases hm:s.size=0
  ·have hf:=Lib.run_firstCells_string (P:=Tryz.prog) w 1 s
   rw[hm] at hf
   have e:(Builtin.append_ #[48,9] ty #[.slice none 0 0,.string s]).run Tryz.prog w = .ok (.slice none 0 0) w:=by
    simp[Builtin.append_,run_underlying ht,run_underlying hu,sizeOf,typeInfo,hi,hsize,Builtin.lenOf,hm,hf]
   rw[e] at h
   injection h with h1 h2
   subst h1
   exact .inl rfl
  ·have e:=run_append_nil_string (P:=Tryz.prog) w 48 9 ty 5 i (.int .u8 0) ht hu hi hz s (by omega) (by omega) (by rw[hby];omega)
   rw[e] at h
   injection h with h1 h2
   subst h1
   exact .inr rfl
 ·by_cases hroom:n+s.size≤cap
  ·have hcs':cur.size=cap:=by simpa using hcs
   have e:=Lib.run_append_room_string (P:=Tryz.prog) w 48 9 ty 5 i ht hu hi hsize g n cap cur hg s hroom (by omega)
   rw[e] at h
   injection h with h1 h2
   subst h1
   exact .inl rfl
  ·have hxl:xs.length=n:=by simpa using hown.1
   have holds:∀j u,xs[j]?=some u→w.cell? ((⟨g,0,none⟩:Addr).add j)=some u:=hown.cells (g:=g) rfl
   have e:=Lib.run_append_grow_string (P:=Tryz.prog) w 48 9 ty 5 i (.int .u8 0) ht hu hi hz ⟨g,0,none⟩ n cap xs (by rw[hsize];simpa using hxl) holds s (by omega) (by omega) (by rw[hby];exact growslice_fits (by omega) (by omega))
   rw[e] at h
   injection h with h1 h2
   subst h1
   exact .inr rfl
theorem VP {ops:Array Oper}{o:Oper}{a:Act}{K:Act→World→Prop}{Q:Exit→Act→World→Prop}{E:Prop}(sl x:Operand) (hgd:o.guard=none)
 (ho:o.op = .call { callee:=.builtin .append,args:=#[sl,x],argTypes:=#[48,9] }) (hs:a.eval sl=v) (hown:w.ownsRow base 5 1 v n xs) (s:ByteArray) (hx:a.eval x = .string s)
 (hb:n+s.size≤1099511627776) (hbase:base≤w.heap.size)
 (h:∀v' w',w'.ownsRow base 5 1 v' (n+s.size) (xs++ak s.data.toList)→w.grownBy w' v.ownBlock→(v'.ownBlock=v.ownBlock∨v'.ownBlock=some w.heap.size)→K (a.put o.dst v') w') :
 if Region.wanted o (yielded ops a.tmps)=true then Oper.wp Tryz.prog o a w K Q else E:=by
 have hw:Region.wanted o (yielded ops a.tmps)=true:=by simp[Region.wanted,hgd]
 rw[ax hw]
 obtain⟨v',w',hr,h2,h3⟩:=aas o.type hown s hb hbase
 have h4:=ack o.type hown s hb hr
 unfold Oper.wp execOp
 simp only[ho,resolve,invoke,builtin,Sem.run_bind,Sem.run_pure,Result.andThen_ok,List.map_toArray,lV,vU,hs,hx,hr]
 exact h v' w' h2 h3 h4
end
end
section
open Go.RowKit Go.Maps
theorem All.KH {B:Nat}{w w':World}{c c' d:dx}{cs:List dx}(h:All B w (c :: cs)) (hk:Kept c.F w w') (hg:kX w c.F c'.F) (hp:c'.P w') (hd:d.P w') (hf:∀b,d.F b→w.heap.size≤b) (ha:∀b,d.F b→¬c'.F b):All B w' (d :: c' :: cs):=by
 have h2:=h.step hk hg hp
 refine⟨fun x hx=>?_,List.pairwise_cons.2 ⟨fun x hx y hy hxy=>?_,h2.apart⟩,fun x hx b hF=>?_,h2.sz⟩
 ·rcases List.mem_cons.1 hx with rfl | hx
  ·exact hd
  ·exact h2.here x hx
 ·rcases List.mem_cons.1 hx with rfl | hx
  ·exact ha y hy hxy
  ·have h3:=x.lt w (h.here x (fH _ hx)) y hxy
   have h4:=hf y hy
   omega
 ·rcases List.mem_cons.1 hx with rfl | hx
  ·exact gM h.sz (hf b hF)
  ·exact h2.base x hx b hF
def pcC (c:Cv) (v:Value):Cv:={ c with last:=c.cu,block:=.slice none 0 0,cu:=0,news:=v }
theorem agQ {B p g m d nn N ND k nb:Nat}{c:Cv}{G:Nat→Prop}{mo li:Int}{T T':Tb}{all first:Int}{L:List (Int×Int)}{f:Int→Option (Option Nat)}{xs:List Value}{cs:List dx}{l0:List UInt8}{l:List Fd}(fr:Fr) (w:World)
 (h:All B w (aK p c :: aD 5 1 c.block nb (ak l0) :: mV d G ND mo li T false :: gB g m all first L :: aH aV c.live N f k :: aD 64 10 c.news nn xs :: cs))
 (hfr:fr.fl=5∨fr.fl=4) (mG:c.dec = .pointer (some ⟨d,0,none⟩)) (hbk:c.book = .pointer (some ⟨g,0,none⟩)) (hd:c.mX=false) (hk:(k:Int)<c.l0)
 (hid:(Lit.int .i64 c.cu).wf=true) (JU : 1≤c.cu) (oW:c.last<c.cu) (hL:L.length<100000) (hlk:look L c.cu=none) (hN:N<maxLen) (hnn:nn≤1000000)
 (hnb:nb+fr.data.size≤65536) (hmo:mo≤65536) (DY:ND+65536≤1099511627776) (hout:sH mo li T (l0++fr.data.data.toList)=(l,0,some T'))
 (hn:l.length≤1048575) (hz:Tx l)
 (ko:∀(w:World) (A:Option Addr) (n c:Nat),Rd w w.heap.size 3 A n (fds (bV (bG jb Gt.none l).1.2))→n≤1048576→Calls Tryz.prog 210 #[.slice A n c] w (fun e w'=>∃v,e = .returned v∧bQ w (jw (bV (bG jb Gt.none l).1.2)) v w'))
 (hR:(aS l).2=0) (hfl:(aS l).1.fields.length≤1048576) (wF:Tx (aS l).1.fields) (qW:c.jI=false∨(gU (dn (aS l).1.fields)).1≤0) :
 Calls Tryz.prog 140 #[.pointer (some ⟨p,0,none⟩),gF fr] w (Left B w fun w'=>∃v fv s N' f' k' G' ND',k'≤k+1∧f' c.cu=some (some s) ∧
  All B w' (aK p (pcC c v) :: gB g m all first (sO L c.cu 0) :: aH aV c.live N' f' k' :: aD 64 10 v (nn+1) (xs++(CL c.cu (aS l).1 fv c.jI).l) ::
   aD 26 3 fv (aS l).1.fields.length (fds (aS l).1.fields) :: bg s (qp (gU (dn (aS l).1.fields)).1 (gU (dn (aS l).1.fields)).2.1 (wQ 0 c.jI)) 140 :: mV d G' ND' mo li T' false :: cs)):=by
 obtain⟨W0,hW0⟩:∃W0,w.alloc (.cells fr.cells 52)=W0:=⟨_,rfl⟩
 have fQ:=gV h fr.cells 52
 have lY:Below B w W0:=by rw[←hW0];exact (Below.refl _ _).alloc h.sz _
 obtain⟨x,hx⟩:∃x,w.heap.size=x:=⟨_,rfl⟩
 rw[hW0,hx] at fQ
 have DU:=fQ.pick [_,_]
 have bE:=af (DU.pick [_,_])
 have dW:=af lY
 have HX:=af hx
 have je:W0.heap[x]?=some (.cells fr.cells 52 (0,0)):=fQ.head
 have k3:W0.cell? ⟨x,3,none⟩=some (.string fr.data):=by unfold World.cell?;rw[je];rfl
 have nW:=af k3
 clear fQ DU lY hx je k3
 obtain⟨ty,fl,st,data,pad⟩:=fr
 dsimp only at hfr hnb hout nW
 unfold gF
 simp only[Fr.cells] at hW0 bE ⊢
 have dY:=af hW0
 have BN:=af hfr
 have HD:=af (And.intro mG (And.intro hbk (And.intro hd (And.intro hk oW))))
 have HI:=af (And.intro hid (And.intro JU (And.intro hL (And.intro hlk hN))))
 have HO:=af (And.intro hnb (And.intro hmo (And.intro DY hout)))
 have HE:=af (And.intro hn (And.intro hz (And.intro hR (And.intro hfl (And.intro wF qW)))))
 have vN:=af ko
 have HNN:=af hnn
 clear h hW0 hfr mG hbk hd hk hid JU oW hL hlk hN hnn hnb hmo DY hout hn hz ko hR hfl wF qW
 go_enter Tryz.func140,Tryz.ntmps140
 go_upto_region 1 with fail
 refine bI ?_
 intro W3 hW3
 obtain rfl:W3=W0:=hW3.trans dY.out
 rw[HX.out]
 clear hW3
 --Ia
 refine wp_region_held_drew (S:=fun w'=>w'.cell? ⟨x,3,none⟩=some (.string data)) (by kernel_rfl) (nW.out) (fun hH=>?_)
 refine ag 0 8 hH ?_
 refine ag 1 9 hH ?_
 refine ag 2 10 hH ?_
 refine ag 3 11 hH ?_
 refine ag 5 13 hH ?_
 refine ag 6 14 hH ?_
 have hrow:=(bE.out.pick [_]).head
 obtain⟨A0,nI,hv0,-,-,-,-⟩:=aC hrow
 have yx:=af hrow
 have j4:=af hv0
 have nU:W3.cell? ⟨p,13,none⟩=some (.slice A0 nb nI):=by have h:=bE.out.cc 13 c.block rfl;rwa [hv0] at h
 have Ji:=af nU
 have sj:∀b,c.block.ownBlock=some b→b≠x:=fun b hb e=>by subst e;exact (List.pairwise_cons.1 (bE.out.pick [_]).apart).1 _ (fH _ (iK ..)) b hb rfl
 have mO:=af sj
 have hpx:p≠x:=fun e=>by subst e;exact (List.pairwise_cons.1 bE.out.apart).1 _ (fH _ (iK ..)) p rfl rfl
 have nY:=af hpx
 clear hrow hv0 sj hpx
 refine aR 4 (fun K hK=>?_)
 go_simp
 refine hK.out _ _ (nW.out) (fun hH=>?_)
 clear hK K
 try simp only[Act.put,az,ay,aA]
 refine rdZq (o:=⟨some 15,_,_,_,_,_⟩) 7 rfl (fun K hK=>?_)
 have JH:nb+data.size≤1099511627776:=by have:=HO.out.1;omega
 have hrow2:W3.drew.ownsRow 0 5 1 (.slice A0 nb nI) nb (ak l0):=by have h:W3.ownsRow 0 5 1 c.block nb (ak l0):=yx.out;rwa [j4.out] at h
 refine VP (.tmp 12) (.tmp 14) (by rfl) (by rfl) (by rfl) hrow2 data (by rfl) JH (aL _) ?_
 intro v3 w3 eB hg3 hb3
 rw[←j4.out] at hg3 hb3
 obtain⟨gp,gP⟩:=(bE.out.drew.pick [_]).app eB hg3 hb3
 have bJ:=af (gp.pick [_])
 have aM:Hid (Below B w w3):=af ((dW.out.trans (by exact⟨rfl,rfl,rfl,ah _,fun _ _=>rfl⟩:Below B W3 W3.drew)).trans gP)
 obtain⟨A3,c3,hv3,-,-,-,-⟩:=aC eB
 subst hv3
 have hxl:=(Array.getElem?_eq_some_iff.1 (show W3.heap[x]?=some _ from (bE.out.pick [_]).tail.here _ (fH _ (iK ..)))).1
 have hk3:w3.cell? ⟨x,3,none⟩=some (.string data):=(hg3.cell_far _ hxl (fun e1=>mO.out x e1.symm rfl)).trans nW.out
 have Dl:=af hk3
 have nU:=bJ.out.cc 13 c.block rfl
 rw[j4.out] at nU
 have f13:=bJ.out.cf 13
 clear eB hg3 hb3 gp gP hrow2 hxl hk3
 refine hK.out _ _ (Dl.out) (fun hH=>?_)
 clear hK K
 try simp only[Act.put,az,ay,aA]
 refine ag 8 16 hH ?_
 refine ag 9 17 hH ?_
 refine aR 10 (fun K hK=>?_)
 go_simp
 obtain⟨h1,h2⟩:=bJ.out.set 13 (.slice A3 (nb+data.size) c3)
 refine gT ?_
 intro W4 bA
 rw[←bA] at h1 h2
 have aX:Hid (All B W4 (aK p { c with block:=.slice A3 (nb+data.size) c3 } :: _)):=af h1
 have dz:=af (aM.out.trans h2)
 have hk4:W4.cell? ⟨x,3,none⟩=some (.string data):=by rw[bA];exact (World.cell?_setCell_far w3 ⟨p,13,none⟩ ⟨x,3,none⟩ _ nY.out).trans Dl.out
 have HK4:=af hk4
 clear h1 h2 bA hk4
 refine hK.out _ _ (HK4.out) (fun hH=>?_)
 clear hK K
 try simp only[Act.put,az,ay,aA]
 refine wpAnyH_done (by kernel_rfl) ?_ _
 --BEHIND
 have je:W4.heap[x]?=some _:=(aX.out.pick [_,_]).head
 have k1:W4.cell? ⟨x,1,none⟩=some (.int .i64 fl):=by unfold World.cell?;rw[je];rfl
 have nU:=aX.out.cc 13 (.slice A3 (nb+data.size) c3) rfl
 have GZ:=aX.out.cc 14 (.int .i64 c.cu) rfl
 have hlen:((nb+data.size:Nat):Int)≤65536:=by have:=HO.out.1;omega
 clear je
 go_upto_region 4 with fail
 go_cut [29] (fun y wx=>y = .bool false∧wx=W4)
 case first=>
  rcases BN.out with rfl | rfl
  ·go_wp2_with fail
   go_meet
   exact⟨rfl,rfl⟩
  ·go_wp2_with fail
   go_meet
   exact⟨rfl,rfl⟩
 case rest=>
 obtain⟨rfl,hwc⟩:=hcut
 subst hwc
 go_upto_region 5 with fail
 go_region
 go_upto_region 6 with fail
 have f13:=aX.out.cf 13
 have f14:=aX.out.cf 14
 go_upto_region 7 with fail
 refine bI ?_
 intro W5 kg
 obtain⟨iN,DV⟩:=aX.out.set 14 (.int .i64 0)
 obtain⟨iy,iW⟩:=iN.set 13 (.slice none 0 0)
 have tX:=iy.drew
 rw[←kg] at tX
 have aT:Below B w W5:=by rw[kg];exact ((dz.out.trans DV).trans iW).trans (by exact⟨rfl,rfl,rfl,ah _,fun _ _=>rfl⟩)
 have bT:Hid (All B W5 (aK p { c with block:=.slice none 0 0,cu:=0 } :: aD 5 1 (.slice A3 (nb+data.size) c3) (nb+data.size) (ak l0++ak data.data.toList) :: bg x #[.int .i64 ty,.int .i64 fl,.int .i64 st,.string data,.int .i64 pad,.slice none 0 0,.int .i64 0,.int .i64 0,.int .i64 0,.int .i64 0,.int .i64 0,.bool false] 52 :: mV d G ND mo li T false :: gB g m all first L :: aH aV c.live N f k :: aD 64 10 c.news nn xs :: cs)):=af tX
 have eG:=af aT
 clear iN iy tX DV iW aT kg f13 f14 nU GZ k1
 have q5:W5.cell? ⟨p,5,none⟩=some (.pointer (some ⟨d,0,none⟩)):=by rw[←HD.out.1];exact bT.out.cc 5 c.dec rfl
 have hrow:=(bT.out.pick [_]).head
 have hdc:pK W5 d G ND mo li T false:=(bT.out.pick [_,_,_]).head
 have hrow2:W5.ownsRow 0 5 1 (.slice A3 (nb+data.size) c3) (nb+data.size) (ak (l0++data.data.toList)):=by rw[mU];exact hrow
 obtain⟨A3',xx,he,hcap,hmax,hrd,-⟩:=aC hrow2
 obtain⟨rfl,rfl⟩:A3=A3'∧c3=xx:=by injection he with h1 h2 h3;exact⟨h1,h3⟩
 have hap:∀a,A3=some a→¬G a.block:=fun a ha=>by
  have h1:=(List.pairwise_cons.1 (bT.out.pick [_]).apart).1 _ (fH _ (fH _ (iK ..))) a.block (by
   subst ha
   rcases hrow2.2 with ⟨h1,-⟩ | ⟨gg,cap,cur,h1,h2⟩
   ·cases h1
   ·injection h1 with h1 h3 h4
    injection h1 with h1
    subst h1
    rfl)
  exact h1
 have HDC:=af (X5 (cap:=c3) W5 hdc hrd hcap hmax (by have:=HO.out.1;omega) (fun _=>hap) HO.out.2.1 (by have:=HO.out.1;have:=HO.out.2.2.1;omega))
 clear hrow hdc hrow2 he hcap hmax hrd hap
 go_wp2_with fail
 refine HDC.out.mono ?_
 rw[HO.out.2.2.2]
 rintro e w6 ⟨A6,c6,rfl,dK,G6,T6,Gn,hT6,Gl,kr,gu⟩
 have hT:T6=T':=hT6 T' rfl
 subst hT
 dsimp only at dK Gn kr gu Gl
 have iy:=((bT.out.pick [_,_,_]).KH (c':=mV d G6 (ND+(nb+data.size)) mo li T6 false) (d:=aD 26 3 (.slice A6 l.length c6) l.length (fds l)) kr gu Gn (IQ dK (aL _)) (fun b hF=>(World.ownsRow.lt dK b hF).1) (fun b hF=>?_))
 rotate_left
 ·have h1:(Value.slice A6 l.length c6).ownBlock=some b:=hF
  cases A6 with
  | none=>cases h1
  | some a=>
   have h2:a.block=b:=by injection h1
   rw[←h2]
   exact Gl a rfl
 have iW:Below B W5 w6:=(bT.out.pick [_,_,_]).kept kr
 have h1:=iy.pick [_,_,_,_,_,_,_]
 have h1:=h1.pick [_,_,_,_,_,_,_]
 have h1:=h1.pick [_,_,_,_,_,_,_]
 have h1:=h1.pick [_,_,_,_,_]
 have kY:Hid (All B w6 (aK p { c with block:=.slice none 0 0,cu:=0 } :: gB g m all first L :: aH aV c.live N f k :: aD 64 10 c.news nn xs :: aD 26 3 (.slice A6 l.length c6) l.length (fds l) :: mV d G6 (ND+(nb+data.size)) mo li T6 false :: _)):=af h1
 have gK:=af (eG.out.trans iW)
 clear h1 iy iW kr gu Gn Gl dK hT6 q5
 have GY:=kY.out.cc 12 (.int .i64 c.last) rfl
 have hgt:c.last<c.cu:=HD.out.2.2.2.2
 have HBG:=af (Xq (c:={ c with block:=.slice none 0 0,cu:=0 }) c.cu w6 kY.out HD.out.2.1 HD.out.2.2.1 HD.out.2.2.2.1 HI.out.1 HI.out.2.1 HI.out.2.2.1 HI.out.2.2.2.1 HI.out.2.2.2.2 HNN.out HE.out.1 HE.out.2.1 vN.out HE.out.2.2.1 HE.out.2.2.2.1 HE.out.2.2.2.2.1 HE.out.2.2.2.2.2)
 clear vN
 go_wp2_with fail
 refine HBG.out.mono ?_
 rintro e w9 ⟨rfl,dB,v,fv,s,N',f',k',hk',hs',aU⟩
 have eF:=af aU
 have H9:=af (And.intro (gK.out.trans dB) (And.intro hk' hs'))
 clear dB hk' hs' aU HBG
 go_wp2_with fail
 go_end0
 have h1:=eF.out.pick [_,_,_,_,_,_]
 have h1:=h1.tail
 have h2:=(h1.pick [_,_,_,_,_,_,_]).tail
 have h3:=(h2.pick [_,_,_,_,_,_,_]).tail
 exact⟨rfl,H9.out.1,v,fv,s,N',f',k',_,_,H9.out.2.1,H9.out.2.2,h3⟩
end
section
open Go.RowKit Go.Maps
def hdC (c:Cv) (st:Nat):Cv:={ c with cu:=st,jI:=true,block:=.slice none 0 0 }
theorem aeJ {B p g m d nn N ND k:Nat}{c:Cv}{G:Nat→Prop}{mo li:Int}{T T':Tb}{all first:Int}{L:List (Int×Int)}{f:Int→Option (Option Nat)}{xs:List Value}{cs:List dx}{l:List Fd}(fr:Fr) (w:World)
 (h:All B w (aK p c :: mV d G ND mo li T false :: gB g m all first L :: aH aV c.live N f k :: aD 64 10 c.news nn xs :: cs))
 (hfr:fr.fl=5) (hst:fr.st=1) (mG:c.dec = .pointer (some ⟨d,0,none⟩)) (hbk:c.book = .pointer (some ⟨g,0,none⟩)) (hd:c.mX=false) (hk:(k:Int)<c.l0)
 (oW:c.last<1) (hL:L.length<100000) (hlk:look L 1=none) (hN:N<maxLen) (hnn:nn≤1000000)
 (hnb:fr.data.size≤65536) (hmo:mo≤65536) (DY:ND+65536≤1099511627776) (hout:sH mo li T fr.data.data.toList=(l,0,some T'))
 (hn:l.length≤1048575) (hz:Tx l)
 (ko:∀(w:World) (A:Option Addr) (n c:Nat),Rd w w.heap.size 3 A n (fds (bV (bG jb Gt.none l).1.2))→n≤1048576→Calls Tryz.prog 210 #[.slice A n c] w (fun e w'=>∃v,e = .returned v∧bQ w (jw (bV (bG jb Gt.none l).1.2)) v w'))
 (hR:(aS l).2=0) (hfl:(aS l).1.fields.length≤1048576) (wF:Tx (aS l).1.fields) (qW:(gU (dn (aS l).1.fields)).1≤0) :
 Calls Tryz.prog 135 #[.pointer (some ⟨p,0,none⟩),gF fr] w (Left B w fun w'=>∃v fv s N' f' k' G' ND',k'≤k+1∧f' 1=some (some s) ∧
  All B w' (aK p (pcC (hdC c 1) v) :: gB g m all first (sO L 1 0) :: aH aV c.live N' f' k' :: aD 64 10 v (nn+1) (xs++(CL 1 (aS l).1 fv true).l) ::
   aD 26 3 fv (aS l).1.fields.length (fds (aS l).1.fields) :: bg s (qp (gU (dn (aS l).1.fields)).1 (gU (dn (aS l).1.fields)).2.1 (wQ 0 true)) 140 :: mV d G' ND' mo li T' false :: cs)):=by
 obtain⟨W0,hW0⟩:∃W0,w.alloc (.cells fr.cells 52)=W0:=⟨_,rfl⟩
 have fQ:=gV h fr.cells 52
 have lY:Below B w W0:=by rw[←hW0];exact (Below.refl _ _).alloc h.sz _
 obtain⟨x,hx⟩:∃x,w.heap.size=x:=⟨_,rfl⟩
 rw[hW0,hx] at fQ
 have bE:=af (fQ.pick [_])
 have dW:=af lY
 have HX:=af hx
 have je:W0.heap[x]?=some (.cells fr.cells 52 (0,0)):=fQ.head
 have Ca:=af (fD.of je)
 have HP:Hid (∀w1,Below B w w1→All B w1 (aK p (hdC c 1) :: aD 5 1 (hdC c 1).block 0 (ak []) :: mV d G ND mo li T false :: gB g m all first L :: aH aV c.live N f k :: aD 64 10 c.news nn xs :: cs)→_):=af (fun w1 hb1 jc=>
  agQ (l0:=[]) fr w1 jc (.inl hfr) mG hbk hd hk (show (Lit.int .i64 1).wf=true by decide) (show (1:Int)≤1 by omega) oW hL hlk hN hnn (by omega) hmo DY hout hn hz ko hR hfl wF (.inr qW))
 have hpx:p≠x:=fun e=>by subst e;exact (List.pairwise_cons.1 bE.out.apart).1 _ (iK ..) p rfl rfl
 have nY:=af hpx
 clear fQ lY hx je h mG hbk hd hk oW hL hlk hN hnn hnb hmo DY hout hn hz ko hR hfl wF qW hpx
 obtain⟨ty,fl,st,data,pad⟩:=fr
 dsimp only at hfr hst
 subst hfr hst
 unfold gF at HP ⊢
 simp only[Fr.cells] at hW0 bE HP ⊢
 have dY:=af hW0
 clear hW0
 go_enter Tryz.func135,Tryz.ntmps135
 go_upto_region 1 with fail
 refine bI ?_
 intro W3 hW3
 obtain rfl:W3=W0:=hW3.trans dY.out
 rw[HX.out]
 clear hW3
 obtain⟨k0,k1,k2,k3,k4,k5,k6,k7,k8,k9,bS,bN,-⟩:=Ca.out
 simp only at k0 k1 k2 k3 k4 k5 k6 k7 k8 k9 bS bN
 have f13:=bE.out.cf 13
 have f14:=bE.out.cf 14
 have f15:=bE.out.cf 15
 have nU:=bE.out.cc 13 c.block rfl
 have GZ:=bE.out.cc 14 (.int .i64 c.cu) rfl
 have xY:=bE.out.cc 15 (.bool c.jI) rfl
 go_upto_region 3 with fail
 go_region
 go_upto_region 4 with fail
 refine bI ?_
 intro W4 bA
 have JJ:(bits BinOp.and IntKind.i64 5 1 != 0)=true:=by kernel_rfl
 rw[JJ] at bA
 obtain⟨h1,b1⟩:=bE.out.set 14 (.int .i64 1)
 obtain⟨h2,b2⟩:=h1.set 15 (.bool true)
 obtain⟨h3,b3⟩:=h2.set 13 (.slice none 0 0)
 have h4:=h3.drew
 rw[←bA] at h4
 have hb4:Below B w W4:=by rw[bA];exact (((dW.out.trans b1).trans b2).trans b3).trans (by exact⟨rfl,rfl,rfl,ah _,fun _ _=>rfl⟩)
 have e:∀j,W4.cell? ⟨x,j,none⟩=W3.cell? ⟨x,j,none⟩:=fun j=>by
  rw[bA]
  exact ((World.cell?_setCell_far _ ⟨p,13,none⟩ ⟨x,j,none⟩ _ nY.out).trans (World.cell?_setCell_far _ ⟨p,15,none⟩ ⟨x,j,none⟩ _ nY.out)).trans (World.cell?_setCell_far _ ⟨p,14,none⟩ ⟨x,j,none⟩ _ nY.out)
 rw[←e] at k0 k1 k2 k3 k4 k5 k6 k7 k8 k9 bS bN
 have h5:=((h4.pick [_]).tail.Bz 5 1).pick [_]
 have HPC:=af (HP.out W4 hb4 h5)
 have dz:=af hb4
 clear HP h1 h2 h3 h4 h5 b1 b2 b3 hb4 e bA f13 f14 f15 nU GZ xY JJ
 go_wp2_with fail
 refine HPC.out.mono ?_
 rintro e w9 ⟨rfl,dB,hex⟩
 have H9:=af (And.intro (dz.out.trans dB) hex)
 clear dB hex HPC
 go_wp2_with fail
 go_end0
 exact⟨rfl,H9.out.1,H9.out.2⟩
end
section
open Go.RowKit Go.Maps
theorem aen (fn:Nat) (w:World):(binOp BinOp.neq 188 (.func (.func fn) #[] #[]) .nilFunc).run Tryz.prog w = .ok (.bool true) w:=by
 kernel_rfl
def Eu (ty fl st:Nat) (data:ByteArray) (pad:Nat):Array Value:=#[.int .i64 ty,.int .i64 fl,.int .i64 st,.string data,.int .i64 pad,.slice none 0 0,.int .i64 0,.int .i64 0,.int .i64 0,.int .i64 0,.int .i64 0,.bool false,.bool false,.int .i64 0,.int .i64 0]
structure H_ (w:World) (x:Nat) (ty fl st:Nat) (data:ByteArray) (pad:Nat):Prop where
 c0:w.cell? ⟨x,0,none⟩=some (.int .i64 ty)
 c1:w.cell? ⟨x,1,none⟩=some (.int .i64 fl)
 c2:w.cell? ⟨x,2,none⟩=some (.int .i64 st)
 c3:w.cell? ⟨x,3,none⟩=some (.string data)
 c4:w.cell? ⟨x,4,none⟩=some (.int .i64 pad)
 c5:w.cell? ⟨x,5,none⟩=some (.slice none 0 0)
 c6:w.cell? ⟨x,6,none⟩=some (.int .i64 0)
 c7:w.cell? ⟨x,7,none⟩=some (.int .i64 0)
 c8:w.cell? ⟨x,8,none⟩=some (.int .i64 0)
 c9:w.cell? ⟨x,9,none⟩=some (.int .i64 0)
 c10:w.cell? ⟨x,10,none⟩=some (.int .i64 0)
 c11:w.cell? ⟨x,11,none⟩=some (.bool false)
 c12:w.cell? ⟨x,12,none⟩=some (.bool false)
 c13:w.cell? ⟨x,13,none⟩=some (.int .i64 0)
 c14:w.cell? ⟨x,14,none⟩=some (.int .i64 0)
theorem H_.of {w:World}{x ty fl st pad:Nat}{data:ByteArray}(h:(bg x (Eu ty fl st data pad) 130).P w):H_ w x ty fl st data pad:=by
 have kx:w.heap[x]?=some (.cells (Eu ty fl st data pad) 130 (0,0)):=h
 refine⟨?_,?_,?_,?_,?_,?_,?_,?_,?_,?_,?_,?_,?_,?_,?_⟩ <;> (unfold World.cell?;rw[kx];rfl)
theorem GR {B p fn:Nat}{c:Cv}{cs:List dx}{Q:World→Prop}(fr:Fr) (w:World) (h:All B w (aK p c :: cs)) (hty:fr.ty≤255) (hway:Ja (fr.ty:Int)=some fn) (hfn:fn=135∨fn=137∨fn=140∨fn=134)
 (hmis:∀w1,All B w1 (aK p c :: cs)→Calls Tryz.prog 98 #[.pointer (some ⟨p,0,none⟩),qd fr] w1 fun e w'=>e = .returned (.bool false)∧Below w1.heap.size w1 w')
 (hdo:∀w1,All B w1 (aK p { c with gG:=true } :: cs)→Calls Tryz.prog fn #[.pointer (some ⟨p,0,none⟩),gF fr] w1 (Left B w1 Q))
 (xP:∀w',Q w'→∃c' cs',All B w' (aK p c' :: cs')∧c'.mX=false) :
 Calls Tryz.prog 60 #[.pointer (some ⟨p,0,none⟩),qd fr] w (Left B w Q):=by
 have HA:=af h
 have NJ:=af hmis
 have HDO:=af hdo
 have Dr:=af xP
 have HWY:=af (fun w=>ado fr.ty w hty)
 have HFN:=af hway
 have HFC:=af hfn
 clear h hmis hdo xP hty hway hfn
 obtain⟨ty,fl,st,data,pad⟩:=fr
 dsimp only at HWY HFN
 unfold gF qd Fr.cells at *
 dsimp only at NJ HDO ⊢
 go_enter Tryz.func60,Tryz.ntmps60
 go_upto_region 6 with fail
 refine bI ?_
 intro W1 hW1
 have jc:=gV (gV HA.out (Eu ty fl st data pad) 130) #[.bool false,.int .i64 0,.int .i64 0] 128
 have yP:W1=(w.alloc (.cells (Eu ty fl st data pad) 130)).alloc (.cells #[.bool false,.int .i64 0,.int .i64 0] 128):=hW1
 rw[←yP] at jc
 have hb1:Below B w W1:=by rw[hW1];exact (((Below.refl _ w).alloc HA.out.sz _).alloc (by simp;have:=HA.out.sz;omega) _)
 obtain⟨it,hit⟩:∃it,w.heap.size=it:=⟨_,rfl⟩
 obtain⟨fb,nQ⟩:∃fb,(w.alloc (.cells (Eu ty fl st data pad) 130)).heap.size=fb:=⟨_,rfl⟩
 have hfb':it+1=fb:=by rw[←nQ,←hit];simp
 rw[hit,nQ] at jc
 rw[hit]
 try rw[hfb']
 have bM:=af jc
 have bH:=af hb1
 clear jc hb1 hW1 yP hit nQ hfb'
 have hz0:W1.heap[fb]?=some (.cells #[.bool false,.int .i64 0,.int .i64 0] 128 (0,0)):=bM.out.head
 have z0:W1.cell? ⟨fb,0,none⟩=some (.bool false):=by unfold World.cell?;rw[hz0];rfl
 obtain⟨i0,i1,i2,i3,i4,i5,i6,i7,i8,i9,i10,i11,i12,i13,i14⟩:=H_.of (bM.out.pick [_]).head
 clear hz0
 have hms:=NJ.out W1 bM.out.tail.tail
 go_wp2_with fail
 refine hms.mono ?_
 rintro e w2 ⟨rfl,hb2⟩
 have bY:=af (bM.out.below hb2)
 have aI:=af (bH.out.trans (hb2.mono bM.out.sz))
 clear hms hb2 z0 i0 i1 i2 i3 i4 i5 i6 i7 i8 i9 i10 i11 i12 i13 i14 NJ
 have hz0:w2.heap[fb]?=some (.cells #[.bool false,.int .i64 0,.int .i64 0] 128 (0,0)):=bY.out.head
 have z0:w2.cell? ⟨fb,0,none⟩=some (.bool false):=by unfold World.cell?;rw[hz0];rfl
 clear hz0
 have jA:All B w2 (aK p c :: _):=bY.out.pick [_,_]
 have f16:=jA.cf 16
 have q16:=jA.cc 16 (.bool c.gG) rfl
 go_upto_region 3 with fail
 refine bI ?_
 intro W3 hW3
 obtain⟨gp,gP⟩:=jA.set 16 (.bool true)
 rw[←hW3] at gp gP
 have bJ:Hid (All B W3 (aK p { c with gG:=true } :: bg fb #[.bool false,.int .i64 0,.int .i64 0] 128 :: bg it (Eu ty fl st data pad) 130 :: cs)):=af gp
 have aM:=af (aI.out.trans gP)
 clear jA f16 q16 z0 gp gP hW3
 obtain⟨i0,-⟩:=H_.of (bJ.out.pick [_,_]).head
 go_wp2_with fail
 refine (HWY.out _).mono ?_
 rw[HFN.out]
 rintro e w4 ⟨rfl,hb4⟩
 have aX:=af (bJ.out.below hb4)
 have dz:=af (aM.out.trans (hb4.mono bJ.out.sz))
 clear hb4 i0
 obtain⟨i0,i1,i2,i3,i4,i5,i6,i7,i8,i9,i10,i11,i12,i13,i14⟩:=H_.of (aX.out.pick [_,_]).head
 have h5:=(((aX.out.pick [_]).tail.pick [_]).tail)
 have hdo:=HDO.out w4 h5
 clear h5
 unfold DN
 have hne:(binOp BinOp.neq 188 (.func (.func fn) #[] #[]) .nilFunc).run Tryz.prog w4 = .ok (.bool true) w4:=aen fn w4
 rcases HFC.out with rfl | rfl | rfl | rfl
 all_goals
  go_wp2_with fail
  refine hdo.mono ?_
  rintro e w5 ⟨rfl,aT,hQ⟩
  obtain⟨c',cs',iN,hd⟩:=Dr.out w5 hQ
  have HQ:=af hQ
  have eG:=af (dz.out.trans aT)
  have hr:=ahB w5 iN hd
  clear hdo aT iN hQ
  go_wp2_with fail
  refine hr.mono ?_
  rintro e w6 ⟨rfl,rfl⟩
  go_wp2_with fail
  go_end0
  exact⟨rfl,eG.out,HQ.out⟩
end
section
open Go.RowKit Go.Maps
theorem MH (f:Fr):(Bp f).length=15:=rfl
theorem aeY (fs:List (Fr×Bool)):(jN fs).length=fs.length*15:=by
 induction fs with
 | nil=>rfl
 | cons p fs ih=>show (Bp p.1++jN fs).length=_;rw[aN,ih,MH,fe];omega
theorem aeX {fs:List (Fr×Bool)}:∀{j:Nat}{p:Fr×Bool},fs[j]?=some p→∀i,i<15→(jN fs)[j*15+i]?=(Bp p.1)[i]?:=by
 induction fs with
 | nil=>intro j p h;cases h
 | cons q fs ih=>
  intro j p h i hi
  show (Bp q.1++jN fs)[j*15+i]?=_
  cases j with
  | zero=>
   obtain rfl:q=p:=by simpa using h
   rw[Nat.zero_mul,mh,vT (by rw[MH];exact hi)]
  | succ j=>
   rw[kF (by rw[MH];omega),MH,show (j+1)*15+i-15=j*15+i by omega]
   exact ih (by simpa using h) i hi
theorem it_at {w:World}{B n:Nat}{A:Option Addr}{fs:List (Fr×Bool)}(h:Rd w B 15 A n (jN fs)) (hn : 0<n):fs.length=n∧∃b o,A=some ⟨b,o,none⟩∧b<B∧∀j p,fs[j]?=some p→∀i,i<15→w.cell? ⟨b,o+j*15+i,none⟩=(Bp p.1)[i]?:=by
 have hl:=h.1
 rw[aeY] at hl
 obtain⟨b,o,hA,hb,hc⟩:=h.2 hn
 refine⟨by omega,b,o,hA,hb,fun j p hj i hi=>?_⟩
 have hjl:=(List.getElem?_eq_some_iff.1 hj).1
 rw[xq,hc (j*15+i) (by omega),aeX hj i hi]
def TkOk (B p:Nat) (fs:List (Fr×Bool)) (V:Value) (J:Nat→World→Prop) (k:Nat) (w:World):Prop:=
 ∃c cs,All B w (aK p c :: aD 130 15 V fs.length (jN fs) :: cs) ∧
  ((c.over=false∧∀f,fs[k]?=some f→∀w',Below w.heap.size w w'→Calls Tryz.prog 60 #[.pointer (some ⟨p,0,none⟩),qd f.1] w' (Left B w' (J (k+1)))) ∨
   (c.over=true∧(k<fs.length→∀w',Below w.heap.size w w'→J (k+1) w')))
def Nk (B:Nat) (w:World) (n:Nat) (J:Nat→World→Prop) (iv:Value) (wr:World):Prop:=∃k:Nat,iv = .int .i64 k∧k≤n∧J k wr∧Below B w wr
theorem XU {B p x:Nat}{c:Cv}{cs:List dx}(fs:List (Fr×Bool)) (J:Value→Nat→World→Prop) (bv:Value) (w:World) (h:All B w (aK p c :: cs)) (lD:c.over=false) (qb:c.feed = .pointer (some ⟨x,0,none⟩)) (hfn:fs.length≤1000000)
 (hJ:∀V k w,J V k w→TkOk B p fs V (J V) k w)
 (YM:∀w1,All B w1 (aK p { c with news:=.slice none 0 0 } :: cs)→Calls Tryz.prog 59 #[.pointer (some ⟨x,0,none⟩),bv] w1 (fun e w'=>∃V,e = .returned V∧J V 0 w'∧Below B w1 w')) :
 Calls Tryz.prog 19 #[.pointer (some ⟨p,0,none⟩),bv] w (fun e w'=>∃V c' cs',J V fs.length w'∧Below B w w'∧All B w' (aK p c' :: cs')∧e = .returned c'.news):=by
 have HA:=af h
 have HJ:=af hJ
 have HFD:=af YM
 have HFP:=af qb
 have q19:w.cell? ⟨p,19,none⟩=some (.bool false):=by rw[←lD];exact h.cc 19 (.bool c.over) rfl
 have f21:=h.cf 21
 have EF:=h.cc 21 c.news rfl
 clear h hJ YM lD qb
 go_enter Tryz.func19,Tryz.ntmps19
 go_upto_region 4 with fail
 refine bI ?_
 intro W1 hW1
 obtain⟨h1,b1⟩:=HA.out.set 21 (.slice none 0 0)
 rw[←hW1] at h1 b1
 have q4:W1.cell? ⟨p,4,none⟩=some (.pointer (some ⟨x,0,none⟩)):=by
  have h2:All B W1 (aK p { c with news:=.slice none 0 0 } :: cs):=h1
  rw[←HFP.out]
  exact h2.cc 4 c.feed rfl
 have qb:=HFD.out W1 h1
 have bH:=af b1
 clear h1 b1 hW1 q19 f21 EF
 go_wp2_with fail
 refine qb.mono ?_
 rintro e w2 ⟨V,rfl,hJ0,hb2⟩
 obtain⟨c0,cs0,fQ,-⟩:=HJ.out V 0 w2 hJ0
 obtain⟨A,cap,hV,hcap,hmx,-,-⟩:=aC ((fQ.pick [_]).head)
 subst hV
 have aI:=af (bH.out.trans hb2)
 have H0:=af hJ0
 clear qb fQ hJ0 hb2
 go_wp2_with fail
 go_loopw [25] (fun iv wr=>Nk B w fs.length (J (.slice A fs.length cap)) iv wr) (fun iv _=>fs.length-(intOf iv).toNat)
 case atStart=>exact⟨0,rfl,aL _,H0.out,aI.out⟩
 case round=>
  obtain⟨k,rfl,hk,hJk,hbk⟩:=hrel
  obtain⟨c1,cs1,jc,oV⟩:=HJ.out _ k wr hJk
  have aM:=af hbk
  have HC:=af oV
  have bM:=af jc
  have HJK:=af hJk
  clear oV jc hJk hbk
  by_cases hlt:k<fs.length
  ·have n0:(k:Int)<fs.length:=by omega
   obtain⟨-,b,o,hAe,hbl,hc⟩:=it_at (Rd.lJ ((bM.out.pick [_]).head)) (by omega)
   subst hAe
   obtain⟨f,hf⟩:∃f,fs[k]?=some f:=⟨_,a_ hlt⟩
   have HFF:=af hf
   have hz:∀i,i<15→wr.cell? ⟨b,o+k*15+i,none⟩=(Bp f.1)[i]?:=fun i hi=>hc k f hf i hi
   obtain⟨⟨ty,fl,st,data,pad⟩,pd⟩:=f
   obtain⟨z0,z1,z2,z3,z4,z5,z6,z7,z8,z9,z10,z11,z12,z13,z14⟩:wr.cell? ⟨b,o+k*15,none⟩=some (.int .i64 ty)∧wr.cell? ⟨b,o+k*15+1,none⟩=some (.int .i64 fl)∧wr.cell? ⟨b,o+k*15+2,none⟩=some (.int .i64 st)∧wr.cell? ⟨b,o+k*15+3,none⟩=some (.string data)∧wr.cell? ⟨b,o+k*15+4,none⟩=some (.int .i64 pad)∧wr.cell? ⟨b,o+k*15+5,none⟩=some (.slice none 0 0)∧wr.cell? ⟨b,o+k*15+6,none⟩=some (.int .i64 0)∧wr.cell? ⟨b,o+k*15+7,none⟩=some (.int .i64 0)∧wr.cell? ⟨b,o+k*15+8,none⟩=some (.int .i64 0)∧wr.cell? ⟨b,o+k*15+9,none⟩=some (.int .i64 0)∧wr.cell? ⟨b,o+k*15+10,none⟩=some (.int .i64 0)∧wr.cell? ⟨b,o+k*15+11,none⟩=some (.bool false)∧wr.cell? ⟨b,o+k*15+12,none⟩=some (.bool false)∧wr.cell? ⟨b,o+k*15+13,none⟩=some (.int .i64 0)∧wr.cell? ⟨b,o+k*15+14,none⟩=some (.int .i64 0):=
    ⟨hz 0 (by omega),hz 1 (by omega),hz 2 (by omega),hz 3 (by omega),hz 4 (by omega),hz 5 (by omega),hz 6 (by omega),hz 7 (by omega),hz 8 (by omega),hz 9 (by omega),hz 10 (by omega),hz 11 (by omega),hz 12 (by omega),hz 13 (by omega),hz 14 (by omega)⟩
   clear hz hc hf
   go_upto_region 7 with fail
   refine bI ?_
   intro W2 hW2
   have hb2:Below wr.heap.size wr W2:=by rw[hW2];exact (Below.refl _ _).alloc (ah _) _
   have dA:=gV bM.out (Eu ty fl st data pad) 130
   have hW2':W2=wr.alloc (.cells (Eu ty fl st data pad) 130):=hW2
   rw[←hW2'] at dA
   obtain⟨ib,hib⟩:∃ib,wr.heap.size=ib:=⟨_,rfl⟩
   rw[hib] at dA ⊢
   have dz:=af (aM.out.trans (hb2.mono bM.out.sz))
   have HB2W:=af hb2
   obtain⟨i0,i1,i2,i3,i4,i5,i6,i7,i8,i9,i10,i11,i12,i13,i14⟩:=H_.of dA.head
   have q19:W2.cell? ⟨p,19,none⟩=some (.bool c1.over):=(dA.pick [_]).cc 19 (.bool c1.over) rfl
   clear z0 z1 z2 z3 z4 z5 z6 z7 z8 z9 z10 z11 z12 z13 z14 hb2 dA hW2 hW2' hib
   rcases HC.out with ⟨ho,YB⟩ | ⟨ho,hgo⟩
   ·rw[ho] at q19
    have hcl:=YB _ HFF.out W2 HB2W.out
    unfold qd at hcl
    dsimp only at hcl
    clear YB ho
    go_wp2_with fail
    refine hcl.mono ?_
    rintro e w3 ⟨rfl,hb3,hJ3⟩
    have HN:Hid (Nk B w fs.length (J (.slice (some ⟨b,o,none⟩) fs.length cap)) (.int .i64 (k+1:Nat)) w3):=af ⟨k+1,rfl,hlt,hJ3,dz.out.trans hb3⟩
    clear hcl hb3 hJ3 i0 i1 i2 i3 i4 i5 i6 i7 i8 i9 i10 i11 i12 i13 i14 q19
    go_wp2
    go_roundw
    case rel=>exact HN.out
    case measure=>simp[intOf];omega
   ·rw[ho] at q19
    have HN:Hid (Nk B w fs.length (J (.slice (some ⟨b,o,none⟩) fs.length cap)) (.int .i64 (k+1:Nat)) W2):=af ⟨k+1,rfl,hlt,hgo hlt W2 HB2W.out,dz.out⟩
    clear hgo ho
    go_wp2
    go_roundw
    case rel=>exact HN.out
    case measure=>simp[intOf];omega
  ·have hkn:k=fs.length:=by omega
   subst hkn
   have EF:=bM.out.cc 21 c1.news rfl
   go_wp2
   go_ret
   exact⟨_,c1,_,HJK.out,aM.out,bM.out,rfl⟩
end
section
open Go.RowKit
theorem ahI {g:Nat}(f:Rw) (nv:Bool) (w:World) (h:w.cell? ⟨g,4,none⟩=some (.slice none 0 0)) :
 Calls Tryz.prog 51 #[.pointer (some ⟨g,3,none⟩),.agg #[.string f.1,.string f.2,.bool nv]] w (abI w (qa iR f)):=by
 obtain⟨W0,hW0⟩:∃W0,w.alloc (.cells #[.string f.1,.string f.2,.bool nv] 26)=W0:=⟨_,rfl⟩
 obtain⟨p,hp⟩:∃p,w.heap.size=p:=⟨_,rfl⟩
 have b0:Below w.heap.size w W0:=by rw[←hW0];exact (Below.refl _ _).alloc (ah _) _
 have f0:W0.cell? ⟨p,0,none⟩=some (.string f.1):=by rw[←hW0,←hp];exact World.cell?_alloc_at _ _ _ _ rfl
 have f1:W0.cell? ⟨p,1,none⟩=some (.string f.2):=by rw[←hW0,←hp];exact World.cell?_alloc_at _ _ _ _ rfl
 have hpl:p<W0.heap.size:=by rw[←hW0,←hp];simp
 obtain⟨rows,hrows⟩:∃rows:List Rw,rows=[]:=⟨_,rfl⟩
 have hl:rows.length≤34359738368:=by rw[hrows];simp
 obtain⟨A,hA⟩:∃A:Option Addr,A=none:=⟨_,rfl⟩
 obtain⟨c,hc0⟩:∃c:Nat,c=0:=⟨_,rfl⟩
 have c1:W0.cell? ⟨g,4,none⟩=some (.slice A rows.length c):=by rw[hA,hrows,hc0,←hW0];exact (World.cell?_alloc_lt _ _ _ (World.block_lt_of_cell? w ⟨g,4,none⟩ h)).trans h
 have kQ:Hid (Rd W0 W0.heap.size 3 A rows.length (p_ rows.reverse)):=af (by rw[hrows];exact⟨rfl,fun h=>absurd h (Ce 0)⟩)
 have ve:g<W0.heap.size:=fI (World.block_lt_of_cell? w ⟨g,4,none⟩ h) b0.size
 have hrev:iR=iR++rows.reverse:=by rw[hrows];simp
 rw[hrev]
 obtain⟨L,hL⟩:∃L,iR++rows.reverse=L:=⟨_,rfl⟩
 have hLl:L.length=61+rows.length:=by rw[←hL];simp[BC]
 have HL:=af hL
 have dX:=af hLl
 have dW:=af b0
 have dY:=af hW0
 have HP:=af hp
 have HZ:=af (And.intro f0 f1)
 rw[hL]
 clear hW0 hp b0 h hL hLl f0 f1 hA hrows hc0 hrev
 go_enter Tryz.func51,Tryz.ntmps51
 go_upto_region 2 with fail
 rw[dY.out,HP.out]
 go_cut [6] (fun v wx=>abJ W0 L v wx)
 case first=>
  go_region_held3 (fun w'=>w'.cell? ⟨g,4,none⟩=some (.slice A rows.length c))
   (first | go_keep | exact k0)
   (first
    | (go_at_call 87;refine (aiF _).mono ?_;rintro e w1 ⟨rfl,rfl⟩)
    | (refine oI (.tmp 9) (.tmp 13) j3 rfl rfl (agE W0) rfl (kQ.out.alloc (ah _) _) rfl (ad8 _) (bn (by omega)) (by omega) (by simp) ?_;intro v4 w4 fT hg4 hb4;obtain⟨A4,c4,rfl,-,-,Ka,-⟩:=aC fT;have k0:w4.cell? ⟨g,4,none⟩=some (.slice A rows.length c):=(World.cell?_of_block (a:=⟨g,4,none⟩) ((hg4.block g (by simp;omega) (by simp[Value.ownBlock];omega)).trans (Below.heap_alloc W0 _ g ve))).trans c1;have H4:=af (And.intro fT (And.intro hg4 Ka));clear fT hg4 Ka hb4))
  all_goals
   go_wp2_with fail
   go_meet
   obtain⟨fT,hg4,Ka⟩:=H4.out
   have hlen : 61+rows.length=L.length:=dX.out.symm
   rw[←ad7,HL.out,hlen] at Ka
   rw[hlen]
   exact⟨A4,c4,rfl,Ka,(((Below.refl _ _).alloc (ah _) _).drew).grown hg4 (by simp[World.drew]) (fun k hk=>by simp[Value.ownBlock] at hk;omega)⟩
 case rest=>
  obtain⟨A4,c4,rfl,hrd,hbel⟩:=hcut
  have f0:=(hbel.cell (p:=⟨p,0,none⟩) hpl).trans HZ.out.1
  have f1:=(hbel.cell (p:=⟨p,1,none⟩) hpl).trans HZ.out.2
  have GA:p<wc.heap.size:=fI hpl hbel.size
  have bf:L.length≤34359738429:=by have:=dX.out;omega
  have HR:=af hrd
  have iD:=af (dW.out.trans (hbel.mono dW.out.size))
  have P5:=iD.out.size
  have HF0:=af f0
  have zJ:=af f1
  clear hrd hbel c1 ve kQ hpl f0 f1
  go_wp2
  go_loopw [7,8] (fun n i wr=>abZ wc L f n i wr) (fun _ i _=>L.length-(intOf i).toNat)
  case atStart=>exact⟨0,rfl,rfl,by omega,fun j r h=>by omega,Below.refl _ _⟩
  case round=>
   obtain⟨k,rfl,rfl,hk,hall,hbr⟩:=hrel
   have HA:=af hall
   have wY:=af hbr
   have dZ:=hbr.size
   have f0:=(hbr.cell (p:=⟨p,0,none⟩) GA).trans HF0.out
   have f1:=(hbr.cell (p:=⟨p,1,none⟩) GA).trans zJ.out
   have HE:Hid (∀w',Below wc.heap.size wc w'→Below w.heap.size w w'):=af fun w' hb=>iD.out.trans (hb.mono P5)
   clear hall hbr
   by_cases hlt:k<L.length
   ·obtain⟨r,hr⟩:∃r,L[k]?=some r:=⟨_,a_ hlt⟩
    obtain⟨b,o,rfl,hb,hc⟩:=(HR.out.below (B0:=wc.heap.size) wY.out (ah _)).2 (by omega)
    have e:=Yb hr
    have q0:wr.cell? ⟨b,o+k*3,none⟩=some (.string r.1):=(hc (k*3) (by omega)).trans e.1
    have q1:wr.cell? ⟨b,o+k*3+1,none⟩=some (.string r.2):=(hc (k*3+1) (by omega)).trans e.2.1
    have n1:(k:Int)<L.length:=by omega
    have jq:=af (af3 (nm:=f.1) hr)
    have HRK:=af hr
    have hnb:wP (L.take k) f.1≤L.length:=gM (SV _ _) (by rw[kS];omega)
    obtain⟨na,hna⟩:∃na,wP (L.take k) f.1=na:=⟨_,rfl⟩
    have Dp:=af hna
    rw[hna] at hnb
    rw[hna]
    clear hc e hr hna
    obtain⟨ra,rb⟩:=r
    obtain⟨fa,fb⟩:=f
    simp only at q0 q1 f0 f1
    by_cases hn:ra=fa
    ·subst hn
     by_cases hv:rb=fb
     ·subst hv
      have HFA:=af (aee HRK.out HA.out)
      go_wp2
      go_quiet (fail)
      go_wp2
      go_quiet (fail)
      go_wp2
      go_ret2
      rw[HFA.out]
      exact⟨rfl,HE.out _ (tN wY.out _)⟩
     ·have ev:(rb.toList==fb.toList)=false:=(Lib.bytes_beq_false_iff rb fb).2 hv
      have HV:Hid ((ra,rb)≠(ra,fb)):=af fun e=>hv (by injection e)
      clear hv
      by_cases hz:na=0
      ·subst hz
       go_wp2
       go_quiet (fail)
       go_wp2
       go_quiet (fail)
       go_wp2
       go_roundw
       case rel=>exact⟨k+1,by go_num,by rw[jq.out,Dp.out,ax rfl,ax trivial];go_num,by omega,fun j r hj hr=>by
        rcases Nat.lt_succ_iff_lt_or_eq.1 hj with h | h
        ·exact HA.out j r h hr
        ·subst h;rw[HRK.out] at hr;injection hr with hr;rw[←hr];exact HV.out,tN wY.out _⟩
       case measure=>simp[intOf];omega
      ·have ez:((na:Int)==0)=false:=by rw[fO];omega
       have HZ0:=af hz
       clear hz
       go_wp2
       go_quiet (fail)
       go_wp2
       go_quiet (fail)
       go_wp2
       go_roundw
       case rel=>exact⟨k+1,by go_num,by rw[jq.out,Dp.out,aj HZ0.out],by omega,fun j r hj hr=>by
        rcases Nat.lt_succ_iff_lt_or_eq.1 hj with h | h
        ·exact HA.out j r h hr
        ·subst h;rw[HRK.out] at hr;injection hr with hr;rw[←hr];exact HV.out,tN wY.out _⟩
       case measure=>simp[intOf];omega
    ·have en:(ra.toList==fa.toList)=false:=(Lib.bytes_beq_false_iff ra fa).2 hn
     have HN:=af hn
     clear hn
     go_wp2
     go_quiet (fail)
     go_wp2
     go_roundw
     case rel=>exact⟨k+1,by go_num,by rw[jq.out,Dp.out,aj HN.out];split <;> simp_all,by omega,fun j r hj hr=>by
      rcases Nat.lt_succ_iff_lt_or_eq.1 hj with h | h
      ·exact HA.out j r h hr
      ·subst h;rw[HRK.out] at hr;injection hr with hr;rw[←hr];exact fun e=>HN.out (by injection e),tN wY.out _⟩
     case measure=>simp[intOf];omega
   ·obtain rfl:k=L.length:=by omega
    have HNO:=af (aed HA.out)
    rw[List.take_length]
    go_wp2
    go_ret2
    rw[HNO.out]
    exact⟨rfl,HE.out _ wY.out⟩
end
section
open Go.RowKit
theorem IX (f bits n F:Nat) (w:World) (hF:Full bits F) (hf:f<256) (hfl:f%(F+1)=0) (hn32:n<4294967296) :
 Calls Tryz.prog 50 #[.int .u8 f,.int .i64 bits,.int .u32 n] w (jV w (eP f F n)):=by
 have h8:=hF.hi
 have hF':=hF.le
 have hlt:f+F<256:=(hF.or8 hf hfl (n:=F) (by omega)).2
 have HE:=af hF.eq
 have sS:=af hfl
 clear hF hfl
 go_enter Tryz.func50,Tryz.ntmps50
 go_wp2
 go_loop [7,8] (KU .u32 bits) (fun _ i=>bits-(intOf i).toNat)
 case atStart=>exact⟨0,1,rfl,rfl,by omega,rfl,by omega⟩
 case round=>
  obtain⟨k,p,rfl,rfl,hk,hp,hp256⟩:=hrel
  have HP:=af hp
  clear hp
  by_cases hlt:k<bits
  ·have YX:=(KU.next HP.out hlt h8).2
   go_wp2
   go_round
   case rel=>exact⟨k+1,p*2,by go_num,by go_num,by omega,(KU.next HP.out hlt h8).1,by omega⟩
   case measure=>simp[intOf];omega
  ·obtain rfl:p=F+1:=by rw[HP.out,HE.out];congr 1;omega
   by_cases hs:n<F
   ·go_wp2
    go_ret
    have hp:eP f F n=[UInt8.ofNat (f+n)]:=by simp[eP,hs]
    rw[hp]
    have hv:ak [UInt8.ofNat (f+n)]=[.int .u8 ((f:Int)+n)]:=by simp only[ak,bv,lV,vU,toNat_ofNat (show f+n<256 by omega)];congr 1
    refine⟨_,rfl,?_,(Below.refl _ _).alloc (ah _) _⟩
    unfold b_
    rw[hv]
    exact World.ownsRow_lit (base:=w.heap.size) (e:=5) (size:=1) w #[_] 1 (ah _) (by unfold maxLen;omega) rfl
   ·have hT:eP f F n=UInt8.ofNat (f+F) :: sK 5 (n-F):=by simp only[eP];rw[aj (by omega)]
    have HT:=af hT
    have e4:decide (n<F)=false:=by simpa using hs
    have e7:decide (k<bits)=false:=by simpa using hlt
    clear hT
    go_wp2
    clear e4 e7
    go_loopw [9,2] (abW w (eP f F n)) (fun _ m _=>(intOf m).toNat)
    case atStart=>
     refine⟨[UInt8.ofNat (f+F)],5,n-F,HT.out,by omega,by simp,by omega,by congr 1;omega,?_,(Below.refl _ _).alloc (ah _) _⟩
     unfold b_
     have hv:ak [UInt8.ofNat (f+F)]=[.int .u8 ((f:Int)+F)]:=by simp only[ak,bv,lV,vU,toNat_ofNat (show f+F<256 by omega)];congr 1
     rw[hv]
     exact World.ownsRow_lit (base:=w.heap.size) (e:=5) (size:=1) w #[_] 1 (ah _) (by unfold maxLen;omega) rfl
    case round=>
     obtain⟨d,k,x,hd,hx,hdk,hx32,rfl,hown,hbel⟩:=hrel
     have HD:=af hd
     have HX:=af hx
     clear hd hx
     by_cases hlt : 128≤x
     ·go_wp2_with (at_builtin;refine dQ (.tmp 37) (.tmp 42) iT rfl rfl (World.ownsRow.alloc hown _) rfl (Rd.one _ _ _) rfl (Ta _ _) (bn (by omega)) (by omega) (by have:=hbel.size;simp;omega) ?_;intro v1 w1 hown1 hg1 _)
      go_roundw
      case rel=>
       obtain⟨k',rfl⟩:∃k',k=k'+1:=⟨k-1,by have:=HX.out;cases k with | zero=>simp at this;omega | succ k=>rfl⟩
       refine⟨d++[UInt8.ofNat (x%128+128)],k',x / 128,?_,?_,by simp;omega,by omega,?_,?_,?_⟩
       ·rw[HD.out,aaY _ _ hlt,jf];rfl
       ·exact Nat.div_lt_of_lt_mul (by have:=HX.out;rw[qH,Nat.mul_comm] at this;exact this)
       ·go_num
       ·exact b_.snoc hown1 (by rw[bv,toNat_ofNat (by omega)];congr 1)
       ·exact Below.app (hbel.alloc hbel.size _) (World.ownsRow.alloc hown _) hg1 (ah _) (by have:=hbel.size;simp;omega)
      case measure=>simp[intOf];omega
     ·go_wp2_with (at_builtin;refine dQ (.tmp 46) (.tmp 49) iT rfl rfl (World.ownsRow.alloc hown _) rfl (Rd.one _ _ _) rfl (Ta _ _) (bn (by omega)) (by omega) (by have:=hbel.size;simp;omega) ?_;intro v1 w1 hown1 hg1 _)
      go_ret
      refine⟨v1,rfl,?_,?_⟩
      ·rw[HD.out,aaZ _ _ (by omega)]
       exact b_.snoc hown1 (by rw[bv,toNat_ofNat (by omega)])
      ·exact Below.app (hbel.alloc hbel.size _) (World.ownsRow.alloc hown _) hg1 (ah _) (by have:=hbel.size;simp;omega)
end
section
open Go.RowKit
theorem Tp (s:ByteArray) (w:World) (hs:s.size≤1048576):Calls Tryz.prog 88 #[.string s] w fun e w'=>e = .returned (.int .i64 (lI s.data.toList:Int))∧Below w.heap.size w w':=by
 have aQ:=lX s
 have hlen:=gJ s
 have HL:=af hlen
 clear hlen
 go_enter Tryz.func88,Tryz.ntmps88
 go_wp2_with fail
 refine (Tq w).mono ?_
 rintro e w1 ⟨g,rfl,hown,hb1⟩
 have hcell:∀i,i<257→w1.cell? ⟨g,i,none⟩=some (.int .i64 ((bW.getD i 0:Nat):Int)):=fun i hi=>by
  rw[World.ownsRow.cellAt hown i (by omega),Qi (by rw[bO.1];exact hi)]
 have HC:=af hcell
 clear hcell hown
 go_wp2
 go_loop [4,5] (ab5 s.data.toList) (fun _ i=>s.size-(intOf i).toNat)
 case atStart=>exact⟨0,0,rfl,rfl,by omega,rfl,by omega⟩
 case round=>
  obtain⟨k,t,rfl,rfl,hk,ht,ht30⟩:=hrel
  have HT:=af ht
  rw[HL.out] at hk
  clear ht
  by_cases hlt:k<s.size
  ·have hb:=jg s.data.toList k
   have hcl:=HC.out (ba s.data.toList k) (by omega)
   have hn:=Kl (ba s.data.toList k)
   have hnext:=Zx (l:=s.data.toList) (k:=k) (by rw[HL.out];exact hlt)
   generalize bW.getD (ba s.data.toList k) 0=n at *
   have HN:=af hnext
   have hb257:(ba s.data.toList k:Int)<257:=by omega
   clear hnext
   go_wp2
   go_round
   case rel=>exact⟨k+1,t+n,by go_num,by go_num,by rw[HL.out];omega,by rw[HN.out,HT.out],by omega⟩
   case measure=>simp[intOf];omega
  ·obtain rfl:k=s.size:=by omega
   have e1:decide (s.size<s.size)=false:=by simp
   go_wp2
   clear e1
   go_loop [4] (UpRel t) (fun i=>t+7-(intOf i).toNat)
   case atStart=>exact⟨t,rfl,by omega,by omega,by omega,rfl⟩
   case round=>
    obtain⟨x,rfl,hx1,hx2,hx3,CS⟩:=hrel
    have HX:=af CS
    have xg:=af hx2
    clear CS hx2
    by_cases h8:x%8=0
    ·have e2:((x:Int)%8 != 0)=false:=by simp;omega
     have H8:=af h8
     clear h8
     go_wp2
     go_ret
     have ht:t=fC s.data.toList:=by rw[HT.out,cB (by rw[HL.out];exact ah _)]
     have hr:((x:Int) / 8)=((lI s.data.toList:Nat):Int):=by
      unfold lI
      rw[←ht,HX.out]
      have:=H8.out
      omega
     exact⟨C8 (congrArg (Value.int .i64) hr),hb1⟩
    ·have e2:((x:Int)%8 != 0)=true:=by simp;omega
     have h7:x<t+7:=by have:=xg.out;have:=HX.out;omega
     have xL:(t+7) / 8=(x+1+7) / 8:=by have:=HX.out;omega
     have hn2:(x+1-1) / 8≤(t-1) / 8:=by have:=xg.out;have:=HX.out;omega
     have HN:=af (And.intro xL hn2)
     clear h8 xL hn2
     go_wp2
     go_round
     case rel=>exact⟨x+1,by go_num,by omega,HN.out.2,by omega,HN.out.1⟩
     case measure=>simp[intOf];omega
end
section
open Go.RowKit
theorem ahs (s:ByteArray) (w:World) (hs:s.size≤1048576):Calls Tryz.prog 89 #[.string s] w (jV w (xA s.data.toList)):=by
 have aQ:=lX s
 have hlen:=gJ s
 have HL:=af hlen
 have hnb:=(af1 s.data.toList).2
 rw[hlen] at hnb
 clear hlen
 obtain⟨i0,Ea,hz0,hz1,hz2⟩:=info_parts iT.info
 go_enter Tryz.func89,Tryz.ntmps89
 go_wp2_with fail
 refine (Tq w).mono ?_
 rintro e w1 ⟨gl,rfl,Gx,hb1⟩
 have hlc:LC w1 gl:=fun i hi=>by rw[World.ownsRow.cellAt Gx i (by omega),Qi (by rw[bO.1];exact hi)]
 have ve:=(Gx.lt gl rfl).2
 have vP:=af hlc
 clear Gx hlc
 go_wp2_with fail
 refine (ahh w1).mono ?_
 rintro e w2 ⟨gc,rfl,PI,hb2⟩
 have hcc:CC w2 gc:=fun i hi=>by rw[World.ownsRow.cellAt PI i (by omega),u32s_get (by rw[bO.2.1];exact hi)]
 have hgc:=(PI.lt gc rfl).2
 have HCC:=af hcc
 clear PI hcc
 go_wp2_with fail
 refine (Tp s w2 hs).mono ?_
 rintro e w3 ⟨rfl,hb3⟩
 obtain⟨N,hN⟩:∃N,N=lI s.data.toList:=⟨_,rfl⟩
 rw[←hN]
 have hNb:fC s.data.toList≤8*N:=by rw[hN];unfold lI;omega
 have hN4:N≤4194304:=by rw[hN];unfold lI;omega
 have HN:=af hN
 have hs1:=hb1.size
 have hs2:=hb2.size
 have hs3:=hb3.size
 have Yx:Below w.heap.size w w3:=(hb1.trans (hb2.mono hs1)).trans (hb3.mono (by omega))
 clear hN
 go_wp2_with (at_make;refine wpList_make_full _ rfl _ _ 48 rfl w.heap.size 5 i0 (.int .u8 0) 1 Tryz.underlying48 Ea hz0 hz1 _ _ _ _ N rfl rfl rfl rfl (by rw[hz2];omega) (by unfold maxLen;omega) (by omega) ?_;intro w4 fT hg4)
 have hz:(madeCells (Value.int .u8 0).cells (N*1)).toList=ak (fill N 0 0):=by
  rw[show (Value.int .u8 0).cells=#[Value.int .u8 0] from rfl,toList_madeCells_one,aec];simp[ak,bv]
 rw[hz] at fT
 have hlc3:LC w3 gl:=fun i hi=>((hb2.mono (show gl+1≤w1.heap.size by omega)).trans (hb3.mono (show gl+1≤w2.heap.size by omega))).cell (p:=⟨gl,i,none⟩) (rQ _) |>.trans (vP.out i hi)
 have hcc3:CC w3 gc:=fun i hi=>hb3.cell (p:=⟨gc,i,none⟩) hgc |>.trans (HCC.out i hi)
 have hrow:Row w w4 gl gc w3.heap.size N 0 0:=⟨fT,fun i hi=>hg4.cell (hlc3 i hi) (by simp),fun i hi=>hg4.cell (hcc3 i hi) (by simp),Yx.grown hg4 (by omega) (fun k hk=>by cases hk)⟩
 have Px:gl≠w3.heap.size:=by omega
 have JY:gc≠w3.heap.size:=by omega
 have hge:w.heap.size≤w3.heap.size:=by omega
 generalize w3.heap.size=g at *
 have HR:=af hrow
 clear hrow hz fT hg4 hlc3 hcc3 Ea hz0 hz1 hz2 vP HCC hb1 hb2 hb3 Yx
 go_loopw [6,7,8] (abY w gl gc g N s.data.toList) (fun _ _ i _=>s.size-(intOf i).toNat)
 case atStart=>exact⟨0,0,0,0,rfl,by omega,rfl,rfl,rfl,rfl,rfl,HR.out⟩
 case round=>
  obtain⟨k,T,V,p,rfl,hk,rfl,rfl,hT,hV,hp,hrow⟩:=hrel
  rw[HL.out] at hk
  have HTV:=af (And.intro hT (And.intro hV hp))
  have HR:=af hrow
  by_cases hlt:k<s.size
  ·have hb:=jg s.data.toList k
   have hb257:(ba s.data.toList k:Int)<257:=by omega
   have hcl:=hrow.lc (ba s.data.toList k) (by omega)
   have hn30:=Kl (ba s.data.toList k)
   have O1:=adj (ba s.data.toList k)
   have hfit:=XM (ba s.data.toList k) (by omega)
   have hvn:=ajt (l:=s.data.toList) (k:=k) (by rw[HL.out];exact hlt)
   have hnn:=Zx (l:=s.data.toList) (k:=k) (by rw[HL.out];exact hlt)
   have htot:=af2 s.data.toList (k+1)
   rw[hnn,←hT] at htot
   obtain⟨n,hn⟩:∃n,n=bW.getD (ba s.data.toList k) 0:=⟨_,rfl⟩
   obtain⟨c,hc⟩:∃c,c=nG.getD (ba s.data.toList k) 0:=⟨_,rfl⟩
   rw[←hn] at hcl hn30 hfit hvn hnn htot
   rw[←hc] at O1 hfit hvn
   have HC:=af hc
   have HVN:=af (And.intro hvn (And.intro hnn hfit))
   clear hrow hT hV hp hvn hnn hfit hn hc
   go_wp2
   go_loopw [6,7,9] (abD w gl gc g N T V n c) (fun _ _ j _=>(intOf j+1).toNat)
   case atStart=>exact⟨n,T,V,p,by go_num,ah _,rfl,rfl,by omega,by rw[zV,Nat.pow_zero,Nat.mul_one,Nat.div_eq_of_lt HVN.out.2.2,Nat.add_zero],HTV.out.2.2,HR.out⟩
   case round=>
    clear hcl
    obtain⟨j,T1,V1,p1,rfl,hj,rfl,rfl,nO,hV1,iP,hrow⟩:=hrel
    cases j with
    | zero=>
     have HR:=af hrow
     have NQ:=af (And.intro nO (And.intro hV1 iP))
     clear hrow nO hV1 iP
     go_wp2
     refine⟨⟨k+1,T1,V1,p1,by go_num,by rw[HL.out];omega,rfl,rfl,?_,?_,NQ.out.2.2,HR.out⟩,by simp[intOf];omega⟩
     ·rw[HVN.out.2.1,NQ.out.1,HTV.out.1];rfl
     ·rw[HVN.out.1,NQ.out.2.1,HTV.out.2.1];simp
    | succ j'=>
     have hcx:=hrow.cc (ba s.data.toList k) (by omega)
     rw[←HC.out] at hcx
     obtain⟨y,hy⟩:∃y,y=c / 2^j':=⟨_,rfl⟩
     have ey:(c:Int) / 2^j'=(y:Int):=by rw[hy];simp
     have hy32:y<4294967296:=by rw[hy];exact Nat.lt_of_le_of_lt (Nat.div_le_self _ _) (by omega)
     have eb:=acg y hy32
     obtain⟨b,Cs⟩:∃b,b=y%2:=⟨_,rfl⟩
     rw[←Cs] at eb
     have hb2:b<2:=by omega
     have ej:((j'+1:Nat):Int)-1=(j':Int):=by omega
     have hT1b:T1+1≤8*N:=by omega
     have Bj:=acQ V n c j' (by omega)
     rw[←hV1,←hy,←Cs] at Bj
     have YX:p1<128:=by
      rw[iP]
      exact fI (Nat.mod_lt _ (Nat.pow_pos (by decide))) (Nat.pow_le_pow_right (by omega) (show T1%8≤7 by omega) : 2^(T1%8)≤2^7)
     by_cases h7:T1%8<7
     ·have nQ:=(OE (N:=N) (V:=V1) hb2 h7).2
      have hrow2:=hrow.bit hb2 h7
      have e8:((T1:Int)+1)%8=((T1%8+1:Nat):Int):=by omega
      have e9:(((T1%8+1:Nat):Int)==0)=false:=by rw[fO];omega
      generalize T1%8+1=u at e8 e9
      rw[Bj] at nQ hrow2
      rw[←iP] at nQ
      have HR:=af hrow2
      have HX:=af (And.intro nQ (And.intro nO hy))
      clear hrow hrow2 nO hV1 iP Bj nQ hy Cs h7
      rw[ej]
      go_wp2
      obtain⟨nQ,nO,hy⟩:=HX.out
      exact⟨⟨j',T1+1,V*2^(n-j')+c / 2^j',p1*2+b,rfl,by omega,by go_num,by go_num,by omega,rfl,by rw[←hy];exact nQ.symm,by rw[←hy];exact HR.out⟩,by simp[intOf] <;> omega⟩
     ·have h7':T1%8=7:=by omega
      have hq:T1 / 8<N:=by omega
      obtain⟨hx0,hx256⟩:=(Yg (N:=N) (V:=V1) hb2 h7' hq).2
      have hrow2:=hrow.byte hb2 h7' hq Px JY hge
      obtain⟨cx,hcell⟩:=hrow.cell hq (by omega)
      have Mo:=hrow.frozen (T1 / 8)
      have e9:(((T1:Int)+1)%8==0)=true:=by rw[beq_iff_eq];omega
      obtain⟨q,hq'⟩:∃q,q=T1 / 8:=⟨_,rfl⟩
      have e10:((T1:Int)+1) / 8=(q:Int)+1:=by omega
      rw[←hq'] at hq hrow2 hcell Mo
      rw[Bj] at hx0 hrow2
      rw[←iP] at hrow2 hx256
      have hval:((p1*2+b:Nat):Int)=(p1:Int)*2+(b:Int):=by omega
      rw[hval] at hrow2
      have HR:=af hrow2
      have HX:=af (And.intro hx0 (And.intro nO hy))
      clear hrow hrow2 nO hV1 iP Bj hy Cs h7 h7' hq' hx0 hval
      rw[ej]
      go_wp2
      obtain⟨hx0,nO,hy⟩:=HX.out
      exact⟨⟨j',T1+1,V*2^(n-j')+c / 2^j',0,rfl,by omega,by go_num,rfl,by omega,rfl,by rw[←hy];exact hx0.symm,by rw[←hy];exact HR.out⟩,by simp[intOf] <;> omega⟩
  ·obtain rfl:k=s.size:=by omega
   have hall:s.data.toList.take s.size=s.data.toList:=cB (by rw[HL.out];exact ah _)
   have hTN:T≤8*N:=by rw[hT,hall];exact hNb
   clear hrow hT hV hp hall
   go_wp2
   go_loopw [6,7] (abU w gl gc g N T V) (fun a _ _=>(8*N-(intOf a).toNat))
   case atStart=>exact⟨0,T,V,p,rfl,rfl,rfl,by simp,hTN,Or.inr HTV.out.2.2,HR.out⟩
   case round=>
    obtain⟨q,T1,V1,p1,rfl,rfl,nO,hV1,hT1N,iP,hrow⟩:=hrel
    by_cases h0:T1%8=0
    ·have e1:((T1:Int)%8 != 0)=false:=by rw[bne_eq_false_iff_eq];omega
     have L_:=HTV.out.1
     have OT:=HTV.out.2.1
     have hall:s.data.toList.take s.size=s.data.toList:=cB (by rw[HL.out];exact ah _)
     rw[hall] at L_ OT
     have hq8:q<8:=by have:=HN.out;unfold lI at this;omega
     have kL:=aeb s.data.toList q (by rw[←L_,←nO];exact h0) hq8
     rw[←HN.out,←L_,←OT,←nO,←hV1] at kL
     have hown:=hrow.own
     rw[kL] at hown
     have hle:(xA s.data.toList).length=N:=by rw[LU,HN.out]
     have HO:=af hown
     have HLE:=af hle
     have lZ:=hrow.bel
     clear hown hle kL hrow L_ OT hall nO hV1 iP h0
     go_wp2
     go_ret
     exact⟨_,rfl,by unfold b_;rw[HLE.out];exact HO.out,lZ⟩
    ·have J5:=iP.resolve_left h0
     have YX:p1<128:=by
      rw[J5]
      exact fI (Nat.mod_lt _ (Nat.pow_pos (by decide))) (Nat.pow_le_pow_right (by omega) (show T1%8≤7 by omega) : 2^(T1%8)≤2^7)
     have e1:((T1:Int)%8 != 0)=true:=by rw[bne_iff_ne];omega
     have Bj : 2*V1+1=V*2^(q+1)+(2^(q+1)-1):=by
      rw[hV1,qH,←Nat.mul_assoc]
      have : 0<2^q:=Nat.pow_pos (by decide)
      omega
     by_cases h7:T1%8<7
     ·have nQ:=(OE (N:=N) (V:=V1) (b:=1) (by omega) h7).2
      have hrow2:=hrow.bit (b:=1) (by omega) h7
      have e9:(((T1:Int)+1)%8==0)=false:=by rw[fO];omega
      have CB:T1+1≤8*N:=by omega
      rw[Bj] at nQ hrow2
      rw[←J5] at nQ
      have HR:=af hrow2
      have HX:=af (And.intro nQ nO)
      clear hrow hrow2 nO hV1 iP J5 Bj nQ h7 h0
      go_wp2
      obtain⟨nQ,nO⟩:=HX.out
      exact⟨⟨q+1,T1+1,V*2^(q+1)+(2^(q+1)-1),p1*2+1,by go_num,by go_num,by omega,rfl,CB,Or.inr nQ.symm,HR.out⟩,by simp[intOf];omega⟩
     ·have h7':T1%8=7:=by omega
      have hq:T1 / 8<N:=by omega
      have hrow2:=hrow.byte (b:=1) (by omega) h7' hq Px JY hge
      obtain⟨cx,hcell⟩:=hrow.cell hq (by omega)
      have Mo:=hrow.frozen (T1 / 8)
      have e9:(((T1:Int)+1)%8==0)=true:=by rw[beq_iff_eq];omega
      obtain⟨u,hu⟩:∃u,u=T1 / 8:=⟨_,rfl⟩
      have e10:((T1:Int)+1) / 8=(u:Int)+1:=by omega
      have CB:T1+1≤8*N:=by omega
      have h08:(T1+1)%8=0:=by omega
      rw[←hu] at hq hrow2 hcell Mo
      rw[Bj] at hrow2
      rw[←J5] at hrow2
      have hval:((p1*2+1:Nat):Int)=(p1:Int)*2+1:=by omega
      rw[hval] at hrow2
      have HR:=af hrow2
      have HX:=af (And.intro h08 nO)
      clear hrow hrow2 nO hV1 iP J5 Bj h7 h7' h0 hu hval h08
      go_wp2
      obtain⟨h08,nO⟩:=HX.out
      exact⟨⟨q+1,T1+1,V*2^(q+1)+(2^(q+1)-1),p1*2+1,by go_num,by go_num,by omega,rfl,CB,Or.inl h08,HR.out⟩,by simp[intOf];omega⟩
end
section
open Go.RowKit
theorem ahZ (s:ByteArray) (w:World) (hs:s.size≤1048576) (hlt:lI s.data.toList<s.size) :
 Calls Tryz.prog 53 #[.string s] w (jV w (kW s.data.toList)):=by
 have hE:=LU s.data.toList
 have hT:=VX (l:=s.data.toList) (by rw[gJ];exact hlt)
 have HT:=af hT
 clear hT
 go_enter Tryz.func53,Tryz.ntmps53
 go_wp2_with fail
 refine (Tp s w hs).mono ?_
 rintro e w2 ⟨rfl,hb2⟩
 go_wp2_with fail
 refine (ahs s w2 hs).mono ?_
 rintro e w3 ⟨v3,rfl,eB,hb3⟩
 obtain⟨A,c,rfl,-,-,hrd,-⟩:=aC eB
 rw[hE] at hrd ⊢
 have kQ:=af hrd
 have HE:=af hE
 have rY:=hb2.tr2 hb3
 have hs3:=rY.size
 clear eB hrd hE
 generalize lI s.data.toList=n at *
 go_wp2_with fail
 refine (IX 128 7 n 127 w3 Jz (by omega) rfl (by omega)).mono ?_
 rintro e w4 ⟨v4,rfl,fT,hb4⟩
 have tq:=af fT
 have hp7:=(vD 128 127 n).1
 have hw4:=rY.tr2 hb4
 have oZ:=hw4.size
 have PV:=hb4.size
 clear fT
 go_wp2_with (at_builtin;refine dQ (.tmp 14) (.tmp 15) iT rfl rfl tq.out rfl (kQ.out.below hb4 (ah _)) rfl (kZ _) (bn (by omega)) (by omega) PV ?_;intro v5 w5 bZ dR _)
 go_ret
 refine⟨v5,rfl,?_,Below.app hw4 tq.out dR hs3 oZ⟩
 rw[HT.out]
 exact ZJ (by rw[HE.out];exact bZ) hs3
theorem ah0 (s:ByteArray) (w:World) (hs:s.size≤1048576) (hlt:s.size≤lI s.data.toList) :
 Calls Tryz.prog 53 #[.string s] w (jV w (kW s.data.toList)):=by
 have hT:=VY (l:=s.data.toList) (by rw[gJ];exact hlt)
 rw[gJ] at hT
 have HT:=af hT
 clear hT
 have HL:=af (gJ s)
 obtain⟨i0,hi,hz0,hz1,hz2⟩:=info_parts aeV
 go_enter Tryz.func53,Tryz.ntmps53
 go_wp2_with fail
 refine (Tp s w hs).mono ?_
 rintro e w2 ⟨rfl,hb2⟩
 have hs2:=hb2.size
 go_wp2_with fail
 refine (IX 0 7 s.size 127 w2 Jz (by omega) rfl (by omega)).mono ?_
 rintro e w4 ⟨v4,rfl,fT,hb4⟩
 have tq:=af fT
 have hp7:=(vD 0 127 s.size).1
 have hw4:=hb2.tr2 hb4
 have oZ:=hw4.size
 have PV:=hb4.size
 clear fT
 go_wp2_with (at_builtin;refine Lib.wpList_append_own_string _ rfl (.tmp 20) (.tmp 21) 48 9 rfl w2.heap.size 5 i0 Tryz.underlying48 Tryz.underlying9 hi hz0 hz1 hz2 _ _ _ rfl tq.out s rfl (bn (by omega)) (by omega) PV ?_;intro v5 w5 bZ dR _)
 go_ret
 refine⟨v5,rfl,?_,Below.app hw4 tq.out dR hs2 oZ⟩
 rw[HT.out]
 exact ZJ (by rw[HL.out];exact bZ) hs2
theorem IW (s:ByteArray) (w:World) (hs:s.size≤1048576):Calls Tryz.prog 53 #[.string s] w (jV w (kW s.data.toList)):=by
 by_cases h:lI s.data.toList<s.size
 ·exact ahZ s w hs h
 ·exact ah0 s w hs (by omega)
end
section
open Go.RowKit
def Dy (w:World) (e:Nat) (told:Int):Prop:=w.heap[e]?=some (.cells #[.int .i64 0,.int .i64 told,.int .i64 0,.int .i64 0,.slice none 0 0] 113 (0,0))
def T0:Tb:=⟨0,0,[]⟩
def E0:vJ:=⟨0,4096,0,T0⟩
theorem aal (w:World):Calls Tryz.prog 16 #[.int .i64 0] w fun e w'=>e = .returned (.pointer (some ⟨w.heap.size,0,none⟩))∧Dy w' w.heap.size 4096∧Below w.heap.size w w':=by
 have hn:=aZ w (.cells #[.int .i64 0,.int .i64 4096,.int .i64 0,.int .i64 0,.slice none 0 0] 113)
 have HN:=af hn
 clear hn
 go_enter Tryz.func16,Tryz.ntmps16
 go_wp2_with fail
 go_ret
 exact⟨rfl,HN.out,(Below.refl _ _).alloc (ah _) _⟩
def WM (w:World) (e n:Nat) (l:List Fd) (ov iv:Value) (wr:World):Prop:=
 ∃k:Nat,iv = .int .i64 (k:Nat)∧k≤n∧b_ wr w.heap.size ov (32 :: (eH T0 (l.take k)).1)∧Dy wr e 0∧Kept (fun b=>b=e) w wr
theorem X_:∀(l:List Fd),(eH T0 l).2=T0∧∀r,(eH T0 (l++r)).1=(eH T0 l).1++(eH T0 r).1
 | []=>⟨rfl,fun r=>rfl⟩
 | f :: l=>by
  have h0:(jy T0 f).2=T0:=by
   unfold jy
   split
   ·rfl
   ·split
    ·rfl
    ·rw[ax]
     ·show (0:Int)<(cost f.1:Int)
      unfold cost;omega
  obtain⟨h1,h2⟩:=X_ l
  refine⟨?_,fun r=>?_⟩
  ·show (eH (jy T0 f).2 l).2=T0
   rw[h0,h1]
  ·show (jy T0 f).1++(eH (jy T0 f).2 (l++r)).1=((jy T0 f).1++(eH (jy T0 f).2 l).1)++(eH T0 r).1
   rw[h0,h2,jf]
theorem ad1 {l:List Fd}{k:Nat}{f:Fd}(h:l[k]?=some f):(eH T0 (l.take (k+1))).1=(eH T0 (l.take k)).1++(jy T0 f).1:=by
 rw[iw,h,iL,(X_ _).2]
 show _++((jy T0 f).1++[])=_
 rw[kR]
end
end Go.Proofs.YtpkmciohehaboaaGreatDoor
