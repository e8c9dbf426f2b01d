/- Part 24 of the proof. -/
import Derived.Test.YtpkmciohehaboaaGreatDoorK0
import Derived.Test.YtpkmciohehaboaaGreatDoorK23
set_option maxRecDepth 100000
set_option maxHeartbeats 100000000
set_option linter.unusedVariables false
set_option linter.unusedSimpArgs false
set_option linter.unusedSectionVars false
set_option linter.unnecessarySimpa false
namespace Go.Proofs.YtpkmciohehaboaaGreatDoor
section
open Go.RowKit Go.Maps
def bL (b:ByteArray):Fr:=⟨0,1,1,b,0⟩
def xN (b:ByteArray):Hp:=⟨3,1,⟨#[]⟩,⟨#[]⟩,⟨#[]⟩,⟨#[]⟩,.slice none 0 0,b,true,0⟩
section
variable {B p s k N M hk n g m nn nc:Nat} {c:Cv} {f:Int→Option (Option Nat)} {hf:Int→Option Int} {said:Int} {told:Bool} {xs bs cls:List Value} {all first:Int} {L:List (Int×Int)} {cs:List dx}
theorem V9 (b:Nat) (st:Nat) (w:World) (hb:b≤10000) (hst:st≤1) (hn:n≤900000) (h:All B w (aK p c :: aD 5 1 c.bytes n xs :: cs)) :
 Calls Tryz.prog 49 #[.pointer (some ⟨p,0,none⟩),ou ⟨8,0,st,none,0,0,0,0,b⟩] w (Left B w fun w'=>∃v n' xs',n'≤n+4+9∧All B w' (aK p { c with bytes:=v } :: aD 5 1 v n' xs' :: cs)):=by
 have hok:BH ⟨8,0,st,none,0,0,0,0,b⟩ []:=⟨.inr (.inr (.inr ⟨rfl,⟨rfl,rfl,rfl⟩,rfl,rfl⟩)),.inl rfl,by show st≤_;omega,aL _,aL _,by show b≤_;omega,aL _,rfl,fun s hs=>by cases hs⟩
 have hrd:∀(w:World) (B:Nat),Rd w B 2 none 0 (rE []):=fun w B=>⟨rfl,fun h=>absurd h (Ce 0)⟩
 exact Nh (M:=4) ⟨8,0,st,none,0,0,0,0,b⟩ [] w h hok (hrd _ _) (by omega) (fun w' _=>ZO _ [] w' hok (.inr rfl)) (by omega)
theorem adz (b:ByteArray) (w:World) (h:All B w (aK p c :: aD 5 1 c.bytes n bs :: aH aV c.live N f k :: aH bX c.how M hf hk :: cs)) (hl:c.last=1) (g_:f 1=none) (hf2:hf 1=some 5) (hn:n≤900000) (hb:b.size≤10000) :
 Calls Tryz.prog 134 #[.pointer (some ⟨p,0,none⟩),gF (bL b)] w (Left B w fun w'=>∃v n' bs',All B w' (aK p { c with bytes:=v } :: aD 5 1 v n' bs' :: aH aV c.live N f k :: aH bX c.how M hf hk :: cs)):=by
 obtain⟨W0,hW0⟩:∃W0,w.alloc (.cells (bL b).cells 52)=W0:=⟨_,rfl⟩
 have fQ:=gV h (bL b).cells 52
 have lY:Below B w W0:=by rw[←hW0];exact (Below.refl _ _).alloc h.sz _
 obtain⟨x,hx⟩:∃x,w.heap.size=x:=⟨_,rfl⟩
 rw[hW0,hx] at fQ
 have bE:=af (fQ.pick [_])
 have dW:=af lY
 have HX:=af hx
 have dY:=af hW0
 have je:W0.heap[x]?=some (.cells (bL b).cells 52 (0,0)):=fQ.head
 have Ca:=af (fD.of je)
 have HC:=af (fun w=>Ig 5 0 0 0 true w (by omega) (by omega) rfl rfl (by omega))
 rw[show Bu (Be ((5:Nat):Int) 0 true) = .agg #[.int .i64 5,.bool true,.bool false,.int .i64 0,.bool false] from rfl] at HC
 have HST:=af (MX W0 (((bE.out.pick [_,_,_,_]).pick [_,_,_,_]).pick [_,_]) hl g_ hf2)
 have HH:=af (And.intro hl (And.intro g_ (And.intro hf2 hn)))
 clear h hW0 hx je fQ lY hl g_ hf2 hn
 unfold gF
 simp only[Fr.cells,bL] at bE dY ⊢
 go_enter Tryz.func134,Tryz.ntmps134
 go_upto_region 1 with fail
 refine bI ?_
 intro W3 hW3
 obtain rfl:W3=W0:=hW3.trans dY.out
 rw[HX.out]
 clear hW3
 obtain⟨k0,k1,k2,k3,k4,k5,k6,k7,k8,k9,bS,bN,-⟩:=Ca.out
 simp only[bL] at k0 k1 k2 k3 k4 k5 k6 k7 k8 k9 bS bN
 obtain⟨z,hz⟩:∃z,b.size=z:=⟨_,rfl⟩
 have HZ:=af hz
 have hzb:z≤10000:=by omega
 go_wp2_with fail
 refine HST.out.mono ?_
 rintro e w1 ⟨rfl,rfl⟩
 go_wp2_with fail
 refine (HC.out _).mono ?_
 rintro e w2 ⟨rfl,hb2⟩
 have dA:=bE.out.below hb2
 have tY:=dW.out.trans (hb2.mono bE.out.sz)
 clear k0 k1 k2 k3 k4 k5 k6 k7 k8 k9 bS bN
 have bY:=af dA
 have aI:=af tY
 clear dA tY hb2 hz
 go_upto_region 6 with (first
  | (refine wpList_store_rowTo rfl 229 (.tmp 6) (.tmp 29) rfl rfl w2.heap.size #[.int .i64 0,.bool false,.bool false,.int .i64 0,.bool false] rfl rfl 229 _ (aZ _ _) Bo rfl (by simp[Value.oneCell']) ?_))
 refine bI ?_
 intro W4 bA
 have dN:=gV bY.out #[.int .i64 5,.bool true,.bool false,.int .i64 0,.bool false] 229
 rw[←bA] at dN
 have lC:Below B w W4:=by rw[bA];exact aI.out.alloc bY.out.sz _
 obtain⟨mv,iG⟩:∃mv,w2.heap.size=mv:=⟨_,rfl⟩
 rw[iG] at dN ⊢
 have aX:=af dN
 have dz:=af lC
 clear dN lC bA iG
 have hm:W4.heap[mv]?=some (.cells #[.int .i64 5,.bool true,.bool false,.int .i64 0,.bool false] 229 (0,0)):=aX.out.head
 have m0:W4.cell? ⟨mv,0,none⟩=some (#[.int .i64 5,.bool true,.bool false,.int .i64 0,.bool false]:Array Value)[0]:=by unfold World.cell?;rw[hm];rfl
 have m1:W4.cell? ⟨mv,1,none⟩=some (#[.int .i64 5,.bool true,.bool false,.int .i64 0,.bool false]:Array Value)[1]:=by unfold World.cell?;rw[hm];rfl
 have m2:W4.cell? ⟨mv,2,none⟩=some (#[.int .i64 5,.bool true,.bool false,.int .i64 0,.bool false]:Array Value)[2]:=by unfold World.cell?;rw[hm];rfl
 have m3:W4.cell? ⟨mv,3,none⟩=some (#[.int .i64 5,.bool true,.bool false,.int .i64 0,.bool false]:Array Value)[3]:=by unfold World.cell?;rw[hm];rfl
 have m4:W4.cell? ⟨mv,4,none⟩=some (#[.int .i64 5,.bool true,.bool false,.int .i64 0,.bool false]:Array Value)[4]:=by unfold World.cell?;rw[hm];rfl
 dsimp only[List.getElem_toArray,List.getElem_cons_zero,List.getElem_cons_succ] at m0 m1 m2 m3 m4
 clear hm
 by_cases hz0:z=0
 ·have t1:¬((z:Nat):Int) > 0:=by omega
  have fA:=aX.out.aP [5,5,5,5,5,5]
  have hm:W4.heap[mv]?=some (.cells #[.int .i64 5,.bool true,.bool false,.int .i64 0,.bool false] 229 (0,0)):=fA.head
  have m1:W4.cell? ⟨mv,1,none⟩=some (#[.int .i64 5,.bool true,.bool false,.int .i64 0,.bool false]:Array Value)[1]:=by unfold World.cell?;rw[hm];rfl
  have m2:W4.cell? ⟨mv,2,none⟩=some (#[.int .i64 5,.bool true,.bool false,.int .i64 0,.bool false]:Array Value)[2]:=by unfold World.cell?;rw[hm];rfl
  have m0:W4.cell? ⟨mv,0,none⟩=some (#[.int .i64 5,.bool true,.bool false,.int .i64 0,.bool false]:Array Value)[0]:=by unfold World.cell?;rw[hm];rfl
  dsimp only[List.getElem_toArray,List.getElem_cons_zero,List.getElem_cons_succ] at m0 m1 m2
  clear hm fA
  have fE:=aX.out.aP [5,5,5,4,4,5]
  obtain⟨k0,k1,k2,k3,k4,k5,k6,k7,k8,k9,bS,bN,-⟩:=fD.of (f:=bL b) fE.head
  simp only[bL] at k0 k1 k2 k3 k4 k5 k6 k7 k8 k9 bS bN
  clear fE
  have hs:=aX.out.aP [3,3,2,5,5,5]
  have zN:=af (Zq W4 hs HH.out.1 HH.out.2.1 HH.out.2.2.1)
  clear hs
  go_wp2_with fail
  refine zN.out.mono ?_
  rintro e w9 ⟨⟨v9,rfl⟩,dB⟩
  have iq:=af (dz.out.trans (dB.mono aX.out.sz))
  have eF:=af (aX.out.below dB)
  clear dB zN m0 m1 m2 k0 k1 k2 k3 k4 k5 k6 k7 k8 k9 bS bN
  go_wp2_with fail
  go_end0
  have hf:=eF.out.aP [5,5,5,4,5,5]
  exact⟨rfl,iq.out,c.bytes,n,bs,hf.tail.tail⟩
 ·have t1:((z:Nat):Int) > 0:=by omega
  have hw:=aX.out.aP [5,5,4,3,5,5]
  have zP:=af (V9 z 0 W4 hzb (by omega) HH.out.2.2.2 hw)
  clear hw
  go_wp2_with fail
  refine zP.out.mono ?_
  rintro e w5 ⟨rfl,aT,v5,n5,bs5,-,iN⟩
  have bT:=af iN
  have eG:=af (dz.out.trans aT)
  clear iN aT zP m0 m1 m2 m3 m4
  have fA:=bT.out.aP [5,5,5,4,4,5]
  have hm:w5.heap[mv]?=some (.cells #[.int .i64 5,.bool true,.bool false,.int .i64 0,.bool false] 229 (0,0)):=fA.head
  have m1:w5.cell? ⟨mv,1,none⟩=some (#[.int .i64 5,.bool true,.bool false,.int .i64 0,.bool false]:Array Value)[1]:=by unfold World.cell?;rw[hm];rfl
  have m2:w5.cell? ⟨mv,2,none⟩=some (#[.int .i64 5,.bool true,.bool false,.int .i64 0,.bool false]:Array Value)[2]:=by unfold World.cell?;rw[hm];rfl
  have m0:w5.cell? ⟨mv,0,none⟩=some (#[.int .i64 5,.bool true,.bool false,.int .i64 0,.bool false]:Array Value)[0]:=by unfold World.cell?;rw[hm];rfl
  dsimp only[List.getElem_toArray,List.getElem_cons_zero,List.getElem_cons_succ] at m0 m1 m2
  clear hm fA
  have fE:=bT.out.aP [5,5,4,4,4,5]
  obtain⟨k0,k1,k2,k3,k4,k5,k6,k7,k8,k9,bS,bN,-⟩:=fD.of (f:=bL b) fE.head
  simp only[bL] at k0 k1 k2 k3 k4 k5 k6 k7 k8 k9 bS bN
  clear fE
  have hs:=bT.out.aP [3,3,3,5,5,5]
  have zN:=af (Zq w5 hs HH.out.1 HH.out.2.1 HH.out.2.2.1)
  clear hs
  go_wp2_with fail
  refine zN.out.mono ?_
  rintro e w9 ⟨⟨v9,rfl⟩,dB⟩
  have iq:=af (eG.out.trans (dB.mono bT.out.sz))
  have eF:=af (bT.out.below dB)
  clear dB zN m0 m1 m2 k0 k1 k2 k3 k4 k5 k6 k7 k8 k9 bS bN
  go_wp2_with fail
  go_end0
  have hf:=eF.out.aP [5,5,3,3,5,5]
  exact⟨rfl,iq.out,v5,n5,bs5,hf.tail.tail⟩
end
end
section
open Go.RowKit Go.Maps
def l6 (b:ByteArray):Fr:=⟨1,0,1,b,0⟩
def lW (b:ByteArray):Fr:=⟨9,4,1,b,0⟩
def toF (b1 b2 body:ByteArray):List (Fr×Bool):=[(gI,false),(l6 b1,false),(lW b2,false),(bL body,false)]
def G_:Tb:=⟨min 4096 4096,0,[]⟩
theorem OO (f:Fr) (hty:f.ty=0∨f.ty=1∨f.ty=9) (hfl:f.fl=0∨f.fl=1∨f.fl=4) (hst:f.st=1) (wI:f.pad=0) (hd:f.data.size≤16000):BI 16384 (f,false):=by
 left
 have h8:Go.bits .and .i64 (f.fl:Int) 8=0:=by rcases hfl with h | h | h <;> rw[h] <;> kernel_rfl
 have h32:Go.bits .and .i64 (f.fl:Int) 32=0:=by rcases hfl with h | h | h <;> rw[h] <;> kernel_rfl
 have hl:=Kv f false
 refine⟨⟨hty,by show f.fl<256;omega,by show f.st≤_;omega,by show f.pad≤_;omega,fun _=>wI,fun _=>wI,h8,fun _=>h32,by show f.data.size≤_;omega⟩,(fun h=>by cases h),by show 0<f.st;omega,by show (dG f false).length≤_;omega⟩
theorem ai_ {b1 b2 body:ByteArray}(h1:b1.size≤16000) (h2:b2.size≤16000) (h3:body.size≤10000):∀p ∈ toF b1 b2 body,BI 16384 p:=by
 intro p hp
 simp only[toF,qG,xm,or_false] at hp
 rcases hp with rfl | rfl | rfl | rfl
 ·exact .inr rfl
 ·exact OO _ (.inr (.inl rfl)) (.inl rfl) rfl rfl h1
 ·exact OO _ (.inr (.inr rfl)) (.inr (.inr rfl)) rfl rfl h2
 ·exact OO _ (.inl rfl) (.inr (.inl rfl)) rfl rfl (by show body.size≤_;omega)
theorem ajd (b1 b2 body:ByteArray):strm (toF b1 b2 body)=bD gI false++(bD (l6 b1) false++bD (lW b2) false++bD (bL body) false):=by simp[strm,toF]
theorem V5 (b:ByteArray) (hb:b.size≤1048576):Kn (l6 b)∧Kn (lW b)∧Kn (bL b):=
 ⟨⟨.inr (.inl ⟨rfl,rfl⟩),ah _,rfl,(fun h=>by cases h),hb⟩,⟨.inr (.inr (.inl ⟨rfl,rfl⟩)),ah _,rfl,(fun h=>by cases h),hb⟩,⟨.inr (.inr (.inr (.inl ⟨rfl,rfl⟩))),ah _,rfl,(fun h=>by cases h),hb⟩⟩
theorem agh {l:List Fd}(hs:jZ l≤10000) (hf:∀f ∈ l,f.1.1.size≤4096∧f.1.2.size≤4096):∃T',sH 4096 65536 G_ (E0.run l).1=(l.map told,0,some T'):=by
 have hp:FU E0 G_:=FU.new (own:=0) (mo:=4096) (by omega) (by omega) (by omega)
 have h:=(acV (mo:=4096) (li:=65536) hp (by decide) (by omega) hf).1
 rw[aj (by omega)] at h
 exact⟨_,h⟩
end
section
open Go.RowKit Go.Maps
theorem agS {B p nb:Nat}{c:Cv}{cs:List dx}{l0:List UInt8}(fr:Fr) (w:World)
 (h:All B w (aK p c :: aD 5 1 c.block nb (ak l0) :: cs)) (hfr:fr.fl=0) (hnb:nb+fr.data.size≤65536) :
 Calls Tryz.prog 140 #[.pointer (some ⟨p,0,none⟩),gF fr] w (Left B w fun w'=>∃v,All B w' (aK p { c with block:=v } :: aD 5 1 v (nb+fr.data.size) (ak (l0++fr.data.data.toList)) :: cs)):=by
 obtain⟨W0,hW0⟩:∃W0,w.alloc (.cells fr.cells 52)=W0:=⟨_,rfl⟩
 have fQ:=gV h fr.cells 52
 have lY:Below B w W0:=by rw[←hW0];exact (Below.refl _ _).alloc h.sz _
 obtain⟨x,hx⟩:∃x,w.heap.size=x:=⟨_,rfl⟩
 rw[hW0,hx] at fQ
 have DU:=fQ.pick [_,_]
 have bE:=af (DU.pick [_,_])
 have dW:=af lY
 have HX:=af hx
 have je:W0.heap[x]?=some (.cells fr.cells 52 (0,0)):=fQ.head
 have k3:W0.cell? ⟨x,3,none⟩=some (.string fr.data):=by unfold World.cell?;rw[je];rfl
 have nW:=af k3
 clear fQ DU lY hx je k3
 obtain⟨ty,fl,st,data,pad⟩:=fr
 dsimp only at hfr hnb nW
 unfold gF
 simp only[Fr.cells] at hW0 bE ⊢
 have dY:=af hW0
 have BN:=af hfr
 have HO:=af (And.intro hnb trivial)
 clear h hW0 hfr hnb
 go_enter Tryz.func140,Tryz.ntmps140
 go_upto_region 1 with fail
 refine bI ?_
 intro W3 hW3
 obtain rfl:W3=W0:=hW3.trans dY.out
 rw[HX.out]
 clear hW3
 --Ia
 refine wp_region_held_drew (S:=fun w'=>w'.cell? ⟨x,3,none⟩=some (.string data)) (by kernel_rfl) (nW.out) (fun hH=>?_)
 refine ag 0 8 hH ?_
 refine ag 1 9 hH ?_
 refine ag 2 10 hH ?_
 refine ag 3 11 hH ?_
 refine ag 5 13 hH ?_
 refine ag 6 14 hH ?_
 have hrow:=(bE.out.pick [_]).head
 obtain⟨A0,nI,hv0,-,-,-,-⟩:=aC hrow
 have yx:=af hrow
 have j4:=af hv0
 have nU:W3.cell? ⟨p,13,none⟩=some (.slice A0 nb nI):=by have h:=bE.out.cc 13 c.block rfl;rwa [hv0] at h
 have Ji:=af nU
 have sj:∀b,c.block.ownBlock=some b→b≠x:=fun b hb e=>by subst e;exact (List.pairwise_cons.1 (bE.out.pick [_]).apart).1 _ (fH _ (iK ..)) b hb rfl
 have mO:=af sj
 have hpx:p≠x:=fun e=>by subst e;exact (List.pairwise_cons.1 bE.out.apart).1 _ (fH _ (iK ..)) p rfl rfl
 have nY:=af hpx
 clear hrow hv0 sj hpx
 refine aR 4 (fun K hK=>?_)
 go_simp
 refine hK.out _ _ (nW.out) (fun hH=>?_)
 clear hK K
 try simp only[Act.put,az,ay,aA]
 refine rdZq (o:=⟨some 15,_,_,_,_,_⟩) 7 rfl (fun K hK=>?_)
 have JH:nb+data.size≤1099511627776:=by have:=HO.out.1;omega
 have hrow2:W3.drew.ownsRow 0 5 1 (.slice A0 nb nI) nb (ak l0):=by have h:W3.ownsRow 0 5 1 c.block nb (ak l0):=yx.out;rwa [j4.out] at h
 refine VP (.tmp 12) (.tmp 14) (by rfl) (by rfl) (by rfl) hrow2 data (by rfl) JH (aL _) ?_
 intro v3 w3 eB hg3 hb3
 rw[←j4.out] at hg3 hb3
 obtain⟨gp,gP⟩:=(bE.out.drew.pick [_]).app eB hg3 hb3
 have bJ:=af (gp.pick [_])
 have aM:Hid (Below B w w3):=af ((dW.out.trans (by exact⟨rfl,rfl,rfl,ah _,fun _ _=>rfl⟩:Below B W3 W3.drew)).trans gP)
 obtain⟨A3,c3,hv3,-,-,-,-⟩:=aC eB
 subst hv3
 have hxl:=(Array.getElem?_eq_some_iff.1 (show W3.heap[x]?=some _ from (bE.out.pick [_]).tail.here _ (fH _ (iK ..)))).1
 have hk3:w3.cell? ⟨x,3,none⟩=some (.string data):=(hg3.cell_far _ hxl (fun e1=>mO.out x e1.symm rfl)).trans nW.out
 have Dl:=af hk3
 have nU:=bJ.out.cc 13 c.block rfl
 rw[j4.out] at nU
 have f13:=bJ.out.cf 13
 clear eB hg3 hb3 gp gP hrow2 hxl hk3
 refine hK.out _ _ (Dl.out) (fun hH=>?_)
 clear hK K
 try simp only[Act.put,az,ay,aA]
 refine ag 8 16 hH ?_
 refine ag 9 17 hH ?_
 refine aR 10 (fun K hK=>?_)
 go_simp
 obtain⟨h1,h2⟩:=bJ.out.set 13 (.slice A3 (nb+data.size) c3)
 refine gT ?_
 intro W4 bA
 rw[←bA] at h1 h2
 have aX:Hid (All B W4 (aK p { c with block:=.slice A3 (nb+data.size) c3 } :: _)):=af h1
 have dz:=af (aM.out.trans h2)
 have hk4:W4.cell? ⟨x,3,none⟩=some (.string data):=by rw[bA];exact (World.cell?_setCell_far w3 ⟨p,13,none⟩ ⟨x,3,none⟩ _ nY.out).trans Dl.out
 have HK4:=af hk4
 clear h1 h2 bA hk4
 refine hK.out _ _ (HK4.out) (fun hH=>?_)
 clear hK K
 try simp only[Act.put,az,ay,aA]
 refine wpAnyH_done (by kernel_rfl) ?_ _
 have je:W4.heap[x]?=some _:=(aX.out.pick [_,_]).head
 have k1:W4.cell? ⟨x,1,none⟩=some (.int .i64 fl):=by unfold World.cell?;rw[je];rfl
 have nU:=aX.out.cc 13 (.slice A3 (nb+data.size) c3) rfl
 have hlen:((nb+data.size:Nat):Int)≤65536:=by have:=HO.out.1;omega
 rw[BN.out] at k1
 clear je
 go_wp2_with fail
 go_end0
 have h1:=(aX.out.pick [_,_]).tail
 rw[←mU] at h1
 exact⟨rfl,dz.out,_,h1⟩
theorem agR {B p d ND nb:Nat}{c:Cv}{G:Nat→Prop}{mo li:Int}{T T':Tb}{cs:List dx}{l0:List UInt8}{l:List Fd}{Q:World→Prop}(fr:Fr) (w:World)
 (h:All B w (aK p c :: aD 5 1 c.block nb (ak l0) :: mV d G ND mo li T false :: cs))
 (hfr:fr.fl=5∨fr.fl=4) (mG:c.dec = .pointer (some ⟨d,0,none⟩)) (oW:c.last<c.cu)
 (hnb:nb+fr.data.size≤65536) (hmo:mo≤65536) (DY:ND+65536≤1099511627776) (hout:sH mo li T (l0++fr.data.data.toList)=(l,0,some T'))
 (hbg:∀(w6:World) (A6:Option Addr) (c6:Nat) (G6:Nat→Prop),All B w6 (aK p { c with block:=.slice none 0 0,cu:=0 } :: aD 26 3 (.slice A6 l.length c6) l.length (fds l) :: mV d G6 (ND+(nb+fr.data.size)) mo li T' false :: cs) →
  Calls Tryz.prog 170 #[.pointer (some ⟨p,0,none⟩),.int .i64 c.cu,.slice A6 l.length c6,.bool false] w6 (Left B w6 Q)) :
 Calls Tryz.prog 140 #[.pointer (some ⟨p,0,none⟩),gF fr] w (Left B w Q):=by
 obtain⟨W0,hW0⟩:∃W0,w.alloc (.cells fr.cells 52)=W0:=⟨_,rfl⟩
 have fQ:=gV h fr.cells 52
 have lY:Below B w W0:=by rw[←hW0];exact (Below.refl _ _).alloc h.sz _
 obtain⟨x,hx⟩:∃x,w.heap.size=x:=⟨_,rfl⟩
 rw[hW0,hx] at fQ
 have DU:=fQ.pick [_,_]
 have bE:=af (DU.pick [_,_])
 have dW:=af lY
 have HX:=af hx
 have je:W0.heap[x]?=some (.cells fr.cells 52 (0,0)):=fQ.head
 have k3:W0.cell? ⟨x,3,none⟩=some (.string fr.data):=by unfold World.cell?;rw[je];rfl
 have nW:=af k3
 clear fQ DU lY hx je k3
 obtain⟨ty,fl,st,data,pad⟩:=fr
 dsimp only at hfr hnb hout hbg nW
 unfold gF
 simp only[Fr.cells] at hW0 bE ⊢
 have dY:=af hW0
 have BN:=af hfr
 have HD:=af (And.intro mG oW)
 have HO:=af (And.intro hnb (And.intro hmo (And.intro DY hout)))
 have HBN:=af hbg
 clear h hW0 hfr mG oW hnb hmo DY hout hbg
 go_enter Tryz.func140,Tryz.ntmps140
 go_upto_region 1 with fail
 refine bI ?_
 intro W3 hW3
 obtain rfl:W3=W0:=hW3.trans dY.out
 rw[HX.out]
 clear hW3
 --Ia
 refine wp_region_held_drew (S:=fun w'=>w'.cell? ⟨x,3,none⟩=some (.string data)) (by kernel_rfl) (nW.out) (fun hH=>?_)
 refine ag 0 8 hH ?_
 refine ag 1 9 hH ?_
 refine ag 2 10 hH ?_
 refine ag 3 11 hH ?_
 refine ag 5 13 hH ?_
 refine ag 6 14 hH ?_
 have hrow:=(bE.out.pick [_]).head
 obtain⟨A0,nI,hv0,-,-,-,-⟩:=aC hrow
 have yx:=af hrow
 have j4:=af hv0
 have nU:W3.cell? ⟨p,13,none⟩=some (.slice A0 nb nI):=by have h:=bE.out.cc 13 c.block rfl;rwa [hv0] at h
 have Ji:=af nU
 have sj:∀b,c.block.ownBlock=some b→b≠x:=fun b hb e=>by subst e;exact (List.pairwise_cons.1 (bE.out.pick [_]).apart).1 _ (fH _ (iK ..)) b hb rfl
 have mO:=af sj
 have hpx:p≠x:=fun e=>by subst e;exact (List.pairwise_cons.1 bE.out.apart).1 _ (fH _ (iK ..)) p rfl rfl
 have nY:=af hpx
 clear hrow hv0 sj hpx
 refine aR 4 (fun K hK=>?_)
 go_simp
 refine hK.out _ _ (nW.out) (fun hH=>?_)
 clear hK K
 try simp only[Act.put,az,ay,aA]
 refine rdZq (o:=⟨some 15,_,_,_,_,_⟩) 7 rfl (fun K hK=>?_)
 have JH:nb+data.size≤1099511627776:=by have:=HO.out.1;omega
 have hrow2:W3.drew.ownsRow 0 5 1 (.slice A0 nb nI) nb (ak l0):=by have h:W3.ownsRow 0 5 1 c.block nb (ak l0):=yx.out;rwa [j4.out] at h
 refine VP (.tmp 12) (.tmp 14) (by rfl) (by rfl) (by rfl) hrow2 data (by rfl) JH (aL _) ?_
 intro v3 w3 eB hg3 hb3
 rw[←j4.out] at hg3 hb3
 obtain⟨gp,gP⟩:=(bE.out.drew.pick [_]).app eB hg3 hb3
 have bJ:=af (gp.pick [_])
 have aM:Hid (Below B w w3):=af ((dW.out.trans (by exact⟨rfl,rfl,rfl,ah _,fun _ _=>rfl⟩:Below B W3 W3.drew)).trans gP)
 obtain⟨A3,c3,hv3,-,-,-,-⟩:=aC eB
 subst hv3
 have hxl:=(Array.getElem?_eq_some_iff.1 (show W3.heap[x]?=some _ from (bE.out.pick [_]).tail.here _ (fH _ (iK ..)))).1
 have hk3:w3.cell? ⟨x,3,none⟩=some (.string data):=(hg3.cell_far _ hxl (fun e1=>mO.out x e1.symm rfl)).trans nW.out
 have Dl:=af hk3
 have nU:=bJ.out.cc 13 c.block rfl
 rw[j4.out] at nU
 have f13:=bJ.out.cf 13
 clear eB hg3 hb3 gp gP hrow2 hxl hk3
 refine hK.out _ _ (Dl.out) (fun hH=>?_)
 clear hK K
 try simp only[Act.put,az,ay,aA]
 refine ag 8 16 hH ?_
 refine ag 9 17 hH ?_
 refine aR 10 (fun K hK=>?_)
 go_simp
 obtain⟨h1,h2⟩:=bJ.out.set 13 (.slice A3 (nb+data.size) c3)
 refine gT ?_
 intro W4 bA
 rw[←bA] at h1 h2
 have aX:Hid (All B W4 (aK p { c with block:=.slice A3 (nb+data.size) c3 } :: _)):=af h1
 have dz:=af (aM.out.trans h2)
 have hk4:W4.cell? ⟨x,3,none⟩=some (.string data):=by rw[bA];exact (World.cell?_setCell_far w3 ⟨p,13,none⟩ ⟨x,3,none⟩ _ nY.out).trans Dl.out
 have HK4:=af hk4
 clear h1 h2 bA hk4
 refine hK.out _ _ (HK4.out) (fun hH=>?_)
 clear hK K
 try simp only[Act.put,az,ay,aA]
 refine wpAnyH_done (by kernel_rfl) ?_ _
 have je:W4.heap[x]?=some _:=(aX.out.pick [_,_]).head
 have k1:W4.cell? ⟨x,1,none⟩=some (.int .i64 fl):=by unfold World.cell?;rw[je];rfl
 have nU:=aX.out.cc 13 (.slice A3 (nb+data.size) c3) rfl
 have GZ:=aX.out.cc 14 (.int .i64 c.cu) rfl
 have hlen:((nb+data.size:Nat):Int)≤65536:=by have:=HO.out.1;omega
 clear je
 go_upto_region 4 with fail
 go_cut [29] (fun y wx=>y = .bool false∧wx=W4)
 case first=>
  rcases BN.out with rfl | rfl
  ·go_wp2_with fail
   go_meet
   exact⟨rfl,rfl⟩
  ·go_wp2_with fail
   go_meet
   exact⟨rfl,rfl⟩
 case rest=>
 obtain⟨rfl,hwc⟩:=hcut
 subst hwc
 go_upto_region 5 with fail
 go_region
 go_upto_region 6 with fail
 have f13:=aX.out.cf 13
 have f14:=aX.out.cf 14
 go_upto_region 7 with fail
 refine bI ?_
 intro W5 kg
 obtain⟨iN,DV⟩:=aX.out.set 14 (.int .i64 0)
 obtain⟨iy,iW⟩:=iN.set 13 (.slice none 0 0)
 have tX:=iy.drew
 rw[←kg] at tX
 have aT:Below B w W5:=by rw[kg];exact ((dz.out.trans DV).trans iW).trans (by exact⟨rfl,rfl,rfl,ah _,fun _ _=>rfl⟩)
 have bT:Hid (All B W5 (aK p { c with block:=.slice none 0 0,cu:=0 } :: aD 5 1 (.slice A3 (nb+data.size) c3) (nb+data.size) (ak l0++ak data.data.toList) :: bg x #[.int .i64 ty,.int .i64 fl,.int .i64 st,.string data,.int .i64 pad,.slice none 0 0,.int .i64 0,.int .i64 0,.int .i64 0,.int .i64 0,.int .i64 0,.bool false] 52 :: mV d G ND mo li T false :: cs)):=af tX
 have eG:=af aT
 clear iN iy tX DV iW aT kg f13 f14 nU GZ k1
 have q5:W5.cell? ⟨p,5,none⟩=some (.pointer (some ⟨d,0,none⟩)):=by rw[←HD.out.1];exact bT.out.cc 5 c.dec rfl
 have hrow:=(bT.out.pick [_]).head
 have hdc:pK W5 d G ND mo li T false:=(bT.out.pick [_,_,_]).head
 have hrow2:W5.ownsRow 0 5 1 (.slice A3 (nb+data.size) c3) (nb+data.size) (ak (l0++data.data.toList)):=by rw[mU];exact hrow
 obtain⟨A3',xx,he,hcap,hmax,hrd,-⟩:=aC hrow2
 obtain⟨rfl,rfl⟩:A3=A3'∧c3=xx:=by injection he with h1 h2 h3;exact⟨h1,h3⟩
 have hap:∀a,A3=some a→¬G a.block:=fun a ha=>by
  have h1:=(List.pairwise_cons.1 (bT.out.pick [_]).apart).1 _ (fH _ (fH _ (iK ..))) a.block (by
   subst ha
   rcases hrow2.2 with ⟨h1,-⟩ | ⟨gg,cap,cur,h1,h2⟩
   ·cases h1
   ·injection h1 with h1 h3 h4
    injection h1 with h1
    subst h1
    rfl)
  exact h1
 have HDC:=af (X5 (cap:=c3) W5 hdc hrd hcap hmax (by have:=HO.out.1;omega) (fun _=>hap) HO.out.2.1 (by have:=HO.out.1;have:=HO.out.2.2.1;omega))
 clear hrow hdc hrow2 he hcap hmax hrd hap
 go_wp2_with fail
 refine HDC.out.mono ?_
 rw[HO.out.2.2.2]
 rintro e w6 ⟨A6,c6,rfl,dK,G6,T6,Gn,hT6,Gl,kr,gu⟩
 have hT:T6=T':=hT6 T' rfl
 subst hT
 dsimp only at dK Gn kr gu Gl
 have iy:=((bT.out.pick [_,_,_]).KH (c':=mV d G6 (ND+(nb+data.size)) mo li T6 false) (d:=aD 26 3 (.slice A6 l.length c6) l.length (fds l)) kr gu Gn (IQ dK (aL _)) (fun b hF=>(World.ownsRow.lt dK b hF).1) (fun b hF=>?_))
 rotate_left
 ·have h1:(Value.slice A6 l.length c6).ownBlock=some b:=hF
  cases A6 with
  | none=>cases h1
  | some a=>
   have h2:a.block=b:=by injection h1
   rw[←h2]
   exact Gl a rfl
 have iW:Below B W5 w6:=(bT.out.pick [_,_,_]).kept kr
 have h1:=iy.pick [_,_]
 have h1:=(h1.pick [_,_,_]).tail
 have h1:=(h1.pick [_,_,_]).tail
 have HBG:=af (HBN.out w6 A6 c6 G6 h1)
 have kY:Hid (All B w6 (aK p { c with block:=.slice none 0 0,cu:=0 } :: _)):=af h1
 have gK:=af (eG.out.trans iW)
 clear h1 iy iW kr gu Gn Gl dK hT6 q5 HBN
 have GY:=kY.out.cc 12 (.int .i64 c.last) rfl
 have hgt:c.last<c.cu:=HD.out.2
 go_wp2_with fail
 refine HBG.out.mono ?_
 rintro e w9 ⟨rfl,dB,hQ⟩
 have H9:=af (And.intro (gK.out.trans dB) hQ)
 clear dB hQ HBG
 go_wp2_with fail
 go_end0
 exact⟨rfl,H9.out.1,H9.out.2⟩
end
section
open Go.RowKit Go.Maps
def Mk (c:Cv):Cv:={ c with cu:=1,jI:=false,block:=.slice none 0 0 }
theorem aeK {B p:Nat}{c:Cv}{cs:List dx}(fr:Fr) (w:World)
 (h:All B w (aK p c :: cs)) (hfr:fr.fl=0) (hst:fr.st=1) (hnb:fr.data.size≤65536) :
 Calls Tryz.prog 135 #[.pointer (some ⟨p,0,none⟩),gF fr] w (Left B w fun w'=>∃v,All B w' (aK p { Mk c with block:=v } :: aD 5 1 v fr.data.size (ak fr.data.data.toList) :: cs)):=by
 obtain⟨W0,hW0⟩:∃W0,w.alloc (.cells fr.cells 52)=W0:=⟨_,rfl⟩
 have fQ:=gV h fr.cells 52
 have lY:Below B w W0:=by rw[←hW0];exact (Below.refl _ _).alloc h.sz _
 obtain⟨x,hx⟩:∃x,w.heap.size=x:=⟨_,rfl⟩
 rw[hW0,hx] at fQ
 have bE:=af (fQ.pick [_])
 have dW:=af lY
 have HX:=af hx
 have je:W0.heap[x]?=some (.cells fr.cells 52 (0,0)):=fQ.head
 have Ca:=af (fD.of je)
 have HP:Hid (∀w1,Below B w w1→All B w1 (aK p (Mk c) :: aD 5 1 (Mk c).block 0 (ak []) :: cs)→_):=af (fun w1 hb1 jc=>
  agS (l0:=[]) fr w1 jc hfr (by omega))
 have hpx:p≠x:=fun e=>by subst e;exact (List.pairwise_cons.1 bE.out.apart).1 _ (iK ..) p rfl rfl
 have nY:=af hpx
 clear fQ lY hx je h hnb hpx
 obtain⟨ty,fl,st,data,pad⟩:=fr
 dsimp only at hfr hst
 subst hfr hst
 unfold gF at HP ⊢
 simp only[Fr.cells] at hW0 bE HP ⊢
 have dY:=af hW0
 clear hW0
 go_enter Tryz.func135,Tryz.ntmps135
 go_upto_region 1 with fail
 refine bI ?_
 intro W3 hW3
 obtain rfl:W3=W0:=hW3.trans dY.out
 rw[HX.out]
 clear hW3
 obtain⟨k0,k1,k2,k3,k4,k5,k6,k7,k8,k9,bS,bN,-⟩:=Ca.out
 simp only at k0 k1 k2 k3 k4 k5 k6 k7 k8 k9 bS bN
 have f13:=bE.out.cf 13
 have f14:=bE.out.cf 14
 have f15:=bE.out.cf 15
 have nU:=bE.out.cc 13 c.block rfl
 have GZ:=bE.out.cc 14 (.int .i64 c.cu) rfl
 have xY:=bE.out.cc 15 (.bool c.jI) rfl
 go_upto_region 3 with fail
 go_region
 go_upto_region 4 with fail
 refine bI ?_
 intro W4 bA
 have JJ:(bits BinOp.and IntKind.i64 0 1 != 0)=false:=by kernel_rfl
 rw[JJ] at bA
 obtain⟨h1,b1⟩:=bE.out.set 14 (.int .i64 1)
 obtain⟨h2,b2⟩:=h1.set 15 (.bool false)
 obtain⟨h3,b3⟩:=h2.set 13 (.slice none 0 0)
 have h4:=h3.drew
 rw[←bA] at h4
 have hb4:Below B w W4:=by rw[bA];exact (((dW.out.trans b1).trans b2).trans b3).trans (by exact⟨rfl,rfl,rfl,ah _,fun _ _=>rfl⟩)
 have e:∀j,W4.cell? ⟨x,j,none⟩=W3.cell? ⟨x,j,none⟩:=fun j=>by
  rw[bA]
  exact ((World.cell?_setCell_far _ ⟨p,13,none⟩ ⟨x,j,none⟩ _ nY.out).trans (World.cell?_setCell_far _ ⟨p,15,none⟩ ⟨x,j,none⟩ _ nY.out)).trans (World.cell?_setCell_far _ ⟨p,14,none⟩ ⟨x,j,none⟩ _ nY.out)
 rw[←e] at k0 k1 k2 k3 k4 k5 k6 k7 k8 k9 bS bN
 have h5:=((h4.pick [_]).tail.Bz 5 1).pick [_]
 have HPC:=af (HP.out W4 hb4 h5)
 have dz:=af hb4
 clear HP h1 h2 h3 h4 h5 b1 b2 b3 hb4 e bA f13 f14 f15 nU GZ xY JJ
 go_wp2_with fail
 refine HPC.out.mono ?_
 rintro e w9 ⟨rfl,dB,v9,hex⟩
 have H9:=af (And.intro (dz.out.trans dB) hex)
 clear dB hex HPC
 go_wp2_with fail
 go_end0
 have h9:=H9.out.2
 simp only[mh,jQ] at h9 ⊢
 exact⟨rfl,H9.out.1,v9,h9⟩
theorem afL {B p:Nat}{c:Cv}{cs:List dx}(f:Fr) (w:World) (h:All B w (aK p c :: cs)) (hg:c.gG=true) (ho:c.cu=1) (h9:f.ty=9) (h1:f.st=1):Calls Tryz.prog 98 #[.pointer (some ⟨p,0,none⟩),qd f] w fun e w'=>e = .returned (.bool false)∧Below w.heap.size w w':=by
 have hpl:p<w.heap.size:=(Array.getElem?_eq_some_iff.1 h.conn).1
 have c16:w.cell? ⟨p,16,none⟩=some (.bool true):=by rw[←hg];exact h.cc 16 (.bool c.gG) rfl
 have c14:w.cell? ⟨p,14,none⟩=some (.int .i64 1):=by rw[←ho];exact h.cc 14 (.int .i64 c.cu) rfl
 obtain⟨ty,fl,st,data,pad⟩:=f
 dsimp only at h9 h1
 subst h9 h1
 unfold qd
 dsimp only
 clear h
 go_enter Tryz.func98,Tryz.ntmps98
 go_upto_region 5 with fail
 go_region
 go_wp2_with fail
 go_ret
 exact⟨rfl,(((Below.refl _ _).alloc (ah _) _).alloc (by simp) _).drew⟩
end
section
open Go.RowKit Go.Maps
def CO (id code:Nat):Hp:=⟨4,id,⟨#[]⟩,⟨#[]⟩,⟨#[]⟩,⟨#[]⟩,.slice none 0 0,⟨#[]⟩,false,code⟩
theorem aby {B p n:Nat}{c:Cv}{xs:List Value}{cs:List dx}(id code:Nat) (w:World) (Ba:id≤2147483647) (wE:code≤4294967295) (hn:n≤1000000) (h:All B w (aK p c :: aD 5 1 c.bytes n xs :: cs)) :
 Calls Tryz.prog 49 #[.pointer (some ⟨p,0,none⟩),ou ⟨3,0,id,none,0,0,code,0,0⟩] w (Left B w fun w'=>∃v n' xs',n'≤n+4+9∧All B w' (aK p { c with bytes:=v } :: aD 5 1 v n' xs' :: cs)):=by
 have hok:BH ⟨3,0,id,none,0,0,code,0,0⟩ []:=⟨.inl ⟨rfl,⟨rfl,rfl,rfl⟩,rfl,rfl⟩,.inl rfl,Ba,wE,aL _,aL _,aL _,rfl,fun s hs=>by cases hs⟩
 have hrd:∀(w:World) (B:Nat),Rd w B 2 none 0 (rE []):=fun w B=>⟨rfl,fun h=>absurd h (Ce 0)⟩
 exact Nh (M:=4) ⟨3,0,id,none,0,0,code,0,0⟩ [] w h hok (hrd _ _) (by omega) (fun w' _=>ZO _ [] w' hok (.inl rfl)) hn
section
variable {B p g m n nn N M k hk nc:Nat} {c:Cv} {all first:Int} {L:List (Int×Int)} {f:Int→Option (Option Nat)} {hf:Int→Option Int} {bs xs cls:List Value} {cs:List dx}
theorem ahw (code id:Nat) (w:World) (h:All B w (aK p c :: aD 5 1 c.bytes n bs :: aH aV c.live N f k :: aH bX c.how M hf hk :: gB g m all first L :: aD 3 1 c.closed nc cls :: cs))
 (hbk:c.book = .pointer (some ⟨g,0,none⟩)) (hn:n≤1000000) (hid:(Lit.int .i64 (id:Int)).wf=true) (Ba:id≤2147483647) (wE:code≤4294967295) (AZ:f id=none) (hh:hf id=none) (hM:M<maxLen) (hnc:nc≤15) :
 Calls Tryz.prog 100 #[.pointer (some ⟨p,0,none⟩),.int .i64 id,.int .i64 code] w (Left B w fun w'=>∃bv n' bs' f' k' hf' hk' cv,f' id=none∧hf' id=some 5∧n'≤n+13 ∧
  All B w' (aK p { c with bytes:=bv,closed:=cv } :: aD 5 1 bv n' bs' :: aH aV c.live N f' k' :: aH bX c.how (M+1) hf' hk' :: gB g m all first (tT L id) :: aD 3 1 cv (nc+1) (cls++[.int .i64 id]) :: cs)):=by
 have HW:=af (aby id code w Ba wE hn h)
 have HH:=af (And.intro hbk (And.intro hid (And.intro AZ (And.intro hh (And.intro hM hnc)))))
 clear h hbk hn hid Ba wE AZ hh hM hnc
 unfold ou at HW
 simp only[Ct.cells] at HW
 go_enter Tryz.func100,Tryz.ntmps100
 go_wp2_with fail
 refine HW.out.mono ?_
 rintro e w1 ⟨rfl,hb1,bv,n',bs',hn',jc⟩
 have bM:=af jc
 have bH:=af hb1
 have HN:=af hn'
 have q9:=jc.cc 9 (.map (some c.live)) rfl
 have gQ:=bq.look qj ((jc.pick [_,_]).head) (i:=(id:Int)) HH.out.2.1
 rw[HH.out.2.2.1] at gQ
 have hlk:(Instr.lookup 93 (.map (some c.live)) (.int .i64 id) true).run Tryz.prog w1 = .ok (.tuple #[.pointer none,.bool false]) w1:=gQ
 clear jc hb1 gQ HW hn'
 have h1:=bM.out.aP [1,5,5,5,5,5]
 have HST:=af (aaD (c:={ c with bytes:=bv }) (id:Int) w1 h1 HH.out.1 HH.out.2.1 HH.out.2.2.2.1 HH.out.2.2.2.2.1 HH.out.2.2.2.2.2)
 clear h1
 go_wp2_with fail
 refine HST.out.mono ?_
 rintro e w2 ⟨rfl,hb2,f',k',hf',hk',cv,e1,e2,dA⟩
 have bY:=af dA
 have aI:=af (bH.out.trans hb2)
 have HE:=af (And.intro e1 e2)
 clear dA hb2 e1 e2 HST
 go_wp2_with fail
 go_end0
 have h2:=bY.out.aP [4,4,4,4,5,5]
 exact⟨rfl,aI.out,bv,n',bs',f',k',hf',hk',cv,HE.out.1,HE.out.2,by have:=HN.out;omega,h2⟩
theorem Tj {s:Nat}(code id:Nat) (w:World) (h:All B w (aK p c :: aD 5 1 c.bytes n bs :: aH aV c.live N f k :: aH bX c.how M hf hk :: gB g m all first L :: aD 3 1 c.closed nc cls :: aD 64 10 c.news nn xs :: cs))
 (hbk:c.book = .pointer (some ⟨g,0,none⟩)) (hn:n≤1000000) (hid:(Lit.int .i64 (id:Int)).wf=true) (Ba:id≤2147483647) (wE:code≤4294967295) (AZ:f id=some (some s)) (hh:hf id=none) (hM:M<maxLen) (hnc:nc≤15) (hnn:nn≤1000000) :
 Calls Tryz.prog 100 #[.pointer (some ⟨p,0,none⟩),.int .i64 id,.int .i64 code] w (Left B w fun w'=>∃bv n' bs' f' k' hf' hk' cv nv,f' id=none∧hf' id=some 5∧n'≤n+13 ∧
  All B w' (aK p { c with bytes:=bv,closed:=cv,news:=nv } :: aD 5 1 bv n' bs' :: aH aV c.live N f' k' :: aH bX c.how (M+1) hf' hk' :: gB g m all first (tT L id) :: aD 3 1 cv (nc+1) (cls++[.int .i64 id]) :: aD 64 10 nv (nn+1) (xs++(CO id code).l) :: cs)):=by
 have HW:=af (aby id code w Ba wE hn h)
 have HH:=af (And.intro hbk (And.intro hid (And.intro AZ (And.intro hh (And.intro hM (And.intro hnc hnn))))))
 clear h hbk hn hid Ba wE AZ hh hM hnc hnn
 unfold ou at HW
 simp only[Ct.cells] at HW
 go_enter Tryz.func100,Tryz.ntmps100
 go_wp2_with fail
 refine HW.out.mono ?_
 rintro e w1 ⟨rfl,hb1,bv,n',bs',hn',jc⟩
 have bM:=af jc
 have bH:=af hb1
 have HN:=af hn'
 have q9:=jc.cc 9 (.map (some c.live)) rfl
 have gQ:=bq.look qj ((jc.pick [_,_]).head) (i:=(id:Int)) HH.out.2.1
 rw[HH.out.2.2.1] at gQ
 have hlk:(Instr.lookup 93 (.map (some c.live)) (.int .i64 id) true).run Tryz.prog w1 = .ok (.tuple #[.pointer (some ⟨s,0,none⟩),.bool true]) w1:=gQ
 clear jc hb1 gQ HW hn'
 have h1:=bM.out.aP [6,2,6,6,6,6,6]
 have HST:=af (aaD (c:={ c with bytes:=bv }) (id:Int) w1 h1 HH.out.1 HH.out.2.1 HH.out.2.2.2.1 HH.out.2.2.2.2.1 HH.out.2.2.2.2.2.1)
 clear h1
 go_wp2_with fail
 refine HST.out.mono ?_
 rintro e w2 ⟨rfl,hb2,f',k',hf',hk',cv,e1,e2,dA⟩
 have bY:=af dA
 have aI:=af (bH.out.trans hb2)
 have HE:=af (And.intro e1 e2)
 clear dA hb2 e1 e2 HST q9 hlk
 have h3:=bY.out.aP [5,5,5,5,5,6,6]
 have nZ:=af (I8 (c:={ c with bytes:=bv,closed:=cv }) (CO id code) w2 h3 rfl HH.out.2.2.2.2.2.2)
 unfold CO Hp.l at nZ
 clear h3
 go_wp2_with fail
 refine nZ.out.mono ?_
 rintro e w3 ⟨rfl,hb3,nv,gp⟩
 have bJ:=af gp
 have aM:=af (aI.out.trans hb3)
 clear gp hb3 nZ
 go_wp2_with fail
 go_end0
 have h4:=bJ.out.aP [1,5,5,5,5,6,6]
 exact⟨rfl,aM.out,bv,n',bs',f',k',hf',hk',cv,nv,HE.out.1,HE.out.2,by have:=HN.out;omega,h4⟩
end
end
section
open Go.RowKit Go.Maps
theorem ahq {l:List Fd}(h:(aS l).2≠0):(aS l).1=jR:=by
 unfold aS at h ⊢
 dsimp only at h ⊢
 split
 ·rfl
 ·split
  ·rfl
  ·split
   ·rfl
   ·split
    ·rfl
    ·rename_i h1 h2 h3 h4
     rw[aj h1,aj h2,aj h3,aj h4] at h
     exact absurd rfl h
theorem acO {B p g m nn nb nc N M k iO:Nat}{c:Cv}{all first:Int}{L:List (Int×Int)}{f:Int→Option (Option Nat)}{hf:Int→Option Int}{xs bs cls:List Value}{cs:List dx}{A:Option Addr}{n cc:Nat}{l:List Fd}(id:Nat) (w:World)
 (h:All B w (aK p c :: gB g m all first L :: aH aV c.live N f k :: aD 64 10 c.news nn xs :: aD 26 3 (.slice A n cc) n (fds l) :: aD 5 1 c.bytes nb bs :: aH bX c.how M hf iO :: aD 3 1 c.closed nc cls :: cs))
 (hbk:c.book = .pointer (some ⟨g,0,none⟩)) (hd:c.mX=false) (hk:(k:Int)<c.l0)
 (hid:(Lit.int .i64 (id:Int)).wf=true) (Ba:id≤2147483647) (hnn:nn≤1000000)
 (hn:n≤1048575) (hz:Tx l) (hh:hf id=none) (hM:M<maxLen) (hnc:nc≤15) (hnb:nb≤1000000) (AZ:f id=none)
 (ko:∀(w:World) (A:Option Addr) (n c:Nat),Rd w w.heap.size 3 A n (fds (bV (bG jb Gt.none l).1.2))→n≤1048576→Calls Tryz.prog 210 #[.slice A n c] w (fun e w'=>∃v,e = .returned v∧bQ w (jw (bV (bG jb Gt.none l).1.2)) v w'))
 (hR:(aS l).2≠0) :
 Calls Tryz.prog 170 #[.pointer (some ⟨p,0,none⟩),.int .i64 id,.slice A n cc,.bool false] w (Left B w fun w'=>∃bv nb' bs' f' k' hf' hk' cv,f' id=none∧hf' id=some 5∧nb'≤nb+13 ∧
  All B w' (aK p { c with last:=id,bytes:=bv,closed:=cv } :: aD 5 1 bv nb' bs' :: aH aV c.live N f' k' :: aH bX c.how (M+1) hf' hk' :: gB g m all first (tT L id) :: aD 3 1 cv (nc+1) (cls++[.int .i64 id]) :: cs)):=by
 have HA:=af h
 have HNN:=af hnn
 have HX:=af (And.intro hh (And.intro hM (And.intro hnc (And.intro hnb AZ))))
 obtain⟨st,hst⟩:∃st,wQ 0 c.jI=st:=⟨_,rfl⟩
 obtain⟨E,hE⟩:∃E,c.jI=E:=⟨_,rfl⟩
 have xY:w.cell? ⟨p,15,none⟩=some (.bool E):=by rw[←hE];exact h.cc 15 (.bool c.jI) rfl
 have iG:Bu (Be 0 2 c.jI) = .agg #[.int .i64 st,.bool false,.bool false,.int .i64 0,.bool false]:=by
  rw[←hst];rfl
 have HC:Hid (Calls Tryz.prog 163 #[.int .i64 0,.int .i64 1,.bool E] w fun e w'=>e = .returned (Bu (Be 0 2 E))∧Below w.heap.size w w'):=af (Ig 0 1 2 1 E w (by omega) (by omega) rfl rfl (by omega))
 rw[hE] at iG hst
 have HMV:=af iG
 have HE:=af hE
 have HD:=af (And.intro hbk (And.intro hd hk))
 have HID2:=af Ba
 have HI:=af hid
 have kQ:=af (And.intro hn hz)
 have vN:=af ko
 have hno:=ahq hR
 obtain⟨⟨R,er⟩,kT⟩:∃R,aS l=R:=⟨_,rfl⟩
 rw[kT] at hR hno
 dsimp only at hR hno
 subst hno
 have hex:((er:Int)==0)=false:=by rw[fO];omega
 have Px:¬((er:Int)=0):=by omega
 have JY:¬(er=0):=hR
 have cz:=af kT
 have HST:=af hst
 clear h hbk hd hk hid Ba hnn hn hz ko kT hR hst iG hE hh hM hnc hnb AZ
 go_enter Tryz.func170,Tryz.ntmps170
 go_wp2_with fail
 refine HC.out.mono ?_
 rintro e w1 ⟨rfl,hb1⟩
 rw[HMV.out]
 have bM:=af (HA.out.below hb1)
 have bH:=af (hb1.mono HA.out.sz)
 clear hb1 xY
 go_upto_region 1 with (first
  | (refine wpList_store_rowTo rfl 229 (.tmp 8) (.tmp 16) rfl rfl w1.heap.size #[.int .i64 0,.bool false,.bool false,.int .i64 0,.bool false] rfl rfl 229 _ (aZ _ _) Bo rfl (by simp[Value.oneCell']) ?_))
 refine bI ?_
 intro W2 hW2
 have dA:=gV bM.out #[.int .i64 st,.bool false,.bool false,.int .i64 0,.bool false] 229
 rw[←hW2] at dA
 have tY:Below B w W2:=by rw[hW2];exact bH.out.alloc bM.out.sz _
 obtain⟨mv,iG⟩:∃mv,w1.heap.size=mv:=⟨_,rfl⟩
 rw[iG] at dA ⊢
 have bY:=af (dA.pick [_])
 have aI:=af tY
 clear dA tY hW2 iG
 have f12:=bY.out.cf 12
 have GY:=bY.out.cc 12 (.int .i64 c.last) rfl
 go_upto_region 2 with fail
 refine bI ?_
 intro W3 hW3
 obtain⟨gp,gP⟩:=bY.out.set 12 (.int .i64 id)
 rw[←hW3] at gp gP
 have bJ:Hid (All B W3 (aK p { c with last:=id } :: bg mv #[.int .i64 st,.bool false,.bool false,.int .i64 0,.bool false] 229 :: gB g m all first L :: aH aV c.live N f k :: aD 64 10 c.news nn xs :: aD 26 3 (.slice A n cc) n (fds l) :: aD 5 1 c.bytes nb bs :: aH bX c.how M hf iO :: aD 3 1 c.closed nc cls :: cs)):=af gp
 have aM:=af (aI.out.trans gP)
 clear gp gP hW3 f12 GY
 have q17:W3.cell? ⟨p,17,none⟩=some (.bool false):=by rw[←HD.out.2.1];exact bJ.out.cc 17 (.bool c.mX) rfl
 have q9:=bJ.out.cc 9 (.map (some c.live)) rfl
 have q0:=bJ.out.cc 0 (.int .i64 c.l0) rfl
 have qm:∀o,W3.cell? ⟨mv,o,none⟩=(#[.int .i64 st,.bool false,.bool false,.int .i64 0,.bool false]:Array Value)[o]?:=fun o=>by
  have h1:=(bJ.out.pick [_]).head
  have h2:W3.heap[mv]?=some (.cells #[.int .i64 st,.bool false,.bool false,.int .i64 0,.bool false] 229 (0,0)):=h1
  unfold World.cell?
  rw[h2]
  rfl
 have qm0:W3.cell? ⟨mv,0,none⟩=some (.int .i64 st):=qm 0
 clear qm
 have hlen:(Builtin.len_ #[93] 3 #[.map (some c.live)]).run Tryz.prog W3.drew = .ok (.int .i64 k) W3.drew:=by
  have h1:bq aV W3 c.live N f k:=(bJ.out.pick [_,_,_]).head
  have h2:bq aV W3.drew c.live N f k:=h1.keep rfl
  exact h2.len qj _
 have hlt:¬(c.l0≤(k:Int)):=by have:=HD.out.2.2;omega
 go_upto_region 4 with fail
 go_region
 go_upto_region 10 with fail
 refine bI ?_
 intro W4 bA
 have dN:=(gV (gV bJ.out (qp 0 false st) 140) eX 60).drew
 have lC:Below B w W4:=by rw[bA];exact (((aM.out.alloc bJ.out.sz _).alloc (by simp;have:=bJ.out.sz;omega) _).trans (by exact⟨rfl,rfl,rfl,ah _,fun _ _=>rfl⟩))
 have xD:W4=((W3.alloc (.cells (qp 0 false st) 140)).alloc (.cells eX 60)).drew:=bA
 rw[←xD] at dN
 obtain⟨sb,mI⟩:∃sb,W3.heap.size=sb:=⟨_,rfl⟩
 obtain⟨rq,GG⟩:∃rq,(W3.alloc (.cells (qp 0 false st) 140)).heap.size=rq:=⟨_,rfl⟩
 have Kc:sb+1=rq:=by rw[←GG,←mI];simp
 rw[mI,GG] at dN
 rw[mI]
 try rw[Kc]
 have aX:=af dN
 have dz:=af lC
 clear dN lC bA xD mI GG Kc hlt hlen q17 q9 q0 qm0
 have hlr:=(aX.out.pick [_,_,_,_,_,_,_]).head
 have hrd:Rd W4 W4.heap.size 3 A n (fds l):=Rd.lJ hlr
 have HRE:=af (aai (c:=cc) W4 hrd kQ.out.1 kQ.out.2 vN.out)
 clear hlr hrd
 go_wp2_with fail
 refine HRE.out.mono ?_
 rw[cz.out]
 unfold jR
 rintro e w5 ⟨fv,rfl,nR,aT⟩
 obtain⟨A5,c5,rfl,-,-,-,-⟩:=aC nR
 have bT:=af (aX.out.row aT nR)
 have eG:=af (dz.out.trans (aT.mono aX.out.sz))
 clear nR aT
 have Ke:=(bT.out.pick [_]).head
 have HRQ:=af Ke
 clear Ke
 go_upto_region 11 with (first
  | (refine wpList_store_rowTo rfl 60 (.tmp 10) (.tmp 53) rfl rfl rq (wT jR (.slice A5 0 c5)) rfl rfl 60 _ HRQ.out mJ rfl (by simp[Value.oneCell',wT]) ?_))
 refine bI ?_
 intro W6 AO
 obtain⟨iy,iW⟩:=(bT.out.pick [_]).whole (wT jR (.slice A5 0 c5))
 rw[←AO] at iy iW
 have kY:=af iy
 have gK:=af (eG.out.trans iW)
 clear iy iW AO
 have q4:W6.cell? ⟨rq,4,none⟩=some (.slice A5 0 c5):=by
  have h1:W6.heap[rq]?=some (.cells (wT jR (.slice A5 0 c5)) 60 (0,0)):=kY.out.head
  unfold World.cell?
  rw[h1]
  rfl
 have hfr:Rd W6 W6.heap.size 3 A5 0 (fds []):=Rd.lJ ((kY.out.pick [_]).head)
 have Co:=SI (c:=c5) W6 hfr (by omega) (fun f hf=>by cases hf)
 rw[show dn []=some none from rfl] at Co
 simp only[gU] at Co
 have gz:=af Co
 clear hfr Co
 go_wp2_with fail
 refine gz.out.mono ?_
 rintro e w7 ⟨rfl,dU⟩
 have eY:=af ((kY.out.below dU).pick [_,_])
 have iZ:=af (gK.out.trans (dU.mono kY.out.sz))
 clear dU q4
 have o8:w7.heap[sb]?=some (.cells (qp 0 false st) 140 (0,0)):=eY.out.head
 have q1:w7.cell? ⟨sb,1,none⟩=some (.int .i64 0):=by unfold World.cell?;rw[o8];rfl
 have q2:w7.cell? ⟨sb,2,none⟩=some (.bool false):=by unfold World.cell?;rw[o8];rfl
 have f1:w7.frozen? ⟨sb,1,none⟩=false:=by unfold World.frozen?;rw[o8];rfl
 have f2:w7.frozen? ⟨sb,2,none⟩=false:=by unfold World.frozen?;rw[o8];rfl
 clear o8
 go_upto_region 12 with fail
 refine bI ?_
 intro W8 wB
 obtain⟨jd,DW⟩:=eY.out.set 1 (.int .i64 0)
 obtain⟨aU,eu⟩:=jd.set 2 (.bool false)
 rw[←wB] at aU eu
 have jO:Hid (All B W8 (bg sb (qp 0 false st) 140 :: bg rq (wT jR (.slice A5 0 c5)) 60 :: aD 26 3 (.slice A5 0 c5) 0 [] :: aK p { c with last:=id } :: bg mv #[.int .i64 st,.bool false,.bool false,.int .i64 0,.bool false] 229 :: gB g m all first L :: aH aV c.live N f k :: aD 64 10 c.news nn xs :: aD 26 3 (.slice A n cc) n (fds l) :: aD 5 1 c.bytes nb bs :: aH bX c.how M hf iO :: aD 3 1 c.closed nc cls :: cs)):=af aU
 have ja:=af ((iZ.out.trans DW).trans eu)
 clear jd aU DW eu wB q1 q2 f1 f2
 have jA:All B W8 (aK p { c with last:=id } :: _):=jO.out.pick [_,_,_]
 have xY:W8.cell? ⟨p,15,none⟩=some (.bool E):=by rw[←HE.out];exact jA.cc 15 (.bool c.jI) rfl
 have q9:=jA.cc 9 (.map (some c.live)) rfl
 have q7:W8.cell? ⟨p,7,none⟩=some (.pointer (some ⟨g,0,none⟩)):=by rw[←HD.out.1];exact jA.cc 7 c.book rfl
 have q1:W8.cell? ⟨sb,1,none⟩=some (.int .i64 0):=by
  have h1:W8.heap[sb]?=some (.cells (qp 0 false st) 140 (0,0)):=jO.out.head
  unfold World.cell?
  rw[h1]
  rfl
 clear jA
 go_cut [85] (fun y wx=>y = .bool true∧wx=W8)
 case first=>
  go_wp2_with fail
  go_meet
  exact⟨rfl,rfl⟩
 case rest=>
  obtain⟨rfl,hwc⟩:=hcut
  subst hwc
  have HXX:=af HX.out
  have hr:=jO.out.aP [8,8,6,5,5,5,11,8,11,10,11,11]
  have Dr:=af (ahw (c:={ c with last:=(id:Int) }) 1 id wc hr HD.out.1 HXX.out.2.2.2.1 HI.out HID2.out (by omega) HXX.out.2.2.2.2 HXX.out.1 HXX.out.2.1 HXX.out.2.2.1)
  clear hr
  go_wp2_with fail
  refine Dr.out.mono ?_
  rintro e w9 ⟨rfl,dB,bv,n',bs',f',k',hf',hk',cv,h1,h2,h3,aU⟩
  have eF:=af aU
  have iq:=af (ja.out.trans dB)
  have H9:=af (And.intro h1 (And.intro h2 h3))
  clear aU dB h1 h2 h3 Dr
  go_wp2_with fail
  go_end0
  have hf:=eF.out.aP [5,5,5,5,5,5,11,11,11,11,11,11]
  exact⟨rfl,iq.out,bv,n',bs',f',k',hf',hk',cv,H9.out.1,H9.out.2.1,H9.out.2.2,hf.tail.tail.tail.tail.tail.tail⟩
end
section
open Go.RowKit Go.Maps
structure FY (d g lm hm:Nat) (c:Cv) (gr:Bool) (cu last:Int):Prop where
 l0:c.l0=2
 l1:c.l1=65535
 dec:c.dec = .pointer (some ⟨d,0,none⟩)
 book:c.book = .pointer (some ⟨g,0,none⟩)
 dr:c.mX=false
 ov:c.over=false
 live:c.live=lm
 how:c.how=hm
 gr:c.gG=gr
 cu:c.cu=cu
 last:c.last=last
def zu:Value:=.slice none 0 0
noncomputable def EI (l:List Fd) (body:ByteArray):Bool:=(gU (dn (aS l).1.fields)).2.1 && !decide ((gU (dn (aS l).1.fields)).1=body.size)
noncomputable def yG (l:List Fd) (fv:Value):Hp:=CL 1 (aS l).1 fv false
section
variable (B p d g m lm hm:Nat) (l:List Fd) (b1 b2 body:ByteArray) (fs:List (Fr×Bool)) (V:Value)
def To0 (gr:Bool) (N:Nat) (w:World):Prop:=∃c n xs G,FY d g lm hm c gr 0 0∧c.news=zu∧c.closed=zu∧n≤N ∧
 All B w [aK p c,aD 130 15 V fs.length (jN fs),aD 5 1 c.bytes n xs,mV d G 0 4096 65536 G_ false,gB g m 65535 65535 [],aH aV lm 0 (fun _=>none) 0,aH bX hm 0 (fun _=>none) 0]
def To2 (w:World):Prop:=∃c n xs G,FY d g lm hm c true 1 0∧c.jI=false∧c.news=zu∧c.closed=zu∧n≤1009 ∧
 All B w [aK p c,aD 130 15 V fs.length (jN fs),aD 5 1 c.bytes n xs,aD 5 1 c.block b1.size (ak b1.data.toList),mV d G 0 4096 65536 G_ false,gB g m 65535 65535 [],aH aV lm 0 (fun _=>none) 0,aH bX hm 0 (fun _=>none) 0]
def To3b (w:World):Prop:=∃c n xs f k hf hk,FY d g lm hm c true 0 1∧c.news=zu∧n≤2000∧f 1=none∧hf 1=some 5 ∧
 All B w [aK p c,aD 130 15 V fs.length (jN fs),aD 5 1 c.bytes n xs,aH aV lm 0 f k,aH bX hm 1 hf hk]
def To3g (w:World):Prop:=∃c n xs N f k s fv L,FY d g lm hm c true 0 1∧c.closed=zu∧n≤2000∧f 1=some (some s) ∧
 All B w [aK p c,aD 130 15 V fs.length (jN fs),aD 5 1 c.bytes n xs,aH aV lm N f k,aH bX hm 0 (fun _=>none) 0,gB g m 65535 65535 L,aD 64 10 c.news 1 (yG l fv).l,aD 26 3 fv (aS l).1.fields.length (fds (aS l).1.fields),bg s (vF 0 (gU (dn (aS l).1.fields)).1 (gU (dn (aS l).1.fields)).2.1 1) 140]
def To4b (w:World):Prop:=∃c N f k hf hk,FY d g lm hm c true 0 1∧c.news=zu∧f 1=none∧hf 1=some 5 ∧
 All B w [aK p c,aD 130 15 V fs.length (jN fs),aH aV lm N f k,aH bX hm 1 hf hk]
def To4m (w:World):Prop:=∃c N f k hf hk fv,FY d g lm hm c true 0 1∧f 1=none∧hf 1=some 5 ∧
 All B w [aK p c,aD 130 15 V fs.length (jN fs),aH aV lm N f k,aH bX hm 1 hf hk,aD 64 10 c.news 2 ((yG l fv).l++(CO 1 1).l)]
def To4g (w:World):Prop:=∃c fv,FY d g lm hm c true 0 1 ∧
 All B w [aK p c,aD 130 15 V fs.length (jN fs),aD 64 10 c.news 2 ((yG l fv).l++(xN body).l),aD 26 3 fv (aS l).1.fields.length (fds (aS l).1.fields)]
def qJ:Nat→World→Prop
 | 0=>To0 B p d g m lm hm fs V false 1000
 | 1=>To0 B p d g m lm hm fs V true 1009
 | 2=>To2 B p d g m lm hm b1 fs V
 | 3=>fun w=>((aS l).2≠0∧To3b B p d g lm hm fs V w)∨((aS l).2=0∧To3g B p d g m lm hm l fs V w)
 | 4=>fun w=>((aS l).2≠0∧To4b B p d g lm hm fs V w)∨((aS l).2=0∧EI l body=true∧To4m B p d g lm hm l fs V w)∨((aS l).2=0∧EI l body=false∧To4g B p d g lm hm l body fs V w)
 | _=>fun _=>False
end
section
variable {B p d g m lm hm:Nat} {l:List Fd} {b1 b2 body:ByteArray} {fs:List (Fr×Bool)} {V:Value}
theorem aja (w:World) (h:qJ B p d g m lm hm l b1 body fs V 0 w):Calls Tryz.prog 60 #[.pointer (some ⟨p,0,none⟩),qd gI] w (Left B w (qJ B p d g m lm hm l b1 body fs V 1)):=by
 obtain⟨c,n,xs,G,ht,hne,hcl,hn,hA⟩:=h
 refine GR (fn:=137) (Q:=qJ B p d g m lm hm l b1 body fs V 1) gI w hA (by decide) rfl (.inr (.inl rfl)) (fun w1 h1=>Zn w1 h1 ht.gr) (fun w1 h1=>?_) (fun w' hQ=>?_)
 ·have h2:=h1.pick [_,_]
  have h3:=h2.pick [_]
  refine (aaC w1 h3 (by omega)).mono ?_
  rintro e w2 ⟨rfl,hb,v,n',xs',hn',dA⟩
  have h4:=dA.pick [_,_]
  have h5:=h4.pick [_]
  exact⟨rfl,hb,{ c with gG:=true,bytes:=v },n',xs',G,⟨ht.l0,ht.l1,ht.dec,ht.book,ht.dr,ht.ov,ht.live,ht.how,rfl,ht.cu,ht.last⟩,hne,hcl,by omega,h5⟩
 ·obtain⟨c',n',xs',G',ht',-,-,-,h1⟩:=hQ
  exact⟨_,_,h1,ht'.dr⟩
theorem ajb (w:World) (hb1:b1.size≤16000) (h:qJ B p d g m lm hm l b1 body fs V 1 w):Calls Tryz.prog 60 #[.pointer (some ⟨p,0,none⟩),qd (l6 b1)] w (Left B w (qJ B p d g m lm hm l b1 body fs V 2)):=by
 obtain⟨c,n,xs,G,ht,hne,hcl,hn,hA⟩:=h
 refine GR (fn:=135) (Q:=qJ B p d g m lm hm l b1 body fs V 2) (l6 b1) w hA (by show (1:Nat)≤255;omega) rfl (.inl rfl) (fun w1 h1=>ML (l6 b1) w1 h1 ht.gr ht.cu (by show (1:Nat)≠9;omega)) (fun w1 h1=>?_) (fun w' hQ=>?_)
 ·refine (aeK (l6 b1) w1 h1 rfl rfl (by show b1.size≤_;omega)).mono ?_
  rintro e w2 ⟨rfl,hb,v,dA⟩
  have h5:=dA.aP [7,7,7,7,5,7,7,7]
  exact⟨rfl,hb,{ Mk { c with gG:=true } with block:=v },n,xs,G,⟨ht.l0,ht.l1,ht.dec,ht.book,ht.dr,ht.ov,ht.live,ht.how,rfl,rfl,ht.last⟩,rfl,hne,hcl,hn,h5⟩
 ·obtain⟨c',n',xs',G',ht',-,-,-,-,h1⟩:=hQ
  exact⟨_,_,h1,ht'.dr⟩
theorem ajc {T':Tb}(w:World) (hb1:b1.size≤16000) (hb2:b1.size+b2.size≤16000) (hout:sH 4096 65536 G_ (b1.data.toList++b2.data.toList)=(l,0,some T')) (hs:jZ l≤10000) (h:qJ B p d g m lm hm l b1 body fs V 2 w) :
 Calls Tryz.prog 60 #[.pointer (some ⟨p,0,none⟩),qd (lW b2)] w (Left B w (qJ B p d g m lm hm l b1 body fs V 3)):=by
 obtain⟨c,n,xs,G,ht,hen,hne,hcl,hn,hA⟩:=h
 have bf:l.length≤1000:=by have:=M0 l;omega
 have hz:Tx l:=fun f hf=>by have:=BG hf;omega
 have ko:∀(w:World) (A:Option Addr) (n c:Nat),Rd w w.heap.size 3 A n (fds (bV (bG jb Gt.none l).1.2))→n≤1048576→Calls Tryz.prog 210 #[.slice A n c] w (fun e w'=>∃v,e = .returned v∧bQ w (jw (bV (bG jb Gt.none l).1.2)) v w'):=fun w A n c hr hn=>by
  refine adt w hr hn ?_
  have h1:=Nf (fun f=>!decide (f.1.1=aG)) (bG jb Gt.none l).1.2
  have h2:=Yr (names:=jb) l Gt.none
  have h3:=V8 l
  have h4:jm Gt.none.2=0:=rfl
  unfold bV
  omega
 refine GR (fn:=140) (Q:=qJ B p d g m lm hm l b1 body fs V 3) (lW b2) w hA (by show (9:Nat)≤255;omega) rfl (.inr (.inr (.inl rfl))) (fun w1 h1=>afL (lW b2) w1 h1 ht.gr ht.cu rfl rfl) (fun w1 h1=>?_) (fun w' hQ=>?_)
 ·have h2:=h1.Bz 64 10
  have e1:aD 64 10 (.slice none 0 0) 0 []=aD 64 10 c.news 0 []:=by rw[hne];rfl
  have e2:aD 3 1 (.slice none 0 0) 0 []=aD 3 1 c.closed 0 []:=by rw[hcl];rfl
  rw[e1] at h2
  have h2:=h2.Bz 3 1
  rw[e2] at h2
  rw[←ht.live,←ht.how] at h2
  have h3:=h2.aP [3,1,9,5,4,9,9,9,9,9]
  refine agR (c:={ c with gG:=true }) (l:=l) (T':=T') (Q:=qJ B p d g m lm hm l b1 body fs V 3) (lW b2) w1 h3 (.inr rfl) ht.dec (by show c.last<c.cu;rw[ht.last,ht.cu];omega) (by show b1.size+b2.size≤_;omega) (by omega) (by omega) hout (fun w6 A6 c6 G6 h6=>?_)
  have h6:=h6
  have h7:=h6.aP [9,3,9,9,9,6,9,9,9,9]
  have Gu:({ c with gG:=true,block:=.slice none 0 0,cu:=0 }:Cv).jI=false:=hen
  have hid:c.cu=((1:Nat):Int):=ht.cu
  have hnn:({ c with gG:=true }:Cv).news=zu:=hne
  have hcc:({ c with gG:=true }:Cv).closed=zu:=hcl
  show Calls Tryz.prog _ #[_,.int .i64 c.cu,_,_] w6 _
  rw[hid]
  by_cases hR:(aS l).2=0
  ·have hsz:=Tg hs
   have hbg:=Xq (c:={ c with gG:=true,block:=.slice none 0 0,cu:=0 }) (xs:=[]) ((1:Nat):Int) w6 (nn:=0) h7 ht.book ht.dr (by show ((0:Nat):Int)<c.l0;rw[ht.l0];omega) (by decide) (by omega) (by decide) rfl (by unfold maxLen;omega) (by omega) (by omega) hz ko hR (by have:=hsz.no;omega) hsz.tx (.inl hen)
   refine hbg.mono ?_
   rintro e w9 ⟨rfl,dB,v,fv,s,N',f',k',-,hf',aU⟩
   refine⟨rfl,dB,.inr ⟨hR,?_⟩⟩
   have h9:=aU.aP [5,5,5,4,8,6,8,11,8]
   have h9:=All.init (l:=[_,_,_,_,_,_,_,_,_]) (r:=[_,_,_]) h9
   refine⟨{ c with gG:=true,block:=.slice none 0 0,cu:=0,last:=1,news:=v },n,xs,N',f',k',s,fv,sO [] ((1:Nat):Int) 0,⟨ht.l0,ht.l1,ht.dec,ht.book,ht.dr,ht.ov,ht.live,ht.how,rfl,rfl,rfl⟩,hcl,by omega,hf',?_⟩
   have h10:All B w9 [aK p { c with gG:=true,block:=.slice none 0 0,cu:=0,last:=1,news:=v },aD 130 15 V fs.length (jN fs),aD 5 1 c.bytes n xs,aH aV c.live N' f' k',aH bX c.how 0 (fun _=>none) 0,gB g m 65535 65535 (sO [] ((1:Nat):Int) 0),aD 64 10 v 1 (CL 1 (aS l).1 fv c.jI).l,aD 26 3 fv (aS l).1.fields.length (fds (aS l).1.fields),bg s (qp (gU (dn (aS l).1.fields)).1 (gU (dn (aS l).1.fields)).2.1 (wQ 0 c.jI)) 140]:=h9
   have e1:aH aV c.live N' f' k'=aH aV lm N' f' k':=by rw[ht.live]
   have e3:CL 1 (aS l).1 fv c.jI=yG l fv:=by rw[hen];rfl
   have e4:wQ 0 c.jI=1:=by rw[hen];rfl
   have e2:aH bX c.how 0 (fun _=>none) 0=aH bX hm 0 (fun _=>none) 0:=by rw[ht.how]
   rw[e1,e2,e3,e4] at h10
   exact h10
  ·have hbg:=acO (c:={ c with gG:=true,block:=.slice none 0 0,cu:=0 }) (xs:=[]) (cls:=[]) 1 w6 (nn:=0) (nc:=0) h7 ht.book ht.dr (by show ((0:Nat):Int)<c.l0;rw[ht.l0];omega) (by decide) (by omega) (by omega) (by omega) hz rfl (by unfold maxLen;omega) (by omega) (by omega) rfl ko hR
   refine hbg.mono ?_
   rintro e w9 ⟨rfl,dB,bv,nb',bs',f',k',hf',hk',cv,g_,hf2,hnb,aU⟩
   refine⟨rfl,dB,.inl ⟨hR,?_⟩⟩
   have h9:=aU.aP [3,3,3,7,4]
   have h9:=All.init (l:=[_,_,_,_,_]) (r:=[_,_,_]) h9
   refine⟨{ c with gG:=true,block:=.slice none 0 0,cu:=0,last:=1,bytes:=bv,closed:=cv },nb',bs',f',k',hf',hk',⟨ht.l0,ht.l1,ht.dec,ht.book,ht.dr,ht.ov,ht.live,ht.how,rfl,rfl,rfl⟩,hne,by omega,g_,hf2,?_⟩
   have h10:All B w9 [aK p { c with gG:=true,block:=.slice none 0 0,cu:=0,last:=1,bytes:=bv,closed:=cv },aD 130 15 V fs.length (jN fs),aD 5 1 bv nb' bs',aH aV c.live 0 f' k',aH bX c.how 1 hf' hk']:=h9
   have e1:aH aV c.live 0 f' k'=aH aV lm 0 f' k':=by rw[ht.live]
   have e2:aH bX c.how 1 hf' hk'=aH bX hm 1 hf' hk':=by rw[ht.how]
   rw[e1,e2] at h10
   exact h10
 ·rcases hQ with ⟨-,c',n',xs',f',k',hf',hk',ht',-,-,-,-,h1⟩ | ⟨-,c',n',xs',N',f',k',s',kI,L',ht',-,-,-,h1⟩
  ·exact⟨_,_,h1,ht'.dr⟩
  ·exact⟨_,_,h1,ht'.dr⟩
end
end
end Go.Proofs.YtpkmciohehaboaaGreatDoor
