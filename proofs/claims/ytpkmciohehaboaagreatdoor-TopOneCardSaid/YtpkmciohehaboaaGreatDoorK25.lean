/- Part 25 of the proof. -/
import Derived.Test.YtpkmciohehaboaaGreatDoorK0
import Derived.Test.YtpkmciohehaboaaGreatDoorK24
set_option maxRecDepth 100000
set_option maxHeartbeats 100000000
set_option linter.unusedVariables false
set_option linter.unusedSimpArgs false
set_option linter.unusedSectionVars false
set_option linter.unnecessarySimpa false
namespace Go.Proofs.YtpkmciohehaboaaGreatDoor
section
open Go.RowKit Go.Maps
section
variable {B p s k N M hk n g m nn nc:Nat} {c:Cv} {f:Int→Option (Option Nat)} {hf:Int→Option Int} {said:Nat} {told:Bool} {xs bs cls:List Value} {all first:Int} {L:List (Int×Int)} {cs:List dx}
theorem ady (b:ByteArray) (w:World) (h:All B w (aK p c :: aD 5 1 c.bytes n bs :: aH aV c.live N f k :: bg s (vF 0 said told 1) 140 :: aH bX c.how M hf hk :: gB g m all first L :: aD 3 1 c.closed nc cls :: aD 64 10 c.news nn xs :: cs)) (hl:c.last=1) (iE:c.l1=65535) (hbk:c.book = .pointer (some ⟨g,0,none⟩)) (g_:f 1=some (some s)) (hh:hf 1=none) (hM:M<maxLen) (hnc:nc≤14) (hn:n≤900000) (hnn:nn≤900000) (hb:b.size≤10000) (hg:(told && !decide (said=b.size))=false) :
 Calls Tryz.prog 134 #[.pointer (some ⟨p,0,none⟩),gF (bL b)] w (Left B w fun w'=>∃bv n' bs' nv,All B w' (aK p { c with bytes:=bv,news:=nv } :: aD 5 1 bv n' bs' :: aH aV c.live N f k :: aH bX c.how M hf hk :: aD 64 10 nv (nn+1) (xs++(xN b).l) :: cs)):=by
 obtain⟨W0,hW0⟩:∃W0,w.alloc (.cells (bL b).cells 52)=W0:=⟨_,rfl⟩
 have fQ:=gV h (bL b).cells 52
 have lY:Below B w W0:=by rw[←hW0];exact (Below.refl _ _).alloc h.sz _
 obtain⟨x,hx⟩:∃x,w.heap.size=x:=⟨_,rfl⟩
 rw[hW0,hx] at fQ
 have bE:=af (fQ.pick [_])
 have dW:=af lY
 have HX:=af hx
 have dY:=af hW0
 have je:W0.heap[x]?=some (.cells (bL b).cells 52 (0,0)):=fQ.head
 have Ca:=af (fD.of je)
 have HC:=af (fun w=>Ig 1 0 2 0 true w (by omega) (by omega) rfl rfl (by omega))
 rw[show Bu (Be ((1:Nat):Int) 2 true) = .agg #[.int .i64 2,.bool false,.bool false,.int .i64 0,.bool false] from rfl] at HC
 have hst:=bE.out.aP [8,8,8,8,6,6,8,8,8]
 have HST:=af (aaL W0 hst hl g_)
 have HG:=af hg
 have HH:=af (And.intro hl (And.intro iE (And.intro hbk (And.intro g_ (And.intro hh (And.intro hM (And.intro hnc (And.intro hn hnn))))))))
 clear h hW0 hx je fQ lY hl iE hbk g_ hh hM hnc hn hnn hst hg
 unfold gF
 simp only[Fr.cells,bL] at bE dY ⊢
 go_enter Tryz.func134,Tryz.ntmps134
 go_upto_region 1 with fail
 refine bI ?_
 intro W3 hW3
 obtain rfl:W3=W0:=hW3.trans dY.out
 rw[HX.out]
 clear hW3
 obtain⟨k0,k1,k2,k3,k4,k5,k6,k7,k8,k9,bS,bN,-⟩:=Ca.out
 simp only[bL] at k0 k1 k2 k3 k4 k5 k6 k7 k8 k9 bS bN
 obtain⟨z,hz⟩:∃z,b.size=z:=⟨_,rfl⟩
 have HZ:=af hz
 have hzb:z≤10000:=by omega
 go_wp2_with fail
 refine HST.out.mono ?_
 rintro e w1 ⟨rfl,rfl⟩
 go_wp2_with fail
 refine (HC.out _).mono ?_
 rintro e w2 ⟨rfl,hb2⟩
 have dA:=bE.out.below hb2
 have tY:=dW.out.trans (hb2.mono bE.out.sz)
 clear k0 k1 k2 k3 k4 k5 k6 k7 k8 k9 bS bN
 have bY:=af dA
 have aI:=af tY
 clear dA tY hb2 hz
 go_upto_region 6 with (first
  | (refine wpList_store_rowTo rfl 229 (.tmp 6) (.tmp 29) rfl rfl w2.heap.size #[.int .i64 0,.bool false,.bool false,.int .i64 0,.bool false] rfl rfl 229 _ (aZ _ _) Bo rfl (by simp[Value.oneCell']) ?_))
 refine bI ?_
 intro W4 bA
 have dN:=gV bY.out #[.int .i64 2,.bool false,.bool false,.int .i64 0,.bool false] 229
 rw[←bA] at dN
 have lC:Below B w W4:=by rw[bA];exact aI.out.alloc bY.out.sz _
 obtain⟨mv,iG⟩:∃mv,w2.heap.size=mv:=⟨_,rfl⟩
 rw[iG] at dN ⊢
 have aX:=af dN
 have dz:=af lC
 clear dN lC bA iG
 have hm:W4.heap[mv]?=some (.cells #[.int .i64 2,.bool false,.bool false,.int .i64 0,.bool false] 229 (0,0)):=aX.out.head
 have m0:W4.cell? ⟨mv,0,none⟩=some (#[.int .i64 2,.bool false,.bool false,.int .i64 0,.bool false]:Array Value)[0]:=by unfold World.cell?;rw[hm];rfl
 have m1:W4.cell? ⟨mv,1,none⟩=some (#[.int .i64 2,.bool false,.bool false,.int .i64 0,.bool false]:Array Value)[1]:=by unfold World.cell?;rw[hm];rfl
 have m2:W4.cell? ⟨mv,2,none⟩=some (#[.int .i64 2,.bool false,.bool false,.int .i64 0,.bool false]:Array Value)[2]:=by unfold World.cell?;rw[hm];rfl
 have m3:W4.cell? ⟨mv,3,none⟩=some (#[.int .i64 2,.bool false,.bool false,.int .i64 0,.bool false]:Array Value)[3]:=by unfold World.cell?;rw[hm];rfl
 have m4:W4.cell? ⟨mv,4,none⟩=some (#[.int .i64 2,.bool false,.bool false,.int .i64 0,.bool false]:Array Value)[4]:=by unfold World.cell?;rw[hm];rfl
 dsimp only[List.getElem_toArray,List.getElem_cons_zero,List.getElem_cons_succ] at m0 m1 m2 m3 m4
 clear hm
 by_cases hz0:z=0
 ·have t1:¬((z:Nat):Int) > 0:=by omega
  have fA:=aX.out.aP [9,9,9,9,9,9,9,9,9,9]
  have hm:W4.heap[mv]?=some (.cells #[.int .i64 2,.bool false,.bool false,.int .i64 0,.bool false] 229 (0,0)):=fA.head
  have m1:W4.cell? ⟨mv,1,none⟩=some (#[.int .i64 2,.bool false,.bool false,.int .i64 0,.bool false]:Array Value)[1]:=by unfold World.cell?;rw[hm];rfl
  have m2:W4.cell? ⟨mv,2,none⟩=some (#[.int .i64 2,.bool false,.bool false,.int .i64 0,.bool false]:Array Value)[2]:=by unfold World.cell?;rw[hm];rfl
  have m0:W4.cell? ⟨mv,0,none⟩=some (#[.int .i64 2,.bool false,.bool false,.int .i64 0,.bool false]:Array Value)[0]:=by unfold World.cell?;rw[hm];rfl
  dsimp only[List.getElem_toArray,List.getElem_cons_zero,List.getElem_cons_succ] at m0 m1 m2
  clear hm fA
  have fE:=aX.out.aP [9,9,9,9,9,9,9,8,8,9]
  obtain⟨k0,k1,k2,k3,k4,k5,k6,k7,k8,k9,bS,bN,-⟩:=fD.of (f:=bL b) fE.head
  simp only[bL] at k0 k1 k2 k3 k4 k5 k6 k7 k8 k9 bS bN
  clear fE
  have hc:=aX.out.aP [9,9,9,9,9,9,9,9,8,9]
  have q9:=hc.cc 9 (.map (some c.live)) rfl
  have q1:W4.cell? ⟨p,1,none⟩=some (.int .i64 65535):=by rw[←HH.out.2.1];exact hc.cc 1 (.int .i64 c.l1) rfl
  clear hc
  have hlv:=aX.out.aP [9,9,9,9,9,8,8,8,8,9]
  have gQ:=bq.wM qj hlv.head (i:=1) yf
  rw[HH.out.2.2.2.1] at gQ
  have hlk:(Instr.lookup 93 (.map (some c.live)) (.int .i64 1) false).run Tryz.prog W4.drew = .ok (.pointer (some ⟨s,0,none⟩)) W4.drew:=by
   have h1:bq aV W4.drew c.live N f k:=bq.keep hlv.head rfl
   have h2:=bq.wM qj h1 (i:=1) yf
   rw[HH.out.2.2.2.1] at h2
   exact h2
  clear hlv gQ
  have jM:=aX.out.aP [9,9,9,9,8,8,8,8,8,9]
  obtain⟨s0,s1,s2,s6⟩:=BB jM.head
  have g0:=KF jM.head 0
  clear jM
  go_upto_region 12 with fail
  go_region
  go_upto_region 13 with fail
  go_region
  go_upto_region 14 with fail
  refine bI ?_
  intro W7 eU
  have jM:=aX.out.aP [9,9,9,9,8,8,8,8,8,9]
  obtain⟨h7,b7⟩:=jM.set 0 (.int .i64 (z:Int))
  rw[HZ.out] at eU
  try rw[HZ.out]
  have h7:=h7.drew.drew
  have dU:Below B w W7:=by rw[eU];exact (((dz.out.trans b7).trans (by exact⟨rfl,rfl,rfl,ah _,fun _ _=>rfl⟩)).trans (by exact⟨rfl,rfl,rfl,ah _,fun _ _=>rfl⟩))
  rw[←eU] at h7
  have h7:All B W7 (bg s (vF z said told 1) 140 :: _):=h7
  have eY:=af h7
  have iZ:=af dU
  clear h7 b7 dU eU jM m0 m1 m2 k0 k1 k2 k3 k4 k5 k6 k7 k8 k9 bS bN q9 q1 hlk s0 s1 s2 s6 g0
  have fA:=eY.out.aP [9,9,9,9,9,9,9,9,8,9]
  have hm:W7.heap[mv]?=some (.cells #[.int .i64 2,.bool false,.bool false,.int .i64 0,.bool false] 229 (0,0)):=fA.head
  have m1:W7.cell? ⟨mv,1,none⟩=some (#[.int .i64 2,.bool false,.bool false,.int .i64 0,.bool false]:Array Value)[1]:=by unfold World.cell?;rw[hm];rfl
  have m2:W7.cell? ⟨mv,2,none⟩=some (#[.int .i64 2,.bool false,.bool false,.int .i64 0,.bool false]:Array Value)[2]:=by unfold World.cell?;rw[hm];rfl
  have m0:W7.cell? ⟨mv,0,none⟩=some (#[.int .i64 2,.bool false,.bool false,.int .i64 0,.bool false]:Array Value)[0]:=by unfold World.cell?;rw[hm];rfl
  dsimp only[List.getElem_toArray,List.getElem_cons_zero,List.getElem_cons_succ] at m0 m1 m2
  clear hm fA
  have fE:=eY.out.aP [9,9,9,9,9,9,8,8,8,9]
  obtain⟨k0,k1,k2,k3,k4,k5,k6,k7,k8,k9,bS,bN,-⟩:=fD.of (f:=bL b) fE.head
  simp only[bL] at k0 k1 k2 k3 k4 k5 k6 k7 k8 k9 bS bN
  clear fE
  have hc:=eY.out.aP [9,9,9,9,9,9,9,8,8,9]
  have q1:W7.cell? ⟨p,1,none⟩=some (.int .i64 65535):=by rw[←HH.out.2.1];exact hc.cc 1 (.int .i64 c.l1) rfl
  clear hc
  obtain⟨s0,s1,s2,s6⟩:=BB eY.out.head
  rw[HZ.out] at HG
  cases told with
  | false=>
   have ht:=eY.out.aP [9,9,9,9,8,8,7,7,9,9]
   have ny:=af (fun (wx:World) (hx:Below W7.heap.size W7 wx)=>Nc wx (ht.below hx) HH.out.2.2.2.1)
   clear ht
   have nl:¬((z:Int)<(z:Int)):=Int.lt_irrefl _
   go_upto_region 16 with fail
   refine wp_region_held_drew (S:=fun w'=>w'.cell? ⟨s,0,none⟩=some (.int .i64 (z:Int))∧w'.cell? ⟨s,1,none⟩=some (.int .i64 (said:Int))∧w'.cell? ⟨s,2,none⟩=some (.bool false)) (by kernel_rfl) (⟨s0,s1,s2⟩) (fun hH=>?_)
   refine ag 0 85 hH ?_
   refine ag 1 86 hH ?_
   refine ag 2 87 hH ?_
   refine ag 3 88 hH ?_
   refine ag 4 89 hH ?_
   refine ag 5 90 hH ?_
   refine ai 6 91 hH ?_
   refine ai 7 92 hH ?_
   refine ai 8 93 hH ?_
   refine ai 9 94 hH ?_
   refine ai 10 95 hH ?_
   refine ai 11 96 hH ?_
   refine ai 12 97 hH ?_
   refine ai 13 98 hH ?_
   refine ai 14 99 hH ?_
   refine ai 15 100 hH ?_
   refine ai 16 101 hH ?_
   refine ai 17 102 hH ?_
   refine ai 18 103 hH ?_
   refine ai 19 104 hH ?_
   refine ai 20 105 hH ?_
   refine ai 21 106 hH ?_
   refine ai 22 107 hH ?_
   refine ai 23 108 hH ?_
   refine ai 24 109 hH ?_
   refine ai 25 110 hH ?_
   refine ai 26 111 hH ?_
   refine ai 27 112 hH ?_
   refine ai 28 113 hH ?_
   refine ai 29 114 hH ?_
   refine ai 30 115 hH ?_
   refine ai 31 116 hH ?_
   refine ai 32 117 hH ?_
   refine ag 33 118 hH ?_
   refine ag 34 84 hH ?_
   refine wpAnyH_done (by kernel_rfl) ?_ _
   go_wp2_with fail
   refine (ny.out _ (by first | exact Below.refl _ _ | exact⟨rfl,rfl,rfl,ah _,fun _ _=>rfl⟩)).mono ?_
   rintro e w8 ⟨rfl,bF,jd⟩
   have bF:Below B W7 w8:=by first | exact bF | exact Below.trans (by exact⟨rfl,rfl,rfl,ah _,fun _ _=>rfl⟩) bF
   have jO:=af jd
   have ja:=af (iZ.out.trans bF)
   clear jd bF ny m0 m1 m2 k0 k1 k2 k3 k4 k5 k6 k7 k8 k9 bS bN q1 s0 s1 s2 s6
   have fE:=jO.out.aP [9,9,9,9,9,8,8,8,8,9]
   obtain⟨k0,k1,k2,k3,k4,k5,k6,k7,k8,k9,bS,bN,-⟩:=fD.of (f:=bL b) fE.head
   simp only[bL] at k0 k1 k2 k3 k4 k5 k6 k7 k8 k9 bS bN
   clear fE
   have ht:=jO.out.aP [8,8,8,8,8,8,8,8,9,9]
   have nZ:=af (I8 (xN b) w8 ht rfl (by have:=HH.out.2.2.2.2.2.2.2.2;omega))
   unfold xN Hp.l at nZ
   clear ht
   go_wp2_with fail
   refine nZ.out.mono ?_
   rintro e w9 ⟨rfl,dB,nv,aU⟩
   have eF:=af aU
   have iq:=af (ja.out.trans dB)
   clear aU dB nZ k0 k1 k2 k3 k4 k5 k6 k7 k8 k9 bS bN
   go_wp2_with fail
   go_end0
   have hf:=eF.out.aP [1,7,3,7,4,9,9,9,9,9]
   exact⟨rfl,iq.out,_,_,_,nv,hf.tail.tail.tail.tail.tail⟩
  | true=>
   obtain rfl:said=z:=by have h:=HG.out;rw[zF,Bool.not_eq_false',tQ] at h;exact h
   have ht:=eY.out.aP [9,9,9,9,8,8,7,7,9,9]
   have ny:=af (fun (wx:World) (hx:Below W7.heap.size W7 wx)=>Nc wx (ht.below hx) HH.out.2.2.2.1)
   clear ht
   have nl:¬((said:Int)<(said:Int)):=Int.lt_irrefl _
   go_upto_region 16 with fail
   refine wp_region_held_drew (S:=fun w'=>w'.cell? ⟨s,0,none⟩=some (.int .i64 (said:Int))∧w'.cell? ⟨s,1,none⟩=some (.int .i64 (said:Int))∧w'.cell? ⟨s,2,none⟩=some (.bool true)) (by kernel_rfl) (⟨s0,s1,s2⟩) (fun hH=>?_)
   refine ag 0 85 hH ?_
   refine ag 1 86 hH ?_
   refine ag 2 87 hH ?_
   refine ag 3 88 hH ?_
   refine ag 4 89 hH ?_
   refine ag 5 90 hH ?_
   refine ag 6 91 hH ?_
   refine ag 7 92 hH ?_
   refine ag 8 93 hH ?_
   refine ag 9 94 hH ?_
   refine ag 10 95 hH ?_
   refine ag 11 96 hH ?_
   refine ag 12 97 hH ?_
   refine ag 13 98 hH ?_
   refine ag 14 99 hH ?_
   refine ag 15 100 hH ?_
   refine wpAnyH_take (i:=16) (oi:=⟨some 101,_,_,_,_,_⟩) (v:=(.bool false)) rfl (by kernel_rfl) (by kernel_rfl) (by kernel_rfl) (fun _ _ _ h=>h) (Or.inl ⟨by kernel_rfl,?_⟩) hH ?_
   ·intro wt hSw
    obtain⟨v0,v1,v2⟩:=hSw
    go_simp
    all_goals with_reducible rfl
   try simp only[Act.put,az,ay,aA]
   refine ag 17 102 hH ?_
   refine ag 18 103 hH ?_
   refine ag 19 104 hH ?_
   refine ag 20 105 hH ?_
   refine ag 21 106 hH ?_
   refine ag 22 107 hH ?_
   refine ag 23 108 hH ?_
   refine ag 24 109 hH ?_
   refine ag 25 110 hH ?_
   refine ag 26 111 hH ?_
   refine ag 27 112 hH ?_
   refine ag 28 113 hH ?_
   refine ag 29 114 hH ?_
   refine wpAnyH_take (i:=30) (oi:=⟨some 115,_,_,_,_,_⟩) (v:=(.bool false)) rfl (by kernel_rfl) (by kernel_rfl) (by kernel_rfl) (fun _ _ _ h=>h) (Or.inl ⟨by kernel_rfl,?_⟩) hH ?_
   ·intro wt hSw
    obtain⟨v0,v1,v2⟩:=hSw
    go_simp
    all_goals with_reducible rfl
   try simp only[Act.put,az,ay,aA]
   refine ag 31 116 hH ?_
   refine ag 32 117 hH ?_
   refine ag 33 118 hH ?_
   refine ag 34 84 hH ?_
   refine wpAnyH_done (by kernel_rfl) ?_ _
   go_wp2_with fail
   refine (ny.out _ (by first | exact Below.refl _ _ | exact⟨rfl,rfl,rfl,ah _,fun _ _=>rfl⟩)).mono ?_
   rintro e w8 ⟨rfl,bF,jd⟩
   have bF:Below B W7 w8:=by first | exact bF | exact Below.trans (by exact⟨rfl,rfl,rfl,ah _,fun _ _=>rfl⟩) bF
   have jO:=af jd
   have ja:=af (iZ.out.trans bF)
   clear jd bF ny m0 m1 m2 k0 k1 k2 k3 k4 k5 k6 k7 k8 k9 bS bN q1 s0 s1 s2 s6
   have fE:=jO.out.aP [9,9,9,9,9,8,8,8,8,9]
   obtain⟨k0,k1,k2,k3,k4,k5,k6,k7,k8,k9,bS,bN,-⟩:=fD.of (f:=bL b) fE.head
   simp only[bL] at k0 k1 k2 k3 k4 k5 k6 k7 k8 k9 bS bN
   clear fE
   have ht:=jO.out.aP [8,8,8,8,8,8,8,8,9,9]
   have nZ:=af (I8 (xN b) w8 ht rfl (by have:=HH.out.2.2.2.2.2.2.2.2;omega))
   unfold xN Hp.l at nZ
   clear ht
   go_wp2_with fail
   refine nZ.out.mono ?_
   rintro e w9 ⟨rfl,dB,nv,aU⟩
   have eF:=af aU
   have iq:=af (ja.out.trans dB)
   clear aU dB nZ k0 k1 k2 k3 k4 k5 k6 k7 k8 k9 bS bN
   go_wp2_with fail
   go_end0
   have hf:=eF.out.aP [1,7,3,7,4,9,9,9,9,9]
   exact⟨rfl,iq.out,_,_,_,nv,hf.tail.tail.tail.tail.tail⟩
 ·have t1:((z:Nat):Int) > 0:=by omega
  have hw:=aX.out.aP [9,9,9,9,9,9,8,7,9,9]
  have zP:=af (V9 z 0 W4 hzb (by omega) HH.out.2.2.2.2.2.2.2.1 hw)
  clear hw
  go_wp2_with fail
  refine zP.out.mono ?_
  rintro e w5 ⟨rfl,aT,v5,n5,bs5,hn5,iN⟩
  have bT:=af iN
  have eG:=af (dz.out.trans aT)
  clear iN aT zP m0 m1 m2 m3 m4
  have fA:=bT.out.aP [9,9,9,9,9,9,9,8,8,9]
  have hm:w5.heap[mv]?=some (.cells #[.int .i64 2,.bool false,.bool false,.int .i64 0,.bool false] 229 (0,0)):=fA.head
  have m1:w5.cell? ⟨mv,1,none⟩=some (#[.int .i64 2,.bool false,.bool false,.int .i64 0,.bool false]:Array Value)[1]:=by unfold World.cell?;rw[hm];rfl
  have m2:w5.cell? ⟨mv,2,none⟩=some (#[.int .i64 2,.bool false,.bool false,.int .i64 0,.bool false]:Array Value)[2]:=by unfold World.cell?;rw[hm];rfl
  have m0:w5.cell? ⟨mv,0,none⟩=some (#[.int .i64 2,.bool false,.bool false,.int .i64 0,.bool false]:Array Value)[0]:=by unfold World.cell?;rw[hm];rfl
  dsimp only[List.getElem_toArray,List.getElem_cons_zero,List.getElem_cons_succ] at m0 m1 m2
  clear hm fA
  have fE:=bT.out.aP [9,9,9,9,9,9,8,8,8,9]
  obtain⟨k0,k1,k2,k3,k4,k5,k6,k7,k8,k9,bS,bN,-⟩:=fD.of (f:=bL b) fE.head
  simp only[bL] at k0 k1 k2 k3 k4 k5 k6 k7 k8 k9 bS bN
  clear fE
  have hc:=bT.out.aP [9,9,9,9,9,9,9,9,9,9]
  have q9:=hc.cc 9 (.map (some c.live)) rfl
  have q1:w5.cell? ⟨p,1,none⟩=some (.int .i64 65535):=by rw[←HH.out.2.1];exact hc.cc 1 (.int .i64 c.l1) rfl
  clear hc
  have hlv:=bT.out.aP [9,9,9,9,9,8,8,8,8,9]
  have gQ:=bq.wM qj hlv.head (i:=1) yf
  rw[HH.out.2.2.2.1] at gQ
  have hlk:(Instr.lookup 93 (.map (some c.live)) (.int .i64 1) false).run Tryz.prog w5.drew = .ok (.pointer (some ⟨s,0,none⟩)) w5.drew:=by
   have h1:bq aV w5.drew c.live N f k:=bq.keep hlv.head rfl
   have h2:=bq.wM qj h1 (i:=1) yf
   rw[HH.out.2.2.2.1] at h2
   exact h2
  clear hlv gQ
  have jM:=bT.out.aP [9,9,9,9,8,8,8,8,8,9]
  obtain⟨s0,s1,s2,s6⟩:=BB jM.head
  have g0:=KF jM.head 0
  clear jM
  go_upto_region 12 with fail
  go_region
  go_upto_region 13 with fail
  go_region
  go_upto_region 14 with fail
  refine bI ?_
  intro W7 eU
  have jM:=bT.out.aP [9,9,9,9,8,8,8,8,8,9]
  obtain⟨h7,b7⟩:=jM.set 0 (.int .i64 (z:Int))
  rw[HZ.out] at eU
  try rw[HZ.out]
  have h7:=h7.drew.drew
  have dU:Below B w W7:=by rw[eU];exact (((eG.out.trans b7).trans (by exact⟨rfl,rfl,rfl,ah _,fun _ _=>rfl⟩)).trans (by exact⟨rfl,rfl,rfl,ah _,fun _ _=>rfl⟩))
  rw[←eU] at h7
  have h7:All B W7 (bg s (vF z said told 1) 140 :: _):=h7
  have eY:=af h7
  have iZ:=af dU
  clear h7 b7 dU eU jM m0 m1 m2 k0 k1 k2 k3 k4 k5 k6 k7 k8 k9 bS bN q9 q1 hlk s0 s1 s2 s6 g0
  have fA:=eY.out.aP [9,9,9,9,9,9,8,8,8,9]
  have hm:W7.heap[mv]?=some (.cells #[.int .i64 2,.bool false,.bool false,.int .i64 0,.bool false] 229 (0,0)):=fA.head
  have m1:W7.cell? ⟨mv,1,none⟩=some (#[.int .i64 2,.bool false,.bool false,.int .i64 0,.bool false]:Array Value)[1]:=by unfold World.cell?;rw[hm];rfl
  have m2:W7.cell? ⟨mv,2,none⟩=some (#[.int .i64 2,.bool false,.bool false,.int .i64 0,.bool false]:Array Value)[2]:=by unfold World.cell?;rw[hm];rfl
  have m0:W7.cell? ⟨mv,0,none⟩=some (#[.int .i64 2,.bool false,.bool false,.int .i64 0,.bool false]:Array Value)[0]:=by unfold World.cell?;rw[hm];rfl
  dsimp only[List.getElem_toArray,List.getElem_cons_zero,List.getElem_cons_succ] at m0 m1 m2
  clear hm fA
  have fE:=eY.out.aP [9,9,9,9,9,8,8,8,8,9]
  obtain⟨k0,k1,k2,k3,k4,k5,k6,k7,k8,k9,bS,bN,-⟩:=fD.of (f:=bL b) fE.head
  simp only[bL] at k0 k1 k2 k3 k4 k5 k6 k7 k8 k9 bS bN
  clear fE
  have hc:=eY.out.aP [9,9,9,9,9,9,9,9,8,9]
  have q1:W7.cell? ⟨p,1,none⟩=some (.int .i64 65535):=by rw[←HH.out.2.1];exact hc.cc 1 (.int .i64 c.l1) rfl
  clear hc
  obtain⟨s0,s1,s2,s6⟩:=BB eY.out.head
  rw[HZ.out] at HG
  cases told with
  | false=>
   have ht:=eY.out.aP [9,9,9,9,8,8,8,7,9,9]
   have ny:=af (fun (wx:World) (hx:Below W7.heap.size W7 wx)=>Nc wx (ht.below hx) HH.out.2.2.2.1)
   clear ht
   have nl:¬((z:Int)<(z:Int)):=Int.lt_irrefl _
   go_upto_region 16 with fail
   refine wp_region_held_drew (S:=fun w'=>w'.cell? ⟨s,0,none⟩=some (.int .i64 (z:Int))∧w'.cell? ⟨s,1,none⟩=some (.int .i64 (said:Int))∧w'.cell? ⟨s,2,none⟩=some (.bool false)) (by kernel_rfl) (⟨s0,s1,s2⟩) (fun hH=>?_)
   refine ag 0 85 hH ?_
   refine ag 1 86 hH ?_
   refine ag 2 87 hH ?_
   refine ag 3 88 hH ?_
   refine ag 4 89 hH ?_
   refine ag 5 90 hH ?_
   refine ai 6 91 hH ?_
   refine ai 7 92 hH ?_
   refine ai 8 93 hH ?_
   refine ai 9 94 hH ?_
   refine ai 10 95 hH ?_
   refine ai 11 96 hH ?_
   refine ai 12 97 hH ?_
   refine ai 13 98 hH ?_
   refine ai 14 99 hH ?_
   refine ai 15 100 hH ?_
   refine ai 16 101 hH ?_
   refine ai 17 102 hH ?_
   refine ai 18 103 hH ?_
   refine ai 19 104 hH ?_
   refine ai 20 105 hH ?_
   refine ai 21 106 hH ?_
   refine ai 22 107 hH ?_
   refine ai 23 108 hH ?_
   refine ai 24 109 hH ?_
   refine ai 25 110 hH ?_
   refine ai 26 111 hH ?_
   refine ai 27 112 hH ?_
   refine ai 28 113 hH ?_
   refine ai 29 114 hH ?_
   refine ai 30 115 hH ?_
   refine ai 31 116 hH ?_
   refine ai 32 117 hH ?_
   refine ag 33 118 hH ?_
   refine ag 34 84 hH ?_
   refine wpAnyH_done (by kernel_rfl) ?_ _
   go_wp2_with fail
   refine (ny.out _ (by first | exact Below.refl _ _ | exact⟨rfl,rfl,rfl,ah _,fun _ _=>rfl⟩)).mono ?_
   rintro e w8 ⟨rfl,bF,jd⟩
   have bF:Below B W7 w8:=by first | exact bF | exact Below.trans (by exact⟨rfl,rfl,rfl,ah _,fun _ _=>rfl⟩) bF
   have jO:=af jd
   have ja:=af (iZ.out.trans bF)
   clear jd bF ny m0 m1 m2 k0 k1 k2 k3 k4 k5 k6 k7 k8 k9 bS bN q1 s0 s1 s2 s6
   have fE:=jO.out.aP [9,9,9,9,8,8,8,8,8,9]
   obtain⟨k0,k1,k2,k3,k4,k5,k6,k7,k8,k9,bS,bN,-⟩:=fD.of (f:=bL b) fE.head
   simp only[bL] at k0 k1 k2 k3 k4 k5 k6 k7 k8 k9 bS bN
   clear fE
   have ht:=jO.out.aP [8,8,8,8,8,8,8,8,9,9]
   have nZ:=af (I8 (xN b) w8 ht rfl (by have:=HH.out.2.2.2.2.2.2.2.2;omega))
   unfold xN Hp.l at nZ
   clear ht
   go_wp2_with fail
   refine nZ.out.mono ?_
   rintro e w9 ⟨rfl,dB,nv,aU⟩
   have eF:=af aU
   have iq:=af (ja.out.trans dB)
   clear aU dB nZ k0 k1 k2 k3 k4 k5 k6 k7 k8 k9 bS bN
   go_wp2_with fail
   go_end0
   have hf:=eF.out.aP [1,7,3,5,4,9,9,9,9,9]
   exact⟨rfl,iq.out,_,_,_,nv,hf.tail.tail.tail.tail.tail⟩
  | true=>
   obtain rfl:said=z:=by have h:=HG.out;rw[zF,Bool.not_eq_false',tQ] at h;exact h
   have ht:=eY.out.aP [9,9,9,9,8,8,8,7,9,9]
   have ny:=af (fun (wx:World) (hx:Below W7.heap.size W7 wx)=>Nc wx (ht.below hx) HH.out.2.2.2.1)
   clear ht
   have nl:¬((said:Int)<(said:Int)):=Int.lt_irrefl _
   go_upto_region 16 with fail
   refine wp_region_held_drew (S:=fun w'=>w'.cell? ⟨s,0,none⟩=some (.int .i64 (said:Int))∧w'.cell? ⟨s,1,none⟩=some (.int .i64 (said:Int))∧w'.cell? ⟨s,2,none⟩=some (.bool true)) (by kernel_rfl) (⟨s0,s1,s2⟩) (fun hH=>?_)
   refine ag 0 85 hH ?_
   refine ag 1 86 hH ?_
   refine ag 2 87 hH ?_
   refine ag 3 88 hH ?_
   refine ag 4 89 hH ?_
   refine ag 5 90 hH ?_
   refine ag 6 91 hH ?_
   refine ag 7 92 hH ?_
   refine ag 8 93 hH ?_
   refine ag 9 94 hH ?_
   refine ag 10 95 hH ?_
   refine ag 11 96 hH ?_
   refine ag 12 97 hH ?_
   refine ag 13 98 hH ?_
   refine ag 14 99 hH ?_
   refine ag 15 100 hH ?_
   refine wpAnyH_take (i:=16) (oi:=⟨some 101,_,_,_,_,_⟩) (v:=(.bool false)) rfl (by kernel_rfl) (by kernel_rfl) (by kernel_rfl) (fun _ _ _ h=>h) (Or.inl ⟨by kernel_rfl,?_⟩) hH ?_
   ·intro wt hSw
    obtain⟨v0,v1,v2⟩:=hSw
    go_simp
    all_goals with_reducible rfl
   try simp only[Act.put,az,ay,aA]
   refine ag 17 102 hH ?_
   refine ag 18 103 hH ?_
   refine ag 19 104 hH ?_
   refine ag 20 105 hH ?_
   refine ag 21 106 hH ?_
   refine ag 22 107 hH ?_
   refine ag 23 108 hH ?_
   refine ag 24 109 hH ?_
   refine ag 25 110 hH ?_
   refine ag 26 111 hH ?_
   refine ag 27 112 hH ?_
   refine ag 28 113 hH ?_
   refine ag 29 114 hH ?_
   refine wpAnyH_take (i:=30) (oi:=⟨some 115,_,_,_,_,_⟩) (v:=(.bool false)) rfl (by kernel_rfl) (by kernel_rfl) (by kernel_rfl) (fun _ _ _ h=>h) (Or.inl ⟨by kernel_rfl,?_⟩) hH ?_
   ·intro wt hSw
    obtain⟨v0,v1,v2⟩:=hSw
    go_simp
    all_goals with_reducible rfl
   try simp only[Act.put,az,ay,aA]
   refine ag 31 116 hH ?_
   refine ag 32 117 hH ?_
   refine ag 33 118 hH ?_
   refine ag 34 84 hH ?_
   refine wpAnyH_done (by kernel_rfl) ?_ _
   go_wp2_with fail
   refine (ny.out _ (by first | exact Below.refl _ _ | exact⟨rfl,rfl,rfl,ah _,fun _ _=>rfl⟩)).mono ?_
   rintro e w8 ⟨rfl,bF,jd⟩
   have bF:Below B W7 w8:=by first | exact bF | exact Below.trans (by exact⟨rfl,rfl,rfl,ah _,fun _ _=>rfl⟩) bF
   have jO:=af jd
   have ja:=af (iZ.out.trans bF)
   clear jd bF ny m0 m1 m2 k0 k1 k2 k3 k4 k5 k6 k7 k8 k9 bS bN q1 s0 s1 s2 s6
   have fE:=jO.out.aP [9,9,9,9,8,8,8,8,8,9]
   obtain⟨k0,k1,k2,k3,k4,k5,k6,k7,k8,k9,bS,bN,-⟩:=fD.of (f:=bL b) fE.head
   simp only[bL] at k0 k1 k2 k3 k4 k5 k6 k7 k8 k9 bS bN
   clear fE
   have ht:=jO.out.aP [8,8,8,8,8,8,8,8,9,9]
   have nZ:=af (I8 (xN b) w8 ht rfl (by have:=HH.out.2.2.2.2.2.2.2.2;omega))
   unfold xN Hp.l at nZ
   clear ht
   go_wp2_with fail
   refine nZ.out.mono ?_
   rintro e w9 ⟨rfl,dB,nv,aU⟩
   have eF:=af aU
   have iq:=af (ja.out.trans dB)
   clear aU dB nZ k0 k1 k2 k3 k4 k5 k6 k7 k8 k9 bS bN
   go_wp2_with fail
   go_end0
   have hf:=eF.out.aP [1,7,3,5,4,9,9,9,9,9]
   exact⟨rfl,iq.out,_,_,_,nv,hf.tail.tail.tail.tail.tail⟩
theorem adx (b:ByteArray) (w:World) (h:All B w (aK p c :: aD 5 1 c.bytes n bs :: aH aV c.live N f k :: bg s (vF 0 said told 1) 140 :: aH bX c.how M hf hk :: gB g m all first L :: aD 3 1 c.closed nc cls :: aD 64 10 c.news nn xs :: cs)) (hl:c.last=1) (iE:c.l1=65535) (hbk:c.book = .pointer (some ⟨g,0,none⟩)) (g_:f 1=some (some s)) (hh:hf 1=none) (hM:M<maxLen) (hnc:nc≤14) (hn:n≤900000) (hnn:nn≤900000) (hb:b.size≤10000) (htold:told=true) (hg:said≠b.size) :
 Calls Tryz.prog 134 #[.pointer (some ⟨p,0,none⟩),gF (bL b)] w (Left B w fun w'=>∃bv n' bs' f' k' hf' hk' cv nv,f' 1=none∧hf' 1=some 5∧All B w' (aK p { c with bytes:=bv,closed:=cv,news:=nv } :: aD 5 1 bv n' bs' :: aH aV c.live N f' k' :: aH bX c.how (M+1) hf' hk' :: aD 64 10 nv (nn+1) (xs++(CO 1 1).l) :: cs)):=by
 obtain⟨W0,hW0⟩:∃W0,w.alloc (.cells (bL b).cells 52)=W0:=⟨_,rfl⟩
 have fQ:=gV h (bL b).cells 52
 have lY:Below B w W0:=by rw[←hW0];exact (Below.refl _ _).alloc h.sz _
 obtain⟨x,hx⟩:∃x,w.heap.size=x:=⟨_,rfl⟩
 rw[hW0,hx] at fQ
 have bE:=af (fQ.pick [_])
 have dW:=af lY
 have HX:=af hx
 have dY:=af hW0
 have je:W0.heap[x]?=some (.cells (bL b).cells 52 (0,0)):=fQ.head
 have Ca:=af (fD.of je)
 have HC:=af (fun w=>Ig 1 0 2 0 true w (by omega) (by omega) rfl rfl (by omega))
 rw[show Bu (Be ((1:Nat):Int) 2 true) = .agg #[.int .i64 2,.bool false,.bool false,.int .i64 0,.bool false] from rfl] at HC
 have hst:=bE.out.aP [8,8,8,8,6,6,8,8,8]
 have HST:=af (aaL W0 hst hl g_)
 subst htold
 have HG:=af hg
 have HH:=af (And.intro hl (And.intro iE (And.intro hbk (And.intro g_ (And.intro hh (And.intro hM (And.intro hnc (And.intro hn hnn))))))))
 clear h hW0 hx je fQ lY hl iE hbk g_ hh hM hnc hn hnn hst hg
 unfold gF
 simp only[Fr.cells,bL] at bE dY ⊢
 go_enter Tryz.func134,Tryz.ntmps134
 go_upto_region 1 with fail
 refine bI ?_
 intro W3 hW3
 obtain rfl:W3=W0:=hW3.trans dY.out
 rw[HX.out]
 clear hW3
 obtain⟨k0,k1,k2,k3,k4,k5,k6,k7,k8,k9,bS,bN,-⟩:=Ca.out
 simp only[bL] at k0 k1 k2 k3 k4 k5 k6 k7 k8 k9 bS bN
 obtain⟨z,hz⟩:∃z,b.size=z:=⟨_,rfl⟩
 have HZ:=af hz
 have hzb:z≤10000:=by omega
 go_wp2_with fail
 refine HST.out.mono ?_
 rintro e w1 ⟨rfl,rfl⟩
 go_wp2_with fail
 refine (HC.out _).mono ?_
 rintro e w2 ⟨rfl,hb2⟩
 have dA:=bE.out.below hb2
 have tY:=dW.out.trans (hb2.mono bE.out.sz)
 clear k0 k1 k2 k3 k4 k5 k6 k7 k8 k9 bS bN
 have bY:=af dA
 have aI:=af tY
 clear dA tY hb2 hz
 go_upto_region 6 with (first
  | (refine wpList_store_rowTo rfl 229 (.tmp 6) (.tmp 29) rfl rfl w2.heap.size #[.int .i64 0,.bool false,.bool false,.int .i64 0,.bool false] rfl rfl 229 _ (aZ _ _) Bo rfl (by simp[Value.oneCell']) ?_))
 refine bI ?_
 intro W4 bA
 have dN:=gV bY.out #[.int .i64 2,.bool false,.bool false,.int .i64 0,.bool false] 229
 rw[←bA] at dN
 have lC:Below B w W4:=by rw[bA];exact aI.out.alloc bY.out.sz _
 obtain⟨mv,iG⟩:∃mv,w2.heap.size=mv:=⟨_,rfl⟩
 rw[iG] at dN ⊢
 have aX:=af dN
 have dz:=af lC
 clear dN lC bA iG
 have hm:W4.heap[mv]?=some (.cells #[.int .i64 2,.bool false,.bool false,.int .i64 0,.bool false] 229 (0,0)):=aX.out.head
 have m0:W4.cell? ⟨mv,0,none⟩=some (#[.int .i64 2,.bool false,.bool false,.int .i64 0,.bool false]:Array Value)[0]:=by unfold World.cell?;rw[hm];rfl
 have m1:W4.cell? ⟨mv,1,none⟩=some (#[.int .i64 2,.bool false,.bool false,.int .i64 0,.bool false]:Array Value)[1]:=by unfold World.cell?;rw[hm];rfl
 have m2:W4.cell? ⟨mv,2,none⟩=some (#[.int .i64 2,.bool false,.bool false,.int .i64 0,.bool false]:Array Value)[2]:=by unfold World.cell?;rw[hm];rfl
 have m3:W4.cell? ⟨mv,3,none⟩=some (#[.int .i64 2,.bool false,.bool false,.int .i64 0,.bool false]:Array Value)[3]:=by unfold World.cell?;rw[hm];rfl
 have m4:W4.cell? ⟨mv,4,none⟩=some (#[.int .i64 2,.bool false,.bool false,.int .i64 0,.bool false]:Array Value)[4]:=by unfold World.cell?;rw[hm];rfl
 dsimp only[List.getElem_toArray,List.getElem_cons_zero,List.getElem_cons_succ] at m0 m1 m2 m3 m4
 clear hm
 by_cases hz0:z=0
 ·have t1:¬((z:Nat):Int) > 0:=by omega
  have fA:=aX.out.aP [9,9,9,9,9,9,9,9,9,9]
  have hm:W4.heap[mv]?=some (.cells #[.int .i64 2,.bool false,.bool false,.int .i64 0,.bool false] 229 (0,0)):=fA.head
  have m1:W4.cell? ⟨mv,1,none⟩=some (#[.int .i64 2,.bool false,.bool false,.int .i64 0,.bool false]:Array Value)[1]:=by unfold World.cell?;rw[hm];rfl
  have m2:W4.cell? ⟨mv,2,none⟩=some (#[.int .i64 2,.bool false,.bool false,.int .i64 0,.bool false]:Array Value)[2]:=by unfold World.cell?;rw[hm];rfl
  have m0:W4.cell? ⟨mv,0,none⟩=some (#[.int .i64 2,.bool false,.bool false,.int .i64 0,.bool false]:Array Value)[0]:=by unfold World.cell?;rw[hm];rfl
  dsimp only[List.getElem_toArray,List.getElem_cons_zero,List.getElem_cons_succ] at m0 m1 m2
  clear hm fA
  have fE:=aX.out.aP [9,9,9,9,9,9,9,8,8,9]
  obtain⟨k0,k1,k2,k3,k4,k5,k6,k7,k8,k9,bS,bN,-⟩:=fD.of (f:=bL b) fE.head
  simp only[bL] at k0 k1 k2 k3 k4 k5 k6 k7 k8 k9 bS bN
  clear fE
  have hc:=aX.out.aP [9,9,9,9,9,9,9,9,8,9]
  have q9:=hc.cc 9 (.map (some c.live)) rfl
  have q1:W4.cell? ⟨p,1,none⟩=some (.int .i64 65535):=by rw[←HH.out.2.1];exact hc.cc 1 (.int .i64 c.l1) rfl
  clear hc
  have hlv:=aX.out.aP [9,9,9,9,9,8,8,8,8,9]
  have gQ:=bq.wM qj hlv.head (i:=1) yf
  rw[HH.out.2.2.2.1] at gQ
  have hlk:(Instr.lookup 93 (.map (some c.live)) (.int .i64 1) false).run Tryz.prog W4.drew = .ok (.pointer (some ⟨s,0,none⟩)) W4.drew:=by
   have h1:bq aV W4.drew c.live N f k:=bq.keep hlv.head rfl
   have h2:=bq.wM qj h1 (i:=1) yf
   rw[HH.out.2.2.2.1] at h2
   exact h2
  clear hlv gQ
  have jM:=aX.out.aP [9,9,9,9,8,8,8,8,8,9]
  obtain⟨s0,s1,s2,s6⟩:=BB jM.head
  have g0:=KF jM.head 0
  clear jM
  go_upto_region 12 with fail
  go_region
  go_upto_region 13 with fail
  go_region
  go_upto_region 14 with fail
  refine bI ?_
  intro W7 eU
  have jM:=aX.out.aP [9,9,9,9,8,8,8,8,8,9]
  obtain⟨h7,b7⟩:=jM.set 0 (.int .i64 (z:Int))
  rw[HZ.out] at eU
  try rw[HZ.out]
  have h7:=h7.drew.drew
  have dU:Below B w W7:=by rw[eU];exact (((dz.out.trans b7).trans (by exact⟨rfl,rfl,rfl,ah _,fun _ _=>rfl⟩)).trans (by exact⟨rfl,rfl,rfl,ah _,fun _ _=>rfl⟩))
  rw[←eU] at h7
  have h7:All B W7 (bg s (vF z said true 1) 140 :: _):=h7
  have eY:=af h7
  have iZ:=af dU
  clear h7 b7 dU eU jM m0 m1 m2 k0 k1 k2 k3 k4 k5 k6 k7 k8 k9 bS bN q9 q1 hlk s0 s1 s2 s6 g0
  have fA:=eY.out.aP [9,9,9,9,9,9,9,9,8,9]
  have hm:W7.heap[mv]?=some (.cells #[.int .i64 2,.bool false,.bool false,.int .i64 0,.bool false] 229 (0,0)):=fA.head
  have m1:W7.cell? ⟨mv,1,none⟩=some (#[.int .i64 2,.bool false,.bool false,.int .i64 0,.bool false]:Array Value)[1]:=by unfold World.cell?;rw[hm];rfl
  have m2:W7.cell? ⟨mv,2,none⟩=some (#[.int .i64 2,.bool false,.bool false,.int .i64 0,.bool false]:Array Value)[2]:=by unfold World.cell?;rw[hm];rfl
  have m0:W7.cell? ⟨mv,0,none⟩=some (#[.int .i64 2,.bool false,.bool false,.int .i64 0,.bool false]:Array Value)[0]:=by unfold World.cell?;rw[hm];rfl
  dsimp only[List.getElem_toArray,List.getElem_cons_zero,List.getElem_cons_succ] at m0 m1 m2
  clear hm fA
  have fE:=eY.out.aP [9,9,9,9,9,9,8,8,8,9]
  obtain⟨k0,k1,k2,k3,k4,k5,k6,k7,k8,k9,bS,bN,-⟩:=fD.of (f:=bL b) fE.head
  simp only[bL] at k0 k1 k2 k3 k4 k5 k6 k7 k8 k9 bS bN
  clear fE
  have hc:=eY.out.aP [9,9,9,9,9,9,9,8,8,9]
  have q1:W7.cell? ⟨p,1,none⟩=some (.int .i64 65535):=by rw[←HH.out.2.1];exact hc.cc 1 (.int .i64 c.l1) rfl
  clear hc
  obtain⟨s0,s1,s2,s6⟩:=BB eY.out.head
  rw[HZ.out] at HG
  rcases vW z said with hlt | hge
  ·have n3 : 0<said:=by omega
   have ht:=eY.out.aP [3,2,2,9,9,9,9,9,9,9]
   have ny:=af (fun (wx:World) (hx:Below W7.heap.size W7 wx)=>Tj 1 1 wx (ht.below hx) HH.out.2.2.1 (by have:=HH.out.2.2.2.2.2.2.2.1;omega) (by decide) (by omega) (by omega) HH.out.2.2.2.1 HH.out.2.2.2.2.1 HH.out.2.2.2.2.2.1 (by have:=HH.out.2.2.2.2.2.2.1;omega) (by have:=HH.out.2.2.2.2.2.2.2.2;omega))
   clear ht
   have n1:¬((said:Int)<(z:Int)):=by omega
   have n2:((z:Int)<(said:Int)):=by omega
   go_upto_region 16 with fail
   refine wp_region_held_drew (S:=fun w'=>w'.cell? ⟨s,0,none⟩=some (.int .i64 (z:Int))∧w'.cell? ⟨s,1,none⟩=some (.int .i64 (said:Int))∧w'.cell? ⟨s,2,none⟩=some (.bool true)) (by kernel_rfl) (⟨s0,s1,s2⟩) (fun hH=>?_)
   refine ag 0 85 hH ?_
   refine ag 1 86 hH ?_
   refine ag 2 87 hH ?_
   refine ag 3 88 hH ?_
   refine ag 4 89 hH ?_
   refine ag 5 90 hH ?_
   refine ag 6 91 hH ?_
   refine ag 7 92 hH ?_
   refine ag 8 93 hH ?_
   refine ag 9 94 hH ?_
   refine ag 10 95 hH ?_
   refine ag 11 96 hH ?_
   refine ag 12 97 hH ?_
   refine ag 13 98 hH ?_
   refine ag 14 99 hH ?_
   refine ag 15 100 hH ?_
   refine wpAnyH_take (i:=16) (oi:=⟨some 101,_,_,_,_,_⟩) (v:=(.bool false)) rfl (by kernel_rfl) (by kernel_rfl) (by kernel_rfl) (fun _ _ _ h=>h) (Or.inl ⟨by kernel_rfl,?_⟩) hH ?_
   ·intro wt hSw
    obtain⟨v0,v1,v2⟩:=hSw
    go_simp
    all_goals with_reducible rfl
   try simp only[Act.put,az,ay,aA]
   refine ag 17 102 hH ?_
   refine ag 18 103 hH ?_
   refine ag 19 104 hH ?_
   refine ag 20 105 hH ?_
   refine ag 21 106 hH ?_
   refine ag 22 107 hH ?_
   refine ag 23 108 hH ?_
   refine ag 24 109 hH ?_
   refine ag 25 110 hH ?_
   refine ag 26 111 hH ?_
   refine ag 27 112 hH ?_
   refine ag 28 113 hH ?_
   refine ag 29 114 hH ?_
   refine wpAnyH_take (i:=30) (oi:=⟨some 115,_,_,_,_,_⟩) (v:=(.bool true)) rfl (by kernel_rfl) (by kernel_rfl) (by kernel_rfl) (fun _ _ _ h=>h) (Or.inl ⟨by kernel_rfl,?_⟩) hH ?_
   ·intro wt hSw
    obtain⟨v0,v1,v2⟩:=hSw
    go_simp
    all_goals with_reducible rfl
   try simp only[Act.put,az,ay,aA]
   refine ag 31 116 hH ?_
   refine ag 32 117 hH ?_
   refine ag 33 118 hH ?_
   refine ag 34 84 hH ?_
   refine wpAnyH_done (by kernel_rfl) ?_ _
   go_wp2_with fail
   refine (ny.out _ (by first | exact Below.refl _ _ | exact⟨rfl,rfl,rfl,ah _,fun _ _=>rfl⟩)).mono ?_
   rintro e w8 ⟨rfl,bF,bv,n8,bs8,f8,k8',xG,vg,cv,nv,e1,e2,-,jd⟩
   have bF:Below B W7 w8:=by first | exact bF | exact Below.trans (by exact⟨rfl,rfl,rfl,ah _,fun _ _=>rfl⟩) bF
   have jO:=af jd
   have ja:=af (iZ.out.trans bF)
   have Di:=af (And.intro e1 e2)
   clear jd bF ny m0 m1 m2 k0 k1 k2 k3 k4 k5 k6 k7 k8 k9 bS bN q1 s0 s1 s2 s6 e1 e2
   go_wp2_with fail
   go_end0
   have hf:=jO.out.aP [6,4,4,4,4,9,9,9,9,9]
   exact⟨rfl,ja.out,bv,n8,bs8,f8,k8',xG,vg,cv,nv,Di.out.1,Di.out.2,hf.tail.tail.tail.tail.tail⟩
  ·exact absurd HG.out (by omega)
 ·have t1:((z:Nat):Int) > 0:=by omega
  have hw:=aX.out.aP [9,9,9,9,9,9,8,7,9,9]
  have zP:=af (V9 z 0 W4 hzb (by omega) HH.out.2.2.2.2.2.2.2.1 hw)
  clear hw
  go_wp2_with fail
  refine zP.out.mono ?_
  rintro e w5 ⟨rfl,aT,v5,n5,bs5,hn5,iN⟩
  have bT:=af iN
  have eG:=af (dz.out.trans aT)
  clear iN aT zP m0 m1 m2 m3 m4
  have fA:=bT.out.aP [9,9,9,9,9,9,9,8,8,9]
  have hm:w5.heap[mv]?=some (.cells #[.int .i64 2,.bool false,.bool false,.int .i64 0,.bool false] 229 (0,0)):=fA.head
  have m1:w5.cell? ⟨mv,1,none⟩=some (#[.int .i64 2,.bool false,.bool false,.int .i64 0,.bool false]:Array Value)[1]:=by unfold World.cell?;rw[hm];rfl
  have m2:w5.cell? ⟨mv,2,none⟩=some (#[.int .i64 2,.bool false,.bool false,.int .i64 0,.bool false]:Array Value)[2]:=by unfold World.cell?;rw[hm];rfl
  have m0:w5.cell? ⟨mv,0,none⟩=some (#[.int .i64 2,.bool false,.bool false,.int .i64 0,.bool false]:Array Value)[0]:=by unfold World.cell?;rw[hm];rfl
  dsimp only[List.getElem_toArray,List.getElem_cons_zero,List.getElem_cons_succ] at m0 m1 m2
  clear hm fA
  have fE:=bT.out.aP [9,9,9,9,9,9,8,8,8,9]
  obtain⟨k0,k1,k2,k3,k4,k5,k6,k7,k8,k9,bS,bN,-⟩:=fD.of (f:=bL b) fE.head
  simp only[bL] at k0 k1 k2 k3 k4 k5 k6 k7 k8 k9 bS bN
  clear fE
  have hc:=bT.out.aP [9,9,9,9,9,9,9,9,9,9]
  have q9:=hc.cc 9 (.map (some c.live)) rfl
  have q1:w5.cell? ⟨p,1,none⟩=some (.int .i64 65535):=by rw[←HH.out.2.1];exact hc.cc 1 (.int .i64 c.l1) rfl
  clear hc
  have hlv:=bT.out.aP [9,9,9,9,9,8,8,8,8,9]
  have gQ:=bq.wM qj hlv.head (i:=1) yf
  rw[HH.out.2.2.2.1] at gQ
  have hlk:(Instr.lookup 93 (.map (some c.live)) (.int .i64 1) false).run Tryz.prog w5.drew = .ok (.pointer (some ⟨s,0,none⟩)) w5.drew:=by
   have h1:bq aV w5.drew c.live N f k:=bq.keep hlv.head rfl
   have h2:=bq.wM qj h1 (i:=1) yf
   rw[HH.out.2.2.2.1] at h2
   exact h2
  clear hlv gQ
  have jM:=bT.out.aP [9,9,9,9,8,8,8,8,8,9]
  obtain⟨s0,s1,s2,s6⟩:=BB jM.head
  have g0:=KF jM.head 0
  clear jM
  go_upto_region 12 with fail
  go_region
  go_upto_region 13 with fail
  go_region
  go_upto_region 14 with fail
  refine bI ?_
  intro W7 eU
  have jM:=bT.out.aP [9,9,9,9,8,8,8,8,8,9]
  obtain⟨h7,b7⟩:=jM.set 0 (.int .i64 (z:Int))
  rw[HZ.out] at eU
  try rw[HZ.out]
  have h7:=h7.drew.drew
  have dU:Below B w W7:=by rw[eU];exact (((eG.out.trans b7).trans (by exact⟨rfl,rfl,rfl,ah _,fun _ _=>rfl⟩)).trans (by exact⟨rfl,rfl,rfl,ah _,fun _ _=>rfl⟩))
  rw[←eU] at h7
  have h7:All B W7 (bg s (vF z said true 1) 140 :: _):=h7
  have eY:=af h7
  have iZ:=af dU
  clear h7 b7 dU eU jM m0 m1 m2 k0 k1 k2 k3 k4 k5 k6 k7 k8 k9 bS bN q9 q1 hlk s0 s1 s2 s6 g0
  have fA:=eY.out.aP [9,9,9,9,9,9,8,8,8,9]
  have hm:W7.heap[mv]?=some (.cells #[.int .i64 2,.bool false,.bool false,.int .i64 0,.bool false] 229 (0,0)):=fA.head
  have m1:W7.cell? ⟨mv,1,none⟩=some (#[.int .i64 2,.bool false,.bool false,.int .i64 0,.bool false]:Array Value)[1]:=by unfold World.cell?;rw[hm];rfl
  have m2:W7.cell? ⟨mv,2,none⟩=some (#[.int .i64 2,.bool false,.bool false,.int .i64 0,.bool false]:Array Value)[2]:=by unfold World.cell?;rw[hm];rfl
  have m0:W7.cell? ⟨mv,0,none⟩=some (#[.int .i64 2,.bool false,.bool false,.int .i64 0,.bool false]:Array Value)[0]:=by unfold World.cell?;rw[hm];rfl
  dsimp only[List.getElem_toArray,List.getElem_cons_zero,List.getElem_cons_succ] at m0 m1 m2
  clear hm fA
  have fE:=eY.out.aP [9,9,9,9,9,8,8,8,8,9]
  obtain⟨k0,k1,k2,k3,k4,k5,k6,k7,k8,k9,bS,bN,-⟩:=fD.of (f:=bL b) fE.head
  simp only[bL] at k0 k1 k2 k3 k4 k5 k6 k7 k8 k9 bS bN
  clear fE
  have hc:=eY.out.aP [9,9,9,9,9,9,9,9,8,9]
  have q1:W7.cell? ⟨p,1,none⟩=some (.int .i64 65535):=by rw[←HH.out.2.1];exact hc.cc 1 (.int .i64 c.l1) rfl
  clear hc
  obtain⟨s0,s1,s2,s6⟩:=BB eY.out.head
  rw[HZ.out] at HG
  rcases vW z said with hlt | hge
  ·have ht:=(eY.out).pick [_,_,_,_]
   have ht:=ht.aP [4,2,9,9,9,9,9,9,9]
   have ny:=af (fun (wx:World) (hx:Below W7.heap.size W7 wx)=>Tj 1 1 wx (ht.below hx) HH.out.2.2.1 (by have:=HH.out.2.2.2.2.2.2.2.1;omega) (by decide) (by omega) (by omega) HH.out.2.2.2.1 HH.out.2.2.2.2.1 HH.out.2.2.2.2.2.1 (by have:=HH.out.2.2.2.2.2.2.1;omega) (by have:=HH.out.2.2.2.2.2.2.2.2;omega))
   clear ht
   have n1:¬((said:Int)<(z:Int)):=by omega
   have n2:((z:Int)<(said:Int)):=by omega
   go_upto_region 16 with fail
   refine wp_region_held_drew (S:=fun w'=>w'.cell? ⟨s,0,none⟩=some (.int .i64 (z:Int))∧w'.cell? ⟨s,1,none⟩=some (.int .i64 (said:Int))∧w'.cell? ⟨s,2,none⟩=some (.bool true)) (by kernel_rfl) (⟨s0,s1,s2⟩) (fun hH=>?_)
   refine ag 0 85 hH ?_
   refine ag 1 86 hH ?_
   refine ag 2 87 hH ?_
   refine ag 3 88 hH ?_
   refine ag 4 89 hH ?_
   refine ag 5 90 hH ?_
   refine ag 6 91 hH ?_
   refine ag 7 92 hH ?_
   refine ag 8 93 hH ?_
   refine ag 9 94 hH ?_
   refine ag 10 95 hH ?_
   refine ag 11 96 hH ?_
   refine ag 12 97 hH ?_
   refine ag 13 98 hH ?_
   refine ag 14 99 hH ?_
   refine ag 15 100 hH ?_
   refine wpAnyH_take (i:=16) (oi:=⟨some 101,_,_,_,_,_⟩) (v:=(.bool false)) rfl (by kernel_rfl) (by kernel_rfl) (by kernel_rfl) (fun _ _ _ h=>h) (Or.inl ⟨by kernel_rfl,?_⟩) hH ?_
   ·intro wt hSw
    obtain⟨v0,v1,v2⟩:=hSw
    go_simp
    all_goals with_reducible rfl
   try simp only[Act.put,az,ay,aA]
   refine ag 17 102 hH ?_
   refine ag 18 103 hH ?_
   refine ag 19 104 hH ?_
   refine ag 20 105 hH ?_
   refine ag 21 106 hH ?_
   refine ag 22 107 hH ?_
   refine ag 23 108 hH ?_
   refine ag 24 109 hH ?_
   refine ag 25 110 hH ?_
   refine ag 26 111 hH ?_
   refine ag 27 112 hH ?_
   refine ag 28 113 hH ?_
   refine ag 29 114 hH ?_
   refine wpAnyH_take (i:=30) (oi:=⟨some 115,_,_,_,_,_⟩) (v:=(.bool true)) rfl (by kernel_rfl) (by kernel_rfl) (by kernel_rfl) (fun _ _ _ h=>h) (Or.inl ⟨by kernel_rfl,?_⟩) hH ?_
   ·intro wt hSw
    obtain⟨v0,v1,v2⟩:=hSw
    go_simp
    all_goals with_reducible rfl
   try simp only[Act.put,az,ay,aA]
   refine ag 31 116 hH ?_
   refine ag 32 117 hH ?_
   refine ag 33 118 hH ?_
   refine ag 34 84 hH ?_
   refine wpAnyH_done (by kernel_rfl) ?_ _
   go_wp2_with fail
   refine (ny.out _ (by first | exact Below.refl _ _ | exact⟨rfl,rfl,rfl,ah _,fun _ _=>rfl⟩)).mono ?_
   rintro e w8 ⟨rfl,bF,bv,n8,bs8,f8,k8',xG,vg,cv,nv,e1,e2,-,jd⟩
   have bF:Below B W7 w8:=by first | exact bF | exact Below.trans (by exact⟨rfl,rfl,rfl,ah _,fun _ _=>rfl⟩) bF
   have jO:=af jd
   have ja:=af (iZ.out.trans bF)
   have Di:=af (And.intro e1 e2)
   clear jd bF ny m0 m1 m2 k0 k1 k2 k3 k4 k5 k6 k7 k8 k9 bS bN q1 s0 s1 s2 s6 e1 e2
   go_wp2_with fail
   go_end0
   have hf:=jO.out.aP [6,4,4,4,4,9,9,9,9,9]
   exact⟨rfl,ja.out,bv,n8,bs8,f8,k8',xG,vg,cv,nv,Di.out.1,Di.out.2,hf.tail.tail.tail.tail.tail⟩
  ·have hlt:said<z:=by have:=HG.out;omega
   have ht:=eY.out.aP [4,4,2,9,9,9,9,9,9,9]
   have ny:=af (fun (wx:World) (hx:Below W7.heap.size W7 wx)=>Tj 1 1 wx (ht.below hx) HH.out.2.2.1 (by have:=HH.out.2.2.2.2.2.2.2.1;omega) (by decide) (by omega) (by omega) HH.out.2.2.2.1 HH.out.2.2.2.2.1 HH.out.2.2.2.2.2.1 (by have:=HH.out.2.2.2.2.2.2.1;omega) (by have:=HH.out.2.2.2.2.2.2.2.2;omega))
   clear ht
   have n1:((said:Int)<(z:Int)):=by omega
   have n2:¬((z:Int)<(said:Int)):=by omega
   go_upto_region 16 with fail
   refine wp_region_held_drew (S:=fun w'=>w'.cell? ⟨s,0,none⟩=some (.int .i64 (z:Int))∧w'.cell? ⟨s,1,none⟩=some (.int .i64 (said:Int))∧w'.cell? ⟨s,2,none⟩=some (.bool true)) (by kernel_rfl) (⟨s0,s1,s2⟩) (fun hH=>?_)
   refine ag 0 85 hH ?_
   refine ag 1 86 hH ?_
   refine ag 2 87 hH ?_
   refine ag 3 88 hH ?_
   refine ag 4 89 hH ?_
   refine ag 5 90 hH ?_
   refine ag 6 91 hH ?_
   refine ag 7 92 hH ?_
   refine ag 8 93 hH ?_
   refine ag 9 94 hH ?_
   refine ag 10 95 hH ?_
   refine ag 11 96 hH ?_
   refine ag 12 97 hH ?_
   refine ag 13 98 hH ?_
   refine ag 14 99 hH ?_
   refine ag 15 100 hH ?_
   refine wpAnyH_take (i:=16) (oi:=⟨some 101,_,_,_,_,_⟩) (v:=(.bool true)) rfl (by kernel_rfl) (by kernel_rfl) (by kernel_rfl) (fun _ _ _ h=>h) (Or.inl ⟨by kernel_rfl,?_⟩) hH ?_
   ·intro wt hSw
    obtain⟨v0,v1,v2⟩:=hSw
    go_simp
    all_goals with_reducible rfl
   try simp only[Act.put,az,ay,aA]
   refine ag 17 102 hH ?_
   refine ai 18 103 hH ?_
   refine ai 19 104 hH ?_
   refine ai 20 105 hH ?_
   refine ai 21 106 hH ?_
   refine ai 22 107 hH ?_
   refine ai 23 108 hH ?_
   refine ai 24 109 hH ?_
   refine ai 25 110 hH ?_
   refine ai 26 111 hH ?_
   refine ai 27 112 hH ?_
   refine ai 28 113 hH ?_
   refine ai 29 114 hH ?_
   refine ai 30 115 hH ?_
   refine ai 31 116 hH ?_
   refine ag 32 117 hH ?_
   refine ag 33 118 hH ?_
   refine ag 34 84 hH ?_
   refine wpAnyH_done (by kernel_rfl) ?_ _
   go_wp2_with fail
   refine (ny.out _ (by first | exact Below.refl _ _ | exact⟨rfl,rfl,rfl,ah _,fun _ _=>rfl⟩)).mono ?_
   rintro e w8 ⟨rfl,bF,bv,n8,bs8,f8,k8',xG,vg,cv,nv,e1,e2,-,jd⟩
   have bF:Below B W7 w8:=by first | exact bF | exact Below.trans (by exact⟨rfl,rfl,rfl,ah _,fun _ _=>rfl⟩) bF
   have jO:=af jd
   have ja:=af (iZ.out.trans bF)
   have Di:=af (And.intro e1 e2)
   clear jd bF ny m0 m1 m2 k0 k1 k2 k3 k4 k5 k6 k7 k8 k9 bS bN q1 s0 s1 s2 s6 e1 e2
   go_wp2_with fail
   go_end0
   have hf:=jO.out.aP [6,4,4,4,4,9,9,9,9,9]
   exact⟨rfl,ja.out,bv,n8,bs8,f8,k8',xG,vg,cv,nv,Di.out.1,Di.out.2,hf.tail.tail.tail.tail.tail⟩
end
end
section
open Go.RowKit Go.Maps
section
variable {B p d g m lm hm:Nat} {l:List Fd} {b1 b2 body:ByteArray} {fs:List (Fr×Bool)} {V:Value}
theorem aba (w:World) (hb:body.size≤10000) (h:qJ B p d g m lm hm l b1 body fs V 3 w):Calls Tryz.prog 60 #[.pointer (some ⟨p,0,none⟩),qd (bL body)] w (Left B w (qJ B p d g m lm hm l b1 body fs V 4)):=by
 have xP:∀w',qJ B p d g m lm hm l b1 body fs V 4 w'→∃c' cs',All B w' (aK p c' :: cs')∧c'.mX=false:=by
  intro w' hQ
  rcases hQ with ⟨-,c',N',f',k',hf',hk',ht',-,-,-,h1⟩ | ⟨-,-,c',N',f',k',hf',hk',kI,ht',-,-,h1⟩ | ⟨-,-,c',kI,ht',h1⟩
  ·exact⟨_,_,h1,ht'.dr⟩
  ·exact⟨_,_,h1,ht'.dr⟩
  ·exact⟨_,_,h1,ht'.dr⟩
 rcases h with ⟨hR,c,n,xs,f,k,hf,hk,ht,hne,hn,g_,hf2,hA⟩ | ⟨hR,c,n,xs,N,f,k,s,fv,L,ht,hcl,hn,g_,hA⟩
 ·refine GR (fn:=134) (Q:=qJ B p d g m lm hm l b1 body fs V 4) (bL body) w hA (by show (0:Nat)≤255;omega) rfl (.inr (.inr (.inr rfl))) (fun w1 h1=>ML (bL body) w1 h1 ht.gr ht.cu (by show (0:Nat)≠9;omega)) (fun w1 h1=>?_) xP
  have e1:aH aV lm 0 f k=aH aV c.live 0 f k:=by rw[ht.live]
  have e2:aH bX hm 1 hf hk=aH bX c.how 1 hf hk:=by rw[ht.how]
  rw[e1,e2] at h1
  have h2:=h1.aP [1,4,4,4,4]
  refine (adz (c:={ c with gG:=true }) body w1 h2 ht.last g_ hf2 (by omega) hb).mono ?_
  rintro e w2 ⟨rfl,hb2,v,n',bs',dA⟩
  refine⟨rfl,hb2,.inl ⟨hR,{ c with gG:=true,bytes:=v },0,f,k,hf,hk,⟨ht.l0,ht.l1,ht.dec,ht.book,ht.dr,ht.ov,ht.live,ht.how,rfl,ht.cu,ht.last⟩,hne,g_,hf2,?_⟩⟩
  rw[e1,e2]
  have h3:=dA.aP [3,3,4,3]
  have h3:=All.init (l:=[_,_,_,_]) (r:=[_]) h3
  exact h3
 ·refine GR (fn:=134) (Q:=qJ B p d g m lm hm l b1 body fs V 4) (bL body) w hA (by show (0:Nat)≤255;omega) rfl (.inr (.inr (.inr rfl))) (fun w1 h1=>ML (bL body) w1 h1 ht.gr ht.cu (by show (0:Nat)≠9;omega)) (fun w1 h1=>?_) xP
  have e1:aH aV lm N f k=aH aV c.live N f k:=by rw[ht.live]
  have e2:aH bX hm 0 (fun _=>none) 0=aH bX c.how 0 (fun _=>none) 0:=by rw[ht.how]
  rw[e1,e2] at h1
  have e3:aD 3 1 (.slice none 0 0) 0 []=aD 3 1 c.closed 0 []:=by rw[hcl];rfl
  have h2:=h1.Bz 3 1
  rw[e3] at h2
  have h2:=h2.aP [8,3,8,3,8,8,9,9,9,9]
  cases hS:EI l body with
  | false=>
   refine (ady (c:={ c with gG:=true }) body w1 h2 ht.last ht.l1 ht.book g_ rfl (by unfold maxLen;omega) (by omega) (by omega) (by omega) hb hS).mono ?_
   rintro e w2 ⟨rfl,hb2,bv,n',bs',nv,dA⟩
   refine⟨rfl,hb2,.inr (.inr ⟨hR,hS,{ c with gG:=true,bytes:=bv,news:=nv },fv,⟨ht.l0,ht.l1,ht.dec,ht.book,ht.dr,ht.ov,ht.live,ht.how,rfl,ht.cu,ht.last⟩,?_⟩)⟩
   have h3:=dA.aP [6,5,6,3]
   have h3:=All.init (l:=[_,_,_,_]) (r:=[_,_,_]) h3
   exact h3
  | true=>
   have hS2:=hS
   unfold EI at hS2
   rw[pI,ET,decide_eq_false_iff_not] at hS2
   refine (adx (c:={ c with gG:=true }) body w1 h2 ht.last ht.l1 ht.book g_ rfl (by unfold maxLen;omega) (by omega) (by omega) (by omega) hb hS2.1 hS2.2).mono ?_
   rintro e w2 ⟨rfl,hb2,bv,n',bs',f',k',hf',hk',cv,nv,g1,g2,dA⟩
   refine⟨rfl,hb2,.inr (.inl ⟨hR,hS,{ c with gG:=true,bytes:=bv,closed:=cv,news:=nv },N,f',k',hf',hk',fv,⟨ht.l0,ht.l1,ht.dec,ht.book,ht.dr,ht.ov,ht.live,ht.how,rfl,ht.cu,ht.last⟩,g1,g2,?_⟩)⟩
   have e4:aH aV c.live N f' k'=aH aV lm N f' k':=by rw[ht.live]
   have e5:aH bX c.how (0+1) hf' hk'=aH bX hm 1 hf' hk':=by rw[ht.how]
   have h3:=dA.aP [4,4,4,5,4]
   have h3:=All.init (l:=[_,_,_,_,_]) (r:=[_,_]) h3
   have h4:All B w2 [aK p { c with gG:=true,bytes:=bv,closed:=cv,news:=nv },aD 130 15 V fs.length (jN fs),aH aV c.live N f' k',aH bX c.how (0+1) hf' hk',aD 64 10 nv 2 ((yG l fv).l++(CO 1 1).l)]:=h3
   rw[e4,e5] at h4
   exact h4
end
def abT (B p:Nat) (l:List Fd) (body:ByteArray) (w:World) (e:Ending) (w':World):Prop:=
 Below B w w' ∧
 (((aS l).2≠0∧e = .returned zu∧∃c N f k hf hk,c.last=1∧f 1=none∧hf 1=some 5∧All B w' [aK p c,aH aV c.live N f k,aH bX c.how 1 hf hk]) ∨
  ((aS l).2=0∧EI l body=true∧∃c N f k hf hk fv,e = .returned c.news∧c.last=1∧f 1=none∧hf 1=some 5∧All B w' [aK p c,aH aV c.live N f k,aH bX c.how 1 hf hk,aD 64 10 c.news 2 ((yG l fv).l++(CO 1 1).l)]) ∨
  ((aS l).2=0∧EI l body=false∧∃v fv,e = .returned v∧All B w' [aD 64 10 v 2 ((yG l fv).l++(xN body).l),aD 26 3 fv (aS l).1.fields.length (fds (aS l).1.fields)]))
theorem SY {B p:Nat}{w:World}{c c':Cv}{cs cs':List dx}(h:All B w (aK p c :: cs)) (h':All B w (aK p c' :: cs')):c.news=c'.news:=by
 have e1:=h'.conn
 rw[h.conn] at e1
 have e2:c.cells=c'.cells:=by injection e1 with e1;injection e1
 have h1:c.cells[21]?=c'.cells[21]?:=by rw[e2]
 injection h1
theorem abb (b1 b2 body:ByteArray) (h1:b1.size≤16000) (h2:b2.size≤16000) (h3:body.size≤10000):(bD (l6 b1) false++bD (lW b2) false++bD (bL body) false).length≤60000∧9≤(bD (l6 b1) false++bD (lW b2) false++bD (bL body) false).length:=by
 have e1:=Gc (l6 b1) false
 have e2:=Gc (lW b2) false
 have e3:=Gc (bL body) false
 have f1:=Kv (l6 b1) false
 have f2:=Kv (lW b2) false
 have f3:=Kv (bL body) false
 have g1:(l6 b1).data.size+(l6 b1).pad=b1.size:=rfl
 have g2:(lW b2).data.size+(lW b2).pad=b2.size:=rfl
 have g3:(bL body).data.size+(bL body).pad=body.size:=rfl
 rw[aN,aN]
 omega
theorem agi {B p x d g m n nl cap:Nat}{c:Cv}{G:Nat→Prop}{xs:List Value}{A:Option Addr}{l:List Fd}{T':Tb}{b1 b2 body:ByteArray}(w:World)
 (h:All B w [aK p c,aD 5 1 c.bytes n xs,nE x 16384 0,mV d G 0 4096 65536 G_ false,gB g m 65535 65535 [],aH aV c.live 0 (fun _=>none) 0,aH bX c.how 0 (fun _=>none) 0,aD 5 1 (.slice A nl cap) nl (ak (oD++(bD (l6 b1) false++bD (lW b2) false++bD (bL body) false)))])
 (hn:n≤1000) (h0:c.l0=2) (h1:c.l1=65535) (qb:c.feed = .pointer (some ⟨x,0,none⟩)) (mG:c.dec = .pointer (some ⟨d,0,none⟩)) (hbk:c.book = .pointer (some ⟨g,0,none⟩)) (hd:c.mX=false) (ho:c.cu=0) (hl:c.last=0) (lD:c.over=false) (hg:c.gG=false) (hcl:c.closed = .slice none 0 0)
 (hb1:b1.size+b2.size≤16000) (hb3:body.size≤10000) (hout:sH 4096 65536 G_ (b1.data.toList++b2.data.toList)=(l,0,some T')) (hs:jZ l≤10000) :
 Calls Tryz.prog 19 #[.pointer (some ⟨p,0,none⟩),.slice A nl cap] w (abT B p l body w):=by
 obtain⟨fs,hfs⟩:∃fs,toF b1 b2 body=fs:=⟨_,rfl⟩
 have Iw:fs.length=4:=by rw[←hfs];rfl
 have AZ:fs[0]?=some (gI,false):=by rw[←hfs];rfl
 have g_:fs[1]?=some (l6 b1,false):=by rw[←hfs];rfl
 have hf2:fs[2]?=some (lW b2,false):=by rw[←hfs];rfl
 have hf3:fs[3]?=some (bL body,false):=by rw[←hfs];rfl
 refine (XU fs (fun V=>qJ B p d g m c.live c.how l b1 body fs V) (.slice A nl cap) w h lD qb (by omega) ?_ ?_).mono ?_
 ·intro V k w hJ
  match k,hJ with
  | 0,hJ=>
   obtain⟨c',n,xs,G,ht,-,-,-,hA⟩:=id hJ
   refine⟨_,_,hA,.inl ⟨ht.ov,fun f hf w' hb=>?_⟩⟩
   rw[AZ] at hf
   obtain rfl:(gI,false)=f:=qI hf
   obtain⟨c',n,xs,G,ht,hne,hcc,hnn,hA⟩:=hJ
   exact aja w' ⟨c',n,xs,G,ht,hne,hcc,hnn,hA.below hb⟩
  | 1,hJ=>
   obtain⟨c',n,xs,G,ht,hne,hcc,hnn,hA⟩:=id hJ
   refine⟨_,_,hA,.inl ⟨ht.ov,fun f hf w' hb=>?_⟩⟩
   rw[g_] at hf
   obtain rfl:(l6 b1,false)=f:=qI hf
   exact ajb w' (by omega) ⟨c',n,xs,G,ht,hne,hcc,hnn,hA.below hb⟩
  | 2,hJ=>
   obtain⟨c',n,xs,G,ht,hen,hne,hcc,hnn,hA⟩:=id hJ
   refine⟨_,_,hA,.inl ⟨ht.ov,fun f hf w' hb=>?_⟩⟩
   rw[hf2] at hf
   obtain rfl:(lW b2,false)=f:=qI hf
   exact ajc w' (by omega) hb1 hout hs ⟨c',n,xs,G,ht,hen,hne,hcc,hnn,hA.below hb⟩
  | 3,hJ=>
   rcases id hJ with ⟨hR,c',n,xs,f,k,hf,hk,ht,hne,hnn,g1,g2,hA⟩ | ⟨hR,c',n,xs,N,f,k,s,fv,L,ht,hcc,hnn,g1,hA⟩
   ·refine⟨_,_,hA,.inl ⟨ht.ov,fun f' hf' w' hb=>?_⟩⟩
    rw[hf3] at hf'
    obtain rfl:(bL body,false)=f':=qI hf'
    exact aba w' hb3 (.inl ⟨hR,c',n,xs,f,k,hf,hk,ht,hne,hnn,g1,g2,hA.below hb⟩)
   ·refine⟨_,_,hA,.inl ⟨ht.ov,fun f' hf' w' hb=>?_⟩⟩
    rw[hf3] at hf'
    obtain rfl:(bL body,false)=f':=qI hf'
    exact aba w' hb3 (.inr ⟨hR,c',n,xs,N,f,k,s,fv,L,ht,hcc,hnn,g1,hA.below hb⟩)
  | 4,hJ=>
   rcases hJ with ⟨-,c',N',f',k',hf',hk',ht',-,-,-,h1⟩ | ⟨-,-,c',N',f',k',hf',hk',kI,ht',-,-,h1⟩ | ⟨-,-,c',kI,ht',h1⟩
   ·exact⟨_,_,h1,.inl ⟨ht'.ov,fun f hf=>by rw[List.getElem?_eq_none (by omega)] at hf;cases hf⟩⟩
   ·exact⟨_,_,h1,.inl ⟨ht'.ov,fun f hf=>by rw[List.getElem?_eq_none (by omega)] at hf;cases hf⟩⟩
   ·exact⟨_,_,h1,.inl ⟨ht'.ov,fun f hf=>by rw[List.getElem?_eq_none (by omega)] at hf;cases hf⟩⟩
 ·intro w1 h1w
  have hrow:w1.ownsRow 0 5 1 (.slice A nl cap) nl (ak (oD++(bD (l6 b1) false++bD (lW b2) false++bD (bL body) false))):=(h1w.pick [_,_,_,_,_,_,_]).head
  obtain⟨A',cap',hv,hcap,hmx,hrd,-⟩:=aC hrow
  obtain⟨rfl,rfl⟩:A=A'∧cap=cap':=by injection hv with e1 e2 e3;exact⟨e1,e3⟩
  have kL:zG w1 x 16384 0:=(h1w.pick [_,_]).head
  have hlen:=hrd.mR
  have hpl:zw.length=24:=rfl
  have fM:=Zt
  have hfl:=abb b1 b2 body (by omega) (by omega) hb3
  have ME:=ajd b1 b2 body
  rw[hfs] at ME
  obtain⟨RR,kT⟩:∃RR,bD (l6 b1) false++bD (lW b2) false++bD (bL body) false=RR:=⟨_,rfl⟩
  rw[kT] at hrd hlen hfl ME
  unfold oD at hrd hlen
  rw[aN,aN,hpl,fM] at hlen
  obtain⟨-,gb,o,rfl,hgb,-⟩:=hrd.tL (by omega)
  have hgx:gb≠x:=fun e=>by
   have h2:=(List.pairwise_cons.1 (h1w.pick [_,_]).apart).1 _ (fH _ (fH _ (fH _ (fH _ (fH _ (fH _ (iK ..))))))) x rfl
   exact h2 (by rw[←e];rfl)
  have hxl:x<w1.heap.size:=(Array.getElem?_eq_some_iff.1 kL).1
  rw[jf] at hrd
  have hcut:=aae hrd (by rw[aN];omega)
  rw[hpl] at hcut
  refine Yf (x:=x) (most:=16384) (n:=nl-24) (cap:=cap-24) (base:=x+1) (A:=some ⟨gb,o+24,none⟩) (v:=.slice none 0 0) (left:=[]) (b:=bD gI false++RR) fs
   (fun w2=>zG w2 x 16384 24∧Kept (fun b=>b=x) w1 w2) _ (by omega) (by rw[←hfs];exact ai_ (by omega) (by omega) hb3) (ZI w1 kL) ?_ ?_ ?_ (by omega) ?_ ?_ (by omega) ?_
  ·refine (Yt w1 kL hrd hgx (by rfl) (by omega) hcap hmx).mono ?_
   rintro e w2 ⟨rfl,h2,h3⟩
   exact⟨rfl,h2,h3⟩
  ·rintro w2 ⟨h2,h3⟩
   refine⟨h2,World.ownsRow_nil _ _ _ _,by have:=h3.size;omega,?_⟩
   have hk:Rd w2 w1.heap.size 1 (some ⟨gb,o+24,none⟩) (nl-24) (ak (bD gI false++RR)):=by
    refine⟨hcut.1,fun hn=>?_⟩
    obtain⟨b',o',e,hb,hc⟩:=hcut.2 hn
    refine⟨b',o',e,hb,fun j hj=>?_⟩
    injection e with e
    injection e with e1 e2
    subst e1 e2
    rw[World.cell?_of_block (a:=⟨gb,_,none⟩) (h3.block gb hgb (by simpa using hgx))]
    exact hc j hj
   exact hk.more h3.size
  ·intro _ a ha
   injection ha with ha
   subst ha
   exact⟨hgx,by simp[Value.ownBlock]⟩
  ·rw[jQ,ME];exact List.prefix_refl _
  ·simp only[List.length_nil,aN];omega
  ·rintro w2 ⟨h2,h3⟩ e w3 hpost
   rw[jQ,←ME] at hpost
   obtain⟨V,v',rfl,hown,hf3',hk3⟩:=aa9 hpost
   have hk4:Kept (nE x 16384 0).F w1 w3:=⟨hk3.os.trans h3.os,hk3.tape.trans h3.tape,hk3.output.trans h3.output,gM h3.size hk3.size,fun k hk hF=>(hk3.block k (fI hk h3.size) (fun e=>by rcases e with e | e;exact hF e;simp[Value.ownBlock] at e)).trans (h3.block k hk hF)⟩
   have h4:=(h1w.pick [_,_]).KH (c':=bg x (fdC 16384 v' false) 163) (d:=aD 130 15 V fs.length (jN fs)) hk4 (fun k hk=>.inl hk) hf3' (IQ hown (aL _)) (fun b hF=>gM h3.size (World.ownsRow.lt hown b hF).1) (fun b hF e=>by
    have e2:b=x:=e
    have:=(World.ownsRow.lt hown b hF).1
    have:=h3.size
    omega)
   have hB:=(h1w.pick [_,_]).kept hk4
   have h5:=h4.aP [7,7,7,7,7,5,7]
   have h5:=All.init (l:=[_,_,_,_,_,_,_]) (r:=[_,_]) h5
   refine⟨V,rfl,⟨{ c with news:=.slice none 0 0 },n,xs,G,⟨h0,h1,mG,hbk,hd,lD,rfl,rfl,hg,ho,hl⟩,rfl,hcl,hn,h5⟩,hB⟩
 ·rintro e w' ⟨V,c',cs',hJ,hb,hA,rfl⟩
  rw[Iw] at hJ
  refine⟨hb,?_⟩
  rcases hJ with ⟨hR,c2,N',f',k',hf',hk',ht',hne,g1,g2,h1⟩ | ⟨hR,hS,c2,N',f',k',hf',hk',kI,ht',g1,g2,h1⟩ | ⟨hR,hS,c2,kI,ht',h1⟩
  ·refine .inl ⟨hR,by rw[←SY h1 hA,hne],c2,N',f',k',hf',hk',ht'.last,g1,g2,?_⟩
   have h2:=(h1.pick [_]).tail
   rw[ht'.live,ht'.how]
   exact h2
  ·refine .inr (.inl ⟨hR,hS,c2,N',f',k',hf',hk',kI,by rw[←SY h1 hA],ht'.last,g1,g2,?_⟩)
   have h2:=(h1.pick [_]).tail
   rw[ht'.live,ht'.how]
   exact h2
  ·refine .inr (.inr ⟨hR,hS,c2.news,kI,by rw[←SY h1 hA],?_⟩)
   exact (h1.pick [_]).tail.tail
end
end Go.Proofs.YtpkmciohehaboaaGreatDoor
