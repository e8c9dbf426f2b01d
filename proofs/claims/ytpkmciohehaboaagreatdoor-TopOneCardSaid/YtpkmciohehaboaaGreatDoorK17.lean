/- Part 17 of the proof. -/
import Derived.Test.YtpkmciohehaboaaGreatDoorK0
import Derived.Test.YtpkmciohehaboaaGreatDoorK16
set_option maxRecDepth 100000
set_option maxHeartbeats 100000000
set_option linter.unusedVariables false
set_option linter.unusedSimpArgs false
set_option linter.unusedSectionVars false
set_option linter.unnecessarySimpa false
namespace Go.Proofs.YtpkmciohehaboaaGreatDoor
section
open Go.RowKit
def zw:List UInt8:=[80,82,73,32,42,32,72,84,84,80,47,50,46,48,13,10,13,10,83,77,13,10,13,10]
def zG (w:World) (x:Nat) (most:Int) (k:Nat):Prop:=w.heap[x]?=some (.cells #[.int .i64 most,.int .i64 (k:Int),.slice none 0 0,.bool false] 163 (0,0))
theorem ZI {x k:Nat}{most:Int}(w:World) (h:zG w x most k) :
 Calls Tryz.prog 94 #[.pointer (some ⟨x,0,none⟩)] w fun e w'=>e = .returned (.bool false)∧w=w':=by
 have c3:w.cell? ⟨x,3,none⟩=some (.bool false):=by unfold World.cell?;rw[h];rfl
 clear h
 go_enter Tryz.func94,Tryz.ntmps94
 go_wp2
 go_ret
 exact⟨rfl,rfl⟩
def GrRel (w:World) (x g o n cap:Nat) (most:Int) (v:Value) (wr:World):Prop:=∃k,k≤24∧v = .slice (some ⟨g,o+k,none⟩) (n-k) (cap-k)∧zG wr x most k∧Kept (fun b=>b=x) w wr
def Wo (x:Nat) (w:World):Nat:=match w.cell? ⟨x,1,none⟩ with
 | some (.int _ n)=>24-n.toNat
 | _=>0
theorem Yt {x g o n cap:Nat}{most:Int}{l:List UInt8}(w:World) (h:zG w x most 0) (hr:Rd w w.heap.size 1 (some ⟨g,o,none⟩) n (ak l)) (hgx:g≠x) (hp:l.take 24=zw) (hn : 25≤n) (hc:n≤cap) (hm:cap≤maxLen) :
 Calls Tryz.prog 95 #[.pointer (some ⟨x,0,none⟩),.slice (some ⟨g,o,none⟩) n cap] w fun e w'=>e = .returned (.tuple #[.slice (some ⟨g,o+24,none⟩) (n-24) (cap-24),.bool true])∧zG w' x most 24∧Kept (fun b=>b=x) w w':=by
 obtain⟨hl,b,o',hA,hb,hcc⟩:=hr.tL (by omega)
 injection hA with hA
 injection hA with h1 h2
 subst h1 h2
 have HC:Hid (∀wr,Kept (fun b=>b=x) w wr→∀k,k<24→wr.cell? ⟨g,o+k,none⟩=some (.int .u8 (ba zw k:Nat))):=af (fun wr hk k h24=>by
  rw[World.cell?_of_block (a:=⟨g,o+k,none⟩) (hk.block g hb (by simpa using hgx)),hcc k (by omega)]
  have:ba l k=ba zw k:=by rw[←hp];unfold ba;simp[Cc,h24]
  rw[this])
 have H0:=af h
 have hcm:cap≤9223372036854775807:=by unfold maxLen at hm;exact hm
 clear h hr hcc hp hm hl
 go_enter Tryz.func95,Tryz.ntmps95
 go_wp2_with fail
 go_loopw [1] (fun v wr=>GrRel w x g o n cap most v wr) (fun _ wr=>Wo x wr)
 case atStart=>exact⟨0,aL _,rfl,H0.out,Kept.refl _ _⟩
 case round=>
  obtain⟨k,hk,rfl,hf,hkp⟩:=hrel
  have c0:wr.cell? ⟨x,1,none⟩=some (.int .i64 (k:Int)):=by unfold World.cell?;rw[hf];rfl
  have hfz:wr.frozen? ⟨x,1,none⟩=false:=by unfold World.frozen?;rw[hf];rfl
  have HF:=af (And.intro hf hkp)
  clear hf
  by_cases hlt:k<24
  ·have z0:=HC.out wr hkp k hlt
   have k1:(k:Int)<24:=by omega
   have k2:((n-k:Nat):Int) > 0:=by omega
   clear hkp
   have h_:=lX ⟨#[80,82,73,32,42,32,72,84,84,80,47,50,46,48,13,10,13,10,83,77,13,10,13,10]⟩ k (by show k<24;exact hlt)
   have hgk2:ba (⟨#[80,82,73,32,42,32,72,84,84,80,47,50,46,48,13,10,13,10,83,77,13,10,13,10]⟩:ByteArray).data.toList k=ba zw k:=rfl
   rw[hgk2] at h_
   clear hgk2
   go_wp2_with fail
   go_region
   all_goals go_wp2_with fail
   have hw:(wr.setCell ⟨x,1,none⟩ (.int .i64 ((k:Int)+1))).drew.heap[x]?=some (.cells #[.int .i64 most,.int .i64 ((k+1:Nat):Int),.slice none 0 0,.bool false] 163 (0,0)):=by
    show (wr.setCell _ _).heap[x]?=_
    rw[oH _ HF.out.1]
    rfl
   refine⟨⟨k+1,hlt,?_,hw,(HF.out.2.setCell rfl 1 _).drew⟩,?_⟩
   ·rw[Nat.sub_sub,Nat.sub_sub,xq]
   ·have h1:(wr.setCell ⟨x,1,none⟩ (.int .i64 ((k:Int)+1))).drew.cell? ⟨x,1,none⟩=some (.int .i64 ((k+1:Nat):Int)):=by unfold World.cell?;rw[hw];rfl
    unfold Wo
    rw[h1,c0]
    dsimp only
    omega
  ·have h24:k=24:=by omega
   subst h24
   go_wp2_with fail
   go_ret2
   exact⟨rfl,HF.out.1,HF.out.2⟩
end
section
open Go.RowKit Go.Maps
theorem af8 (most:Int) (w:World) (h0 : 0≤most) (h1:most≤16777215) :
 Calls Tryz.prog 45 #[.int .i64 most,.bool true] w fun e w'=>e = .returned (.pointer (some ⟨w.heap.size,0,none⟩))∧zG w' w.heap.size most 0∧Below w.heap.size w w':=by
 have hk:=aZ w (.cells #[.int .i64 most,.int .i64 0,.slice none 0 0,.bool false] 163)
 have HS:=af hk
 have hm:max most 0=most:=by omega
 clear hk
 go_enter Tryz.func45,Tryz.ntmps45
 go_wp2_with fail
 go_ret
 exact⟨rfl,HS.out,(Below.refl _ _).alloc (ah _) _⟩
structure Hp where
 kind:Int
 st:Int
 aW:ByteArray
 iH:ByteArray
 ek:ByteArray
 path:ByteArray
 fields:Value
 data:ByteArray
 fin:Bool
 code:Int
def Hp.l (h:Hp):List Value:=[.int .i64 h.kind,.int .i64 h.st,.string h.aW,.string h.iH,.string h.ek,.string h.path,h.fields,.string h.data,.bool h.fin,.int .i64 h.code]
theorem aaX:rR Tryz.prog 56 64 (.agg #[.int .i64 0,.int .i64 0,.string ByteArray.empty,.string ByteArray.empty,.string ByteArray.empty,.string ByteArray.empty,.slice none 0 0,.string ByteArray.empty,.bool false,.int .i64 0]) 10 136:=⟨Tryz.underlying56,by kernel_rfl,rfl,by decide⟩
theorem ahl (w:World) (cs:Array Value) (t:TypeId) (size:Nat) (hs:cs.size=size):Rd (w.alloc (.cells cs t)) (w.heap.size+1) size (some ⟨w.heap.size,0,none⟩) 1 cs.toList:=by
 refine⟨by simp[hs],fun _=>⟨_,_,rfl,by omega,fun j hj=>?_⟩⟩
 rw[World.cell?_alloc_at _ _ _ _ rfl]
 simp
theorem I8 {B p n:Nat}{c:Cv}{xs:List Value}{cs:List dx}(hp:Hp) (w:World) (h:All B w (aK p c :: aD 64 10 c.news n xs :: cs)) (hfs:hp.fields.oneCell'=true) (hn:n≤1000000) :
 Calls Tryz.prog 132 #[.pointer (some ⟨p,0,none⟩),.agg hp.l.toArray] w (Left B w fun w'=>∃v,All B w' (aK p { c with news:=v } :: aD 64 10 v (n+1) (xs++hp.l) :: cs)):=by
 obtain⟨W0,hW0⟩:∃W0,w.alloc (.cells hp.l.toArray 64)=W0:=⟨_,rfl⟩
 have b0:Below w.heap.size w W0:=by rw[←hW0];exact (Below.refl _ _).alloc (ah _) _
 have kx:W0.heap[w.heap.size]?=some (.cells hp.l.toArray 64 (0,0)):=by rw[←hW0];exact aZ _ _
 have HA:=af (h.below b0)
 have dW:=af (b0.mono h.sz)
 have Pt:∀b,c.news.ownBlock=some b→b<w.heap.size:=fun b hb=>(World.ownsRow.lt ((h.pick [aK p c]).head) b hb).2
 have PM:p≠w.heap.size:=fun e=>by have:=(Array.getElem?_eq_some_iff.1 h.conn).1;omega
 have hxl:=(Array.getElem?_eq_some_iff.1 kx).1
 obtain⟨x,hx⟩:∃x,w.heap.size=x:=⟨_,rfl⟩
 rw[hx] at kx hxl Pt PM
 have HLT0:=af Pt
 have nY:=af PM
 have HX:=af hx
 have HK:=af kx
 have HON:=af hfs
 obtain⟨kind,st,aW,iH,ek,path,fields,data,fin,code⟩:=hp
 simp only[Hp.l] at hW0 ⊢
 have dY:=af hW0
 clear hW0 h b0 kx hx hfs Pt PM
 obtain⟨k0,k1,k2,k3,k4,k5,k6,k7,k8,k9⟩:W0.cell? ⟨x,0,none⟩=some (.int .i64 kind)∧W0.cell? ⟨x,1,none⟩=some (.int .i64 st)∧W0.cell? ⟨x,2,none⟩=some (.string aW)∧W0.cell? ⟨x,3,none⟩=some (.string iH)∧W0.cell? ⟨x,4,none⟩=some (.string ek)∧W0.cell? ⟨x,5,none⟩=some (.string path)∧W0.cell? ⟨x,6,none⟩=some fields∧W0.cell? ⟨x,7,none⟩=some (.string data)∧W0.cell? ⟨x,8,none⟩=some (.bool fin)∧W0.cell? ⟨x,9,none⟩=some (.int .i64 code):=by
  refine⟨?_,?_,?_,?_,?_,?_,?_,?_,?_,?_⟩ <;> (unfold World.cell?;rw[HK.out];rfl)
 have bz:=af (And.intro k0 (And.intro k1 (And.intro k2 (And.intro k3 (And.intro k4 (And.intro k5 (And.intro k6 (And.intro k7 (And.intro k8 k9)))))))))
 have hrow:=(HA.out.pick [aK p c]).head
 obtain⟨A0,nI,hv0,-,-,-,-⟩:=aC hrow
 have yx:=af hrow
 have j4:=af hv0
 have EF:=HA.out.cc 21 c.news rfl
 rw[hv0] at EF
 have HQ21:=af EF
 clear hrow hv0 EF k0 k1 k2 k3 k4 k5 k6 k7 k8 k9
 go_enter Tryz.func132,Tryz.ntmps132
 go_upto_region 1 with fail
 refine bI ?_
 intro W3 hW3
 obtain rfl:W3=W0:=hW3.trans dY.out
 rw[HX.out]
 clear hW3
 --Ia
 refine wp_region_held_drew (S:=fun w'=>w'.cell? ⟨x,0,none⟩=some (.int .i64 kind)∧w'.cell? ⟨x,1,none⟩=some (.int .i64 st)∧w'.cell? ⟨x,2,none⟩=some (.string aW)∧w'.cell? ⟨x,3,none⟩=some (.string iH)∧w'.cell? ⟨x,4,none⟩=some (.string ek)∧w'.cell? ⟨x,5,none⟩=some (.string path)∧w'.cell? ⟨x,6,none⟩=some fields∧w'.cell? ⟨x,7,none⟩=some (.string data)∧w'.cell? ⟨x,8,none⟩=some (.bool fin)∧w'.cell? ⟨x,9,none⟩=some (.int .i64 code)) (by kernel_rfl) (bz.out) (fun hH=>?_)
 refine ag 0 4 hH ?_
 refine ag 1 5 hH ?_
 refine ag 2 6 hH ?_
 refine ag 3 7 hH ?_
 refine ag 5 9 hH ?_
 have rH:Hid (Below W3.heap.size W3 (W3.drew.alloc (.cells #[.int .i64 kind,.int .i64 st,.string aW,.string iH,.string ek,.string path,fields,.string data,.bool fin,.int .i64 code] 64))):=af (Below.trans (by exact⟨rfl,rfl,rfl,ah _,fun _ _=>rfl⟩) ((Below.refl _ W3.drew).alloc (ah _) _))
 have aX:Hid (All B (W3.alloc (.cells #[.int .i64 kind,.int .i64 st,.string aW,.string iH,.string ek,.string path,fields,.string data,.bool fin,.int .i64 code] 64)).drew (aK p c :: aD 64 10 c.news n xs :: cs)):=af (HA.out.below rH.out)
 have kQ:Hid (Rd (W3.alloc (.cells #[.int .i64 kind,.int .i64 st,.string aW,.string iH,.string ek,.string path,fields,.string data,.bool fin,.int .i64 code] 64)).drew (W3.heap.size+1) 10 (some ⟨W3.heap.size,0,none⟩) 1 [.int .i64 kind,.int .i64 st,.string aW,.string iH,.string ek,.string path,fields,.string data,.bool fin,.int .i64 code]):=af (ahl W3.drew #[.int .i64 kind,.int .i64 st,.string aW,.string iH,.string ek,.string path,fields,.string data,.bool fin,.int .i64 code] 64 10 rfl)
 have fK:∀o,(W3.alloc (.cells #[.int .i64 kind,.int .i64 st,.string aW,.string iH,.string ek,.string path,fields,.string data,.bool fin,.int .i64 code] 64)).drew.cell? ⟨x,o,none⟩=W3.cell? ⟨x,o,none⟩:=fun o=>World.cell?_alloc_lt W3 _ ⟨x,o,none⟩ hxl
 have hq2:(W3.alloc (.cells #[.int .i64 kind,.int .i64 st,.string aW,.string iH,.string ek,.string path,fields,.string data,.bool fin,.int .i64 code] 64)).drew.cell? ⟨p,21,none⟩=some (.slice A0 n nI):=by have h:=aX.out.cc 21 c.news rfl;rwa [j4.out] at h
 refine wpAnyH_ready (rs:=[4,6]) (by kernel_rfl) (by simp) ?_
 refine AllReadyH.cons (o:=⟨some 8,_,_,_,_,_⟩) rfl (fun K hK=>?_) (AllReadyH.cons (o:=⟨some 10,_,_,_,_,_⟩) rfl (fun K hK=>?_) AllReadyH.nil)
 ·have EF:=HQ21.out
  go_simp
  refine hK.out _ _ (bz.out) (fun hH=>?_)
  clear hK K
  try simp only[Act.put,az,ay,aA]
  refine aR 6 (fun K hK=>?_)
  go_simp
  refine hK.out _ _ (⟨(fK 0).trans bz.out.1,(fK 1).trans bz.out.2.1,(fK 2).trans bz.out.2.2.1,(fK 3).trans bz.out.2.2.2.1,(fK 4).trans bz.out.2.2.2.2.1,(fK 5).trans bz.out.2.2.2.2.2.1,(fK 6).trans bz.out.2.2.2.2.2.2.1,(fK 7).trans bz.out.2.2.2.2.2.2.2.1,(fK 8).trans bz.out.2.2.2.2.2.2.2.2.1,(fK 9).trans bz.out.2.2.2.2.2.2.2.2.2⟩) (fun hH=>?_)
  clear hK K
  try simp only[Act.put,az,ay,aA]
  refine rdZq (o:=⟨some 11,_,_,_,_,_⟩) 7 rfl (fun K hK=>?_)
  have hrow2:(W3.alloc (.cells #[.int .i64 kind,.int .i64 st,.string aW,.string iH,.string ek,.string path,fields,.string data,.bool fin,.int .i64 code] 64)).drew.ownsRow 0 64 10 (.slice A0 n nI) n xs:=by have h:=(aX.out.pick [aK p c]).head;rwa [show aD 64 10 c.news n xs=aD 64 10 (.slice A0 n nI) n xs by rw[j4.out]] at h
  have hone:∀u ∈ [Value.int .i64 kind,.int .i64 st,.string aW,.string iH,.string ek,.string path,fields,.string data,.bool fin,.int .i64 code],u.oneCell'=true:=by
   have h1:fields.oneCell'=true:=HON.out
   intro u hu
   simp only[qG,xm,or_false] at hu
   rcases hu with rfl | rfl | rfl | rfl | rfl | rfl | rfl | rfl | rfl | rfl <;> first | rfl | exact h1
  refine oI (.tmp 8) (.tmp 10) aaX rfl rfl hrow2 rfl kQ.out rfl hone (bn (by omega)) (by omega) (aL _) ?_
  intro v3 w3 eB hg3 hb3
  rw[←j4.out] at hg3 hb3
  obtain⟨gp,gP⟩:=(aX.out.pick [aK p c]).app eB hg3 hb3
  have bT:=af (gp.pick [_])
  have eG:Hid (Below B w w3):=af (dW.out.trans (Below.trans (rH.out.mono HA.out.sz) gP))
  obtain⟨A5,c5,fB,-,-,-,-⟩:=aC eB
  subst fB
  have hq3:w3.cell? ⟨p,21,none⟩=some (.slice A0 n nI):=by have h:=bT.out.cc 21 c.news rfl;rwa [j4.out] at h
  have f21:=bT.out.cf 21
  have jY:∀o,w3.cell? ⟨x,o,none⟩=W3.cell? ⟨x,o,none⟩:=fun o=>by
   rw[←fK o]
   exact hg3.cell_far _ (fI hxl rH.out.size) (fun e1=>Ce _ (HLT0.out x e1.symm))
  clear eB hg3 hb3 gp gP hrow2
  refine hK.out _ _ (⟨(jY 0).trans bz.out.1,(jY 1).trans bz.out.2.1,(jY 2).trans bz.out.2.2.1,(jY 3).trans bz.out.2.2.2.1,(jY 4).trans bz.out.2.2.2.2.1,(jY 5).trans bz.out.2.2.2.2.2.1,(jY 6).trans bz.out.2.2.2.2.2.2.1,(jY 7).trans bz.out.2.2.2.2.2.2.2.1,(jY 8).trans bz.out.2.2.2.2.2.2.2.2.1,(jY 9).trans bz.out.2.2.2.2.2.2.2.2.2⟩) (fun hH=>?_)
  clear hK K
  try simp only[Act.put,az,ay,aA]
  refine ag 8 12 hH ?_
  refine ag 9 13 hH ?_
  refine aR 10 (fun K hK=>?_)
  go_simp
  obtain⟨h1,h2⟩:=bT.out.set 21 (.slice A5 (n+1) c5)
  have HE:=af (And.intro h1 (eG.out.trans h2))
  have hpx:∀o,(w3.setCell ⟨p,21,none⟩ (.slice A5 (n+1) c5)).cell? ⟨x,o,none⟩=W3.cell? ⟨x,o,none⟩:=fun o=>(World.cell?_setCell_far w3 ⟨p,21,none⟩ ⟨x,o,none⟩ _ nY.out).trans (jY o)
  clear h1 h2
  refine hK.out _ _ (⟨(hpx 0).trans bz.out.1,(hpx 1).trans bz.out.2.1,(hpx 2).trans bz.out.2.2.1,(hpx 3).trans bz.out.2.2.2.1,(hpx 4).trans bz.out.2.2.2.2.1,(hpx 5).trans bz.out.2.2.2.2.2.1,(hpx 6).trans bz.out.2.2.2.2.2.2.1,(hpx 7).trans bz.out.2.2.2.2.2.2.2.1,(hpx 8).trans bz.out.2.2.2.2.2.2.2.2.1,(hpx 9).trans bz.out.2.2.2.2.2.2.2.2.2⟩) (fun hH=>?_)
  clear hK K
  try simp only[Act.put,az,ay,aA]
  refine wpAnyH_done (by kernel_rfl) ?_ _
  go_wp2_with fail
  go_end0
  exact⟨rfl,HE.out.2,.slice A5 (n+1) c5,HE.out.1⟩
 ·go_simp
  refine hK.out _ _ (⟨(fK 0).trans bz.out.1,(fK 1).trans bz.out.2.1,(fK 2).trans bz.out.2.2.1,(fK 3).trans bz.out.2.2.2.1,(fK 4).trans bz.out.2.2.2.2.1,(fK 5).trans bz.out.2.2.2.2.2.1,(fK 6).trans bz.out.2.2.2.2.2.2.1,(fK 7).trans bz.out.2.2.2.2.2.2.2.1,(fK 8).trans bz.out.2.2.2.2.2.2.2.2.1,(fK 9).trans bz.out.2.2.2.2.2.2.2.2.2⟩) (fun hH=>?_)
  clear hK K
  try simp only[Act.put,az,ay,aA]
  refine rdZq (o:=⟨some 8,_,_,_,_,_⟩) 4 rfl (fun K hK=>?_)
  have EF:(W3.alloc (.cells #[.int .i64 kind,.int .i64 st,.string aW,.string iH,.string ek,.string path,fields,.string data,.bool fin,.int .i64 code] 64)).cell? ⟨p,21,none⟩=some (.slice A0 n nI):=hq2
  go_simp
  refine hK.out _ _ (⟨(fK 0).trans bz.out.1,(fK 1).trans bz.out.2.1,(fK 2).trans bz.out.2.2.1,(fK 3).trans bz.out.2.2.2.1,(fK 4).trans bz.out.2.2.2.2.1,(fK 5).trans bz.out.2.2.2.2.2.1,(fK 6).trans bz.out.2.2.2.2.2.2.1,(fK 7).trans bz.out.2.2.2.2.2.2.2.1,(fK 8).trans bz.out.2.2.2.2.2.2.2.2.1,(fK 9).trans bz.out.2.2.2.2.2.2.2.2.2⟩) (fun hH=>?_)
  clear hK K
  try simp only[Act.put,az,ay,aA]
  refine rdZq (o:=⟨some 11,_,_,_,_,_⟩) 7 rfl (fun K hK=>?_)
  have hrow2:(W3.alloc (.cells #[.int .i64 kind,.int .i64 st,.string aW,.string iH,.string ek,.string path,fields,.string data,.bool fin,.int .i64 code] 64)).drew.ownsRow 0 64 10 (.slice A0 n nI) n xs:=by have h:=(aX.out.pick [aK p c]).head;rwa [show aD 64 10 c.news n xs=aD 64 10 (.slice A0 n nI) n xs by rw[j4.out]] at h
  have hone:∀u ∈ [Value.int .i64 kind,.int .i64 st,.string aW,.string iH,.string ek,.string path,fields,.string data,.bool fin,.int .i64 code],u.oneCell'=true:=by
   have h1:fields.oneCell'=true:=HON.out
   intro u hu
   simp only[qG,xm,or_false] at hu
   rcases hu with rfl | rfl | rfl | rfl | rfl | rfl | rfl | rfl | rfl | rfl <;> first | rfl | exact h1
  refine oI (.tmp 8) (.tmp 10) aaX rfl rfl hrow2 rfl kQ.out rfl hone (bn (by omega)) (by omega) (aL _) ?_
  intro v3 w3 eB hg3 hb3
  rw[←j4.out] at hg3 hb3
  obtain⟨gp,gP⟩:=(aX.out.pick [aK p c]).app eB hg3 hb3
  have bT:=af (gp.pick [_])
  have eG:Hid (Below B w w3):=af (dW.out.trans (Below.trans (rH.out.mono HA.out.sz) gP))
  obtain⟨A5,c5,fB,-,-,-,-⟩:=aC eB
  subst fB
  have hq3:w3.cell? ⟨p,21,none⟩=some (.slice A0 n nI):=by have h:=bT.out.cc 21 c.news rfl;rwa [j4.out] at h
  have f21:=bT.out.cf 21
  have jY:∀o,w3.cell? ⟨x,o,none⟩=W3.cell? ⟨x,o,none⟩:=fun o=>by
   rw[←fK o]
   exact hg3.cell_far _ (fI hxl rH.out.size) (fun e1=>Ce _ (HLT0.out x e1.symm))
  clear eB hg3 hb3 gp gP hrow2
  refine hK.out _ _ (⟨(jY 0).trans bz.out.1,(jY 1).trans bz.out.2.1,(jY 2).trans bz.out.2.2.1,(jY 3).trans bz.out.2.2.2.1,(jY 4).trans bz.out.2.2.2.2.1,(jY 5).trans bz.out.2.2.2.2.2.1,(jY 6).trans bz.out.2.2.2.2.2.2.1,(jY 7).trans bz.out.2.2.2.2.2.2.2.1,(jY 8).trans bz.out.2.2.2.2.2.2.2.2.1,(jY 9).trans bz.out.2.2.2.2.2.2.2.2.2⟩) (fun hH=>?_)
  clear hK K
  try simp only[Act.put,az,ay,aA]
  refine ag 8 12 hH ?_
  refine ag 9 13 hH ?_
  refine aR 10 (fun K hK=>?_)
  go_simp
  obtain⟨h1,h2⟩:=bT.out.set 21 (.slice A5 (n+1) c5)
  have HE:=af (And.intro h1 (eG.out.trans h2))
  have hpx:∀o,(w3.setCell ⟨p,21,none⟩ (.slice A5 (n+1) c5)).cell? ⟨x,o,none⟩=W3.cell? ⟨x,o,none⟩:=fun o=>(World.cell?_setCell_far w3 ⟨p,21,none⟩ ⟨x,o,none⟩ _ nY.out).trans (jY o)
  clear h1 h2
  refine hK.out _ _ (⟨(hpx 0).trans bz.out.1,(hpx 1).trans bz.out.2.1,(hpx 2).trans bz.out.2.2.1,(hpx 3).trans bz.out.2.2.2.1,(hpx 4).trans bz.out.2.2.2.2.1,(hpx 5).trans bz.out.2.2.2.2.2.1,(hpx 6).trans bz.out.2.2.2.2.2.2.1,(hpx 7).trans bz.out.2.2.2.2.2.2.2.1,(hpx 8).trans bz.out.2.2.2.2.2.2.2.2.1,(hpx 9).trans bz.out.2.2.2.2.2.2.2.2.2⟩) (fun hH=>?_)
  clear hK K
  try simp only[Act.put,az,ay,aA]
  refine wpAnyH_done (by kernel_rfl) ?_ _
  go_wp2_with fail
  go_end0
  exact⟨rfl,HE.out.2,.slice A5 (n+1) c5,HE.out.1⟩
end
section
open Go.RowKit Go.Maps
def EC:Option Nat→Int
 | none=>0
 | some q=>(q:Int)+1
def aV:MK Int (Option Nat):={ t:=93,k:=3,e:=133,kv:=fun i=>.int .i64 i,kl:=fun i=>.int .i64 i,rA:=fun i=>(Lit.int .i64 i).wf=true,ev:=fun o=>.pointer (o.map fun q=>⟨q,0,none⟩),el:=fun o=>.int .i64 (EC o),z:=none }
theorem qj:pV aV where
 ht:=Tryz.underlying93
 keyed:=zn
 key x h:=keyOf_int_mk Tryz.underlying3 h
 CU x y h:=by injection h
 Ih x y h:=by
  have h1:(Value.pointer (x.map fun q=>(⟨q,0,none⟩:Addr))) = .pointer (y.map fun q=>⟨q,0,none⟩):=h
  injection h1 with h1
  cases x <;> cases y <;> simp at h1 ⊢
  exact h1
 IL x y h:=by
  have h1:(Lit.int .i64 (EC x)) = .int .i64 (EC y):=h
  injection h1 with h1 h2
  cases x <;> cases y <;> simp only[EC] at h2
  ·rfl
  ·omega
  ·omega
  ·congr 1;omega
 zero w:=by kernel_rfl
def bX:MK Int Int:={ t:=94,k:=3,e:=3,kv:=fun i=>.int .i64 i,kl:=fun i=>.int .i64 i,rA:=fun i=>(Lit.int .i64 i).wf=true,ev:=fun i=>.int .i64 i,el:=fun i=>.int .i64 i,z:=0 }
theorem S_:pV bX where
 ht:=Tryz.underlying94
 keyed:=zn
 key x h:=keyOf_int_mk Tryz.underlying3 h
 CU x y h:=by injection h
 Ih x y h:=by
  have h1:(Value.int .i64 x) = .int .i64 y:=h
  injection h1
 IL x y h:=by injection h
 zero w:=by kernel_rfl
theorem gT {K:Act→World→Prop}{a:Act}{W:World}(h:∀W',W'=W→K a W'):K a W:=h W rfl
theorem All.drew {B:Nat}{w:World}{cs:List dx}(h:All B w cs):All B w.drew cs:=h.below (by exact⟨rfl,rfl,rfl,ah _,fun _ _=>rfl⟩)
theorem All.Bz {B:Nat}{w:World}{cs:List dx}(h:All B w cs) (t:TypeId) (size:Nat):All B w (aD t size (.slice none 0 0) 0 [] :: cs):=
 h.new (Below.refl _ _) (World.ownsRow_nil _ _ _ _) (fun b hb=>by cases hb)
def nE (x:Nat) (most:Int) (k:Nat):dx:=bg x #[.int .i64 most,.int .i64 (k:Int),.slice none 0 0,.bool false] 163
def mW (b:Nat) (l0 l1 l2 l3:Int):dx:=bg b #[.int .i64 l0,.int .i64 l1,.int .i64 l2,.int .i64 l3] 45
def Bv (l0 l1 l2 l3:Int) (x lm hm:Nat):Cv:={ l0:=l0,l1:=l1,l2:=l2,l3:=l3,feed:=.pointer (some ⟨x,0,none⟩),dec:=.pointer none,enc:=.pointer none,book:=.pointer none,frames:=16384,live:=lm,closed:=.slice none 0 0,how:=hm,last:=0,block:=.slice none 0 0,cu:=0,jI:=false,gG:=false,mX:=false,floor:=0,over:=false,bytes:=.slice none 0 0,news:=.slice none 0 0 }
theorem All.init {B:Nat}{w:World}{l r:List dx}(h:All B w (l++r)):All B w l:=⟨fun d hd=>h.here d (List.mem_append_left _ hd),(List.pairwise_append.1 h.apart).1,fun d hd=>h.base d (List.mem_append_left _ hd),h.sz⟩
theorem ahn (w:World) (cs:Array Value) (t:TypeId) (size n:Nat) (hs:cs.size=n*size):Rd (w.alloc (.cells cs t)) (w.heap.size+1) size (some ⟨w.heap.size,0,none⟩) n cs.toList:=by
 refine⟨by simp[hs],fun _=>⟨_,_,rfl,by omega,fun j hj=>?_⟩⟩
 rw[World.cell?_alloc_at _ _ _ _ rfl]
 simp
def SX (l0 l1 l2 l3:Int) (x lm hm d en g:Nat):Cv:={ Bv l0 l1 l2 l3 x lm hm with dec:=.pointer (some ⟨d,0,none⟩),enc:=.pointer (some ⟨en,0,none⟩),book:=.pointer (some ⟨g,0,none⟩) }
theorem Kr {B:Nat}{w w':World}{cs:List dx}{x:Nat}(h:All B w cs) (hf:zG w' x 16384 0) (hx:w.heap.size≤x) (hb:Below w.heap.size w w'):All B w' (nE x 16384 0 :: cs):=h.new hb hf (fun b hb=>by subst hb;exact hx)
theorem Bw {κ ε:Type}(M:MK κ ε){B:Nat}{w:World}{cs:List dx}(h:All B w cs):All B (w.alloc (.map #[] 0)) (aH M w.heap.size 0 (fun _=>none) 0 :: cs):=h.new ((Below.refl _ _).alloc (ah _) _) (L9 M w) (fun b hb=>by subst hb;exact ah _)
theorem gV {B:Nat}{w:World}{cs:List dx}(h:All B w cs) (c:Array Value) (t:TypeId):All B (w.alloc (.cells c t)) (bg w.heap.size c t :: cs):=h.new ((Below.refl _ _).alloc (ah _) _) (aZ _ _) (fun b hb=>by subst hb;exact ah _)
theorem l8 {w:World}{B:Nat}{l0 l1 l2 l3:Int}(h:(mW B l0 l1 l2 l3).P w):w.cell? ⟨B,0,none⟩=some (.int .i64 l0)∧w.cell? ⟨B,1,none⟩=some (.int .i64 l1)∧w.cell? ⟨B,2,none⟩=some (.int .i64 l2)∧w.cell? ⟨B,3,none⟩=some (.int .i64 l3):=by
 have h1:w.heap[B]?=some (.cells #[.int .i64 l0,.int .i64 l1,.int .i64 l2,.int .i64 l3] 45 (0,0)):=h
 refine⟨?_,?_,?_,?_⟩ <;> (unfold World.cell?;rw[h1];rfl)
def abN (B:Nat) (w:World) (l0 l1 l2 l3:Int) (y:Value) (wx:World):Prop:=
 ∃p x lm hm,y = .pointer (some ⟨p,0,none⟩)∧All B wx [aK p (Bv l0 l1 l2 l3 x lm hm),mW B l0 l1 l2 l3,nE x 16384 0,aH aV lm 0 (fun _=>none) 0,aH bX hm 0 (fun _=>none) 0]∧Below B w wx
theorem Zz (l0 l1 l2 l3:Int) (w:World) (h0 : 1≤l0) (h0':l0≤8) (h1 : 0≤l1) (h1':l1≤2147483647) (h2 : 0≤l2) (h2':l2≤65536) (h3 : 0≤l3) (h3':l3≤65536) :
 Calls Tryz.prog 15 #[.agg #[.int .i64 l0,.int .i64 l1,.int .i64 l2,.int .i64 l3]] w (fun e w'=>∃p c x d G g m n xs,e = .returned (.tuple #[.pointer (some ⟨p,0,none⟩),.int .i64 0])∧Below w.heap.size w w' ∧
  All w.heap.size w' [aK p c,aD 5 1 c.bytes n xs,nE x 16384 0,mV d G 0 l2 l3 ⟨min l2 4096,0,[]⟩ false,gB g m 65535 65535 [],aH aV c.live 0 (fun _=>none) 0,aH bX c.how 0 (fun _=>none) 0]∧n≤1000 ∧
  c.l0=l0∧c.l1=l1∧c.feed = .pointer (some ⟨x,0,none⟩)∧c.dec = .pointer (some ⟨d,0,none⟩)∧c.book = .pointer (some ⟨g,0,none⟩)∧c.last=0∧c.cu=0∧c.gG=false∧c.mX=false∧c.over=false∧c.closed = .slice none 0 0):=by
 obtain⟨B,hB⟩:∃B,w.heap.size=B:=⟨_,rfl⟩
 have hall:All B (w.alloc (.cells #[.int .i64 l0,.int .i64 l1,.int .i64 l2,.int .i64 l3] 45)) [mW B l0 l1 l2 l3]:=by
  have h:=gV (All.nil w) #[.int .i64 l0,.int .i64 l1,.int .i64 l2,.int .i64 l3] 45
  rw[hB] at h
  exact h
 have hb0:Below B w (w.alloc (.cells #[.int .i64 l0,.int .i64 l1,.int .i64 l2,.int .i64 l3] 45)):=by rw[←hB];exact (Below.refl _ _).alloc (ah _) _
 have bE:=af (And.intro hall hb0)
 have fA:=@run_makeMap Tryz.prog
 have Fj:=af (fun w=>af8 16384 w (by omega) (by omega))
 have HND:=af (fun w=>af6 l2 l3 w h2 h2' h3)
 have HNE:=af (fun w=>af7 4096 w (by omega) (by omega))
 have HNW:=af (fun w=>ajB 65535 w (by omega) (by omega))
 rw[hB]
 clear hall hb0
 go_enter Tryz.func15,Tryz.ntmps15
 go_upto_region 1 with fail
 refine bI ?_
 intro W0 hW0
 rw[←hW0] at bE
 clear hW0
 have dD:=bE.out.1.head
 have q0:W0.cell? ⟨B,0,none⟩=some (.int .i64 l0):=by unfold World.cell?;rw[dD];rfl
 have q1:W0.cell? ⟨B,1,none⟩=some (.int .i64 l1):=by unfold World.cell?;rw[dD];rfl
 have q2:W0.cell? ⟨B,2,none⟩=some (.int .i64 l2):=by unfold World.cell?;rw[dD];rfl
 have q3:W0.cell? ⟨B,3,none⟩=some (.int .i64 l3):=by unfold World.cell?;rw[dD];rfl
 clear dD
 go_upto_region 3 with fail
 go_cut [4] (fun y wx=>abN B w l0 l1 l2 l3 y wx)
 case first=>
  --REGION3
  refine wp_region_held_drew (S:=fun w'=>w'.cell? ⟨B,0,none⟩=some (.int .i64 l0)∧w'.cell? ⟨B,1,none⟩=some (.int .i64 l1)∧w'.cell? ⟨B,2,none⟩=some (.int .i64 l2)∧w'.cell? ⟨B,3,none⟩=some (.int .i64 l3)) (by kernel_rfl) (⟨q0,q1,q2,q3⟩) (fun hH=>?_)
  refine ag 0 43 hH ?_
  have rO:Hid (All B W0.drew [mW B l0 l1 l2 l3]∧Below B w W0.drew):=af ⟨bE.out.1.drew,bE.out.2.trans (by exact⟨rfl,rfl,rfl,ah _,fun _ _=>rfl⟩)⟩
  refine wpAnyH_ready (rs:=[1,2,3]) (by kernel_rfl) (by simp) ?_
  refine AllReadyH.cons (o:=⟨some 44,_,_,_,_,_⟩) rfl (fun K hK=>?_) (AllReadyH.cons (o:=⟨some 45,_,_,_,_,_⟩) rfl (fun K hK=>?_) (AllReadyH.cons (o:=⟨some 46,_,_,_,_,_⟩) rfl (fun K hK=>?_) AllReadyH.nil))
  ·go_simp
   refine (Fj.out _).mono ?_
   rintro ev wf ⟨rfl,kL,lZ⟩
   have fV:=af (And.intro (Kr rO.out.1 kL (ah _) lZ) (rO.out.2.trans (lZ.mono rO.out.1.sz)))
   clear kL lZ
   have JO:=(fV.out.1.pick [_]).head
   refine hK.out _ _ (l8 JO) (fun hH=>?_)
   clear hK K
   try simp only[Act.put,az,ay,aA]
   refine wpAnyH_ready (rs:=[2,3]) (by kernel_rfl) (by simp) ?_
   refine AllReadyH.cons (o:=⟨some 45,_,_,_,_,_⟩) rfl (fun K hK=>?_) (AllReadyH.cons (o:=⟨some 46,_,_,_,_,_⟩) rfl (fun K hK=>?_) AllReadyH.nil)
   ·go_simp
    refine gT ?_
    intro W2 hW2
    have fZ:Hid (All B W2 (aH aV wf.heap.size 0 (fun _=>none) 0 :: (nE W0.drew.heap.size 16384 0 :: [mW B l0 l1 l2 l3]))∧Below B w W2):=af (by rw[hW2];exact⟨Bw aV fV.out.1,fV.out.2.alloc fV.out.1.sz _⟩)
    clear hW2
    have yT:=(fZ.out.1.pick [_,_]).head
    refine hK.out _ _ (l8 yT) (fun hH=>?_)
    clear hK K
    try simp only[Act.put,az,ay,aA]
    refine aR 3 (fun K hK=>?_)
    go_simp
    refine gT ?_
    intro W3 hW3
    have iV:Hid (All B W3 (aH bX W2.heap.size 0 (fun _=>none) 0 :: (aH aV wf.heap.size 0 (fun _=>none) 0 :: (nE W0.drew.heap.size 16384 0 :: [mW B l0 l1 l2 l3])))∧Below B w W3):=af (by rw[hW3];exact⟨Bw bX fZ.out.1,fZ.out.2.alloc fZ.out.1.sz _⟩)
    clear hW3
    have yU:=(iV.out.1.pick [_,_,_]).head
    refine hK.out _ _ (l8 yU) (fun hH=>?_)
    clear hK K
    try simp only[Act.put,az,ay,aA]
    refine ag 4 47 hH ?_
    refine aR 5 (fun K hK=>?_)
    go_simp
    refine gT ?_
    intro W9 kJ
    have aU:All B W9 (aK W3.heap.size (Bv l0 l1 l2 l3 W0.drew.heap.size wf.heap.size W2.heap.size) :: (aH bX W2.heap.size 0 (fun _=>none) 0 :: (aH aV wf.heap.size 0 (fun _=>none) 0 :: (nE W0.drew.heap.size 16384 0 :: [mW B l0 l1 l2 l3])))):=by rw[kJ];exact gV iV.out.1 _ _
    have eu:Below B w W9:=by rw[kJ];exact iV.out.2.alloc iV.out.1.sz _
    clear kJ
    have h:=aU
    have h:=h.pick [_]
    have h:=h.pick [_,_]
    have h:=h.pick [_,_,_]
    have h:=h.pick [_,_,_,_]
    have h:=h.pick [_,_,_,_]
    have jU:=af (And.intro h eu)
    have dD:=(jU.out.1.pick [_]).head
    clear h aU eu
    refine hK.out _ _ (l8 dD) (fun hH=>?_)
    clear hK K
    try simp only[Act.put,az,ay,aA]
    refine ag 6 4 hH ?_
    refine wpAnyH_done (by kernel_rfl) ?_ _
    go_wp2_with fail
    go_meet
    exact⟨_,_,_,_,rfl,jU.out.1,jU.out.2⟩
   ·go_simp
    refine gT ?_
    intro W2 hW2
    have fZ:Hid (All B W2 (aH bX wf.heap.size 0 (fun _=>none) 0 :: (nE W0.drew.heap.size 16384 0 :: [mW B l0 l1 l2 l3]))∧Below B w W2):=af (by rw[hW2];exact⟨Bw bX fV.out.1,fV.out.2.alloc fV.out.1.sz _⟩)
    clear hW2
    have yT:=(fZ.out.1.pick [_,_]).head
    refine hK.out _ _ (l8 yT) (fun hH=>?_)
    clear hK K
    try simp only[Act.put,az,ay,aA]
    refine aR 2 (fun K hK=>?_)
    go_simp
    refine gT ?_
    intro W3 hW3
    have iV:Hid (All B W3 (aH aV W2.heap.size 0 (fun _=>none) 0 :: (aH bX wf.heap.size 0 (fun _=>none) 0 :: (nE W0.drew.heap.size 16384 0 :: [mW B l0 l1 l2 l3])))∧Below B w W3):=af (by rw[hW3];exact⟨Bw aV fZ.out.1,fZ.out.2.alloc fZ.out.1.sz _⟩)
    clear hW3
    have yU:=(iV.out.1.pick [_,_,_]).head
    refine hK.out _ _ (l8 yU) (fun hH=>?_)
    clear hK K
    try simp only[Act.put,az,ay,aA]
    refine ag 4 47 hH ?_
    refine aR 5 (fun K hK=>?_)
    go_simp
    refine gT ?_
    intro W9 kJ
    have aU:All B W9 (aK W3.heap.size (Bv l0 l1 l2 l3 W0.drew.heap.size W2.heap.size wf.heap.size) :: (aH aV W2.heap.size 0 (fun _=>none) 0 :: (aH bX wf.heap.size 0 (fun _=>none) 0 :: (nE W0.drew.heap.size 16384 0 :: [mW B l0 l1 l2 l3])))):=by rw[kJ];exact gV iV.out.1 _ _
    have eu:Below B w W9:=by rw[kJ];exact iV.out.2.alloc iV.out.1.sz _
    clear kJ
    have h:=aU
    have h:=h.pick [_,_]
    have h:=h.pick [_,_]
    have h:=h.pick [_,_,_]
    have h:=h.pick [_,_,_,_]
    have h:=h.pick [_,_,_,_]
    have jU:=af (And.intro h eu)
    have dD:=(jU.out.1.pick [_]).head
    clear h aU eu
    refine hK.out _ _ (l8 dD) (fun hH=>?_)
    clear hK K
    try simp only[Act.put,az,ay,aA]
    refine ag 6 4 hH ?_
    refine wpAnyH_done (by kernel_rfl) ?_ _
    go_wp2_with fail
    go_meet
    exact⟨_,_,_,_,rfl,jU.out.1,jU.out.2⟩
  ·go_simp
   refine gT ?_
   intro W1 hW1
   have fV:Hid (All B W1 (aH aV W0.drew.heap.size 0 (fun _=>none) 0 :: [mW B l0 l1 l2 l3])∧Below B w W1):=af (by rw[hW1];exact⟨Bw aV rO.out.1,rO.out.2.alloc rO.out.1.sz _⟩)
   clear hW1
   have JO:=(fV.out.1.pick [_]).head
   refine hK.out _ _ (l8 JO) (fun hH=>?_)
   clear hK K
   try simp only[Act.put,az,ay,aA]
   refine wpAnyH_ready (rs:=[1,3]) (by kernel_rfl) (by simp) ?_
   refine AllReadyH.cons (o:=⟨some 44,_,_,_,_,_⟩) rfl (fun K hK=>?_) (AllReadyH.cons (o:=⟨some 46,_,_,_,_,_⟩) rfl (fun K hK=>?_) AllReadyH.nil)
   ·go_simp
    refine (Fj.out _).mono ?_
    rintro ev wf ⟨rfl,kL,lZ⟩
    have fZ:=af (And.intro (Kr fV.out.1 kL (ah _) lZ) (fV.out.2.trans (lZ.mono fV.out.1.sz)))
    clear kL lZ
    have yT:=(fZ.out.1.pick [_,_]).head
    refine hK.out _ _ (l8 yT) (fun hH=>?_)
    clear hK K
    try simp only[Act.put,az,ay,aA]
    refine aR 3 (fun K hK=>?_)
    go_simp
    refine gT ?_
    intro W3 hW3
    have iV:Hid (All B W3 (aH bX wf.heap.size 0 (fun _=>none) 0 :: (nE W1.heap.size 16384 0 :: (aH aV W0.drew.heap.size 0 (fun _=>none) 0 :: [mW B l0 l1 l2 l3])))∧Below B w W3):=af (by rw[hW3];exact⟨Bw bX fZ.out.1,fZ.out.2.alloc fZ.out.1.sz _⟩)
    clear hW3
    have yU:=(iV.out.1.pick [_,_,_]).head
    refine hK.out _ _ (l8 yU) (fun hH=>?_)
    clear hK K
    try simp only[Act.put,az,ay,aA]
    refine ag 4 47 hH ?_
    refine aR 5 (fun K hK=>?_)
    go_simp
    refine gT ?_
    intro W9 kJ
    have aU:All B W9 (aK W3.heap.size (Bv l0 l1 l2 l3 W1.heap.size W0.drew.heap.size wf.heap.size) :: (aH bX wf.heap.size 0 (fun _=>none) 0 :: (nE W1.heap.size 16384 0 :: (aH aV W0.drew.heap.size 0 (fun _=>none) 0 :: [mW B l0 l1 l2 l3])))):=by rw[kJ];exact gV iV.out.1 _ _
    have eu:Below B w W9:=by rw[kJ];exact iV.out.2.alloc iV.out.1.sz _
    clear kJ
    have h:=aU
    have h:=h.pick [_]
    have h:=h.pick [_,_,_]
    have h:=h.pick [_,_,_]
    have h:=h.pick [_,_,_,_]
    have h:=h.pick [_,_,_,_]
    have jU:=af (And.intro h eu)
    have dD:=(jU.out.1.pick [_]).head
    clear h aU eu
    refine hK.out _ _ (l8 dD) (fun hH=>?_)
    clear hK K
    try simp only[Act.put,az,ay,aA]
    refine ag 6 4 hH ?_
    refine wpAnyH_done (by kernel_rfl) ?_ _
    go_wp2_with fail
    go_meet
    exact⟨_,_,_,_,rfl,jU.out.1,jU.out.2⟩
   ·go_simp
    refine gT ?_
    intro W2 hW2
    have fZ:Hid (All B W2 (aH bX W1.heap.size 0 (fun _=>none) 0 :: (aH aV W0.drew.heap.size 0 (fun _=>none) 0 :: [mW B l0 l1 l2 l3]))∧Below B w W2):=af (by rw[hW2];exact⟨Bw bX fV.out.1,fV.out.2.alloc fV.out.1.sz _⟩)
    clear hW2
    have yT:=(fZ.out.1.pick [_,_]).head
    refine hK.out _ _ (l8 yT) (fun hH=>?_)
    clear hK K
    try simp only[Act.put,az,ay,aA]
    refine aR 1 (fun K hK=>?_)
    go_simp
    refine (Fj.out _).mono ?_
    rintro ev wf ⟨rfl,kL,lZ⟩
    have iV:=af (And.intro (Kr fZ.out.1 kL (ah _) lZ) (fZ.out.2.trans (lZ.mono fZ.out.1.sz)))
    clear kL lZ
    have yU:=(iV.out.1.pick [_,_,_]).head
    refine hK.out _ _ (l8 yU) (fun hH=>?_)
    clear hK K
    try simp only[Act.put,az,ay,aA]
    refine ag 4 47 hH ?_
    refine aR 5 (fun K hK=>?_)
    go_simp
    refine gT ?_
    intro W9 kJ
    have aU:All B W9 (aK wf.heap.size (Bv l0 l1 l2 l3 W2.heap.size W0.drew.heap.size W1.heap.size) :: (nE W2.heap.size 16384 0 :: (aH bX W1.heap.size 0 (fun _=>none) 0 :: (aH aV W0.drew.heap.size 0 (fun _=>none) 0 :: [mW B l0 l1 l2 l3])))):=by rw[kJ];exact gV iV.out.1 _ _
    have eu:Below B w W9:=by rw[kJ];exact iV.out.2.alloc iV.out.1.sz _
    clear kJ
    have h:=aU
    have h:=h.pick [_,_]
    have h:=h.pick [_,_,_]
    have h:=h.pick [_,_,_]
    have h:=h.pick [_,_,_,_]
    have h:=h.pick [_,_,_,_]
    have jU:=af (And.intro h eu)
    have dD:=(jU.out.1.pick [_]).head
    clear h aU eu
    refine hK.out _ _ (l8 dD) (fun hH=>?_)
    clear hK K
    try simp only[Act.put,az,ay,aA]
    refine ag 6 4 hH ?_
    refine wpAnyH_done (by kernel_rfl) ?_ _
    go_wp2_with fail
    go_meet
    exact⟨_,_,_,_,rfl,jU.out.1,jU.out.2⟩
  ·go_simp
   refine gT ?_
   intro W1 hW1
   have fV:Hid (All B W1 (aH bX W0.drew.heap.size 0 (fun _=>none) 0 :: [mW B l0 l1 l2 l3])∧Below B w W1):=af (by rw[hW1];exact⟨Bw bX rO.out.1,rO.out.2.alloc rO.out.1.sz _⟩)
   clear hW1
   have JO:=(fV.out.1.pick [_]).head
   refine hK.out _ _ (l8 JO) (fun hH=>?_)
   clear hK K
   try simp only[Act.put,az,ay,aA]
   refine wpAnyH_ready (rs:=[1,2]) (by kernel_rfl) (by simp) ?_
   refine AllReadyH.cons (o:=⟨some 44,_,_,_,_,_⟩) rfl (fun K hK=>?_) (AllReadyH.cons (o:=⟨some 45,_,_,_,_,_⟩) rfl (fun K hK=>?_) AllReadyH.nil)
   ·go_simp
    refine (Fj.out _).mono ?_
    rintro ev wf ⟨rfl,kL,lZ⟩
    have fZ:=af (And.intro (Kr fV.out.1 kL (ah _) lZ) (fV.out.2.trans (lZ.mono fV.out.1.sz)))
    clear kL lZ
    have yT:=(fZ.out.1.pick [_,_]).head
    refine hK.out _ _ (l8 yT) (fun hH=>?_)
    clear hK K
    try simp only[Act.put,az,ay,aA]
    refine aR 2 (fun K hK=>?_)
    go_simp
    refine gT ?_
    intro W3 hW3
    have iV:Hid (All B W3 (aH aV wf.heap.size 0 (fun _=>none) 0 :: (nE W1.heap.size 16384 0 :: (aH bX W0.drew.heap.size 0 (fun _=>none) 0 :: [mW B l0 l1 l2 l3])))∧Below B w W3):=af (by rw[hW3];exact⟨Bw aV fZ.out.1,fZ.out.2.alloc fZ.out.1.sz _⟩)
    clear hW3
    have yU:=(iV.out.1.pick [_,_,_]).head
    refine hK.out _ _ (l8 yU) (fun hH=>?_)
    clear hK K
    try simp only[Act.put,az,ay,aA]
    refine ag 4 47 hH ?_
    refine aR 5 (fun K hK=>?_)
    go_simp
    refine gT ?_
    intro W9 kJ
    have aU:All B W9 (aK W3.heap.size (Bv l0 l1 l2 l3 W1.heap.size wf.heap.size W0.drew.heap.size) :: (aH aV wf.heap.size 0 (fun _=>none) 0 :: (nE W1.heap.size 16384 0 :: (aH bX W0.drew.heap.size 0 (fun _=>none) 0 :: [mW B l0 l1 l2 l3])))):=by rw[kJ];exact gV iV.out.1 _ _
    have eu:Below B w W9:=by rw[kJ];exact iV.out.2.alloc iV.out.1.sz _
    clear kJ
    have h:=aU
    have h:=h.pick [_,_,_]
    have h:=h.pick [_,_]
    have h:=h.pick [_,_,_]
    have h:=h.pick [_,_,_,_]
    have h:=h.pick [_,_,_,_]
    have jU:=af (And.intro h eu)
    have dD:=(jU.out.1.pick [_]).head
    clear h aU eu
    refine hK.out _ _ (l8 dD) (fun hH=>?_)
    clear hK K
    try simp only[Act.put,az,ay,aA]
    refine ag 6 4 hH ?_
    refine wpAnyH_done (by kernel_rfl) ?_ _
    go_wp2_with fail
    go_meet
    exact⟨_,_,_,_,rfl,jU.out.1,jU.out.2⟩
   ·go_simp
    refine gT ?_
    intro W2 hW2
    have fZ:Hid (All B W2 (aH aV W1.heap.size 0 (fun _=>none) 0 :: (aH bX W0.drew.heap.size 0 (fun _=>none) 0 :: [mW B l0 l1 l2 l3]))∧Below B w W2):=af (by rw[hW2];exact⟨Bw aV fV.out.1,fV.out.2.alloc fV.out.1.sz _⟩)
    clear hW2
    have yT:=(fZ.out.1.pick [_,_]).head
    refine hK.out _ _ (l8 yT) (fun hH=>?_)
    clear hK K
    try simp only[Act.put,az,ay,aA]
    refine aR 1 (fun K hK=>?_)
    go_simp
    refine (Fj.out _).mono ?_
    rintro ev wf ⟨rfl,kL,lZ⟩
    have iV:=af (And.intro (Kr fZ.out.1 kL (ah _) lZ) (fZ.out.2.trans (lZ.mono fZ.out.1.sz)))
    clear kL lZ
    have yU:=(iV.out.1.pick [_,_,_]).head
    refine hK.out _ _ (l8 yU) (fun hH=>?_)
    clear hK K
    try simp only[Act.put,az,ay,aA]
    refine ag 4 47 hH ?_
    refine aR 5 (fun K hK=>?_)
    go_simp
    refine gT ?_
    intro W9 kJ
    have aU:All B W9 (aK wf.heap.size (Bv l0 l1 l2 l3 W2.heap.size W1.heap.size W0.drew.heap.size) :: (nE W2.heap.size 16384 0 :: (aH aV W1.heap.size 0 (fun _=>none) 0 :: (aH bX W0.drew.heap.size 0 (fun _=>none) 0 :: [mW B l0 l1 l2 l3])))):=by rw[kJ];exact gV iV.out.1 _ _
    have eu:Below B w W9:=by rw[kJ];exact iV.out.2.alloc iV.out.1.sz _
    clear kJ
    have h:=aU
    have h:=h.pick [_,_,_]
    have h:=h.pick [_,_,_]
    have h:=h.pick [_,_,_]
    have h:=h.pick [_,_,_,_]
    have h:=h.pick [_,_,_,_]
    have jU:=af (And.intro h eu)
    have dD:=(jU.out.1.pick [_]).head
    clear h aU eu
    refine hK.out _ _ (l8 dD) (fun hH=>?_)
    clear hK K
    try simp only[Act.put,az,ay,aA]
    refine ag 6 4 hH ?_
    refine wpAnyH_done (by kernel_rfl) ?_ _
    go_wp2_with fail
    go_meet
    exact⟨_,_,_,_,rfl,jU.out.1,jU.out.2⟩
 case rest=>
  obtain⟨p,x,lm,hm,rfl,hA,hB1⟩:=hcut
  have bM:=af (And.intro hA hB1)
  clear fA hA hB1 q0 q1 q2 q3 bE Fj
  obtain⟨q0,q1,q2,q3⟩:=l8 (bM.out.1.pick [_]).head
  go_wp2_with fail
  refine (HND.out _).mono ?_
  rintro e w2 ⟨d,G,rfl,hdec,hfr,hb2⟩
  have bY:=af (And.intro ((bM.out.1.new (c':=mV d G 0 l2 l3 ⟨min l2 4096,0,[]⟩ false) hb2 hdec hfr).pick [_]) (bM.out.2.trans (hb2.mono bM.out.1.sz)))
  have k5:=bY.out.1.cc 5 (.pointer none) rfl
  have f5:=bY.out.1.cf 5
  clear hdec hfr hb2 q0 q1 q2 q3 HND
  go_wp2_with fail
  refine (HNE.out _).mono ?_
  rintro e w3 ⟨en,G2,rfl,-,-,hb3⟩
  obtain⟨gp,gP⟩:=bY.out.1.set 5 (.pointer (some ⟨d,0,none⟩))
  have JB:All B (w2.setCell ⟨p,5,none⟩ (.pointer (some ⟨d,0,none⟩))) (aK p { Bv l0 l1 l2 l3 x lm hm with dec:=.pointer (some ⟨d,0,none⟩) } :: _):=gp
  have bJ:=af (And.intro (JB.below hb3) (bY.out.2.trans (gP.trans (hb3.mono JB.sz))))
  have k6:=bJ.out.1.cc 6 (.pointer none) rfl
  have f6:=bJ.out.1.cf 6
  clear hb3 k5 f5 gp JB gP HNE
  go_wp2_with fail
  refine (HNW.out _).mono ?_
  rintro e w4 ⟨g,m,rfl,Bn,hg1,dS,hb4⟩
  obtain⟨dN,lC⟩:=bJ.out.1.set 6 (.pointer (some ⟨en,0,none⟩))
  have OQ:All B (w3.setCell ⟨p,6,none⟩ (.pointer (some ⟨en,0,none⟩))) (aK p { Bv l0 l1 l2 l3 x lm hm with dec:=.pointer (some ⟨d,0,none⟩),enc:=.pointer (some ⟨en,0,none⟩) } :: _):=dN
  have aX:=af (And.intro ((OQ.new (c':=gB g m 65535 65535 []) hb4 Bn (fun b hb=>by rcases hb with rfl | rfl <;> assumption)).pick [_]) (bJ.out.2.trans (lC.trans (hb4.mono OQ.sz))))
  have k7:=aX.out.1.cc 7 (.pointer none) rfl
  have f7:=aX.out.1.cf 7
  clear hb4 k6 f6 dN OQ lC HNW Bn hg1 dS
  obtain⟨q0,q1,q2,q3⟩:=l8 (aX.out.1.pick [_,_,_]).head
  have hpB:p≠B:=fun e1=>by
   have h1:=(List.pairwise_cons.1 aX.out.1.apart).1 (mW B l0 l1 l2 l3) (by simp) p rfl
   exact h1 e1
  go_wp2_with fail
  obtain⟨iN,DV⟩:=aX.out.1.set 7 (.pointer (some ⟨g,0,none⟩))
  have hs5:(w4.setCell ⟨p,7,none⟩ (.pointer (some ⟨g,0,none⟩))).heap.size=w4.heap.size:=by simp
  have hA5':All B (w4.setCell ⟨p,7,none⟩ (.pointer (some ⟨g,0,none⟩))) (aK p (SX l0 l1 l2 l3 x lm hm d en g) :: _):=iN
  have iy:=(hA5'.Bz 5 1).pick [_]
  have iW:=aX.out.2.trans DV
  clear iN hA5' DV k7 f7 q0 q1 q2 q3
  generalize (w4.setCell ⟨p,7,none⟩ (.pointer (some ⟨g,0,none⟩)))=w5 at *
  rw[←hs5]
  have hrd:=ahn w5 #[.int .i64 1,.int .i64 l2,.int .i64 3,.int .i64 l0,.int .i64 4,.int .i64 l1,.int .i64 6,.int .i64 l3] 109 2 4 rfl
  have tX:=iy.below ((Below.refl _ _).alloc (ah _) (.cells #[.int .i64 1,.int .i64 l2,.int .i64 3,.int .i64 l0,.int .i64 4,.int .i64 l1,.int .i64 6,.int .i64 l3] 109))
  have tZ:=iW.alloc iy.sz (.cells #[.int .i64 1,.int .i64 l2,.int .i64 3,.int .i64 l0,.int .i64 4,.int .i64 l1,.int .i64 6,.int .i64 l3] 109)
  have o8:(w5.alloc (.cells #[.int .i64 1,.int .i64 l2,.int .i64 3,.int .i64 l0,.int .i64 4,.int .i64 l1,.int .i64 6,.int .i64 l3] 109)).heap.size=w5.heap.size+1:=by simp
  obtain⟨n0,hn0⟩:∃n:Nat,l0=n:=⟨l0.toNat,by omega⟩
  obtain⟨n1,xL⟩:∃n:Nat,l1=n:=⟨l1.toNat,by omega⟩
  obtain⟨n2,hn2⟩:∃n:Nat,l2=n:=⟨l2.toNat,by omega⟩
  obtain⟨n3,hn3⟩:∃n:Nat,l3=n:=⟨l3.toNat,by omega⟩
  have hok:BH ⟨4,0,0,some ⟨w5.heap.size,0,none⟩,4,4,0,0,0⟩ [(1,n2),(3,n0),(4,n1),(6,n3)]:=⟨.inr (.inl ⟨rfl,rfl,rfl,rfl⟩),.inl rfl,aL _,aL _,aL _,aL _,(by show (4:Nat)≤100;omega),rfl,by
   intro s hs
   simp only[qG,xm,or_false] at hs
   rcases hs with rfl | rfl | rfl | rfl <;> (dsimp only;omega)⟩
  generalize (w5.alloc (.cells #[.int .i64 1,.int .i64 l2,.int .i64 3,.int .i64 l0,.int .i64 4,.int .i64 l1,.int .i64 6,.int .i64 l3] 109))=w7 at *
  have IA:Rd w7 w7.heap.size 2 (some ⟨w5.heap.size,0,none⟩) 4 (rE [(1,n2),(3,n0),(4,n1),(6,n3)]):=by
   rw[o8]
   have e:(#[.int .i64 1,.int .i64 l2,.int .i64 3,.int .i64 l0,.int .i64 4,.int .i64 l1,.int .i64 6,.int .i64 l3]:Array Value).toList=rE [(1,n2),(3,n0),(4,n1),(6,n3)]:=by rw[hn0,xL,hn2,hn3];rfl
   rw[←e]
   exact hrd
  have zP:=af (Nh (M:=24) ⟨4,0,0,some ⟨w5.heap.size,0,none⟩,4,4,0,0,0⟩ [(1,n2),(3,n0),(4,n1),(6,n3)] w7 tX hok IA (by omega) (fun w' hb=>ZP ⟨4,0,0,some ⟨w5.heap.size,0,none⟩,4,4,0,0,0⟩ [(1,n2),(3,n0),(4,n1),(6,n3)] w' hok rfl ((IA.below hb (ah _)).more hb.size)) (by omega))
  refine zP.out.mono ?_
  rintro e w8 ⟨rfl,DW,v8,n8,xs8,hn8,jd⟩
  have iq:=af (tZ.trans DW)
  have h:=jd.pick [_,_,_,_,_,_,_]
  have h:=h.pick [_,_,_,_,_,_,_]
  have h:=h.pick [_,_,_,_]
  have h:=h.pick [_,_,_,_,_]
  have h:=h.pick [_,_,_,_,_,_,_]
  have h:=h.pick [_,_,_,_,_,_]
  have h:=h.pick [_,_,_,_,_,_]
  have jC:=All.init (l:=[aK p { SX l0 l1 l2 l3 x lm hm d en g with bytes:=v8 },aD 5 1 v8 n8 xs8,nE x 16384 0,mV d G 0 l2 l3 ⟨min l2 4096,0,[]⟩ false,gB g m 65535 65535 [],aH aV lm 0 (fun _=>none) 0,aH bX hm 0 (fun _=>none) 0]) h
  have HE:=af jC
  clear h jC jd DW IA tX tZ iy iW hrd
  go_wp2_with fail
  refine bodyPost_ret (v:=.tuple #[.pointer (some ⟨p,0,none⟩),.int .i64 0]) (by simp[results,Tryz.results15,go_sem]) rfl ?_
  exact⟨p,{ SX l0 l1 l2 l3 x lm hm d en g with bytes:=v8 },x,d,G,g,m,n8,xs8,rfl,iq.out,HE.out,by omega,rfl,rfl,rfl,rfl,rfl,rfl,rfl,rfl,rfl,rfl,rfl⟩
end
section
open Go.RowKit
structure Hd9 (l:List UInt8) (f:Fr) (m:Nat):Prop where
 sz:oh ((l.drop 0).take 3)=m
 ty:ba l 3=f.ty
 fl:ba l 4=f.fl
 st:oh ((l.drop 5).take 4)=f.st
theorem afM (w:World):Calls Tryz.prog 157 #[.int .i64 ((4:Nat):Int),.int .i64 ((0:Nat):Int)] w fun e w'=>e = .returned (.bool false)∧w=w':=by
 go_enter Tryz.func157,Tryz.ntmps157
 go_wp2_with fail
 go_ret
 exact⟨rfl,rfl⟩
theorem afO (w:World):Calls Tryz.prog 158 #[.int .i64 ((4:Nat):Int),.int .i64 ((0:Nat):Int),.int .i64 ((0:Nat):Int)] w fun e w'=>e = .returned (.bool false)∧Below w.heap.size w w':=by
 go_enter Tryz.func158,Tryz.ntmps158
 go_wp2_with fail
 go_ret
 exact⟨rfl,(Below.refl _ _).alloc (ah _) _⟩
def gI:Fr:=⟨4,0,0,⟨#[]⟩,0⟩
def SoRel (W:World) (iv:Value) (wr:World):Prop:=iv = .int .i64 0∧wr=W
theorem ags {A:Option Addr}{cap x:Nat}(w:World) (kx:w.heap[x]?=some (.cells gI.bare.cells 52 (0,0))) :
 Calls Tryz.prog 159 #[.pointer (some ⟨x,0,none⟩),.slice A 0 cap] w (FT w x gI):=by
 have HK:=af kx
 obtain⟨c0,c1,c2,c3,c4,c5,c6,c7,c8,c9,c10,c11,hxl⟩:=fD.of kx
 simp only[Fr.bare,gI] at c0 c1 c2 c3 c4
 clear kx
 go_enter Tryz.func159,Tryz.ntmps159
 go_wp2_with fail
 go_loopw [5] (fun iv wr=>SoRel w iv wr) (fun _ _=>0)
 case atStart=>exact⟨rfl,rfl⟩
 case round=>
  obtain⟨rfl,rfl⟩:=hrel
  go_wp2_with fail
  go_ret
  exact⟨rfl,HK.out,Kept.refl _ _⟩
theorem Yl {A:Option Addr}{n cap m most:Nat}{l:List UInt8}{f:Fr}{pd:Bool}(w:World) (hr:Rd w w.heap.size 1 A n (ak l)) (hc:n≤cap) (hm:cap≤maxLen) (hh:Hd9 l f m)
 (P7:f.ty<256) (hty8:f.ty≠8) (Iq:f.fl<256) (PW:f.st≤2147483647)
 (hmp:∀w,Calls Tryz.prog 157 #[.int .i64 f.ty,.int .i64 f.st] w fun e w'=>e = .returned (.bool false)∧w=w')
 (hms:∀w,Calls Tryz.prog 158 #[.int .i64 f.ty,.int .i64 f.fl,.int .i64 m] w fun e w'=>e = .returned (.bool false)∧Below w.heap.size w w')
 (hop:∀(x:Nat) (A':Option Addr) (c':Nat) (w6:World),w6.heap[x]?=some (.cells f.bare.cells 52 (0,0))→Rd w6 w6.heap.size 1 A' m (ak (dG f pd))→m≤c'→c'≤maxLen→(∀a,A'=some a→a.block≠x) →
  Calls Tryz.prog 159 #[.pointer (some ⟨x,0,none⟩),.slice A' m c'] w6 (FT w6 x f))
 (fA:m≤most) (hge : 9+m≤n) (Ec:most≤16777215) (hpl:(l.drop 9).take m=dG f pd) :
 Calls Tryz.prog 130 #[.slice A n cap,.int .i64 most] w (Jr w f (9+m)):=by
 have hcm:cap≤9223372036854775807:=by unfold maxLen at hm;exact hm
 obtain⟨hl,b,o,rfl,hb,hcc⟩:=hr.tL (by omega)
 have HOT:Hid (∀w',Below w.heap.size w w'→Calls Tryz.prog 154 #[.slice (some ⟨b,o,none⟩) n cap,.int .i64 0,.int .i64 3] w' fun e w2=>e = .returned (.tuple #[.int .u32 (m:Nat),.int .i64 0])∧w'=w2):=af fun w' hb=>by
  have:=Td 0 3 w' ((hr.below hb (ah _)).more hb.size) hc hm (by omega) (by omega) (by omega)
  rw[hh.sz] at this
  exact this
 have HNU:Hid (∀w',Below w.heap.size w w'→Calls Tryz.prog 156 #[.slice (some ⟨b,o,none⟩) n cap,.int .i64 5] w' fun e w2=>e = .returned (.int .i64 (f.st:Nat))∧w'=w2):=af fun w' hb=>by
  have:=aep 5 w' ((hr.below hb (ah _)).more hb.size) hc hm (by omega)
  rw[hh.st] at this
  exact this
 have hr2:=hr.lh (lo:=9) (hi:=9+m) (by omega) hge hc
 rw[show 9+m-9=m by omega,hpl] at hr2
 have b3:=hcc 3 (by omega)
 have b4:=hcc 4 (by omega)
 rw[hh.ty] at b3
 rw[hh.fl] at b4
 have ha31:=and31 PW
 have fU:=af hr2
 have HH:=af hh
 obtain⟨ty,hty⟩:∃ty,f.ty=ty:=⟨_,rfl⟩
 obtain⟨fl,hfl⟩:∃fl,f.fl=fl:=⟨_,rfl⟩
 obtain⟨st,hst⟩:∃st,f.st=st:=⟨_,rfl⟩
 have HMP:=af hmp
 have zN:=af hms
 have HOPN:=af hop
 clear hmp hms hop
 rw[hty,hfl] at zN
 rw[hty,hst] at HMP
 rw[hty] at b3
 rw[hfl] at b4
 rw[hst] at ha31 HNU
 have HE:=af (And.intro hty (And.intro hfl hst))
 have P7:ty<256:=by omega
 have Iq:fl<256:=by omega
 clear hr hm hh hcc hr2 hty hfl hst hpl
 go_enter Tryz.func130,Tryz.ntmps130
 go_upto_region 1 with fail
 refine bI ?_
 intro W2 hW2
 have bw2:Below w.heap.size w W2:=by rw[hW2];exact ((Below.refl _ _).alloc (ah _) _).alloc (by simp) _
 have k4:W2.heap[w.heap.size]?=some (.cells yg.cells 52 (0,0)):=by rw[hW2];exact Dc _ _ _
 have k6:W2.heap[w.heap.size+1]?=some (.cells #[.bool false,.int .i64 0,.int .i64 0] 128 (0,0)):=by rw[hW2];exact AV _ _ _
 have hs2:W2.heap.size=w.heap.size+2:=by rw[hW2];simp
 have HK:=af (And.intro bw2 (And.intro k4 k6))
 have c3:W2.cell? ⟨b,o+3,none⟩=some (.int .u8 ty):=(bw2.cell (p:=⟨b,o+3,none⟩) hb).trans b3
 have c4:W2.cell? ⟨b,o+4,none⟩=some (.int .u8 fl):=(bw2.cell (p:=⟨b,o+4,none⟩) hb).trans b4
 clear hW2 bw2 k4 k6 b3 b4
 go_wp2_with fail
 refine (HOT.out _ HK.out.1).mono ?_
 rintro e1 w1 ⟨rfl,rfl⟩
 have i3:(3:Int)<n:=by omega
 have i4:(4:Int)<n:=by omega
 have aY:b<W2.heap.size:=by omega
 have fZ:=af hs2
 have hal:w.heap.size≤W2.heap.size:=by omega
 clear hs2
 have ew1:IntKind.i64.wrap (ty:Int)=ty:=IntWalk.i64_in _ ⟨by omega,by omega⟩
 have ew2:IntKind.i64.wrap (fl:Int)=fl:=IntWalk.i64_in _ ⟨by omega,by omega⟩
 go_upto_region 10 with fail
 go_cut [11] (fun y wx=>y = .pointer (some ⟨W2.heap.size,0,none⟩)∧wx.heap[W2.heap.size]?=some (.cells #[.int .i64 ty,.int .i64 fl,.int .i64 st,.string ⟨#[]⟩,.int .i64 0,.slice none 0 0,.int .i64 0,.int .i64 0,.int .i64 0,.int .i64 0,.int .i64 0,.bool false] 52 (0,0))∧Below W2.heap.size W2 wx)
 case first=>
  go_region_held3 (fun w'=>w'.cell? ⟨b,o+3,none⟩=some (.int .u8 ty)∧w'.cell? ⟨b,o+4,none⟩=some (.int .u8 fl))
   (first | go_keep | exact⟨k0,k1⟩)
   (first
    | (go_at_call 156;refine (HNU.out _ (by first | exact HK.out.1.drew | exact (HK.out.1.alloc hal _).drew)).mono ?_;rintro e3 w3 ⟨rfl,rfl⟩;have k0:=(by first | exact c3 | exact (World.cell?_alloc_lt W2 _ ⟨b,o+3,none⟩ aY).trans c3);have k1:=(by first | exact c4 | exact (World.cell?_alloc_lt W2 _ ⟨b,o+4,none⟩ aY).trans c4)))
  all_goals
   go_wp2_with fail
   go_meet
   first
    | exact⟨rfl,aZ W2 _,(Below.refl _ W2).alloc (ah _) _⟩
    | exact⟨rfl,aZ W2 _,((Below.refl _ W2).alloc (ah _) _).drew⟩
 case rest=>
 obtain⟨rfl,jY,hbc⟩:=hcut
 have hs2:=fZ.out
 obtain⟨x,hx⟩:∃x,W2.heap.size=x:=⟨_,rfl⟩
 rw[hx] at jY ⊢
 have wF:fD wc x ⟨ty,fl,st,⟨#[]⟩,0⟩:=fD.of jY
 have HB:=af (And.intro (HK.out.1.trans (hbc.mono (by omega))) (And.intro ((hbc.block _ (by omega)).trans HK.out.2.1) ((hbc.block _ (by omega)).trans HK.out.2.2)))
 have HX:=af (And.intro jY (show w.heap.size+1<x by omega))
 have HFX:=af wF
 obtain⟨d0,d1,d2,d3,d4,d5,d6,d7,d8,d9,d10,d11,dl⟩:=HFX.out
 simp only at d0 d1 d2 d3 d4
 clear jY hbc hx wF c3 c4 ew1 ew2 hs2 aY
 go_wp2_with fail
 refine (HMP.out _).mono ?_
 rintro e4 w4 ⟨rfl,rfl⟩
 go_wp2_with fail
 refine (zN.out _).mono ?_
 rintro e5 w5 ⟨rfl,aT⟩
 have hf5:=HFX.out.below aT
 have eG:=af aT
 have HF5:=af hf5
 clear d0 d1 d2 d3 d4 d5 d6 d7 d8 d9 d10 d11 aT hf5
 obtain⟨d0,d1,d2,d3,d4,d5,d6,d7,d8,d9,d10,d11,dl5⟩:=HF5.out
 simp only at d0 d1 d2 d3 d4
 go_wp2_with fail
 refine (zN.out _).mono ?_
 rintro e6 w6 ⟨rfl,dO⟩
 have hf6:=HF5.out.below dO
 have gK:=af (eG.out.trans (dO.mono eG.out.size))
 have HF6:=af hf6
 clear d0 d1 d2 d3 d4 d5 d6 d7 d8 d9 d10 d11 dO hf6 HMP zN
 have hs6:=gK.out.size
 have kr:w6.heap[x]?=some (.cells f.bare.cells 52 (0,0)):=(gK.out.block x dl).trans (by
  rw[HX.out.1]
  unfold Fr.bare Fr.cells
  rw[HE.out.1,HE.out.2.1,HE.out.2.2]
  rfl)
 have Mh:Below w.heap.size w w6:=HB.out.1.trans (gK.out.mono HB.out.1.size)
 have dH:=(fU.out.below Mh (ah _)).more Mh.size
 have BO:=af (And.intro kr Mh)
 have dD:b≠x:=by have:=HX.out.2;omega
 have HOP:Hid (∀A',(if cap=9 then some ⟨b,o,none⟩ else Option.map (fun x=>x.add 9) (some (⟨b,o,none⟩:Addr)))=A'→Calls Tryz.prog 159 #[.pointer (some ⟨x,0,none⟩),.slice A' m (cap-9)] w6 (FT w6 x f)):=af fun A' hA=>by
  refine HOPN.out x _ (cap-9) w6 kr (by rw[←hA];exact dH) (by omega) (bn (by omega)) (fun a ha=>?_)
  rw[←hA] at ha
  split at ha
  ·injection ha with ha;subst ha;exact dD
  ·injection ha with ha;subst ha;simp[Addr.add_lit];exact dD
 clear kr Mh dH fU i3 i4
 go_upto_region 17 with fail
 go_cut [84] (fun y wx=>y = .bool false∧wx.heap[x]?=some (.cells f.cells 52 (0,0))∧Kept (fun k=>k=x) w6 wx)
 case first=>
  by_cases h9:cap=9
  ·have hm0:m=0:=by omega
   subst h9
   have HO2:=af (HOP.out _ (ax rfl))
   subst hm0
   go_wp2_with fail
   refine HO2.out.mono ?_
   rintro e7 w7 ⟨rfl,mH,qV⟩
   have H7:=af (And.intro mH qV)
   clear mH qV
   go_wp2_with fail
   go_meet
   exact⟨rfl,H7.out⟩
  ·have HO2:=af (HOP.out _ (aj h9))
   go_wp2_with fail
   refine HO2.out.mono ?_
   rintro e7 w7 ⟨rfl,mH,qV⟩
   have H7:=af (And.intro mH qV)
   clear mH qV
   go_wp2_with fail
   go_meet
   exact⟨rfl,H7.out⟩
 case rest=>
 obtain⟨rfl,mH,qV⟩:=hcut
 have Cw:fD wc x f:=fD.of mH
 have dU:Below w.heap.size w wc:=BO.out.2.trans (qV.below (fun k hk=>by subst hk;have:=HX.out.2;omega) BO.out.2.size)
 have hx2:=HX.out.2
 have k4:=(qV.block _ (by omega) (by omega)).trans ((gK.out.block w.heap.size (by omega)).trans HB.out.2.1)
 have k6:=(qV.block _ (by omega) (by omega)).trans ((gK.out.block (w.heap.size+1) (by omega)).trans HB.out.2.2)
 have H7:=af (And.intro dU (And.intro k4 k6))
 have HF7:=af Cw
 clear mH qV Cw dU k4 k6
 obtain⟨d0,d1,d2,d3,d4,d5,d6,d7,d8,d9,d10,d11,dl7⟩:=HF7.out
 have b8:((f.ty:Int)==8)=false:=by rw[fO];omega
 go_wp2_with fail
 refine (unfit_nil _).mono ?_
 rintro e8 w8 ⟨rfl,bF⟩
 have HF8:=af (HF7.out.below bF)
 have hs78:=bF.size
 have o8:=H7.out.1.size
 have hs67:w.heap.size+1<wc.heap.size:=by omega
 have H8:Hid (Below w.heap.size w w8∧w8.heap[w.heap.size]?=some (.cells yg.cells 52 (0,0))∧w8.heap[w.heap.size+1]?=some (.cells #[.bool false,.int .i64 0,.int .i64 0] 128 (0,0))):=af ⟨H7.out.1.trans (bF.mono H7.out.1.size),(bF.block _ (by omega)).trans H7.out.2.1,(bF.block _ (by omega)).trans H7.out.2.2⟩
 clear bF d0 d1 d2 d3 d4 d5 d6 d7 d8 d9 d10 d11
 simp only[LV]
 go_upto_region 26 with fail
 refine bI ?_
 intro W9 kJ
 have b9:Below w8.heap.size w8 W9:=by rw[kJ];exact (Below.refl _ _).alloc (ah _) _
 have HF9:=af (HF8.out.below b9)
 have k4:=(b9.block w.heap.size (by omega)).trans H8.out.2.1
 have k6:=(b9.block (w.heap.size+1) (by omega)).trans H8.out.2.2
 have H9:=af (And.intro (H8.out.1.trans (b9.mono H8.out.1.size)) (And.intro k4 k6))
 clear kJ b9 k4 k6
 obtain⟨d0,d1,d2,d3,d4,d5,d6,d7,d8,d9,d10,d11,dl9⟩:=HF9.out
 go_wp2_with (first
  | (refine wpList_store_rowTo rfl 52 (.tmp 4) (.tmp 129) rfl rfl w.heap.size f.cells rfl rfl 52 _ H9.out.2.1 IG rfl (by simp[Value.oneCell',Fr.cells]) ?_)
  | (refine wpList_store_rowTo rfl 128 (.tmp 6) (.tmp 131) rfl rfl (w.heap.size+1) #[.bool false,.int .i64 0,.int .i64 0] rfl rfl 128 _ ((setRow_other _ _ _ _ (by omega)).trans H9.out.2.2) Ev rfl (by simp[Value.oneCell']) ?_))
 refine bodyPost_ret (Tm rfl rfl ((setRow_other _ _ _ _ (by omega)).trans (setRow_heap _ _ _ _ _ _ H9.out.2.1)) (setRow_heap _ _ _ _ _ _ ((setRow_other _ _ _ _ (by omega)).trans H9.out.2.2)) rfl rfl) rfl ?_
 exact⟨rfl,H9.out.1.trans ⟨rfl,rfl,rfl,by simp,fun k hk=>(setRow_other _ _ _ _ (by omega)).trans (setRow_other _ _ _ _ (by omega))⟩⟩
def BI (most:Nat) (p:Fr×Bool):Prop:=Good most p∨p=(gI,false)
theorem BI.len {most:Nat}{p:Fr×Bool}(h:BI most p):(dG p.1 p.2).length≤most:=by
 rcases h with h | rfl
 ·exact h.len
 ·simp[dG,gI]
theorem ait:qR gI false=[0,0,0,4,0,0,0,0,0]:=by simp[qR,gI,dG,be3,be4]
theorem pre9 {most:Nat}{p:Fr×Bool}{gs:List (Fr×Bool)}{r:List UInt8}(hg:BI most p) (hm:most≤16777215) (hr:r <+: strm (p :: gs)) (h9 : 9≤r.length):Hd9 r p.1 (dG p.1 p.2).length:=by
 rcases hg with hg | rfl
 ·have h:=ag1 hg hm hr h9
  exact⟨h.sz,h.ty,h.fl,h.st⟩
 ·obtain⟨u,hu⟩:=hr
  rw[KJ,OH,jf,ait] at hu
  have h2:(r++u).take 9=[0,0,0,4,0,0,0,0,0]:=by rw[hu];rfl
  rw[List.take_append_of_le_length h9] at h2
  have h1:r=[0,0,0,4,0,0,0,0,0]++r.drop 9:=by rw[←h2,vV]
  rw[h1]
  refine⟨?_,?_,?_,?_⟩
  ·simp[gI,dG,oh]
  ·simp[ba,gI]
  ·simp[ba,gI]
  ·simp[gI,oh]
theorem aew {A:Option Addr}{n cap m most:Nat}{l:List UInt8}{f:Fr}(w:World) (hr:Rd w w.heap.size 1 A n (ak l)) (hc:n≤cap) (hm:cap≤maxLen) (h9 : 9≤n) (hh:Hd9 l f m) (fA:m≤most) (hlt:n<9+m) (Ec:most≤16777215) :
 Calls Tryz.prog 130 #[.slice A n cap,.int .i64 most] w (Jr w yg 0):=by
 have HOT:Hid (∀w',Below w.heap.size w w'→Calls Tryz.prog 154 #[.slice A n cap,.int .i64 0,.int .i64 3] w' fun e w2=>e = .returned (.tuple #[.int .u32 (m:Nat),.int .i64 0])∧w'=w2):=af fun w' hb=>by
  have:=Td 0 3 w' ((hr.below hb (ah _)).more hb.size) hc hm (by omega) (by omega) (by omega)
  rw[hh.sz] at this
  exact this
 clear hr hm hh
 go_enter Tryz.func130,Tryz.ntmps130
 go_wp2_with fail
 refine (HOT.out _ (((Below.refl _ _).alloc (ah _) _).alloc (by simp) _)).mono ?_
 rintro e1 w1 ⟨rfl,rfl⟩
 go_wp2_with fail
 refine bodyPost_ret (Tm rfl rfl (Dc _ _ _) (AV _ _ _) rfl rfl) rfl ?_
 exact⟨rfl,((Below.refl _ _).alloc (ah _) _).alloc (by simp) _⟩
theorem aev {A:Option Addr}{n cap most:Nat}{l:List UInt8}{p:Fr×Bool}(w:World) (hr:Rd w w.heap.size 1 A n (ak l)) (hc:n≤cap) (hm:cap≤maxLen) (hg:BI most p) (hh:Hd9 l p.1 (dG p.1 p.2).length) (hge : 9+(dG p.1 p.2).length≤n) (Ec:most≤16777215) (hpl:(l.drop 9).take (dG p.1 p.2).length=dG p.1 p.2) :
 Calls Tryz.prog 130 #[.slice A n cap,.int .i64 most] w (Jr w p.1 (9+(dG p.1 p.2).length)):=by
 rcases hg with hg | rfl
 ·have hok:=hg.ok
  have hty:=hok.ty
  refine Yl w hr hc hm hh (by omega) (by omega) hok.fl hok.st (fun w=>afK _ _ w hty hg.st1) (fun w=>afN _ _ _ p.2 w hty hok.f8 hok.f32 (fun h1 h2=>?_)) (fun x A' c' w6 h1 h2 h3 h4 h5=>agm p.1 p.2 w6 hok hg.p1 h1 h2 h3 h4 h5) hg.len hge Ec hpl
  unfold dG
  rw[ax ⟨h1,h2⟩]
  simp
 ·have e:(dG gI false).length=0:=by simp[dG,gI]
  rw[e] at hh hge hpl ⊢
  exact Yl (pd:=false) w hr hc hm hh (by decide) (by decide) (by decide) (by decide) (fun w=>afM w) (fun w=>afO w) (fun x A' c' w6 h1 _ _ _ _=>ags w6 h1) (aL _) hge Ec hpl
end
end Go.Proofs.YtpkmciohehaboaaGreatDoor
