/- Part 23 of the proof. -/
import Derived.Test.YtpkmciohehaboaaGreatDoorK0
import Derived.Test.YtpkmciohehaboaaGreatDoorK22
set_option maxRecDepth 100000
set_option maxHeartbeats 100000000
set_option linter.unusedVariables false
set_option linter.unusedSimpArgs false
set_option linter.unusedSectionVars false
set_option linter.unnecessarySimpa false
namespace Go.Proofs.YtpkmciohehaboaaGreatDoor
section
open Go.RowKit
theorem iter9 {x Bb most l m:Nat}(S:Nat→Prop) (fs:List (Fr×Bool)) (L:List UInt8) (J:Nat→World→Prop) (hm:most≤16777215) (hg:∀p ∈ fs,BI most p)
 (hJ:∀k W W',J k W→Kept (fun b=>b=x) W W'→J k W')
 (hY:∀k p W,J k W→fs[k]?=some p→YieldAt Fence.wide m Tryz.prog l #[.agg #[.int .i64 p.1.ty,.int .i64 p.1.fl,.int .i64 p.1.st,.string p.1.data,.int .i64 p.1.pad,.slice none 0 0,.int .i64 0,.int .i64 0,.int .i64 0,.int .i64 0,.int .i64 0,.bool false,.bool false,.int .i64 0,.int .i64 0]] W fun e W'=>e = .returned (.bool true)∧J (k+1) W'∧Kept S W W')
 (hSx:¬S x) (hSb:¬S Bb) (hBx:Bb≠x) (w:World) (h0:NT x Bb most S fs L J w) :
 Calls Tryz.prog 129 #[.func (.yield l) #[] #[],.pointer (some ⟨Bb,0,none⟩)] w (ItEnd x most S fs L J):=by
 have H0:=af h0
 have HG:=af hg
 have HJ:=af hJ
 have HY:=af hY
 have HS:=af (And.intro hSx hSb)
 clear h0 hg hJ hY hSx hSb
 go_enter Tryz.func129,Tryz.ntmps129
 go_wp2_with fail
 go_loopw [] (fun wr=>NT x Bb most S fs L J wr) (fun wr=>Lj x wr)
 case atStart=>exact H0.out
 case round=>
  obtain⟨rZ,hbl,k,r,A,n,cap,hit⟩:=hrel
  have hlr:=hit.rd.mR
  have c0:=hit.feed.c0
  have c2:=hit.feed.c2
  have hxl:=hit.feed.lt
  obtain⟨f0,nn,HT,oV⟩:∃(f0:Fr) (nn:Nat),Hid (∀w',Below wr.heap.size wr w'→Calls Tryz.prog 130 #[.slice A n cap,.int .i64 most] w' (Jr w' f0 nn))∧Hid ((nn=0∧∀p,fs[k]?=some p→n<9+(dG p.1 p.2).length)∨(∃p,fs[k]?=some p∧f0=p.1∧nn=9+(dG p.1 p.2).length∧nn≤n)):=by
   have hrd:∀w',Below wr.heap.size wr w'→Rd w' w'.heap.size 1 A n (ak r):=fun w' hb=>(hit.rd.below hb (ah _)).more hb.size
   by_cases h9:n<9
   ·exact⟨yg,0,af (fun w' hb=>aex most w' h9),af (.inl ⟨rfl,fun p _=>by omega⟩)⟩
   ·obtain⟨p,gs,hgs⟩:∃p gs,fs.drop k=p :: gs:=by
     cases hd:fs.drop k with
     | nil=>
      have h1:=hit.pre.length_le
      rw[hd] at h1
      simp[strm] at h1
      rw[h1] at hlr
      simp at hlr
      omega
     | cons p gs=>exact⟨p,gs,rfl⟩
    have hpk:fs[k]?=some p:=by
     have h1:=List.getElem?_drop (xs:=fs) (i:=k) (j:=0)
     rw[hgs] at h1
     simpa using h1.symm
    have hgd:=HG.out p (fq hpk)
    have hpre:=hit.pre
    rw[hgs] at hpre
    have xI:=pre9 hgd hm hpre (by omega)
    by_cases hlt:n<9+(dG p.1 p.2).length
    ·exact⟨yg,0,af (fun w' hb=>aew w' (hrd w' hb) hit.nc hit.cm (by omega) xI hgd.len hlt hm),af (.inl ⟨rfl,fun p2 wH=>by rw[hpk] at wH;injection wH with wH;subst wH;exact hlt⟩)⟩
    ·exact⟨p.1,9+(dG p.1 p.2).length,af (fun w' hb=>aev w' (hrd w' hb) hit.nc hit.cm hgd xI (by omega) hm (Z6 hpre (by omega)).1),af (.inr ⟨p,hpk,rfl,rfl,by omega⟩)⟩
  have HI:=af hit
  clear hit
  obtain⟨ty,fl,st,data,pad⟩:=f0
  go_upto_region 0 with fail
  go_cut [3,4,5] (fun y3 y4 y5 wx=>∃b3 b5,y3 = .pointer (some ⟨b3,0,none⟩)∧y5 = .pointer (some ⟨b5,0,none⟩)∧y4 = .int .i64 nn∧wx.heap[b3]?=some (.cells (Fr.cells ⟨ty,fl,st,data,pad⟩) 52 (0,0))∧wx.heap[b5]?=some (.cells #[.bool false,.int .i64 0,.int .i64 0] 128 (0,0))∧wr.heap.size≤b3∧wr.heap.size≤b5∧Below wr.heap.size wr wx)
  case first=>
   go_region_held3 (fun w'=>w'.cell? ⟨Bb,0,none⟩=some (.pointer (some ⟨x,0,none⟩))∧w'.cell? ⟨x,0,none⟩=some (.int .i64 most)∧w'.cell? ⟨x,2,none⟩=some (.slice A n cap))
    (first | exact⟨rZ,c0,c2⟩ | exact⟨k0,k1,k2⟩ | (refine⟨?_,?_,?_⟩ <;> (repeat (first | refine (ad6 (by omega)).trans ?_ | refine (ad5 (by first | omega | (simp only[World.size_alloc];omega))).trans ?_)) <;> (first | exact k0 | exact k1 | exact k2 | exact rZ | exact c0 | exact c2)))
    (first
     | (go_at_call 130;refine LJ ?_;intro W2 hW2;have aY:Below wr.heap.size wr W2:=(by rw[hW2];repeat (first | exact Below.refl _ _ | apply Below.drew | refine Below.alloc ?_ (by simp) _));refine (HT.out _ aY).mono ?_;rintro e3 w3 ⟨rfl,hb3⟩;have JN:=aY.trans (hb3.mono aY.size);have hs3:=JN.size;have k0:=(JN.cell (p:=⟨Bb,0,none⟩) hbl).trans rZ;have k1:=(JN.cell (p:=⟨x,0,none⟩) hxl).trans c0;have k2:=(JN.cell (p:=⟨x,2,none⟩) hxl).trans c2;(try (have hz:=((hb3.block wr.heap.size (by rw[hW2];simp <;> omega)).trans (by rw[hW2];first | exact aZ wr _ | exact Dc wr _ _):w3.heap[wr.heap.size]?=some (.cells yg.cells 52 (0,0)))));(try (have hz:=((hb3.block (wr.heap.size+1) (by rw[hW2];simp <;> omega)).trans (by rw[hW2];exact AV wr _ _):w3.heap[wr.heap.size+1]?=some (.cells yg.cells 52 (0,0)))));(try (have hy:=((hb3.block wr.heap.size (by rw[hW2];simp <;> omega)).trans (by rw[hW2];first | exact aZ wr _ | exact Dc wr _ _):w3.heap[wr.heap.size]?=some (.cells #[.bool false,.int .i64 0,.int .i64 0] 128 (0,0)))));(try (have hy:=((hb3.block (wr.heap.size+1) (by rw[hW2];simp <;> omega)).trans (by rw[hW2];exact AV wr _ _):w3.heap[wr.heap.size+1]?=some (.cells #[.bool false,.int .i64 0,.int .i64 0] 128 (0,0)))));(try (have hl0:wr.heap.size<w3.heap.size:=(by have:=hb3.size;rw[hW2] at this;simp at this;omega)));(try (have iE:wr.heap.size+1<w3.heap.size:=(by have:=hb3.size;rw[hW2] at this;simp at this;omega)));simp only[gF,Fr.cells,LV])
     | (refine upon_of_wp (w:=w3.alloc (.cells #[.bool false,.int .i64 0,.int .i64 0] 128)) ?_ (wp_store_row 52 (.tmp 3) (.tmp 16) rfl wr.heap.size _ rfl rfl 52 yg.cells ((Below.heap_alloc _ _ _ hl0).trans hz) IG rfl (by simp[Value.oneCell']) ?_);focus (go_simp;done))
     | (refine upon_of_wp (w:=w3) ?_ (wp_store_row 52 (.tmp 3) (.tmp 16) rfl wr.heap.size _ rfl rfl 52 yg.cells hz IG rfl (by simp[Value.oneCell']) ?_);focus (go_simp;done))
     | (refine upon_of_wp (w:=w3) ?_ (wp_store_row 52 (.tmp 3) (.tmp 16) rfl (wr.heap.size+1) _ rfl rfl 52 yg.cells hz IG rfl (by simp[Value.oneCell']) ?_);focus (go_simp;done))
     | (refine upon_of_wp (w:=(w3.alloc (.cells #[.bool false,.int .i64 0,.int .i64 0] 128)).setRow wr.heap.size #[.int .i64 ty,.int .i64 fl,.int .i64 st,.string data,.int .i64 pad,.slice none 0 0,.int .i64 0,.int .i64 0,.int .i64 0,.int .i64 0,.int .i64 0,.bool false]) ?_ (wp_store_row 128 (.tmp 5) (.tmp 18) rfl w3.heap.size _ rfl rfl 128 #[.bool false,.int .i64 0,.int .i64 0] ((setRow_other _ _ _ _ (Nat.ne_of_gt hl0)).trans (aZ _ _)) Ev rfl (by simp[Value.oneCell']) ?_);focus (go_simp;done))
     | (refine upon_of_wp (w:=w3.setRow wr.heap.size #[.int .i64 ty,.int .i64 fl,.int .i64 st,.string data,.int .i64 pad,.slice none 0 0,.int .i64 0,.int .i64 0,.int .i64 0,.int .i64 0,.int .i64 0,.bool false]) ?_ (wp_store_row 128 (.tmp 5) (.tmp 18) rfl (wr.heap.size+1) _ rfl rfl 128 #[.bool false,.int .i64 0,.int .i64 0] ((setRow_other _ _ _ _ (Nat.succ_ne_self _)).trans hy) Ev rfl (by simp[Value.oneCell']) ?_);focus (go_simp;done))
     | (refine upon_of_wp (w:=w3.setRow (wr.heap.size+1) #[.int .i64 ty,.int .i64 fl,.int .i64 st,.string data,.int .i64 pad,.slice none 0 0,.int .i64 0,.int .i64 0,.int .i64 0,.int .i64 0,.int .i64 0,.bool false]) ?_ (wp_store_row 128 (.tmp 5) (.tmp 18) rfl wr.heap.size _ rfl rfl 128 #[.bool false,.int .i64 0,.int .i64 0] ((setRow_other _ _ _ _ (Nat.ne_of_lt (rQ _))).trans hy) Ev rfl (by simp[Value.oneCell']) ?_);focus (go_simp;done))
     | (refine upon_of_wp (w:=w3.alloc (.cells #[.int .i64 ty,.int .i64 fl,.int .i64 st,.string data,.int .i64 pad,.slice none 0 0,.int .i64 0,.int .i64 0,.int .i64 0,.int .i64 0,.int .i64 0,.bool false] 52)) ?_ (wp_store_row 128 (.tmp 5) (.tmp 18) rfl wr.heap.size _ rfl rfl 128 #[.bool false,.int .i64 0,.int .i64 0] ((Below.heap_alloc _ _ _ hl0).trans hy) Ev rfl (by simp[Value.oneCell']) ?_);focus (go_simp;done)))
   all_goals
    go_wp2_with fail
    go_meet
    refine⟨_,_,rfl,rfl,rfl,?_,?_,?_,?_,?_⟩
    ·first
     | exact Dc _ _ _
     | exact AV _ _ _
     | exact (setRow_other _ _ _ _ (Nat.ne_of_lt hl0)).trans (setRow_heap _ _ _ _ _ _ ((Below.heap_alloc _ _ _ hl0).trans hz))
     | exact (setRow_other _ _ _ _ (Nat.ne_of_lt (rQ _))).trans (setRow_heap _ _ _ _ _ _ hz)
     | exact (setRow_other _ _ _ _ (Nat.ne_of_gt hl0)).trans (aZ _ _)
     | exact (setRow_other _ _ _ _ (Nat.succ_ne_self _)).trans (setRow_heap _ _ _ _ _ _ hz)
    ·first
     | exact Dc _ _ _
     | exact AV _ _ _
     | exact setRow_heap _ _ _ _ _ _ ((setRow_other _ _ _ _ (Nat.ne_of_gt hl0)).trans (aZ _ _))
     | exact setRow_heap _ _ _ _ _ _ ((setRow_other _ _ _ _ (Nat.succ_ne_self _)).trans hy)
     | exact setRow_heap _ _ _ _ _ _ ((Below.heap_alloc _ _ _ hl0).trans hy)
     | exact setRow_heap _ _ _ _ _ _ ((setRow_other _ _ _ _ (Nat.ne_of_lt (rQ _))).trans hy)
    ·omega
    ·omega
    ·repeat' (first | exact JN | refine yI ?_ ?_ | refine Below.alloc ?_ ?_ _)
     all_goals ((try simp only[World.size_alloc]);omega)
  case rest=>
   rename World=>W1
   obtain⟨b3,b5,rfl,rfl,rfl,hk3,qU,hb3,aT,aY⟩:=hcut
   have hfw:=HI.out.feed.keep (aY.block x hxl)
   have hbbw:=(aY.cell (p:=⟨Bb,0,none⟩) hbl).trans rZ
   have HW:=af (And.intro aY (And.intro hk3 qU))
   obtain⟨y0,y1,y2⟩:=OG qU
   have hfz:=yN hfw
   have hc2:=hfw.c2
   clear hk3 qU rZ c0 c2
   rcases oV.out with ⟨hn0,hend⟩ | ⟨⟨⟨ty',fl',st',data',pad'⟩,pd⟩,hp,hfp,hnn,hle⟩
   ·subst hn0
    have HE:=af hend
    clear hend oV HT
    go_wp2_with fail
    refine bodyPost_ret (results_none rfl _ _ _) rfl ?_
    have hi:=HI.out
    have hkp:Kept (fun b=>b=x) wr W1:=Kept.jk HW.out.1
    exact⟨⟨_,rfl⟩,k,r,A,n,cap,⟨hfw,(hi.rd.below HW.out.1 (ah _)).more HW.out.1.size,hi.blk,hi.nc,hi.cm,hi.kl,hi.pre,hi.all,HJ.out _ _ _ hi.j hkp⟩,HE.out⟩
   ·simp only[Fr.mk.injEq] at hfp
    obtain⟨rfl,rfl,rfl,rfl,rfl⟩:=hfp
    have xL:((nn:Int)==0)=false:=by rw[fO];omega
    obtain⟨A',hA',fM⟩:=aaH A n cap nn hle
    have HA:=af (And.intro hp (And.intro hnn (And.intro hle hA')))
    clear hp hnn hle hA' oV HT
    go_upto_region 2 with fail
    go_cut [0] (fun y wx=>y = .func (.yield l) #[] #[]∧wx=(W1.drew).setCell ⟨x,2,none⟩ (.slice A' (n-nn) (cap-nn)))
    case first=>
     go_region
     all_goals go_wp2_with fail
     all_goals go_meet
     all_goals exact⟨rfl,rfl⟩
    case rest=>
    obtain⟨rfl,hcut⟩:=hcut
    have Mq:iJ wc x most (.slice A' (n-nn) (cap-nn)):=by rw[hcut];exact iJ.IY (w:=W1.drew) hfw _
    have hbk:∀b,b≠x→wc.heap[b]?=W1.heap[b]?:=fun b hb=>by rw[hcut];exact Below.heap_setCell _ _ _ _ hb
    have hkp2:Kept (fun b=>b=x) wr wc:=by rw[hcut];exact ((Kept.jk (F:=fun b=>b=x) HW.out.1).drew).setCell rfl 2 _
    have hk3:=(hbk b3 (by omega)).trans HW.out.2.1
    have qU:=(hbk b5 (by omega)).trans HW.out.2.2
    have Yw:wc.cell? ⟨Bb,0,none⟩=some (.pointer (some ⟨x,0,none⟩)):=(World.cell?_of_block (a:=⟨Bb,0,none⟩) (hbk Bb hBx)).trans hbbw
    have H2:=af (And.intro Mq (And.intro hkp2 (And.intro hk3 qU)))
    clear hcut hbk hkp2 hk3 hfz hc2 hbbw hfw fM y0 y1 y2 xL
    have hfz:=yN Mq
    have hc3:=Mq.c3
    obtain⟨y0,y1,y2⟩:=OG qU
    clear qU Mq
    go_upto_region 4 with fail
    refine bI ?_
    intro W4 bA
    have hfw4:iJ W4 x most (.slice A' (n-nn) (cap-nn)):=by rw[bA];exact H2.out.1.set3
    have Mc:∀b,b≠x→W4.heap[b]?=wc.heap[b]?:=fun b hb=>by rw[bA];exact Below.heap_setCell _ _ _ _ hb
    have Eb:Kept (fun b=>b=x) wr W4:=by rw[bA];exact H2.out.2.1.setCell rfl 3 _
    have hk3:=(Mc b3 (by omega)).trans H2.out.2.2.1
    have qU:=(Mc b5 (by omega)).trans H2.out.2.2.2
    have AQ:W4.cell? ⟨Bb,0,none⟩=some (.pointer (some ⟨x,0,none⟩)):=(World.cell?_of_block (a:=⟨Bb,0,none⟩) (Mc Bb hBx)).trans Yw
    obtain⟨fn,tmps,assign,body,hy,hR⟩:=HY.out k _ W4 (HJ.out _ _ _ HI.out.j Eb) HA.out.1
    dsimp only at hy
    have H4:=af (And.intro hfw4 (And.intro Eb AQ))
    have HR:=af hR
    clear bA Mc Eb hfw4 hR Yw y0 y1 y2 hfz hc3
    obtain⟨z0,z1,z2,z3,z4,z5,z6,z7,z8,z9,z10,z11,-⟩:=fD.of hk3
    obtain⟨y0,y1,y2⟩:=OG qU
    simp only at z0 z1 z2 z3 z4
    refine (wpIn_wide (n:=m+1)).1 ?_
    gi_wp2_with fail
    refine HR.out.mono ?_
    rintro e W5 ⟨rfl,hJ5,y7⟩
    have Mr:iJ W5 x most (.slice A' (n-nn) (cap-nn)):=H4.out.1.keep (y7.block x H4.out.1.lt HS.out.1)
    have oZ:=H4.out.2.1.size
    have hs5:=y7.size
    have hbb5:W5.cell? ⟨Bb,0,none⟩=some (.pointer (some ⟨x,0,none⟩)):=(y7.cell (by omega) HS.out.2 0).trans H4.out.2.2
    have hend:NT x Bb most S fs L J W5∧Lj x W5<Lj x wr:=by
     obtain⟨hp,hnn,hle,hA'⟩:=HA.out
     have hi:=HI.out
     have hdr:fs.drop k=(⟨ty,fl,st,data,pad⟩,pd) :: fs.drop (k+1):=by
      obtain⟨iO,hk2⟩:=List.getElem?_eq_some_iff.1 hp
      rw[List.drop_eq_getElem_cons iO,hk2]
     have hpre:=hi.pre
     rw[hdr] at hpre
     have hw:=Z6 hpre (by show 9+(dG ⟨ty,fl,st,data,pad⟩ pd).length≤r.length;omega)
     dsimp only at hw
     rw[←hnn] at hw
     have MB:=((hi.rd.kept H4.out.2.1 (fun h0 a ha=>(hi.blk h0 a ha).1)).kept y7 (fun h0 a ha=>(hi.blk h0 a ha).2)).from7 hle hi.nc hA'
     refine⟨⟨hbb5,by omega,k+1,r.drop nn,A',n-nn,cap-nn,⟨Mr,MB,?_,by have:=hi.nc;omega,by have:=hi.cm;omega,?_,hw.2.2,?_,hJ5⟩⟩,?_⟩
     ·intro h0 a ha
      have hnc:=hi.nc
      rw[aj (by omega)] at hA'
      rw[hA'] at ha
      obtain⟨b0,o0,rfl,-,-⟩:=hi.rd.at_ (by omega)
      simp only[Option.map_some,Cg,Addr.add_lit] at ha
      subst ha
      have h5:=hi.blk (by omega) _ rfl
      exact h5
     ·exact (List.getElem?_eq_some_iff.1 hp).1
     ·rw[iw,hp,iL,aaR,jf,KJ,hi.all]
      congr 1
      rw[show strm ([]:List (Fr×Bool))=[] from rfl,kR]
      exact hw.2.1
     ·unfold Lj
      rw[Mr.c2,hi.feed.c2]
      show n-nn<n
      omega
    have HE:=af hend
    have hc5:=Mr.c3
    clear hend Mr hJ5 y7 oZ hs5 z0 z1 z2 z3 z4 z5 z6 z7 z8 z9 z10 z11 y0 y1 y2 hk3 qU AQ HR
    gi_wp2
    change Code.wp _ (Code.cond (Operand.tmp 56) Code.ret Code.skip) _ _ _
    go_wp2
    go_roundw
    case rel=>exact HE.out.1
    case measure=>exact HE.out.2
end
section
open Go.RowKit Go.Maps
attribute [local go_sem] Oper.semAt_some
theorem Yf {x most n cap base m0 cap0:Nat}{A A00:Option Addr}{w0:World}{v:Value}{left b:List UInt8}(fs:List (Fr×Bool)) (G:World→Prop) (Q:Ending→World→Prop) (hm:most≤16777215) (hg:∀p ∈ fs,BI most p)
 (YW:Calls Tryz.prog 94 #[.pointer (some ⟨x,0,none⟩)] w0 fun e w'=>e = .returned (.bool false)∧w0=w')
 (YO:Calls Tryz.prog 95 #[.pointer (some ⟨x,0,none⟩),.slice A00 m0 cap0] w0 fun e w'=>e = .returned (.tuple #[.slice A n cap,.bool true])∧G w')
 (hall:∀w,G w→iJ w x most v∧b_ w base v left∧base≤w.heap.size∧Rd w w.heap.size 1 A n (ak b)) (hdj : 0<n→∀a,A=some a→a.block≠x∧v.ownBlock≠some a.block) (je:x<base)
 (hpre:left++b <+: strm fs) (hlen:left.length+b.length≤1099511627776) (hfl:fs.length≤1048576)
 (hQ:∀w,G w→∀e w',WY w x most v fs (left++b) e w'→Q e w') :
 Calls Tryz.prog 59 #[.pointer (some ⟨x,0,none⟩),.slice A00 m0 cap0] w0 Q:=by
 have HOV:=af YW
 have HGR:=af YO
 have dM:=af hall
 have HG:=af hg
 have HQ:=af hQ
 clear YW YO hall hg hQ
 refine (callsIn_wide (n:=100)).1 ?_
 refine callsIn_of_wp_marks Tryz.func59 rfl trivial ?_ rfl
 refine wpIn_wide.2 ?_
 simp only[Tryz.ntmps59,List.size_toArray,fe,List.length_nil,Nat.reduceAdd,Nat.reduceSub,Array.replicate_succ,Array.replicate_zero,List.push_toArray,List.append_toArray,jQ,oM]
 go_wp2_with fail
 refine HOV.out.mono ?_
 rintro e1 w1 ⟨rfl,rfl⟩
 go_wp2_with fail
 refine HGR.out.mono ?_
 rintro e1 w ⟨rfl,hGw⟩
 obtain⟨hf,hown,hbase,hr⟩:=dM.out w hGw
 clear HGR HOV dM
 have hbl:=hr.mR
 have HIT:=af (fun w=>aeW (p:=some ⟨x,0,none⟩) w)
 have c2:=hf.c2
 have hxl:=hf.lt
 obtain⟨A0,n0,hv,hn0⟩:∃A0 c0,v = .slice A0 left.length c0∧True:=by
  obtain⟨A0,c0,h,-⟩:=hown.rd
  exact⟨A0,c0,h,trivial⟩
 subst hv
 have HF:=af hf
 have HO:=af hown
 have HR:=af (And.intro hr hdj)
 have hfz:=yN hf
 clear hf hown hr hdj hn0
 go_wp2_with (at_builtin;refine dQ (.tmp 28) (.tmp 29) iT rfl rfl HO.out rfl HR.out.1 rfl (kZ _) (bn (by omega)) (by omega) hbase ?_;intro v2 w2 hown2 hg2 _;have hx2:w2.heap[x]?=w.heap[x]?:=hg2.block x hxl (fun e=>by have:=(World.ownsRow.lt HO.out x e.symm).1;omega);have hf2:iJ w2 x most (.slice A0 left.length n0):=HF.out.keep hx2;have hc22:=hf2.c2;have hfz2:=yN hf2;obtain⟨A2,cap2,rfl,hnc2,hcm2,-⟩:=aC hown2;have H2:=af (And.intro hown2 (And.intro hg2 hf2));clear hown2 hg2 hx2 hf2 hfz c2)
 obtain⟨ob,sD⟩:∃ob,w2.heap.size=ob:=⟨_,rfl⟩
 refine (HIT.out _).mono ?_
 rintro e4 w4 ⟨rfl,hw4⟩
 have hb4:(((w2.setCell ⟨x,2,none⟩ (.slice A2 (left.length+n) cap2)).alloc (.cells #[.slice none 0 0] 125)).heap.size=ob+1):=by rw[←sD];simp
 rw[hb4,sD]
 have hs2:w.heap.size≤ob:=by have:=H2.out.2.1.size;omega
 have Gr:iJ w4 x most (.slice A2 (left.length+n) cap2):=by
  rw[hw4]
  exact ((Below.heap_alloc _ _ _ (by simp;omega)).trans (Below.heap_alloc _ _ _ (by simp;omega))).trans (H2.out.2.2.IY _)
 have kr:w4.heap[ob]?=some (.cells #[.slice none 0 0] 125 (0,0)):=by
  rw[hw4,←sD]
  have:=Dc (w2.setCell ⟨x,2,none⟩ (.slice A2 (left.length+n) cap2)) (.cells #[.slice none 0 0] 125) (.cells #[.pointer (some ⟨x,0,none⟩)] 91)
  simpa [World.setCell] using this
 have mH:w4.heap[ob+1]?=some (.cells #[.pointer (some ⟨x,0,none⟩)] 91 (0,0)):=by
  rw[hw4,←sD]
  have:=AV (w2.setCell ⟨x,2,none⟩ (.slice A2 (left.length+n) cap2)) (.cells #[.slice none 0 0] 125) (.cells #[.pointer (some ⟨x,0,none⟩)] 91)
  simpa [World.setCell] using this
 have oZ:w4.heap.size=ob+2:=by rw[hw4];simp[hb4,←sD]
 have Eb:Kept (fun b=>b=x∨(Value.slice A0 left.length n0).ownBlock=some b) w w4:=by
  rw[hw4]
  exact (((Kept.refl _ w).grown H2.out.2.1 (fun k e=>.inl (.inr e))).setCell (.inl rfl) 2 _).alloc _ |>.alloc _
 have hlb:(left++b).length=left.length+n:=by rw[aN,hbl]
 have jh:b_ w2 base (.slice A2 (left.length+n) cap2) (left++b):=by
  unfold b_
  rw[hlb,mU]
  exact H2.out.1
 have YR:Kept (fun b=>b=x) w2 w4:=by
  rw[hw4]
  exact (((Kept.refl (fun b=>b=x) w2).setCell rfl 2 _).alloc _).alloc _
 have sw:b_ w4 base (.slice A2 (left.length+n) cap2) (left++b):=d_ jh YR (fun k hk h=>by have:=(World.ownsRow.lt jh k hk).1;omega)
 have hr4:Rd w4 w4.heap.size 1 A2 (left.length+n) (ak (left++b)):=by
  obtain⟨A',c',he,hrd⟩:=sw.rd
  injection he with h1 h2 h3
  subst h1
  rw[hlb] at hrd
  exact hrd
 have dA:∀a,A2=some a→x<a.block∧a.block<ob:=by
  intro a ha
  subst ha
  have:=World.ownsRow.lt jh a.block rfl
  omega
 have H4:=af (And.intro Gr (And.intro kr (And.intro mH (And.intro Eb (And.intro hr4 dA)))))
 clear jh sw YR Gr kr mH Eb hr4 dA hw4 hb4 sD hc22 hfz2
 go_wp2_with fail
 refine ahe rfl (enters_of Tryz.func129 (by kernel_rfl) rfl) ?_
 intro fn rec MC
 rw[oZ] at MC
 obtain⟨W5,kg⟩:∃W5,(w4.alloc (.deferred (some []))).alloc (.loop (rec .ready none))=W5:=⟨_,rfl⟩
 have aT:Below w4.heap.size w4 W5:=by rw[←kg];exact ((Below.refl _ _).alloc (ah _) _).alloc (by simp) _
 have hl5:W5.heap[ob+3]?=some (.loop (rec .ready none)):=by rw[←kg,show ob+3=w4.heap.size+1 by omega];exact AV _ _ _
 have hd5:W5.heap[ob+2]?=some (.deferred (some [])):=by rw[←kg,←oZ];exact Dc _ _ _
 have hs5:W5.heap.size=ob+4:=by rw[←kg];simp[oZ]
 rw[kg,oZ]
 obtain⟨own,PK⟩:∃own:Nat→Prop,(fun b=>(Value.slice A0 left.length n0).ownBlock=some b)=own:=⟨_,rfl⟩
 refine (iter9 (x:=x) (Bb:=ob+1) (most:=most) (l:=ob+3) (m:=0) (fun b=>b=ob∨ob+2≤b) fs (left++b) (TkJ Tryz.prog w x ob own fs (rec .ready none)) hm HG.out (fun k W W' h hk=>h.keep (by omega) hk) ?hY (by omega) (by omega) (by omega) W5 ?h0).mono ?hend
 case hY=>
  intro k p W hj hp
  have y8:=hj.lp
  rw[MC] at y8
  refine ajK y8 rfl ?_
  obtain⟨V,hV,hrow⟩:=hj.row
  have hlt:=(Array.getElem?_eq_some_iff.1 y8).1
  have HJJ:=af (And.intro hj (And.intro hV hrow))
  have HL:=af y8
  clear hj hV hrow y8
  gi_wp2_with fail
  refine⟨(Below.heap_alloc _ _ _ hlt).trans HL.out,?_⟩
  refine ajD ?_
  intro W1 hW1
  have hne:∀b,b≠ob+3→b<W.heap.size→W1.heap[b]?=W.heap[b]?:=fun b h1 h2=>by rw[hW1,World.putObj_heap_other h1];exact Below.heap_alloc _ _ _ h2
  have hsz:W1.heap.size=W.heap.size+1:=by rw[hW1];simp
  have Gs:W1.heap[W.heap.size]?=some (.cells (Bp p.1).toArray 130 (0,0)):=by rw[hW1,World.putObj_heap_other (by omega)];exact aZ _ _
  have hlp1:W1.heap[ob+3]?=some (.loop (rec .busy none)):=by rw[hW1,World.putObj_heap_same (by simp;omega),MC]
  have Pm:Kept (fun b=>b=ob+3) W W1:=⟨by rw[hW1];rfl,by rw[hW1];rfl,by rw[hW1];rfl,by omega,fun b h1 h2=>hne b h2 h1⟩
  have Mw:=(hne ob (by omega) (by omega)).trans HJJ.out.2.1
  have Y1:=d_ HJJ.out.2.2 Pm (fun q hq e=>by have:=(World.ownsRow.lt HJJ.out.2.2 q hq).1;omega)
  have hd:=XF Gs
  have d0:=hd 0 _ rfl
  have d1:=hd 1 _ rfl
  have d2:=hd 2 _ rfl
  have d3:=hd 3 _ rfl
  have d4:=hd 4 _ rfl
  have d5:=hd 5 _ rfl
  have d6:=hd 6 _ rfl
  have d7:=hd 7 _ rfl
  have d8:=hd 8 _ rfl
  have d9:=hd 9 _ rfl
  have d10:=hd 10 _ rfl
  have d11:=hd 11 _ rfl
  have d12:=hd 12 _ rfl
  have d13:=hd 13 _ rfl
  have d14:=hd 14 _ rfl
  have e0:W1.cell? ⟨ob,0,none⟩=some V:=by unfold World.cell?;rw[Mw];rfl
  have hobz:=yN Mw
  have hkl:k<fs.length:=(List.getElem?_eq_some_iff.1 hp).1
  have qF:=af (And.intro hne (And.intro hlp1 (And.intro Pm (And.intro Mw (And.intro Y1 Gs)))))
  have fV:=af hsz
  have hylt:W.heap.size<W1.heap.size:=by omega
  have hoblt:ob<W1.heap.size:=by omega
  have hob4:ob+4≤W1.heap.size:=by omega
  have HP:=af hp
  clear hne hlp1 Pm Mw Y1 Gs hd hW1 HL hsz hlt hp hl5 hd5 aT kg
  have YQ:(k+1)*144≤140737488355328:=by omega
  have yx:Hid (∀o,(W1.alloc o).ownsRow (ob+4) 130 15 V k (jN (fs.take k))):=af (fun o=>d_ qF.out.2.2.2.2.1 ((Kept.refl (fun _=>False) W1).alloc o) (fun _ _ h=>h))
  gi_wp2_with (gi_at_builtin;refine dI ?_)
  unfold Stop
  refine ajE (.tmp 36) (.tmp 38) aiW rfl rfl (yx.out _) rfl (aZ _ _) rfl rfl (by simp[Value.oneCell']) (bn (by omega)) YQ (by simp;omega) ?_
  intro v6 w6 dK gu
  obtain⟨A6,n6,rfl,-,-,-,-⟩:=aC dK
  obtain⟨v6,kN⟩:∃v6,Value.slice A6 (k+1) n6=v6:=⟨_,rfl⟩
  rw[kN] at dK
  have dO:w6.heap[ob]?=W1.heap[ob]?:=by
   refine (gu.block ob (by simp;omega) (fun e=>by have:=(World.ownsRow.lt qF.out.2.2.2.2.1 _ e.symm).1;omega)).trans ?_
   exact Below.heap_alloc _ _ _ hoblt
  have hl6:w6.heap[ob+3]?=W1.heap[ob+3]?:=by
   refine (gu.block (ob+3) (by simp;omega) (fun e=>by have:=(World.ownsRow.lt qF.out.2.2.2.2.1 _ e.symm).1;omega)).trans ?_
   exact Below.heap_alloc _ _ _ (by omega)
  have hz6:=yN (dO.trans qF.out.2.2.2.1)
  have c6:w6.cell? ⟨ob,0,none⟩=some V:=by unfold World.cell?;rw[dO.trans qF.out.2.2.2.1];rfl
  have hkp6:Kept (fun b=>b=ob∨ob+2≤b) W w6:=(((qF.out.2.2.1.mono (fun b e=>.inr (by omega))).alloc _).grown gu (fun q e=>.inl (.inr (by have:=(World.ownsRow.lt qF.out.2.2.2.2.1 _ e).1;omega))))
  have hend:NY (w6.setCell ⟨ob,0,none⟩ v6) (ob+3) (rec .busy none)∧TkJ Tryz.prog w x ob own fs (rec .ready none) (k+1) ((w6.setCell ⟨ob,0,none⟩ v6).putObj (ob+3) (.loop (rec .ready none)))∧Kept (fun b=>b=ob∨ob+2≤b) W ((w6.setCell ⟨ob,0,none⟩ v6).putObj (ob+3) (.loop (rec .ready none))):=by
   have hls:(w6.setCell ⟨ob,0,none⟩ v6).heap[ob+3]?=some (.loop (rec .busy none)):=(Below.heap_setCell _ _ _ _ (show ob+3≠ob by omega)).trans (hl6.trans qF.out.2.1)
   have y7:Kept (fun b=>b=ob∨ob+2≤b) W ((w6.setCell ⟨ob,0,none⟩ v6).putObj (ob+3) (.loop (rec .ready none))):=(hkp6.setCell (.inl rfl) 0 v6).put (.inr (by omega)) _
   have hj:=HJJ.out.1
   refine⟨hls,⟨World.putObj_heap_same (Array.getElem?_eq_some_iff.1 hls).1,?_,⟨v6,?_,?_⟩,hj.kp.trans y7 (fun b hb=>.inr (by omega))⟩,y7⟩
   ·rw[World.putObj_heap_other (by omega)]
    refine (Below.heap_setCell _ _ _ _ (show ob+2≠ob by omega)).trans ?_
    refine (gu.block (ob+2) (by simp;omega) (fun e=>by have:=(World.ownsRow.lt qF.out.2.2.2.2.1 _ e.symm).1;omega)).trans ?_
    refine (Below.heap_alloc _ _ _ (by omega)).trans ?_
    exact (qF.out.1 (ob+2) (by omega) (by have:=fV.out;omega)).trans hj.df
   ·rw[World.putObj_heap_other (by omega)]
    exact oH v6 (dO.trans qF.out.2.2.2.1)
   ·rw[aeZ HP.out]
    refine d_ dK (((Kept.refl (fun b=>b=ob∨b=ob+3) w6).setCell (.inl rfl) 0 v6).put (.inr rfl) _) (fun q hq e=>?_)
    have:=(World.ownsRow.lt dK q hq).1
    omega
  rw[←kN] at hend
  have HE:=af hend
  clear hend kN hkp6 dO hl6 gu dK yx YQ d0 d1 d2 d3 d4 d5 d6 d7 d8 d9 d10 d11 d12 d13 d14 e0 hobz
  gi_wp2_with fail
  have h:=HE.out
  simp only[MC] at h ⊢
  exact⟨h.1,h.2⟩
 case h0=>
  obtain⟨Gr,kr,mH,Eb,hr4,dA⟩:=H4.out
  have hnil:W5.ownsRow (ob+4) 130 15 (.slice none 0 0) 0 (jN (fs.take 0)):=⟨rfl,.inl ⟨rfl,rfl⟩⟩
  refine⟨?_,by omega,0,left++b,A2,left.length+n,cap2,⟨Gr.keep (aT.block x (by omega)),(hr4.below aT (ah _)).more aT.size,?_,hnc2,hcm2,aL _,by simpa using hpre,by simp[strm],hl5,hd5,⟨_,(aT.block ob (by omega)).trans kr,hnil⟩,?_⟩⟩
  ·unfold World.cell?;rw[aT.block (ob+1) (by omega),mH];rfl
  ·intro _ a ha
   have:=dA a ha
   omega
  ·rw[←PK]
   exact Eb.same (Kept.jk aT)
 case hend=>
  rintro e W6 ⟨⟨v,rfl⟩,k,r,A7,n7,cap7,hit,oW⟩
  refine⟨⟨v,rfl⟩,hit.j.lp,?_⟩
  rename_i a1 K1 hK1
  show K1 _ _
  refine hK1 _ _ ?_
  clear hK1 a1 K1
  refine bI ?_
  intro W7 eU
  obtain⟨V,hV,hrow⟩:=hit.j.row
  have hl6:=(Array.getElem?_eq_some_iff.1 hit.j.lp).1
  have hne:∀b,b≠ob+3→W7.heap[b]?=W6.heap[b]?:=fun b h1=>by rw[eU,World.putObj_heap_other (by omega)]
  have qV:Kept (fun b=>b=ob+3) W6 W7:=⟨by rw[eU];rfl,by rw[eU];rfl,by rw[eU];rfl,by rw[eU];simp,fun b _ h2=>hne b h2⟩
  have Cw:iJ W7 x most (.slice A7 n7 cap7):=hit.feed.keep (hne x (by omega))
  have Bg:Rd W7 W7.heap.size 1 A7 n7 (ak r):=hit.rd.kept qV (fun h0 a ha=>by have:=(hit.blk h0 a ha).2;omega)
  have IB:W7.ownsRow (ob+4) 130 15 V k (jN (fs.take k)):=d_ hrow qV (fun q hq e=>by have:=(World.ownsRow.lt hrow q hq).1;omega)
  have hd7:=(hne (ob+2) (by omega)).trans hit.j.df
  have mH:Kept (fun b=>b=x∨(Value.slice A0 left.length n0).ownBlock=some b) w W7:=by
   have h1:=hit.j.kp.trans qV (fun b e=>.inr (by omega))
   rw[←PK] at h1
   exact h1
  have hrl:=Bg.mR
  have o8:ob+4≤W7.heap.size:=by have:=qV.size;omega
  obtain⟨V1,V2,rfl,-,-,-,-⟩:=aC IB
  have e0:W7.cell? ⟨ob,0,none⟩=some (.slice V1 k V2):=by unfold World.cell?;rw[hne ob (by omega),hV];rfl
  have hfz:=yN Cw
  have c2:=Cw.c2
  have c3:=Cw.c3
  have hx7:=Cw.lt
  have H7:=af (And.intro Cw (And.intro Bg (And.intro IB (And.intro hd7 (And.intro mH (And.intro hit oW))))))
  have zg : 0+n7≤maxLen:=bn (by have:=congrArg List.length hit.all;rw[aN,aN] at this;omega)
  have hrb:(0+n7)*1≤140737488355328:=by have:=congrArg List.length hit.all;rw[aN,aN] at this;omega
  have Bn:w.heap.size≤W7.heap.size:=by omega
  have hobl:ob<W7.heap.size:=by omega
  have HOB:=af hV
  clear hV hrow hl6 hne qV Cw Bg IB hd7 mH hit oW eU hl5 hd5 aT kg hs5 PK hlb hrl
  go_wp2_with (at_builtin;refine dI ?_)
  unfold Stop
  refine dQ (.const (.slice none 0 0)) (.tmp 51) iT rfl rfl (World.ownsRow_nil W7 w.heap.size 5 1) rfl H7.out.2.1 rfl (kZ _) zg hrb Bn ?_
  intro v8 w8 mZ qc xM
  obtain⟨V3,V4,rfl,-,-,-,-⟩:=aC mZ
  have bF:∀b,b<W7.heap.size→w8.heap[b]?=W7.heap[b]?:=fun b h=>qc.block b h (by simp[Value.ownBlock])
  have xG:iJ w8 x most (.slice A7 n7 cap7):=H7.out.1.keep (bF x hx7)
  have hfz8:=yN xG
  have c28:=xG.c2
  have e08:w8.cell? ⟨ob,0,none⟩=some (.slice V1 k V2):=(World.cell?_of_block (a:=⟨ob,0,none⟩) (bF ob hobl)).trans e0
  have H8:=af (And.intro mZ (And.intro qc (And.intro bF (And.intro xG xM))))
  clear mZ qc bF xG xM e0 hfz c2 c3 hrb zg
  go_wp2_with fail
  refine afb (v:=.slice V1 k V2) rfl (show (w8.setCell ⟨x,2,none⟩ (.slice V3 n7 V4)).heap[ob+2]?=some (.deferred (some [])) from (Below.heap_setCell _ _ _ _ (show ob+2≠x by omega)).trans ((H8.out.2.2.1 (ob+2) (by omega)).trans H7.out.2.2.2.1)) (fun W=>by simp[results,Tryz.results59,go_sem]) ?_
  obtain⟨-,-,IB,hd7,mH,hit,oW⟩:=H7.out
  obtain⟨mZ,qc,bF,xG,xM⟩:=H8.out
  have hrl:r.length=n7:=hit.rd.mR
  have y7:Kept (fun b=>b=x∨b=ob+2) w8 ((w8.setCell ⟨x,2,none⟩ (.slice V3 n7 V4)).putObj (ob+2) (.deferred none)):=((Kept.refl _ w8).setCell (.inl rfl) 2 _).put (.inr rfl) _
  have hkA:Kept (fun b=>b=x∨b=ob+2) W7 ((w8.setCell ⟨x,2,none⟩ (.slice V3 n7 V4)).putObj (ob+2) (.deferred none)):=((Kept.refl (fun b=>b=x∨b=ob+2) W7).grown qc (fun q e=>by simp[Value.ownBlock] at e)).same y7
  refine HQ.out w hGw _ _ ⟨k,r,_,.slice V3 n7 V4,rfl,hit.kl,hit.all,hit.pre,fun p hp=>by rw[hrl];exact oW p hp,?_,?_,?_,?_⟩
  ·have h1:=d_ IB hkA (fun q hq e=>by have:=(World.ownsRow.lt IB q hq).1;omega)
   exact pG h1 (by omega)
  ·have h1:=d_ mZ y7 (fun q hq e=>?_)
   ·unfold b_
    rw[hrl]
    simpa using h1
   ·rw[hq] at xM
    rcases xM with h | h
    ·simp[Value.ownBlock] at h
    ·injection h with h;omega
  ·exact iJ.keep (iJ.IY xG _) (World.putObj_heap_other (by omega))
  ·exact mH.trans hkA (fun b e=>by omega)
end
section
open Go.RowKit Go.Maps
theorem aa9 {w w':World}{x:Nat}{most:Int}{v:Value}{fs:List (Fr×Bool)}{e:Ending}(h:WY w x most v fs (strm fs) e w') :
 ∃V v',e = .returned V∧w'.ownsRow w.heap.size 130 15 V fs.length (jN fs)∧iJ w' x most v'∧Kept (fun b=>b=x∨v.ownBlock=some b) w w':=by
 obtain⟨k,r,V,v',he,hk,hL,-,oW,hrow,-,hf',hkp⟩:=h
 have hkl:k=fs.length:=by
  rcases vW k fs.length with hlt | hge
  ·exfalso
   obtain⟨p,hp⟩:∃p,fs[k]?=some p:=⟨_,a_ hlt⟩
   have h1:=oW p hp
   have h2:strm fs=strm (fs.take k)++strm (fs.drop k):=by rw[←aaR,vV]
   have h3:r=strm (fs.drop k):=by
    rw[h2] at hL
    exact (List.append_cancel_left hL).symm
   have h4:fs.drop k=p :: fs.drop (k+1):=by
    rw[List.drop_eq_getElem_cons hlt]
    congr 1
    rw[a_ hlt] at hp
    exact qI hp
   rw[h3,h4,KJ,aN,Gc] at h1
   omega
  ·omega
 subst hkl
 rw[List.take_length] at hrow
 exact⟨V,v',he,hrow,hf',hkp⟩
def qh:List (Fr×Bool):=[(gI,false),(mq,false)]
theorem afQ:∀p ∈ qh,BI 16384 p:=by
 intro p hp
 simp only[qh,qG,xm,or_false] at hp
 rcases hp with rfl | rfl
 ·exact .inr rfl
 ·left
  have hl:(dG mq false).length≤2000:=by
   have h1:=Gc mq false
   have h2:(bD mq false).length≤2000:=by decide +kernel
   omega
  have hd:(aJ F4).size≤1048576:=by rw[pz];have:=Oq;omega
  exact⟨⟨.inr (.inl rfl),by decide,by decide,by decide,fun _=>rfl,fun _=>rfl,by kernel_rfl,fun _=>by kernel_rfl,hd⟩,(fun h=>by cases h),by decide,by simp only;omega⟩
theorem Zu:strm qh=bD gI false++bD mq false:=by simp[strm,qh]
section
variable (B p d g m:Nat) (c:Cv)
def FR (V:Value):Nat→World→Prop
 | 0=>fun w=>∃n xs G,n≤1000∧All B w [aK p { c with news:=.slice none 0 0 },aD 130 15 V qh.length (jN qh),aD 5 1 c.bytes n xs,mV d G 0 0 1000 tb0 false,gB g m 65535 65535 [],aH aV c.live 0 (fun _=>none) 0]
 | 1=>fun w=>∃v n xs G,All B w [aK p { c with news:=.slice none 0 0,gG:=true,bytes:=v },aD 130 15 V qh.length (jN qh),aD 5 1 v n xs,mV d G 0 0 1000 tb0 false,gB g m 65535 65535 [],aH aV c.live 0 (fun _=>none) 0]
 | 2=>fun w=>∃c' fv,All B w [aK p c',aD 130 15 V qh.length (jN qh),aD 64 10 c'.news 1 (CL 1 (aS rV).1 fv true).l]∧c'.over=false∧c'.mX=false
 | _=>fun _=>False
end
theorem afR {B p d g m:Nat}{c:Cv}{V:Value}(w:World) (hg:c.gG=false) (hd:c.mX=false) (h:FR B p d g m c V 0 w) :
 Calls Tryz.prog 60 #[.pointer (some ⟨p,0,none⟩),qd gI] w (Left B w (FR B p d g m c V 1)):=by
 obtain⟨n,xs,G,hn,hA⟩:=h
 refine GR (fn:=137) (Q:=FR B p d g m c V 1) gI w hA (by decide) rfl (.inr (.inl rfl)) (fun w1 h1=>Zn w1 h1 hg) (fun w1 h1=>?_) (fun w' hQ=>?_)
 ·have h2:=h1.pick [_,_]
  have h3:=h2.pick [_]
  refine (aaC w1 h3 (by omega)).mono ?_
  rintro e w2 ⟨rfl,hb,v,n',xs',-,dA⟩
  have h4:=dA.pick [_,_]
  have h5:=h4.pick [_]
  exact⟨rfl,hb,v,n',xs',G,h5⟩
 ·obtain⟨v,n',xs',G,h1⟩:=hQ
  exact⟨_,_,h1,hd⟩
theorem afS {B p d g m:Nat}{c:Cv}{V:Value}(w:World) (h0:c.l0=1) (mG:c.dec = .pointer (some ⟨d,0,none⟩)) (hbk:c.book = .pointer (some ⟨g,0,none⟩)) (hd:c.mX=false) (ho:c.cu=0) (hl:c.last=0) (lD:c.over=false) (h:FR B p d g m c V 1 w) :
 Calls Tryz.prog 60 #[.pointer (some ⟨p,0,none⟩),qd mq] w (Left B w (FR B p d g m c V 2)):=by
 obtain⟨v,n,xs,G,hA⟩:=h
 obtain⟨c1,hc1⟩:∃c1:Cv,{ c with news:=.slice none 0 0,gG:=true,bytes:=v }=c1:=⟨_,rfl⟩
 have a0:c1.l0=1:=by rw[←hc1];exact h0
 have a1:c1.dec = .pointer (some ⟨d,0,none⟩):=by rw[←hc1];exact mG
 have a2:c1.book = .pointer (some ⟨g,0,none⟩):=by rw[←hc1];exact hbk
 have a3:c1.mX=false:=by rw[←hc1];exact hd
 have a4:c1.cu=0:=by rw[←hc1];exact ho
 have a5:c1.last=0:=by rw[←hc1];exact hl
 have a6:c1.over=false:=by rw[←hc1];exact lD
 have a7:c1.gG=true:=by rw[←hc1]
 have a8:c1.news = .slice none 0 0:=by rw[←hc1]
 have a9:c1.live=c.live:=by rw[←hc1]
 rw[hc1] at hA
 rw[←a9] at hA
 clear hc1 a9
 refine GR (fn:=135) (Q:=FR B p d g m c V 2) mq w hA (by decide) rfl (.inl rfl) (fun w1 h1=>ML mq w1 h1 a7 a4 (by decide)) (fun w1 h1=>?_) (fun w' hQ=>?_)
 ·obtain⟨c2,hc2⟩:∃c2:Cv,{ c1 with gG:=true }=c2:=⟨_,rfl⟩
  have b0:(0:Int)<c2.l0:=by rw[←hc2];show 0<c1.l0;omega
  have b1:c2.dec = .pointer (some ⟨d,0,none⟩):=by rw[←hc2];exact a1
  have b2:c2.book = .pointer (some ⟨g,0,none⟩):=by rw[←hc2];exact a2
  have b3:c2.mX=false:=by rw[←hc2];exact a3
  have b5:c2.last<1:=by rw[←hc2];show c1.last<1;omega
  have b6:c2.over=false:=by rw[←hc2];exact a6
  have b8:c2.news = .slice none 0 0:=by rw[←hc2];exact a8
  have b9:c2.live=c1.live:=by rw[←hc2]
  rw[hc2,←b9] at h1
  have h3:=((h1.pick [_,_]).tail).Bz 64 10
  rw[←b8] at h3
  have h4:=h3.pick [_,_,_,_,_]
  have h5:=h4.pick [_,_,_,_,_]
  have h6:=h5.pick [_,_,_,_,_]
  have h7:=h6.pick [_,_,_,_]
  have hG:=acv
  have hF:=acu
  refine (aeJ (l:=rV) (T':=tb0) mq w1 h7 rfl rfl b1 b2 b3 b0 b5 (by decide) rfl (by unfold maxLen;omega) (by omega) ?_ (by omega) (by omega) acw (by decide) ?_ ?_ acy ?_ ?_ ?_).mono ?_
  ·show (aJ F4).size≤_
   rw[pz]
   have:=Oq
   omega
  ·intro f hf
   simp only[rV,qG,xm,or_false] at hf
   rcases hf with rfl | rfl | rfl | rfl <;> decide +kernel
  ·intro w A n c hr hn
   rw[hG] at hr ⊢
   exact adu w hr hn (fun f hf=>by cases hf)
  ·rw[hF];decide
  ·rw[hF];intro f hf;cases hf
  ·rw[hF];decide +kernel
  ·rintro e w2 ⟨rfl,hb,v2,fv,s,N',f',k',G',ND',-,-,dA⟩
   have g1:=dA.pick [_,_,_,_,_,_,_]
   have g2:=g1.pick [_,_,_,_]
   have g3:=g2.pick [_,_]
   have g4:=g3.pick [_]
   have g5:=g4.pick [_,_]
   have g6:=g5.pick [_,_]
   exact⟨rfl,hb,pcC (hdC c2 1) v2,fv,All.init (l:=[_,_,_]) g6,b6,b3⟩
 ·obtain⟨c',fv,h1,-,hd'⟩:=hQ
  exact⟨_,_,h1,hd'⟩
theorem aae {w:World}{B n b o:Nat}{l r:List UInt8}(h:Rd w B 1 (some ⟨b,o,none⟩) n (ak (l++r))) (hr : 0<r.length):Rd w B 1 (some ⟨b,o+l.length,none⟩) (n-l.length) (ak r):=by
 have hl:=h.mR
 rw[aN] at hl
 refine⟨by rw[tO];omega,fun _=>?_⟩
 obtain⟨b',o',e,hb,hc⟩:=h.2 (by omega)
 injection e with e
 injection e with e1 e2
 subst e1 e2
 refine⟨_,_,rfl,hb,fun j hj=>?_⟩
 rw[xq,hc (l.length+j) (by omega),mU,kF (by rw[tO];omega),tO,Nat.add_sub_cancel_left]
theorem Zr:(bD mq false).length≤2000:=by decide +kernel
theorem Zt:(bD gI false).length=9:=by decide +kernel
theorem afT {B p x d g m n nl cap:Nat}{c:Cv}{G:Nat→Prop}{xs:List Value}{A:Option Addr}(w:World)
 (h:All B w [aK p c,aD 5 1 c.bytes n xs,nE x 16384 0,mV d G 0 0 1000 tb0 false,gB g m 65535 65535 [],aH aV c.live 0 (fun _=>none) 0,aD 5 1 (.slice A nl cap) nl (ak (oD++bD mq false))])
 (hn:n≤1000) (h0:c.l0=1) (qb:c.feed = .pointer (some ⟨x,0,none⟩)) (mG:c.dec = .pointer (some ⟨d,0,none⟩)) (hbk:c.book = .pointer (some ⟨g,0,none⟩)) (hd:c.mX=false) (ho:c.cu=0) (hl:c.last=0) (lD:c.over=false) (hg:c.gG=false) :
 Calls Tryz.prog 19 #[.pointer (some ⟨p,0,none⟩),.slice A nl cap] w (fun e w'=>∃v fv,e = .returned v∧Below B w w'∧All B w' [aD 64 10 v 1 (CL 1 (aS rV).1 fv true).l]):=by
 refine (XU qh (FR B p d g m c) (.slice A nl cap) w h lD qb (by decide) ?_ ?_).mono ?_
 ·intro V k w hJ
  match k,hJ with
  | 0,hJ=>
   obtain⟨n,xs,G,hn,hA⟩:=id hJ
   refine⟨_,_,hA,.inl ⟨lD,fun f hf w' hb=>?_⟩⟩
   obtain rfl:(gI,false)=f:=by simpa [qh] using hf
   exact afR w' hg hd ⟨n,xs,G,hn,hA.below hb⟩
  | 1,hJ=>
   obtain⟨v,n,xs,G,hA⟩:=id hJ
   refine⟨_,_,hA,.inl ⟨lD,fun f hf w' hb=>?_⟩⟩
   obtain rfl:(mq,false)=f:=by simpa [qh] using hf
   exact afS w' h0 mG hbk hd ho hl lD ⟨v,n,xs,G,hA.below hb⟩
  | 2,hJ=>
   obtain⟨c',fv,hA,hov',-⟩:=hJ
   exact⟨_,_,hA,.inl ⟨hov',fun f hf=>by simp[qh] at hf⟩⟩
 ·intro w1 h1
  have hrow:w1.ownsRow 0 5 1 (.slice A nl cap) nl (ak (oD++bD mq false)):=(h1.pick [_,_,_,_,_,_]).head
  obtain⟨A',cap',hv,hcap,hmx,hrd,-⟩:=aC hrow
  obtain⟨rfl,rfl⟩:A=A'∧cap=cap':=by injection hv with e1 e2 e3;exact⟨e1,e3⟩
  have kL:zG w1 x 16384 0:=(h1.pick [_,_]).head
  have hlen:=hrd.mR
  have hpl:zw.length=24:=rfl
  have fM:=Zt
  have hfl:=Zr
  unfold oD at hrd hlen
  rw[aN,aN,hpl,fM] at hlen
  obtain⟨-,gb,o,rfl,hgb,-⟩:=hrd.tL (by omega)
  have hgx:gb≠x:=fun e=>by
   have h2:=(List.pairwise_cons.1 (h1.pick [_,_]).apart).1 _ (fH _ (fH _ (fH _ (fH _ (fH _ (iK ..)))))) x rfl
   exact h2 (by rw[←e];rfl)
  have hxl:x<w1.heap.size:=(Array.getElem?_eq_some_iff.1 kL).1
  rw[jf] at hrd
  have hcut:=aae hrd (by rw[aN];omega)
  rw[hpl] at hcut
  refine Yf (x:=x) (most:=16384) (n:=nl-24) (cap:=cap-24) (base:=x+1) (A:=some ⟨gb,o+24,none⟩) (v:=.slice none 0 0) (left:=[]) (b:=bD gI false++bD mq false) qh
   (fun w2=>zG w2 x 16384 24∧Kept (fun b=>b=x) w1 w2) _ (by omega) afQ (ZI w1 kL) ?_ ?_ ?_ (by omega) ?_ ?_ (by decide) ?_
  ·refine (Yt w1 kL hrd hgx (by rfl) (by omega) hcap hmx).mono ?_
   rintro e w2 ⟨rfl,h2,h3⟩
   exact⟨rfl,h2,h3⟩
  ·rintro w2 ⟨h2,h3⟩
   refine⟨h2,World.ownsRow_nil _ _ _ _,by have:=h3.size;omega,?_⟩
   have hk:Rd w2 w1.heap.size 1 (some ⟨gb,o+24,none⟩) (nl-24) (ak (bD gI false++bD mq false)):=by
    refine⟨hcut.1,fun hn=>?_⟩
    obtain⟨b',o',e,hb,hc⟩:=hcut.2 hn
    refine⟨b',o',e,hb,fun j hj=>?_⟩
    injection e with e
    injection e with e1 e2
    subst e1 e2
    rw[World.cell?_of_block (a:=⟨gb,_,none⟩) (h3.block gb hgb (by simpa using hgx))]
    exact hc j hj
   exact hk.more h3.size
  ·intro _ a ha
   injection ha with ha
   subst ha
   exact⟨hgx,by simp[Value.ownBlock]⟩
  ·rw[jQ,Zu];exact List.prefix_refl _
  ·simp only[List.length_nil,aN];omega
  ·rintro w2 ⟨h2,h3⟩ e w3 hpost
   rw[jQ,←Zu] at hpost
   obtain⟨V,v',rfl,hown,hf3,hk3⟩:=aa9 hpost
   have hk4:Kept (nE x 16384 0).F w1 w3:=⟨hk3.os.trans h3.os,hk3.tape.trans h3.tape,hk3.output.trans h3.output,gM h3.size hk3.size,fun k hk hF=>(hk3.block k (fI hk h3.size) (fun e=>by rcases e with e | e;exact hF e;simp[Value.ownBlock] at e)).trans (h3.block k hk hF)⟩
   have h4:=(h1.pick [_,_]).KH (c':=bg x (fdC 16384 v' false) 163) (d:=aD 130 15 V qh.length (jN qh)) hk4 (fun k hk=>.inl hk) hf3 (IQ hown (aL _)) (fun b hF=>gM h3.size (World.ownsRow.lt hown b hF).1) (fun b hF e=>by
    have e2:b=x:=e
    have:=(World.ownsRow.lt hown b hF).1
    have:=h3.size
    omega)
   have hB:=(h1.pick [_,_]).kept hk4
   have h5:=(h4.pick [_]).tail
   have h6:=h5.pick [_]
   have h7:=All.init (l:=[_,_,_,_,_,_]) (r:=[_]) h6
   exact⟨V,rfl,⟨n,xs,G,hn,h7⟩,hB⟩
 ·rintro e w' ⟨V,c',cs',hJ,hb,hA,rfl⟩
  obtain⟨c2,fv,dA,-,-⟩:=hJ
  have e1:=hA.conn
  rw[dA.conn] at e1
  have e2:c2.cells=c'.cells:=by injection e1 with e1;injection e1
  have e3:c2.news=c'.news:=by
   have h1:c2.cells[21]?=c'.cells[21]?:=by rw[e2]
   injection h1
  exact⟨c'.news,fv,rfl,hb,by rw[←e3];exact (dA.pick [_,_]).init (l:=[_]) (r:=[_,_])⟩
end
section
open Go.RowKit Go.Maps
theorem afJ (w:World):Calls Tryz.prog 5 #[] w fun e w'=>e = .returned (.bool true)∧Below w.heap.size w w':=by
 have HN:=af (Zz 1 10 0 1000 w (by omega) (by omega) (by omega) (by omega) (by omega) (by omega) (by omega) (by omega))
 have HHE:=af (fun w=>YK w)
 have HAS:=af (fun w=>acm w)
 go_enter Tryz.func5,Tryz.ntmps5
 go_wp2_with fail
 refine HN.out.mono ?_
 rintro e w1 ⟨p,c,x,d,G,g,m,n,xs,rfl,hb1,jc,hn,h0,-,qb,mG,hbk,hl,ho,hg,hd,lD,-⟩
 have bM:=af jc
 have bH:=af hb1
 have HC:=af (And.intro h0 (And.intro qb (And.intro mG (And.intro hbk (And.intro hd (And.intro ho (And.intro hl (And.intro lD (And.intro hg hn)))))))))
 clear jc hb1 h0 qb mG hbk hd ho hl lD hg hn HN
 go_wp2_with fail
 refine (HHE.out _).mono ?_
 rintro e w2 ⟨v2,rfl,jh,hb2⟩
 obtain⟨A2,c2,rfl,hr2⟩:=jh.rd
 have aI:=af (bH.out.trans (hb2.mono bM.out.sz))
 have bY:=af (bM.out.row hb2 jh)
 clear jh hb2 hr2
 go_wp2_with fail
 refine (HAS.out _).mono ?_
 rintro e w3 ⟨v3,rfl,iA,hb3⟩
 obtain⟨A3,c3,rfl,hr3⟩:=iA.rd
 have aM:=af (aI.out.trans (hb3.mono bY.out.sz))
 have bJ:=af (bY.out.below hb3)
 have yw:=af hr3
 clear iA hb3 hr3
 have hfl:=Zr
 have fM:oD.length=33:=by decide +kernel
 go_wp2_with (at_builtin;refine dI ?_)
 unfold Stop
 have hrow:w3.ownsRow 0 5 1 (.slice A2 oD.length c2) oD.length (ak oD):=bJ.out.head
 refine dQ (.tmp 16) (.tmp 17) iT rfl rfl hrow rfl yw.out rfl (kZ _) (bn (by omega)) (by omega) (aL _) ?_
 intro v4 w4 fT hg4 hb4
 obtain⟨dN,lC⟩:=bJ.out.app fT hg4 hb4
 obtain⟨A4,c4,rfl,-,-,-,-⟩:=aC fT
 rw[←mU,←aN] at dN
 have r1:=dN.pick [_,_,_,_,_,_]
 have r2:=r1.pick [_,_,_,_,_,_]
 have r3:=r2.pick [_,_,_,_,_,_]
 have r4:=r3.pick [_,_,_,_,_,_]
 have r5:=r4.pick [_,_,_,_,_,_]
 have r6:=r5.pick [_,_,_,_,_,_]
 have r7:=All.init (l:=[_,_,_,_,_,_,_]) (r:=[_]) r6
 have gm:=af (afT w4 r7 HC.out.2.2.2.2.2.2.2.2.2 HC.out.1 HC.out.2.1 HC.out.2.2.1 HC.out.2.2.2.1 HC.out.2.2.2.2.1 HC.out.2.2.2.2.2.1 HC.out.2.2.2.2.2.2.1 HC.out.2.2.2.2.2.2.2.1 HC.out.2.2.2.2.2.2.2.2.1)
 have dz:=af (aM.out.trans lC)
 rw[←aN]
 clear r1 r2 r3 r4 r5 r6 r7 dN lC hg4 hb4 fT hrow
 go_wp2_with fail
 refine gm.out.mono ?_
 rintro e w5 ⟨v5,fv,rfl,aT,iN⟩
 obtain⟨A5,c5,rfl,-,-,vk,-⟩:=aC iN.head
 have eG:=af (dz.out.trans aT)
 obtain⟨b,o,rfl,hbl,hc⟩:=vk.2 (by omega)
 have ha:=acr
 have q0:w5.cell? ⟨b,o,none⟩=some (.int .i64 1):=hc 0 (by omega)
 have q4:w5.cell? ⟨b,o+4,none⟩=some (.string (aS rV).1.ek):=hc 4 (by omega)
 rw[ha] at q4
 clear iN aT vk hc gm
 go_wp2_with fail
 go_ret
 exact⟨rfl,eG.out⟩
end
section
open Go.RowKit Go.Maps
section
variable {κ ε:Type} {M:MK κ ε} {w:World} {mb N n:Nat} {f : κ→Option ε}
open Classical in
theorem bq.del1 (ok:pV M) (h:bq M w mb N f n){i : κ}(hi:M.rA i):∃w' f' n',(∀ty,(Builtin.delete_ #[M.t,M.k] ty #[.map (some mb),M.kv i]).run Tryz.prog w = .ok (.tuple #[]) w')∧bq M w' mb N f' n'∧w.grownBy w' (some mb)∧f' i=none∧(∀j,j≠i→f' j=f j):=by
 obtain⟨D,h1,h2,h3,h4⟩:=h
 obtain⟨w',hrun,r1,r2⟩:=h1.drop ok.keyed ok.ht (ok.key i hi) 3
 have ht:=h1.tidy ok.keyed
 refine⟨w',fun j=>if j=i then none else f j,size (D.del (M.kl i)),fun ty=>?_,⟨_,r1,fun j hj=>?_,fun j c hj hc=>?_,rfl⟩,r2.grown,by simp,fun j hj=>by simp[hj]⟩
 ·have:(Builtin.delete_ #[M.t,M.k] ty #[.map (some mb),M.kv i]).run Tryz.prog w=(Builtin.delete_ #[M.t,M.k] 3 #[.map (some mb),M.kv i]).run Tryz.prog w:=rfl
  rw[this,hrun]
 ·by_cases e:j=i
  ·subst e
   rw[has_del_same]
   simp
  ·rw[has_del_other (fun e2=>e (ok.CU _ _ e2)),h2 j hj]
   simp[e]
 ·by_cases e:j=i
  ·subst e
   simp at hc
  ·simp only[aj e] at hc
   rw[atKey_del_other (fun e2=>e (ok.CU _ _ e2))]
   exact h3 j c hj hc
end
theorem ZO (f:Ct) (ss:List (Nat×Nat)) (w:World) (hf:BH f ss) (h3:f.ty=3∨f.ty=8) :
 Calls Tryz.prog 124 #[ou f] w (Jp w 4):=by
 obtain⟨W0,hW0⟩:∃W0,w.alloc (.cells f.cells 52)=W0:=⟨_,rfl⟩
 obtain⟨x,hx⟩:∃x,w.heap.size=x:=⟨_,rfl⟩
 have b0:Below w.heap.size w W0:=by rw[←hW0];exact (Below.refl _ _).alloc (ah _) _
 have kx:vI W0 x f:=⟨by rw[←hW0,←hx];exact aZ _ _⟩
 have wE:=hf.code
 have hinc:=hf.inc
 have HX:=af hx
 have HB:=af b0
 have HK:=af kx
 clear hx b0 kx hf
 obtain⟨ty,fl,st,A,n,c,code,last,inc⟩:=f
 dsimp only at h3 wE hinc
 have zJ:=af (fun w=>LZ code w (by omega))
 have vO:=af (fun w=>LZ inc w (by omega))
 unfold ou at *
 simp only[Ct.cells] at *
 have dY:=af hW0
 clear hW0
 obtain⟨c0,c1,c2,c3,c4,c5,c6,c7,c8,c9,c10,c11⟩:=HK.out.cells
 simp only at c0 c1 c2 c5 c6 c7 c8
 rcases h3 with h3 | h3
 ·have t0:((ty:Int)==0)=false:=by rw[h3];rfl
  have t1:((ty:Int)==1)=false:=by rw[h3];rfl
  have t2:((ty:Int)==2)=false:=by rw[h3];rfl
  have t3:((ty:Int)==3)=true:=by rw[h3];rfl
  clear h3
  go_enter Tryz.func124,Tryz.ntmps124
  go_upto_region 1 with fail
  refine bI ?_
  intro W3 hW3
  obtain rfl:W3=W0:=hW3.trans dY.out
  rw[HX.out]
  clear hW3
  go_wp2_with fail
  refine (zJ.out _).mono ?_
  rintro e w1 ⟨v,rfl,ho,hb⟩
  have HO:=af (And.intro ho hb)
  clear ho hb
  go_wp2
  go_ret
  exact⟨_,v,rfl,by rw[jX];omega,HO.out.1.base HB.out.size,HB.out.trans (HO.out.2.mono HB.out.size)⟩
 ·have t0:((ty:Int)==0)=false:=by rw[h3];rfl
  have t1:((ty:Int)==1)=false:=by rw[h3];rfl
  have t2:((ty:Int)==2)=false:=by rw[h3];rfl
  have t3:((ty:Int)==3)=false:=by rw[h3];rfl
  have t4:((ty:Int)==4)=false:=by rw[h3];rfl
  have t8:((ty:Int)==8)=true:=by rw[h3];rfl
  clear h3
  go_enter Tryz.func124,Tryz.ntmps124
  go_upto_region 1 with fail
  refine bI ?_
  intro W3 hW3
  obtain rfl:W3=W0:=hW3.trans dY.out
  rw[HX.out]
  clear hW3
  go_wp2_with fail
  refine (vO.out _).mono ?_
  rintro e w1 ⟨v,rfl,ho,hb⟩
  have HO:=af (And.intro ho hb)
  clear ho hb
  go_wp2
  go_ret
  exact⟨_,v,rfl,by rw[jX];omega,HO.out.1.base HB.out.size,HB.out.trans (HO.out.2.mono HB.out.size)⟩
end
section
open Go.RowKit Go.Maps
theorem aaD {B p g m N M k hk nc:Nat}{c:Cv}{all first:Int}{L:List (Int×Int)}{f:Int→Option (Option Nat)}{hf:Int→Option Int}{cls:List Value}{cs:List dx}(id:Int) (w:World)
 (h:All B w (aK p c :: aH aV c.live N f k :: aH bX c.how M hf hk :: gB g m all first L :: aD 3 1 c.closed nc cls :: cs))
 (hbk:c.book = .pointer (some ⟨g,0,none⟩)) (hid:(Lit.int .i64 id).wf=true) (hh:hf id=none) (hM:M<maxLen) (hnc:nc≤15) :
 Calls Tryz.prog 133 #[.pointer (some ⟨p,0,none⟩),.int .i64 id,.int .i64 5] w (Left B w fun w'=>∃f' k' hf' hk' v,f' id=none∧hf' id=some 5 ∧
  All B w' (aK p { c with closed:=v } :: aH aV c.live N f' k' :: aH bX c.how (M+1) hf' hk' :: gB g m all first (tT L id) :: aD 3 1 v (nc+1) (cls++[.int .i64 id]) :: cs)):=by
 obtain⟨W1,f1,n1,p1,h1,g1,e1,-⟩:=bq.del1 qj ((h.pick [_]).head) (i:=id) hid
 have r1:∀ty,(Builtin.delete_ #[93,3] ty #[.map (some c.live),.int .i64 id]).run Tryz.prog w = .ok (.tuple #[]) W1:=p1
 have iO:Kept (aH aV c.live N f k).F w W1:=(Kept.refl _ _).grown g1 (fun j hj=>.inl (by injection hj with hj;exact hj.symm))
 have jc:All B W1 (aH aV c.live N f1 n1 :: _):=(h.pick [_]).step iO (fun b hb=>.inl hb) h1
 have bH:=af ((h.pick [_]).kept iO)
 have bM:=af (jc.pick [_,_,_])
 have q9:=h.cc 9 (.map (some c.live)) rfl
 have q7:W1.cell? ⟨p,7,none⟩=some (.pointer (some ⟨g,0,none⟩)):=by rw[←hbk];exact (jc.pick [_]).cc 7 c.book rfl
 have HH:=af (And.intro hbk (And.intro hid (And.intro hh (And.intro hM hnc))))
 have HE:=af e1
 clear h jc iO h1 g1 p1 hbk hid hh hM hnc e1
 go_enter Tryz.func133,Tryz.ntmps133
 go_wp2_with fail
 refine (ajI id W1 bM.out.head HH.out.2.1).mono ?_
 rintro e w2 ⟨rfl,Bn,wD⟩
 have hk2:Kept (gB g m all first L).F W1 w2:=⟨wD.os,wD.tape,wD.output,wD.size,fun j hj hF=>wD.block j hj (fun e=>hF (.inl e)) (fun e=>hF (.inr e))⟩
 have h2:All B w2 (gB g m all first (tT L id) :: _):=bM.out.step hk2 (fun b hb=>.inl hb) Bn
 have aI:=af (bH.out.trans (bM.out.kept hk2))
 have h3:=h2.pick [_,_,_]
 have gQ:=bq.look S_ h3.head (i:=id) HH.out.2.1
 rw[HH.out.2.2.1] at gQ
 have hlk:(Instr.lookup 94 (.map (some c.how)) (.int .i64 id) true).run Tryz.prog w2 = .ok (.tuple #[.int .i64 0,.bool false]) w2:=gQ
 have bY:=af (h3.pick [_,_,_])
 have q11:=bY.out.cc 11 (.map (some c.how)) rfl
 clear Bn wD hk2 h2 h3 gQ q9 q7 r1
 have hrow:=(bY.out.pick [_,_,_,_]).head
 obtain⟨A0,nI,hv0,-,-,-,-⟩:=aC hrow
 have q10:=bY.out.cc 10 c.closed rfl
 rw[hv0] at q10
 have j4:=af hv0
 clear hrow hv0
 go_wp2_with (at_builtin;refine dI ?_)
 unfold Stop
 obtain⟨W3,hW3⟩:∃W3,w2.alloc (.cells #[.int .i64 id] 3)=W3:=⟨_,rfl⟩
 have hrd:=Rd.one w2 (.int .i64 id) 3
 have gp:All B W3 _:=bY.out.below (by rw[←hW3];exact (Below.refl _ _).alloc (ah _) _)
 have hb3:Below B w2 W3:=by rw[←hW3];exact (Below.refl _ _).alloc bY.out.sz _
 rw[hW3] at hrd ⊢
 have h4:=gp.pick [_,_,_,_]
 have hown:=h4.head
 have hown:W3.ownsRow 0 3 1 (.slice A0 nc nI) nc cls:=by rw[←j4.out];exact hown
 have h15:=HH.out.2.2.2.2
 refine dQ (.tmp 36) (.tmp 38) tInts rfl rfl hown rfl hrd rfl (by simp[Value.oneCell']) (bn (by omega)) (by omega) (aL _) ?_
 intro v4 w4 fT hg4 AQ
 rw[←j4.out] at hg4 AQ
 obtain⟨dN,lC⟩:=h4.app fT hg4 AQ
 obtain⟨A4,c4,hv4,-,-,-,-⟩:=aC fT
 subst hv4
 have h5:=dN.pick [_]
 have aX:=af h5
 have dz:=af ((aI.out.trans hb3).trans lC)
 have f10:=h5.cf 10
 have q10:=h5.cc 10 c.closed rfl
 obtain⟨W5,kg⟩:∃W5,w4.setCell ⟨p,10,none⟩ (.slice A4 (nc+1) c4)=W5:=⟨_,rfl⟩
 obtain⟨h6,dO⟩:=h5.set 10 (.slice A4 (nc+1) c4)
 rw[kg] at h6 dO
 have h6:All B W5 (aK p { c with closed:=.slice A4 (nc+1) c4 } :: _):=h6
 have h7:=h6.pick [_,_]
 obtain⟨W7,f7,k7,p7,g7m,g7,e7,-,-⟩:=bq.CY S_ h7.head (i:=id) HH.out.2.1 HH.out.2.2.2.1 5
 have r7:(Instr.mapUpdate 94 (.map (some c.how)) (.int .i64 id) (.int .i64 5)).run Tryz.prog W5 = .ok () W7:=p7
 have mH:Kept (aH bX c.how M hf hk).F W5 W7:=(Kept.refl _ _).grown g7 (fun j hj=>.inl (by injection hj with hj;exact hj.symm))
 have h8:All B W7 (aH bX c.how (M+1) f7 k7 :: _):=h7.step mH (fun b hb=>.inl hb) g7m
 have iZ:=af (((aI.out.trans hb3).trans lC).trans (dO.trans (h7.kept mH)))
 have h9:=h8.pick [_]
 have eY:Hid (All B W7 (aK p { c with closed:=.slice A4 (nc+1) c4 } :: _)):=af h9
 have q11b:=h6.cc 11 (.map (some c.how)) rfl
 have q10b:=h9.cc 10 (.slice A4 (nc+1) c4) rfl
 have HE7:=af e7
 clear h4 h5 h6 h7 h8 h9 gp hb3 dN lC hown fT hg4 AQ hrd dO g7m g7 p7 mH hlk q11 e7
 have HS5:=af kg
 clear hW3
 go_upto_region 6 with fail
 clear kg f10 q10
 go_wp2_with fail
 go_end0
 have k1:=eY.out.aP [2,3,3,4,4]
 exact⟨rfl,iZ.out,f1,n1,f7,k7,.slice A4 (nc+1) c4,HE.out,HE7.out,k1⟩
end
section
open Go.RowKit Go.Maps
def vF (came said:Int) (told:Bool) (st:Int):Array Value:=#[.int .i64 came,.int .i64 said,.bool told,.bool false,.slice none 0 0,.bool false,.int .i64 st]
theorem BB {w:World}{s:Nat}{came said:Int}{told:Bool}{st:Int}(h:(bg s (vF came said told st) 140).P w):w.cell? ⟨s,0,none⟩=some (.int .i64 came)∧w.cell? ⟨s,1,none⟩=some (.int .i64 said)∧w.cell? ⟨s,2,none⟩=some (.bool told)∧w.cell? ⟨s,6,none⟩=some (.int .i64 st):=by
 have h1:w.heap[s]?=some (.cells (vF came said told st) 140 (0,0)):=h
 refine⟨?_,?_,?_,?_⟩ <;> (unfold World.cell?;rw[h1];rfl)
theorem KF {w:World}{s:Nat}{came said:Int}{told:Bool}{st:Int}(h:(bg s (vF came said told st) 140).P w) (o:Nat):w.frozen? ⟨s,o,none⟩=false:=by
 have h1:w.heap[s]?=some (.cells (vF came said told st) 140 (0,0)):=h
 unfold World.frozen?
 rw[h1]
 rfl
theorem ahE {tmps:Array Value}{w:World}{g:Nat}{cs:Array Value}(hp:tmps.getD 8 undef = .pointer (some ⟨g,0,none⟩)) (hg:w.heap[g]?=some (.cells cs 229 (0,0))) (hs:cs.size=5) :
 (results Tryz.f164 tmps).run Tryz.prog w = .ok (.tuple #[.agg cs,tmps.getD 9 undef]) w:=by
 have h1:=run_loadVar_row (P:=Tryz.prog) w g 229 229 cs (0,0) _ hg Tryz.underlying229 rfl (by rw[Bo,hs])
 have hp':tmps[8]?.getD undef = .pointer (some ⟨g,0,none⟩):=by simpa using hp
 simp[results,Tryz.results164,hp',asAddr,h1]
theorem yf:(Lit.int .i64 1).wf=true:=by decide
section
variable {B p s k N M hk:Nat} {c:Cv} {f:Int→Option (Option Nat)} {hf:Int→Option Int} {came said:Int} {told:Bool} {st:Int} {cs:List dx}
theorem aaL (w:World) (h:All B w (aK p c :: aH aV c.live N f k :: bg s (vF came said told st) 140 :: cs)) (hl:c.last=1) (g_:f 1=some (some s)) :
 Calls Tryz.prog 22 #[.pointer (some ⟨p,0,none⟩),.int .i64 1] w fun e w'=>e = .returned (.int .i64 st)∧w=w':=by
 have GY:w.cell? ⟨p,12,none⟩=some (.int .i64 1):=by rw[←hl];exact h.cc 12 (.int .i64 c.last) rfl
 have q9:=h.cc 9 (.map (some c.live)) rfl
 have gQ:=bq.look qj ((h.pick [_]).head) (i:=1) yf
 rw[g_] at gQ
 have hlk:(Instr.lookup 93 (.map (some c.live)) (.int .i64 1) true).run Tryz.prog w = .ok (.tuple #[.pointer (some ⟨s,0,none⟩),.bool true]) w:=gQ
 obtain⟨-,-,-,z6⟩:=BB (h.pick [_,_]).head
 clear h hl g_ gQ
 go_enter Tryz.func22,Tryz.ntmps22
 go_wp2_with fail
 go_ret
 exact⟨rfl,rfl⟩
theorem MX (w:World) (h:All B w (aK p c :: aH aV c.live N f k :: aH bX c.how M hf hk :: cs)) (hl:c.last=1) (g_:f 1=none) (hf2:hf 1=some st) :
 Calls Tryz.prog 22 #[.pointer (some ⟨p,0,none⟩),.int .i64 1] w fun e w'=>e = .returned (.int .i64 st)∧w=w':=by
 have GY:w.cell? ⟨p,12,none⟩=some (.int .i64 1):=by rw[←hl];exact h.cc 12 (.int .i64 c.last) rfl
 have q9:=h.cc 9 (.map (some c.live)) rfl
 have q11:=h.cc 11 (.map (some c.how)) rfl
 have gQ:=bq.look qj ((h.pick [_]).head) (i:=1) yf
 rw[g_] at gQ
 have hlk:(Instr.lookup 93 (.map (some c.live)) (.int .i64 1) true).run Tryz.prog w = .ok (.tuple #[.pointer none,.bool false]) w:=gQ
 have Po:=bq.look S_ ((h.pick [_,_]).head) (i:=1) yf
 rw[hf2] at Po
 have JX:(Instr.lookup 94 (.map (some c.how)) (.int .i64 1) true).run Tryz.prog w = .ok (.tuple #[.int .i64 st,.bool true]) w:=Po
 clear h hl g_ gQ Po hf2
 go_enter Tryz.func22,Tryz.ntmps22
 go_wp2_with fail
 go_ret
 exact⟨rfl,rfl⟩
theorem Nc (w:World) (h:All B w (aK p c :: aH aV c.live N f k :: bg s (vF came said told st) 140 :: cs)) (g_:f 1=some (some s)) :
 Calls Tryz.prog 165 #[.pointer (some ⟨p,0,none⟩),.int .i64 1,.int .i64 2] w (Left B w fun w'=>All B w' (aK p c :: aH aV c.live N f k :: bg s (vF came said told 2) 140 :: cs)):=by
 have q9:=h.cc 9 (.map (some c.live)) rfl
 have gQ:=bq.wM qj ((h.pick [_]).head) (i:=1) yf
 rw[g_] at gQ
 have hlk:(Instr.lookup 93 (.map (some c.live)) (.int .i64 1) false).run Tryz.prog w = .ok (.pointer (some ⟨s,0,none⟩)) w:=gQ
 obtain⟨-,-,-,z6⟩:=BB (h.pick [_,_]).head
 have f6:=KF (h.pick [_,_]).head 6
 have HA:=af (h.pick [_,_])
 have Dm:=af (fun w=>aft 2 w)
 clear h g_ gQ
 go_enter Tryz.func165,Tryz.ntmps165
 go_wp2_with fail
 refine (Dm.out _).mono ?_
 rintro e w1 ⟨rfl,rfl⟩
 rw[show MJ 2=true from rfl]
 go_wp2_with fail
 go_end0
 obtain⟨h1,b1⟩:=HA.out.set 6 (.int .i64 2)
 have h2:=h1.pick [_,_]
 have h3:=h2.pick [_,_]
 exact⟨rfl,b1,h3⟩
theorem Zq (w:World) (h:All B w (aK p c :: aH aV c.live N f k :: aH bX c.how M hf hk :: cs)) (hl:c.last=1) (g_:f 1=none) (hf2:hf 1=some 5) :
 Calls Tryz.prog 164 #[.pointer (some ⟨p,0,none⟩),.int .i64 1,.int .i64 0,.bool true] w fun e w'=>(∃v,e = .returned v)∧Below w.heap.size w w':=by
 have HS:Hid (∀w1,Below w.heap.size w w1→_):=af (fun w1 hb=>MX w1 (h.below hb) hl g_ hf2)
 have HC:=af (fun w=>Ig 5 0 0 0 true w (by omega) (by omega) rfl rfl (by omega))
 rw[show Bu (Be ((5:Nat):Int) 0 true) = .agg #[.int .i64 5,.bool true,.bool false,.int .i64 0,.bool false] from rfl] at HC
 clear h hl g_ hf2
 go_enter Tryz.func164,Tryz.ntmps164
 go_wp2_with fail
 refine (HS.out _ ?_).mono ?_
 ·exact (Below.refl _ _).alloc (ah _) _
 rintro e w1 ⟨rfl,rfl⟩
 go_wp2_with fail
 refine (HC.out _).mono ?_
 rintro e w2 ⟨rfl,hb2⟩
 have hs2:=hb2.size
 have hz:w2.heap[w.heap.size]?=some (.cells #[.int .i64 0,.bool false,.bool false,.int .i64 0,.bool false] 229 (0,0)):=(hb2.block w.heap.size (by simp)).trans (aZ w _)
 have HZ:=af hz
 have aI:=af (((Below.refl w.heap.size w).alloc (ah _) (.cells #[.int .i64 0,.bool false,.bool false,.int .i64 0,.bool false] 229)).trans (hb2.mono (by simp)))
 clear hz hb2
 go_upto_region 2 with (first
  | (refine wpList_store_rowTo rfl 229 (.tmp 10) (.tmp 16) rfl rfl w2.heap.size #[.int .i64 0,.bool false,.bool false,.int .i64 0,.bool false] rfl rfl 229 _ (aZ _ _) Bo rfl (by simp[Value.oneCell']) ?_))
 refine bI ?_
 intro W3 hW3
 have hm:W3.heap[w2.heap.size]?=some (.cells #[.int .i64 5,.bool true,.bool false,.int .i64 0,.bool false] 229 (0,0)):=by rw[hW3];exact aZ _ _
 have gP:Below w.heap.size w W3:=by rw[hW3];exact aI.out.alloc aI.out.size _
 have hz3:W3.heap[w.heap.size]?=some (.cells #[.int .i64 0,.bool false,.bool false,.int .i64 0,.bool false] 229 (0,0)):=by
  rw[hW3]
  exact (Below.heap_alloc _ _ _ (by have:=(Array.getElem?_eq_some_iff.1 HZ.out).1;omega)).trans HZ.out
 obtain⟨mv,iG⟩:∃mv,w2.heap.size=mv:=⟨_,rfl⟩
 rw[iG] at hm ⊢
 have z0:W3.cell? ⟨mv,0,none⟩=some (.int .i64 5):=by unfold World.cell?;rw[hm];rfl
 have z1:W3.cell? ⟨mv,1,none⟩=some (.bool true):=by unfold World.cell?;rw[hm];rfl
 have z2:W3.cell? ⟨mv,2,none⟩=some (.bool false):=by unfold World.cell?;rw[hm];rfl
 have z3:W3.cell? ⟨mv,3,none⟩=some (.int .i64 0):=by unfold World.cell?;rw[hm];rfl
 have z4:W3.cell? ⟨mv,4,none⟩=some (.bool false):=by unfold World.cell?;rw[hm];rfl
 have aM:=af gP
 have zQ:=af hz3
 clear hW3 hm gP hz3 iG hs2
 go_wp2_with (first
  | (refine wpList_store_rowTo rfl 229 (.tmp 8) _ rfl rfl w.heap.size #[.int .i64 5,.bool true,.bool false,.int .i64 0,.bool false] rfl rfl 229 _ zQ.out Bo rfl (by simp[Value.oneCell']) ?_))
 refine bodyPost_ret (ahE rfl (setRow_heap _ _ _ _ _ _ zQ.out) rfl) rfl ?_
 exact⟨⟨_,rfl⟩,yI aM.out (ah _)⟩
end
end
end Go.Proofs.YtpkmciohehaboaaGreatDoor
