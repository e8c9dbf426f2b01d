/- Part 15 of the proof. -/
import Derived.Test.YtpkmciohehaboaaGreatDoorK0
import Derived.Test.YtpkmciohehaboaaGreatDoorK13
set_option maxRecDepth 100000
set_option maxHeartbeats 100000000
set_option linter.unusedVariables false
set_option linter.unusedSimpArgs false
set_option linter.unusedSectionVars false
set_option linter.unnecessarySimpa false
namespace Go.Proofs.YtpkmciohehaboaaGreatDoor
section
open Go.RowKit Go.Maps
theorem Tu (s:ByteArray) (w:World):Calls Tryz.prog 64 #[.string s] w fun e w'=>e = .returned (.bool (gy s))∧w=w':=by
 obtain⟨R,hR⟩:∃R,gy s=R:=⟨_,rfl⟩
 rw[hR]
 have aQ:=lX s
 have hlen:=gJ s
 unfold gy at hR
 obtain⟨l,hl⟩:∃l,s.data.toList=l:=⟨_,rfl⟩
 rw[hl] at aQ hlen hR
 go_enter Tryz.func64,Tryz.ntmps64
 by_cases h0:s.size=0
 ·have n0:¬((s.size:Int) > 0):=by omega
  have hr:R=false:=by
   have:l=[]:=zR (by omega)
   rw[←hR,this];rfl
  subst hr
  clear hR aQ hlen hl
  go_wp2
  go_ret
  exact⟨by simp,rfl⟩
 ·have n0:(s.size:Int) > 0:=by omega
  have hg:=aQ 0 (by omega)
  have hr:R=decide (ba l 0=58):=by
   rw[←hR]
   cases l with
   | nil=>simp at hlen;omega
   | cons c r=>
    have hb:ba (c :: r) 0=c.toNat:=rfl
    rw[hb]
    by_cases hc:c=58
    ·subst hc;rfl
    ·have:¬c.toNat=58:=fun h=>hc (UInt8.toNat_inj.1 h)
     rw[bU this]
     simp[Lib.hasPrefix,List.isPrefixOf,Ne.symm hc]
  have hr2:(((ba l 0:Nat):Int)==58)=R:=by
   rw[hr]
   by_cases hc:ba l 0=58
   ·rw[hc];rfl
   ·rw[bU hc];simp;omega
  clear hR aQ hlen hl hr
  cases R <;>
  ·go_wp2
   go_ret
   exact⟨by simp,rfl⟩
theorem ahY (f:Fd) (w:World) (h1:f.1.1.size≤140737488351232) (h2:f.1.2.size≤140737488351232):Calls Tryz.prog 103 #[xB f] w fun e w'=>e = .returned (.bool (xX f))∧Below w.heap.size w w':=by
 obtain⟨⟨n,v⟩,nv⟩:=f
 dsimp only at h1 h2
 have HT:=af (fun w=>MR n w (by omega))
 have HL:=af (fun w=>EG n w (by omega))
 have HV:=af (fun w=>aat v w (by omega))
 have HW:=af ((Below.refl w.heap.size w).alloc (ah _) (.cells #[.string n,.string v,.bool nv] 26))
 have hq:=heap_alloc_new w (.cells #[.string n,.string v,.bool nv] 26)
 obtain⟨x,hx⟩:∃x:ByteArray,aJ (aO n.data.toList)=x:=⟨_,rfl⟩
 rw[hx] at HL
 have hxn:(aO n.data.toList=n.data.toList)↔x=n:=by
  rw[←hx]
  constructor
  ·intro h;rw[h,EA]
  ·intro h;have:=congrArg (fun x:ByteArray=>x.data.toList) h;rwa [l9] at this
 unfold xB xX
 dsimp only
 obtain⟨T,hT⟩:∃T,iB n.data.toList=T:=⟨_,rfl⟩
 obtain⟨V,hV⟩:∃V,iI v.data.toList=V:=⟨_,rfl⟩
 rw[hT] at HT ⊢
 rw[hV] at HV ⊢
 have hlow:decide (aO n.data.toList=n.data.toList)=decide (x=n):=by
  by_cases h:x=n
  ·rw[bP h,bP (hxn.2 h)]
  ·rw[bU h,bU (fun e=>h (hxn.1 e))]
 rw[hlow]
 obtain⟨R,hR⟩:∃R,(T && decide (x=n) && V && !nH n && (decide (n≠wW) || decide (v=He)))=R:=⟨_,rfl⟩
 rw[hR]
 have HR:=af hR
 clear hR
 obtain⟨b,hb⟩:∃b,w.heap.size=b:=⟨_,rfl⟩
 obtain⟨W,hW⟩:∃W,w.alloc (.cells #[.string n,.string v,.bool nv] 26)=W:=⟨_,rfl⟩
 have hsz:b<W.heap.size:=by rw[←hW,←hb];simp
 rw[hW,hb] at HW hq
 have q0:W.cell? ⟨b,0,none⟩=some (.string n):=by unfold World.cell?;rw[hq];rfl
 have q1:W.cell? ⟨b,1,none⟩=some (.string v):=by unfold World.cell?;rw[hq];rfl
 have HQ:=af (And.intro hW hb)
 rw[hb]
 clear hlow hxn hx hT hV hq hW
 go_enter Tryz.func103,Tryz.ntmps103
 go_upto_region 1 with fail
 try rw[hb]
 try rw[HQ.out.1]
 clear hb
 go_wp2_with fail
 refine (HT.out _).mono ?_
 rintro e w1 ⟨rfl,rfl⟩
 cases T with
 | false=>
  go_wp2
  go_ret
  exact⟨by rw[←HR.out];simp,HW.out⟩
 | true=>
  go_wp2_with fail
  refine (HL.out _).mono ?_
  rintro e w2 ⟨rfl,hb2⟩
  have c1:=(hb2.cell (p:=⟨b,1,none⟩) hsz).trans q1
  have aI:=af (HW.out.trans (hb2.mono (by omega)))
  clear hb2 q0 q1
  by_cases hl:x=n
  ·have e1:(x.toList==n.toList)=true:=by rw[hl];simp
   have HE:=af hl
   clear hl
   go_wp2_with fail
   refine (HV.out _).mono ?_
   rintro e w3 ⟨rfl,rfl⟩
   cases V with
   | false=>
    go_wp2
    go_ret
    exact⟨by rw[←HR.out];simp,aI.out⟩
   | true=>
    by_cases k1:n=lg
    ·have f1:(n.toList == [99,111,110,110,101,99,116,105,111,110])=true:=by rw[pg (c:=lg) (by decide +kernel)];exact bP k1
     have hc:nH n=true:=by unfold nH;exact bP (.inl k1)
     have HC:=af hc
     clear k1 hc
     go_wp2
     go_ret
     exact⟨by rw[←HR.out,HC.out];simp,aI.out⟩
    have f1:(n.toList == [99,111,110,110,101,99,116,105,111,110])=false:=by rw[pg (c:=lg) (by decide +kernel)];exact bU k1
    by_cases k2:n=DI
    ·have f2:(n.toList == [112,114,111,120,121,45,99,111,110,110,101,99,116,105,111,110])=true:=by rw[pg (c:=DI) (by decide +kernel)];exact bP k2
     have hc:nH n=true:=by unfold nH;exact bP (.inr (.inl k2))
     have HC:=af hc
     clear k1 k2 hc
     go_wp2
     go_ret
     exact⟨by rw[←HR.out,HC.out];simp,aI.out⟩
    have f2:(n.toList == [112,114,111,120,121,45,99,111,110,110,101,99,116,105,111,110])=false:=by rw[pg (c:=DI) (by decide +kernel)];exact bU k2
    by_cases k3:n=DJ
    ·have f3:(n.toList == [107,101,101,112,45,97,108,105,118,101])=true:=by rw[pg (c:=DJ) (by decide +kernel)];exact bP k3
     have hc:nH n=true:=by unfold nH;exact bP (.inr (.inr (.inl k3)))
     have HC:=af hc
     clear k1 k2 k3 hc
     go_wp2
     go_ret
     exact⟨by rw[←HR.out,HC.out];simp,aI.out⟩
    have f3:(n.toList == [107,101,101,112,45,97,108,105,118,101])=false:=by rw[pg (c:=DJ) (by decide +kernel)];exact bU k3
    by_cases k4:n=oq
    ·have f4:(n.toList == [116,114,97,110,115,102,101,114,45,101,110,99,111,100,105,110,103])=true:=by rw[pg (c:=oq) (by decide +kernel)];exact bP k4
     have hc:nH n=true:=by unfold nH;exact bP (.inr (.inr (.inr (.inl k4))))
     have HC:=af hc
     clear k1 k2 k3 k4 hc
     go_wp2
     go_ret
     exact⟨by rw[←HR.out,HC.out];simp,aI.out⟩
    have f4:(n.toList == [116,114,97,110,115,102,101,114,45,101,110,99,111,100,105,110,103])=false:=by rw[pg (c:=oq) (by decide +kernel)];exact bU k4
    by_cases k5:n=DK
    ·have f5:(n.toList == [117,112,103,114,97,100,101])=true:=by rw[pg (c:=DK) (by decide +kernel)];exact bP k5
     have hc:nH n=true:=by unfold nH;exact bP (.inr (.inr (.inr (.inr k5))))
     have HC:=af hc
     clear k1 k2 k3 k4 k5 hc
     go_wp2
     go_ret
     exact⟨by rw[←HR.out,HC.out];simp,aI.out⟩
    have f5:(n.toList == [117,112,103,114,97,100,101])=false:=by rw[pg (c:=DK) (by decide +kernel)];exact bU k5
    have hc:nH n=false:=by unfold nH;exact bU (by rintro (h | h | h | h | h) <;> contradiction)
    have HC:=af hc
    clear k1 k2 k3 k4 k5 hc
    by_cases k6:n=wW
    ·have f6:(n.toList == [116,101])=true:=by rw[pg (c:=wW) (by decide +kernel)];exact bP k6
     have f7:(v.toList == [116,114,97,105,108,101,114,115])=decide (v=He):=pg (by decide +kernel)
     have HK:=af k6
     obtain⟨R2,hR⟩:∃R,decide (v=He)=R:=⟨_,rfl⟩
     rw[hR] at f7
     have fU:=af hR
     clear k6 hR
     go_wp2
     go_ret
     exact⟨by rw[←HR.out,HC.out,fU.out,bP HE.out,bU (fun h=>h HK.out:¬n≠wW)];simp,aI.out⟩
    ·have f6:(n.toList == [116,101])=false:=by rw[pg (c:=wW) (by decide +kernel)];exact bU k6
     have HK:=af k6
     clear k6
     go_wp2
     go_ret
     exact⟨by rw[←HR.out,HC.out,bP HE.out,bP (HK.out:n≠wW)];simp,aI.out⟩
  ·have e1:(x.toList==n.toList)=false:=(Lib.bytes_beq_false_iff x n).2 hl
   have HE:=af hl
   clear hl
   go_wp2
   go_ret
   exact⟨by rw[←HR.out,bU HE.out];simp,aI.out⟩
theorem ahW (s m:ByteArray) (w:World) (hs:s.size≤140737488355328):Calls Tryz.prog 62 #[.string s,.string m] w fun e w'=>e = .returned (.bool (wR s m))∧w=w':=by
 obtain⟨R,hR⟩:∃R,wR s m=R:=⟨_,rfl⟩
 rw[hR]
 unfold wR at hR
 have hstar:s=EJ∧m=GX∨¬(s=EJ∧m=GX):=Classical.em _
 rcases hstar with ⟨hst,hm⟩ | hno
 ·rw[ax hst] at hR
  have e0:(s.toList == [42])=true:=by rw[hst];decide +kernel
  have e1:(m.toList == [79,80,84,73,79,78,83])=true:=by rw[hm];decide +kernel
  have hr:R=true:=by rw[←hR];simp[hm]
  subst hr
  clear hR hst hm
  go_enter Tryz.func62,Tryz.ntmps62
  go_wp2
  go_ret
  exact⟨rfl,rfl⟩
 ·have oV:((s.toList == [42])=false)∨((s.toList == [42])=true∧(m.toList == [79,80,84,73,79,78,83])=false):=by
   by_cases hst:s=EJ
   ·right
    refine⟨by rw[hst];decide +kernel,?_⟩
    have e1:=sG (fun h=>hno ⟨hst,h⟩:m≠GX)
    rwa [show GX.toList=[79,80,84,73,79,78,83] from by decide +kernel] at e1
   ·left
    have e0:=sG hst
    rwa [show EJ.toList=[42] from by decide +kernel] at e0
  have aQ:=lX s
  have hlen:=gJ s
  have hRs:(s.data.toList.all zz && Lib.hasPrefix s.data.toList [47])=R:=by
   rw[←hR]
   by_cases hst:s=EJ
   ·rw[ax hst,hst,bU (fun h=>hno ⟨hst,h⟩)]
    decide +kernel
   ·rw[aj hst]
  obtain⟨l,hl⟩:∃l,s.data.toList=l:=⟨_,rfl⟩
  rw[hl] at aQ hlen hRs
  obtain⟨n,hn⟩:∃n,s.size=n:=⟨_,rfl⟩
  have HL:=af hlen
  have HR:=af hRs
  have HN:=af hn
  clear hlen hl hR hRs hn hno
  by_cases h0:s.size=0
  ·have n0:((s.size:Int)==0)=true:=by rw[h0];rfl
   have hr:R=false:=by
    have:l=[]:=zR (by rw[HL.out];exact h0)
    rw[←HR.out,this];rfl
   subst hr
   clear aQ h0
   rcases oV with e0 | ⟨e0,e1⟩
   all_goals
    go_enter Tryz.func62,Tryz.ntmps62
    go_wp2
    go_ret
    exact⟨rfl,rfl⟩
  have n0:((s.size:Int)==0)=false:=by rw[fO];omega
  have CK : 0<s.size:=by omega
  have hg0:=aQ 0 CK
  have y8 : 0<l.length:=by rw[HL.out];omega
  have hb0:ba l 0=(l[0]).toNat:=kH y8
  obtain⟨c0,hc0⟩:∃c,ba l 0=c:=⟨_,rfl⟩
  rw[hc0] at hg0
  by_cases h47:c0=47
  ·have e47:((c0:Int)==47)=true:=by rw[h47];rfl
   have hpre:Lib.hasPrefix l [47]=true:=by
    cases l with
    | nil=>simp at y8
    | cons x r=>
     have hx:x=47:=UInt8.toNat_inj.1 (by
      have:x.toNat=c0:=by rw[←hc0,hb0];rfl
      rw[this,h47];rfl)
     subst hx;rfl
   have fU:Hid (l.all zz=R):=af (by rw[←HR.out,hpre,Bool.and_true])
   have HG:=af aQ
   clear hb0 hc0 h47 hpre y8 h0 HR aQ
   rcases oV with e0 | ⟨e0,e1⟩
   all_goals
    go_enter Tryz.func62,Tryz.ntmps62
    go_wp2_with fail
    clear hg0 n0 e47 e0
    try clear e1
    go_loop [5] (fun iv=>Lp l n iv) (fun iv=>n-(intOf iv).toNat)
    case atStart=>exact⟨0,rfl,aL _,rfl⟩
    case round=>
     obtain⟨k,rfl,hk,hall⟩:=hrel
     have dM:=af hall
     clear hall
     by_cases hlt:k<n
     ·have hks:k<s.size:=by have:=HN.out;omega
      have hkl:k<l.length:=by rw[HL.out];exact hks
      have k1:(k:Int)<s.size:=by omega
      have h_:=HG.out k hks
      have hb:ba l k=(l[k]).toNat:=kH hkl
      have HB:=af hb
      obtain⟨c,hc⟩:∃c,ba l k=c:=⟨_,rfl⟩
      rw[hc] at h_
      have HC:=af hc
      have cZ:Hid (¬(33≤c∧c≤126∧c≠35)→R=false):=af (fun h=>by
       rw[←fU.out,xu hkl (by unfold zz;rw[←HB.out,HC.out];simp;omega)])
      clear hb hc
      by_cases Cm:c<33
      ·have i1:(c:Int)<33:=by omega
       have hr:=cZ.out (by omega)
       subst hr
       go_wp2
       go_ret
       exact⟨rfl,rfl⟩
      ·have i1:¬((c:Int)<33):=by omega
       by_cases OP : 126<c
       ·have i2:(c:Int) > 126:=by omega
        have hr:=cZ.out (by omega)
        subst hr
        go_wp2
        go_ret
        exact⟨rfl,rfl⟩
       ·have i2:¬((c:Int) > 126):=by omega
        by_cases h35:c=35
        ·have i3:((c:Int)==35)=true:=by rw[h35];rfl
         have hr:=cZ.out (by omega)
         subst hr
         clear h35
         go_wp2
         go_ret
         exact⟨rfl,rfl⟩
        ·have i3:((c:Int)==35)=false:=by simp;omega
         have HE:Hid (Lp l n (.int .i64 (k+1:Nat))):=af ⟨k+1,rfl,hlt,v_ dM.out hkl (by unfold zz;rw[←HB.out,HC.out];simp;omega)⟩
         go_wp2
         go_round
         case rel=>exact HE.out
         case measure=>simp[intOf];have:=HN.out;omega
     ·have hkn:k=s.size:=by have:=HN.out;omega
      have hr:R=true:=by
       have h1:=dM.out
       rw[←fU.out]
       rwa [cB (by rw[HL.out];omega)] at h1
      subst hr
      subst hkn
      go_wp2
      go_ret
      exact⟨rfl,rfl⟩
  ·have e47:((c0:Int)==47)=false:=by simp;omega
   have hr:R=false:=by
    rw[←HR.out]
    cases l with
    | nil=>simp at y8
    | cons x r=>
     have hx:x≠47:=by
      rintro rfl
      apply h47
      rw[←hc0,hb0];rfl
     simp[Lib.hasPrefix,List.isPrefixOf,Ne.symm hx]
   subst hr
   clear aQ hb0 hc0 h47 y8 h0
   rcases oV with e0 | ⟨e0,e1⟩
   all_goals
    go_enter Tryz.func62,Tryz.ntmps62
    go_wp2
    go_ret
    exact⟨rfl,rfl⟩
theorem acF:∀v:Nat,v<256→tK (UInt8.ofNat v)=decide ((97≤v∧v≤122)∨(65≤v∧v≤90)∨(48≤v∧v≤57)∨v=46∨v=45∨v=58∨v=91∨v=93):=by decide +kernel
theorem aac (s:ByteArray) (w:World) (hs:s.size≤140737488355328):Calls Tryz.prog 63 #[.string s] w fun e w'=>e = .returned (.bool (jW s))∧w=w':=by
 obtain⟨R,hR⟩:∃R,jW s=R:=⟨_,rfl⟩
 rw[hR]
 unfold jW at hR
 have aQ:=lX s
 have hlen:=gJ s
 obtain⟨l,hl⟩:∃l,s.data.toList=l:=⟨_,rfl⟩
 rw[hl] at aQ hlen hR
 obtain⟨n,hn⟩:∃n,s.size=n:=⟨_,rfl⟩
 have HL:=af (And.intro hlen hl)
 have HR:=af hR
 have HN:=af hn
 clear hlen hl hR hn
 go_enter Tryz.func63,Tryz.ntmps63
 go_wp2_with fail
 go_loop [3,4] (fun iv _=>KR l n iv) (fun iv _=>n-(intOf iv).toNat)
 case atStart=>exact⟨0,rfl,aL _,rfl⟩
 case round=>
  obtain⟨k,rfl,hk,hall⟩:=hrel
  have dM:=af hall
  clear hall
  by_cases hlt:k<n
  ·have hks:k<s.size:=by have:=HN.out;omega
   have hkl:k<l.length:=by rw[HL.out.1];exact hks
   have k1:(k:Int)<s.size:=by omega
   have h_:=aQ k hks
   have hb:ba l k=(l[k]).toNat:=kH hkl
   have Mi:ba l k<256:=by rw[hb];exact UInt8.toNat_lt _
   obtain⟨c,hc⟩:∃c,ba l k=c:=⟨_,rfl⟩
   have hau:tK (l[k])=decide ((97≤c∧c≤122)∨(65≤c∧c≤90)∨(48≤c∧c≤57)∨c=46∨c=45∨c=58∨c=91∨c=93):=by
    rw[←acF c (by omega),←hc,hb,UInt8.ofNat_toNat]
   rw[hc] at h_ Mi
   have HE:Hid (tK (l[k])=true→KR l n (.int .i64 (k+1:Nat))):=af (fun h=>⟨k+1,rfl,hlt,v_ dM.out hkl h⟩)
   have cZ:Hid (tK (l[k])=false→R=false):=af (fun h=>by rw[←HR.out,xu hkl h,Bool.false_and])
   rw[hau] at HE cZ
   clear aQ hb hc hau
   have oV:(c<45)∨(c=45)∨(c=46)∨(c=47)∨(48≤c∧c≤57)∨(c=58)∨(59≤c∧c≤64)∨(65≤c∧c≤90)∨(c=91)∨(c=92)∨(c=93)∨(94≤c∧c≤96)∨(97≤c∧c≤122)∨(122<c):=by omega
   rcases oV with h | h | h | h | h | h | h | h | h | h | h | h | h | h
   ·
    have g1:¬((c:Int) ≥ 97):=by omega
    have g2:((c:Int)≤122):=by omega
    have g3:¬((c:Int) ≥ 65):=by omega
    have g4:((c:Int)≤90):=by omega
    have g5:¬((c:Int) ≥ 48):=by omega
    have g6:((c:Int)≤57):=by omega
    have q1:((c:Int)==46)=false:=by simp;omega
    have q2:((c:Int)==45)=false:=by simp;omega
    have q3:((c:Int)==58)=false:=by simp;omega
    have q4:((c:Int)==91)=false:=by simp;omega
    have q5:((c:Int)==93)=false:=by simp;omega
    have hr:=cZ.out (bU (by omega))
    subst hr
    clear HE cZ h
    go_wp2
    go_ret
    exact⟨rfl,rfl⟩
   ·
    have g1:¬((c:Int) ≥ 97):=by omega
    have g2:((c:Int)≤122):=by omega
    have g3:¬((c:Int) ≥ 65):=by omega
    have g4:((c:Int)≤90):=by omega
    have g5:¬((c:Int) ≥ 48):=by omega
    have g6:((c:Int)≤57):=by omega
    have q1:((c:Int)==46)=false:=by simp;omega
    have q2:((c:Int)==45)=true:=by simp;omega
    have q3:((c:Int)==58)=false:=by simp;omega
    have q4:((c:Int)==91)=false:=by simp;omega
    have q5:((c:Int)==93)=false:=by simp;omega
    have jP:=af (HE.out (bP (by omega)))
    clear HE cZ h
    go_wp2
    go_round
    case rel=>exact jP.out
    case measure=>simp[intOf];have:=HN.out;omega
   ·
    have g1:¬((c:Int) ≥ 97):=by omega
    have g2:((c:Int)≤122):=by omega
    have g3:¬((c:Int) ≥ 65):=by omega
    have g4:((c:Int)≤90):=by omega
    have g5:¬((c:Int) ≥ 48):=by omega
    have g6:((c:Int)≤57):=by omega
    have q1:((c:Int)==46)=true:=by simp;omega
    have q2:((c:Int)==45)=false:=by simp;omega
    have q3:((c:Int)==58)=false:=by simp;omega
    have q4:((c:Int)==91)=false:=by simp;omega
    have q5:((c:Int)==93)=false:=by simp;omega
    have jP:=af (HE.out (bP (by omega)))
    clear HE cZ h
    go_wp2
    go_round
    case rel=>exact jP.out
    case measure=>simp[intOf];have:=HN.out;omega
   ·
    have g1:¬((c:Int) ≥ 97):=by omega
    have g2:((c:Int)≤122):=by omega
    have g3:¬((c:Int) ≥ 65):=by omega
    have g4:((c:Int)≤90):=by omega
    have g5:¬((c:Int) ≥ 48):=by omega
    have g6:((c:Int)≤57):=by omega
    have q1:((c:Int)==46)=false:=by simp;omega
    have q2:((c:Int)==45)=false:=by simp;omega
    have q3:((c:Int)==58)=false:=by simp;omega
    have q4:((c:Int)==91)=false:=by simp;omega
    have q5:((c:Int)==93)=false:=by simp;omega
    have hr:=cZ.out (bU (by omega))
    subst hr
    clear HE cZ h
    go_wp2
    go_ret
    exact⟨rfl,rfl⟩
   ·
    have g1:¬((c:Int) ≥ 97):=by omega
    have g2:((c:Int)≤122):=by omega
    have g3:¬((c:Int) ≥ 65):=by omega
    have g4:((c:Int)≤90):=by omega
    have g5:((c:Int) ≥ 48):=by omega
    have g6:((c:Int)≤57):=by omega
    have q1:((c:Int)==46)=false:=by simp;omega
    have q2:((c:Int)==45)=false:=by simp;omega
    have q3:((c:Int)==58)=false:=by simp;omega
    have q4:((c:Int)==91)=false:=by simp;omega
    have q5:((c:Int)==93)=false:=by simp;omega
    have jP:=af (HE.out (bP (by omega)))
    clear HE cZ h
    go_wp2
    go_round
    case rel=>exact jP.out
    case measure=>simp[intOf];have:=HN.out;omega
   ·
    have g1:¬((c:Int) ≥ 97):=by omega
    have g2:((c:Int)≤122):=by omega
    have g3:¬((c:Int) ≥ 65):=by omega
    have g4:((c:Int)≤90):=by omega
    have g5:((c:Int) ≥ 48):=by omega
    have g6:¬((c:Int)≤57):=by omega
    have q1:((c:Int)==46)=false:=by simp;omega
    have q2:((c:Int)==45)=false:=by simp;omega
    have q3:((c:Int)==58)=true:=by simp;omega
    have q4:((c:Int)==91)=false:=by simp;omega
    have q5:((c:Int)==93)=false:=by simp;omega
    have jP:=af (HE.out (bP (by omega)))
    clear HE cZ h
    go_wp2
    go_round
    case rel=>exact jP.out
    case measure=>simp[intOf];have:=HN.out;omega
   ·
    have g1:¬((c:Int) ≥ 97):=by omega
    have g2:((c:Int)≤122):=by omega
    have g3:¬((c:Int) ≥ 65):=by omega
    have g4:((c:Int)≤90):=by omega
    have g5:((c:Int) ≥ 48):=by omega
    have g6:¬((c:Int)≤57):=by omega
    have q1:((c:Int)==46)=false:=by simp;omega
    have q2:((c:Int)==45)=false:=by simp;omega
    have q3:((c:Int)==58)=false:=by simp;omega
    have q4:((c:Int)==91)=false:=by simp;omega
    have q5:((c:Int)==93)=false:=by simp;omega
    have hr:=cZ.out (bU (by omega))
    subst hr
    clear HE cZ h
    go_wp2
    go_ret
    exact⟨rfl,rfl⟩
   ·
    have g1:¬((c:Int) ≥ 97):=by omega
    have g2:((c:Int)≤122):=by omega
    have g3:((c:Int) ≥ 65):=by omega
    have g4:((c:Int)≤90):=by omega
    have g5:((c:Int) ≥ 48):=by omega
    have g6:¬((c:Int)≤57):=by omega
    have q1:((c:Int)==46)=false:=by simp;omega
    have q2:((c:Int)==45)=false:=by simp;omega
    have q3:((c:Int)==58)=false:=by simp;omega
    have q4:((c:Int)==91)=false:=by simp;omega
    have q5:((c:Int)==93)=false:=by simp;omega
    have jP:=af (HE.out (bP (by omega)))
    clear HE cZ h
    go_wp2
    go_round
    case rel=>exact jP.out
    case measure=>simp[intOf];have:=HN.out;omega
   ·
    have g1:¬((c:Int) ≥ 97):=by omega
    have g2:((c:Int)≤122):=by omega
    have g3:((c:Int) ≥ 65):=by omega
    have g4:¬((c:Int)≤90):=by omega
    have g5:((c:Int) ≥ 48):=by omega
    have g6:¬((c:Int)≤57):=by omega
    have q1:((c:Int)==46)=false:=by simp;omega
    have q2:((c:Int)==45)=false:=by simp;omega
    have q3:((c:Int)==58)=false:=by simp;omega
    have q4:((c:Int)==91)=true:=by simp;omega
    have q5:((c:Int)==93)=false:=by simp;omega
    have jP:=af (HE.out (bP (by omega)))
    clear HE cZ h
    go_wp2
    go_round
    case rel=>exact jP.out
    case measure=>simp[intOf];have:=HN.out;omega
   ·
    have g1:¬((c:Int) ≥ 97):=by omega
    have g2:((c:Int)≤122):=by omega
    have g3:((c:Int) ≥ 65):=by omega
    have g4:¬((c:Int)≤90):=by omega
    have g5:((c:Int) ≥ 48):=by omega
    have g6:¬((c:Int)≤57):=by omega
    have q1:((c:Int)==46)=false:=by simp;omega
    have q2:((c:Int)==45)=false:=by simp;omega
    have q3:((c:Int)==58)=false:=by simp;omega
    have q4:((c:Int)==91)=false:=by simp;omega
    have q5:((c:Int)==93)=false:=by simp;omega
    have hr:=cZ.out (bU (by omega))
    subst hr
    clear HE cZ h
    go_wp2
    go_ret
    exact⟨rfl,rfl⟩
   ·
    have g1:¬((c:Int) ≥ 97):=by omega
    have g2:((c:Int)≤122):=by omega
    have g3:((c:Int) ≥ 65):=by omega
    have g4:¬((c:Int)≤90):=by omega
    have g5:((c:Int) ≥ 48):=by omega
    have g6:¬((c:Int)≤57):=by omega
    have q1:((c:Int)==46)=false:=by simp;omega
    have q2:((c:Int)==45)=false:=by simp;omega
    have q3:((c:Int)==58)=false:=by simp;omega
    have q4:((c:Int)==91)=false:=by simp;omega
    have q5:((c:Int)==93)=true:=by simp;omega
    have jP:=af (HE.out (bP (by omega)))
    clear HE cZ h
    go_wp2
    go_round
    case rel=>exact jP.out
    case measure=>simp[intOf];have:=HN.out;omega
   ·
    have g1:¬((c:Int) ≥ 97):=by omega
    have g2:((c:Int)≤122):=by omega
    have g3:((c:Int) ≥ 65):=by omega
    have g4:¬((c:Int)≤90):=by omega
    have g5:((c:Int) ≥ 48):=by omega
    have g6:¬((c:Int)≤57):=by omega
    have q1:((c:Int)==46)=false:=by simp;omega
    have q2:((c:Int)==45)=false:=by simp;omega
    have q3:((c:Int)==58)=false:=by simp;omega
    have q4:((c:Int)==91)=false:=by simp;omega
    have q5:((c:Int)==93)=false:=by simp;omega
    have hr:=cZ.out (bU (by omega))
    subst hr
    clear HE cZ h
    go_wp2
    go_ret
    exact⟨rfl,rfl⟩
   ·
    have g1:((c:Int) ≥ 97):=by omega
    have g2:((c:Int)≤122):=by omega
    have g3:((c:Int) ≥ 65):=by omega
    have g4:¬((c:Int)≤90):=by omega
    have g5:((c:Int) ≥ 48):=by omega
    have g6:¬((c:Int)≤57):=by omega
    have q1:((c:Int)==46)=false:=by simp;omega
    have q2:((c:Int)==45)=false:=by simp;omega
    have q3:((c:Int)==58)=false:=by simp;omega
    have q4:((c:Int)==91)=false:=by simp;omega
    have q5:((c:Int)==93)=false:=by simp;omega
    have jP:=af (HE.out (bP (by omega)))
    clear HE cZ h
    go_wp2
    go_round
    case rel=>exact jP.out
    case measure=>simp[intOf];have:=HN.out;omega
   ·
    have g1:((c:Int) ≥ 97):=by omega
    have g2:¬((c:Int)≤122):=by omega
    have g3:((c:Int) ≥ 65):=by omega
    have g4:¬((c:Int)≤90):=by omega
    have g5:((c:Int) ≥ 48):=by omega
    have g6:¬((c:Int)≤57):=by omega
    have q1:((c:Int)==46)=false:=by simp;omega
    have q2:((c:Int)==45)=false:=by simp;omega
    have q3:((c:Int)==58)=false:=by simp;omega
    have q4:((c:Int)==91)=false:=by simp;omega
    have q5:((c:Int)==93)=false:=by simp;omega
    have hr:=cZ.out (bU (by omega))
    subst hr
    clear HE cZ h
    go_wp2
    go_ret
    exact⟨rfl,rfl⟩
  ·have hkn:k=s.size:=by have:=HN.out;omega
   have kK:l.all tK=true:=by
    have h1:=dM.out
    rwa [cB (by rw[HL.out.1];omega)] at h1
   have hr:decide (0<s.size)=R:=by
    rw[←HR.out,kK,zF]
    by_cases h:l=[]
    ·have:=HL.out.1
     rw[bU (by rw[h] at this;simp at this;omega),bU (by simp[h])]
    ·have:=HL.out.1
     have h2 : 0<l.length:=List.length_pos_iff.2 h
     rw[bP (by omega),bP h]
   have BU:=af hr
   clear aQ hr kK
   subst hkn
   go_wp2
   go_ret
   exact⟨by rw[←BU.out];simp,rfl⟩
end
section
open Go.RowKit Go.Maps
theorem V6 (l r:List Fd) (j:ByteArray):aF (l++r) j=aF l j++aF r j:=by
 unfold aF
 rw[List.filter_append,j6]
theorem aaJ {α:Type}{P:List α→Prop}(h0:P []) (hs:∀l x,P l→P (l++[x])) (l:List α):P l:=by
 have h1:∀r:List α,P r.reverse:=by
  intro r
  induction r with
  | nil=>exact h0
  | cons x r ih=>rw[List.reverse_cons];exact hs _ _ ih
 have h:=h1 l.reverse
 rwa [List.reverse_reverse] at h
theorem OM {names:List ByteArray}(l:List Fd):∀G:Gt,bG names Gt.none l=(G,0)→G.2=l.filter (fun g=>!gy g.1.1)∧∀j,gy j=true→aF l j=(G.1 j).toList:=by
 refine aaJ (P:=fun l=>∀G:Gt,bG names Gt.none l=(G,0)→G.2=l.filter (fun g=>!gy g.1.1)∧∀j,gy j=true→aF l j=(G.1 j).toList) ?_ (fun l f ih=>?_) l
 ·intro G h
  rw[bG] at h
  injection h with h
  subst h
  exact⟨rfl,fun j _=>rfl⟩
 ·intro G h
  by_cases e:(bG names Gt.none l).2=0
  ·obtain⟨⟨G',e'⟩,hG'⟩:∃x,bG names Gt.none l=x:=⟨_,rfl⟩
   rw[hG'] at e
   dsimp only at e
   subst e
   obtain⟨h1,h2⟩:=ih _ hG'
   rw[OL _ _ _ (by rw[hG']),hG',bG,bG] at h
   have ha:gN names G' f=(G,0):=by
    by_cases e:(gN names G' f).2=0
    ·rw[ax e] at h
     injection h with h _
     exact Prod.ext h e
    ·rw[aj e] at h
     exact h
   unfold gN at ha
   by_cases hp:gy f.1.1=true
   ·rw[ax hp] at ha
    split at ha
    ·injection ha with _ h;cases h
    ·rename_i hc
     injection ha with ha _
     subst ha
     rw[Bool.or_eq_true,not_or] at hc
     obtain⟨hc1,hc2⟩:=hc
     have hk:xU names G'.1 f.1.1=true:=by simpa using hc2
     have hno:G'.1 f.1.1=none:=by
      unfold xU at hk
      rw[pI] at hk
      have:=hk.2
      cases hq:G'.1 f.1.1 with
      | none=>rfl
      | some x=>rw[hq] at this;cases this
     refine⟨?_,fun j hj=>?_⟩
     ·rw[List.filter_append,h1]
      simp[hp]
     ·rw[V6,h2 j hj]
      dsimp only
      by_cases hjf:j=f.1.1
      ·subst hjf
       rw[hno,ax rfl]
       simp[aF]
      ·rw[aj hjf]
       have:aF [f] j=[]:=by simp[aF,Ne.symm hjf]
       rw[this,kR]
   ·rw[aj hp] at ha
    split at ha
    ·injection ha with ha _
     subst ha
     refine⟨?_,fun j hj=>?_⟩
     ·rw[List.filter_append,h1]
      simp[hp]
     ·rw[V6,h2 j hj]
      have hjf:¬f.1.1=j:=by rintro rfl;exact hp hj
      have:aF [f] j=[]:=by simp[aF,hjf]
      rw[this,kR]
    ·injection ha with _ h;cases h
  ·have h2:=L8 (names:=names) (l++[f]) Gt.none l.length (by rw[List.take_left' rfl];exact e)
   rw[List.take_left' rfl] at h2
   rw[←h2,h] at e
   exact absurd rfl e
def II (names:List ByteArray) (pre:List Fd) (nm:ByteArray):Bool:=names.any (fun x=>decide (x=nm)) && pre.all (fun g=>gy g.1.1 && !decide (g.1.1=nm))
theorem acn {names:List ByteArray}{l:List Fd}{G:Gt}{f:Fd}(h:bG names Gt.none l=(G,0)):(gN names G f).2=if gy f.1.1 then (if II names l f.1.1 then 0 else 100) else if xX f then 0 else 101:=by
 obtain⟨h1,h2⟩:=OM l _ h
 unfold gN
 by_cases hp:gy f.1.1=true
 ·rw[ax hp,ax hp]
  have e:(!G.2.isEmpty || !xU names G.1 f.1.1) = !II names l f.1.1:=by
   have hv:=h2 f.1.1 hp
   have ha:l.all (fun g=>gy g.1.1 && !decide (g.1.1=f.1.1))=(G.2.isEmpty && !(G.1 f.1.1).isSome):=by
    rw[h1]
    have e1:(G.1 f.1.1).isSome=l.any (fun g=>decide (g.1.1=f.1.1)):=by
     cases hq:G.1 f.1.1 with
     | none=>
      rw[hq] at hv
      unfold aF at hv
      rw[Option.toList_none,List.map_eq_nil_iff,List.filter_eq_nil_iff] at hv
      rw[Option.isSome_none]
      symm
      rw[List.any_eq_false]
      exact hv
     | some x=>
      rw[hq] at hv
      have hm:x ∈ aF l f.1.1:=by rw[hv];simp
      unfold aF at hm
      obtain⟨g,hg,-⟩:=List.mem_map.1 hm
      rw[Option.isSome_some]
      symm
      rw[List.any_eq_true]
      exact⟨g,(List.mem_filter.1 hg).1,(List.mem_filter.1 hg).2⟩
    rw[e1]
    clear hv h2 h1 e1 h
    induction l with
    | nil=>rfl
    | cons g r ih=>
     rw[List.all_cons,ih,List.filter_cons,List.any_cons]
     by_cases hg:gy g.1.1=true
     ·by_cases hn:g.1.1=f.1.1 <;> simp[hg,hn]
     ·simp[hg]
   unfold II xU
   rw[ha]
   cases names.any (fun x=>decide (x=f.1.1)) <;> cases G.2.isEmpty <;> cases (G.1 f.1.1).isSome <;> rfl
  rw[e]
  cases II names l f.1.1 <;> rfl
 ·rw[aj hp,aj hp]
  split <;> rfl
def N7 (w:World) (n:Nat) (names:List ByteArray) (l:List Fd) (iv:Value) (wr:World):Prop:=∃k:Nat,iv = .int .i64 k∧k≤n∧(bG names Gt.none (l.take k)).2=0∧Below w.heap.size w wr
def NU (W:World) (n:Nat) (names:List ByteArray) (nm:ByteArray) (kv iv:Value) (wr:World):Prop:=∃k:Nat,iv = .int .i64 k∧k≤n∧kv = .bool ((names.take k).any fun x=>decide (x=nm))∧Below W.heap.size W wr
def Ll (W:World) (n:Nat) (pre:List Fd) (a:Bool) (nm:ByteArray) (kv iv:Value) (wr:World):Prop:=∃k:Nat,iv = .int .i64 k∧k≤n∧kv = .bool (a && (pre.take k).all fun g=>gy g.1.1 && !decide (g.1.1=nm))∧Below W.heap.size W wr
theorem aci {α:Type}{f : α→Bool}{l:List α}{k:Nat}{x : α}(h:l[k]?=some x):(l.take (k+1)).any f=((l.take k).any f || f x):=by
 rw[iw,h,iL,List.any_append]
 simp
theorem Xd {α:Type}{f : α→Bool}{l:List α}{k:Nat}{x : α}(h:l[k]?=some x):(l.take (k+1)).all f=((l.take k).all f && f x):=by
 rw[iw,h,iL,List.all_append]
 simp
theorem ahg {A A1:Option Addr}{n c n1 c1:Nat}{l:List Fd}{names:List ByteArray}(w:World) (hl:Rd w w.heap.size 3 A n (fds l)) (hn:n≤1048575) (hz:Tx l)
 (hr:Rd w w.heap.size 1 A1 n1 (strs names)) (xL:n1≤1048576) :
 Calls Tryz.prog 61 #[.slice A n c,.slice A1 n1 c1] w fun e w'=>e = .returned (.int .i64 ((bG names Gt.none l).2:Nat))∧Below w.heap.size w w':=by
 have HL:=af hl
 have HZ:=af hz
 have HR:=af hr
 have bf:l.length=n:=by have:=hl.1;rw[jJ] at this;omega
 have dX:=af bf
 obtain⟨R,hR⟩:∃R,(bG names Gt.none l).2=R:=⟨_,rfl⟩
 rw[hR]
 have cz:=af hR
 clear hl hz hr bf hR
 go_enter Tryz.func61,Tryz.ntmps61
 go_wp2_with fail
 go_loopw [5] (fun iv wr=>N7 w n names l iv wr) (fun iv _=>n-(intOf iv).toNat)
 case atStart=>exact⟨0,rfl,aL _,by rw[List.take_zero,bG],Below.refl _ _⟩
 case round=>
  obtain⟨k,rfl,hk,hok,hb⟩:=hrel
  have dZ:=hb.size
  have HB:=af hb
  by_cases hlt:k<n
  ·obtain⟨-,b,o,rfl,hbl,hc⟩:=mE (HL.out.below HB.out (ah _)) (by omega)
   obtain⟨f,hf⟩:∃f,l[k]?=some f:=⟨_,a_ (by have:=dX.out;omega)⟩
   obtain⟨z0,z1,z2⟩:=hc k f hf
   obtain⟨⟨G,e0⟩,hG⟩:∃x,bG names Gt.none (l.take k)=x:=⟨_,rfl⟩
   rw[hG] at hok
   dsimp only at hok
   subst hok
   have wE:=acn (f:=f) hG
   have kM:=Yp hf hG
   rw[←kM] at wE
   have Df:=af wE
   have NP:Hid ((bG names Gt.none (l.take (k+1))).2≠0→R=(bG names Gt.none (l.take (k+1))).2):=af (fun h=>by rw[←cz.out,L8 l Gt.none (k+1) h])
   obtain⟨E,hE⟩:∃E,(bG names Gt.none (l.take (k+1))).2=E:=⟨_,rfl⟩
   rw[hE] at Df NP
   have HE0:=af hE
   have hfz:=HZ.out f (fq hf)
   have qD:=af (fun w=>ahY f w hfz.1 hfz.2)
   have HPS:=af (fun w=>Tu f.1.1 w)
   have HC:=af hc
   have n0:(k:Int)<n:=by omega
   have aY:b<wr.heap.size:=by omega
   clear hc hf hG wE kM hE hfz hb
   obtain⟨⟨nm,vl⟩,nv⟩:=f
   simp only at z0 z1 z2 qD HPS Df
   unfold xB at qD
   dsimp only at qD
   obtain⟨x,hx⟩:∃x,wr.heap.size=x:=⟨_,rfl⟩
   have hx0:=heap_alloc_new wr (.cells #[.string nm,.string vl,.bool nv] 26)
   obtain⟨W,hW⟩:∃W,wr.alloc (.cells #[.string nm,.string vl,.bool nv] 26)=W:=⟨_,rfl⟩
   have hbW:Below wr.heap.size wr W:=by rw[←hW];exact (Below.refl _ _).alloc (ah _) _
   have hxW:x<W.heap.size:=by rw[←hW,←hx];simp
   rw[hW,hx] at hx0
   have q0:W.cell? ⟨x,0,none⟩=some (.string nm):=by unfold World.cell?;rw[hx0];rfl
   have q1:W.cell? ⟨x,1,none⟩=some (.string vl):=by unfold World.cell?;rw[hx0];rfl
   have q2:W.cell? ⟨x,2,none⟩=some (.bool nv):=by unfold World.cell?;rw[hx0];rfl
   have iD:=af (HB.out.trans (hbW.mono dZ))
   have HBW2:=af hbW
   have HW:=af hW
   clear hx0 hW hbW
   obtain⟨P,hP⟩:∃P,gy nm=P:=⟨_,rfl⟩
   rw[hP] at HPS Df
   clear hP
   go_upto_region 5 with fail
   try rw[hx]
   rw[HW.out]
   go_wp2_with fail
   refine (HPS.out _).mono ?_
   rintro e w1 ⟨rfl,rfl⟩
   cases P with
   | false=>
    go_wp2_with fail
    refine (qD.out _).mono ?_
    rintro e w2 ⟨rfl,hb2⟩
    have aI:=af (iD.out.trans (hb2.mono iD.out.size))
    clear hb2
    obtain⟨Q,hQ⟩:∃Q,xX ((nm,vl),nv)=Q:=⟨_,rfl⟩
    rw[hQ] at Df ⊢
    clear hQ
    cases Q with
    | false=>
     have hE:E=101:=by have:=Df.out;simpa using this
     have hr:R=101:=by rw[NP.out (by omega),hE]
     subst hr
     clear hE
     go_wp2
     go_ret
     exact⟨rfl,aI.out⟩
    | true=>
     have hE:E=0:=by have:=Df.out;simpa using this
     have HN:Hid (N7 w n names l (.int .i64 (k+1:Nat)) w2):=af ⟨k+1,rfl,hlt,by rw[HE0.out,hE],aI.out⟩
     clear hE
     go_wp2
     go_roundw
     case rel=>exact HN.out
     case measure=>simp[intOf];omega
   | true=>
    go_wp2_with fail
    go_loopw [7,8] (fun kv iv wy=>NU W n1 names nm kv iv wy) (fun _ iv _=>n1-(intOf iv).toNat)
    case atStart=>exact⟨0,rfl,aL _,rfl,Below.refl _ _⟩
    case round=>
     obtain⟨j,rfl,hj,rfl,hb2⟩:=hrel
     have aI:=af hb2
     have y0:=(hb2.cell (p:=⟨x,0,none⟩) hxW).trans q0
     clear hb2
     by_cases hjn:j<n1
     ·obtain⟨iF,b1,o1,rfl,hbl1,hc1⟩:=BF (HR.out.below (iD.out.trans (aI.out.mono iD.out.size)) (ah _)) (by omega)
      obtain⟨t,ht⟩:∃t,names[j]?=some t:=⟨_,a_ (by omega)⟩
      have hcell:=hc1 j t ht
      have m0:(j:Int)<n1:=by omega
      have Ma:=aci (f:=fun x:ByteArray=>decide (x=nm)) ht
      obtain⟨K,hK⟩:∃K,((names.take j).any fun x=>decide (x=nm))=K:=⟨_,rfl⟩
      rw[hK] at Ma ⊢
      obtain⟨S,hS⟩:∃S,decide (t=nm)=S:=⟨_,rfl⟩
      have e1:(t.toList==nm.toList)=S:=by
       rw[←hS]
       by_cases h:t=nm
       ·rw[bP h,h];simp
       ·rw[bU h];exact (Lib.bytes_beq_false_iff t nm).2 h
      simp only[hS] at Ma
      have HANY:=af Ma
      clear hc1 ht Ma hK hS iF
      cases K with
      | true=>
       have HN:Hid (∀d,NU W n1 names nm (.bool true) (.int .i64 (j+1:Nat)) (wr.drewN d)):=af (fun d=>⟨j+1,rfl,hjn,by rw[HANY.out];rfl,tN aI.out d⟩)
       go_wp2
       go_quiet (fail)
       go_wp2
       go_roundw
       case rel=>exact HN.out _
       case measure=>simp[intOf];omega
      | false=>
       have HN:Hid (∀d,NU W n1 names nm (.bool S) (.int .i64 (j+1:Nat)) (wr.drewN d)):=af (fun d=>⟨j+1,rfl,hjn,by rw[HANY.out];rfl,tN aI.out d⟩)
       go_wp2
       go_quiet (fail)
       go_wp2
       go_roundw
       case rel=>exact HN.out _
       case measure=>simp[intOf];omega
     ·have hjn1:j=n1:=by omega
      have qY:names.take j=names:=cB (by have:=HR.out.1;rw[KL] at this;omega)
      obtain⟨a,ha⟩:∃a,(names.any fun x=>decide (x=nm))=a:=⟨_,rfl⟩
      rw[qY,ha]
      have HA:=af ha
      subst hjn1
      have BM:=af (HBW2.out.trans (aI.out.mono HBW2.out.size))
      have hs3:=BM.out.size
      have hxr:x<wr.heap.size:=by have:=aI.out.size;omega
      clear qY ha
      obtain⟨WW,hWW⟩:∃WW,WW=wr:=⟨_,rfl⟩
      rw[←hWW]
      rw[←hWW] at y0 BM hs3 hxr
      have HBW3:Hid (Below W.heap.size W WW):=af (by rw[hWW];exact aI.out)
      clear hWW aI
      go_wp2_with fail
      go_loopw [7,9] (fun kv iv wy=>Ll WW k (l.take k) a nm kv iv wy) (fun _ iv _=>k-(intOf iv).toNat)
      case atStart=>exact⟨0,rfl,aL _,by simp,Below.refl _ _⟩
      case round=>
       obtain⟨i,rfl,hi,rfl,hb3⟩:=hrel
       have aM:=af hb3
       have v0:=(hb3.cell (p:=⟨x,0,none⟩) hxr).trans y0
       by_cases hik:i<k
       ·obtain⟨g,hg⟩:∃g,l[i]?=some g:=⟨_,a_ (by have:=dX.out;omega)⟩
        obtain⟨r0,-,-⟩:=HC.out i g hg
        have r1:=((BM.out.trans (hb3.mono hs3)).cell (p:=⟨b,o+i*3,none⟩) aY).trans r0
        have hgt:(l.take k)[i]?=some g:=by rw[List.getElem?_take_of_lt hik,hg]
        have hall:=Xd (f:=fun g:Fd=>gy g.1.1 && !decide (g.1.1=nm)) hgt
        have HPG:=af (fun w=>Tu g.1.1 w)
        obtain⟨⟨gn,gv⟩,gb⟩:=g
        simp only at r1 hall HPG
        obtain⟨S,hS⟩:∃S,decide (gn=nm)=S:=⟨_,rfl⟩
        have e1:(gn.toList==nm.toList)=S:=by
         rw[←hS]
         by_cases h:gn=nm
         ·rw[bP h,h];simp
         ·rw[bU h];exact (Lib.bytes_beq_false_iff gn nm).2 h
        obtain⟨PG,hPG⟩:∃PG,gy gn=PG:=⟨_,rfl⟩
        rw[hPG] at HPG
        rw[hS,hPG] at hall
        obtain⟨K,hK⟩:∃K,(a && ((l.take k).take i).all fun g=>gy g.1.1 && !decide (g.1.1=nm))=K:=⟨_,rfl⟩
        rw[hK]
        have sj:(a && ((l.take k).take (i+1)).all fun g=>gy g.1.1 && !decide (g.1.1=nm))=(K && (PG && !S)):=by rw[hall,←hK,Bool.and_assoc]
        have mO:=af sj
        have wC:b<wr.heap.size:=by have:=hb3.size;omega
        have hxs:x<wr.heap.size:=by have:=hb3.size;omega
        have i0:(i:Int)<k:=by omega
        have i1:(i:Int)<n:=by omega
        clear hg r0 hgt hS hall hPG hK sj hb3
        go_upto_region 16 with fail
        --Ia
        cases PG with
        | false=>
         have HN:Hid (∀d,Ll WW k (l.take k) a nm (.bool (false)) (.int .i64 (i+1:Nat)) (wr.drewN d)):=af (fun d=>⟨i+1,rfl,hik,by rw[mO.out];simp,tN aM.out d⟩)
         refine wp_region_held_drew (S:=fun w'=>w'.cell? ⟨b,o+i*3,none⟩=some (.string gn)∧w'.cell? ⟨x,0,none⟩=some (.string nm)) (by kernel_rfl) (⟨r1,v0⟩) (fun hH=>?_)
         refine ag 0 48 hH ?_
         refine ag 1 49 hH ?_
         refine ag 2 50 hH ?_
         refine ag 3 51 hH ?_
         refine ag 4 52 hH ?_
         refine aR 5 (fun K hK=>?_)
         go_simp
         refine (HPG.out _).mono ?_
         rintro e3 w3 ⟨rfl,rfl⟩
         refine hK.out _ _ (hH) (fun hH=>?_)
         clear hK K
         try simp only[Act.put,az,ay,aA]
         refine ag 6 54 hH ?_
         refine ag 7 55 hH ?_
         refine ai 8 56 hH ?_
         refine ai 9 57 hH ?_
         refine ai 10 58 hH ?_
         refine ai 11 59 hH ?_
         refine ai 12 60 hH ?_
         refine ai 13 61 hH ?_
         refine ai 14 62 hH ?_
         refine ai 15 63 hH ?_
         refine ag 16 64 hH ?_
         refine wpAnyH_done (by kernel_rfl) ?_ _
         go_wp2
         go_roundw
         case rel=>exact HN.out _
         case measure=>simp[intOf];omega
        | true=>
        cases S with
        | true=>
         have HN:Hid (∀d,Ll WW k (l.take k) a nm (.bool (false)) (.int .i64 (i+1:Nat)) (wr.drewN d)):=af (fun d=>⟨i+1,rfl,hik,by rw[mO.out];simp,tN aM.out d⟩)
         refine wp_region_held_drew (S:=fun w'=>w'.cell? ⟨b,o+i*3,none⟩=some (.string gn)∧w'.cell? ⟨x,0,none⟩=some (.string nm)) (by kernel_rfl) (⟨r1,v0⟩) (fun hH=>?_)
         refine ag 0 48 hH ?_
         refine ag 1 49 hH ?_
         refine ag 2 50 hH ?_
         refine ag 3 51 hH ?_
         refine ag 4 52 hH ?_
         refine aR 5 (fun K hK=>?_)
         go_simp
         refine (HPG.out _).mono ?_
         rintro e3 w3 ⟨rfl,rfl⟩
         refine hK.out _ _ (hH) (fun hH=>?_)
         clear hK K
         try simp only[Act.put,az,ay,aA]
         refine ag 6 54 hH ?_
         refine ag 7 55 hH ?_
         refine ag 8 56 hH ?_
         refine ag 9 57 hH ?_
         refine ag 10 58 hH ?_
         refine ag 11 59 hH ?_
         refine ag 12 60 hH ?_
         refine ag 13 61 hH ?_
         refine ag 14 62 hH ?_
         refine ag 15 63 hH ?_
         refine ag 16 64 hH ?_
         refine wpAnyH_done (by kernel_rfl) ?_ _
         go_wp2
         go_roundw
         case rel=>exact HN.out _
         case measure=>simp[intOf];omega
        | false=>
         have HN:Hid (∀d,Ll WW k (l.take k) a nm (.bool (K)) (.int .i64 (i+1:Nat)) (wr.drewN d)):=af (fun d=>⟨i+1,rfl,hik,by rw[mO.out];simp,tN aM.out d⟩)
         refine wp_region_held_drew (S:=fun w'=>w'.cell? ⟨b,o+i*3,none⟩=some (.string gn)∧w'.cell? ⟨x,0,none⟩=some (.string nm)) (by kernel_rfl) (⟨r1,v0⟩) (fun hH=>?_)
         refine ag 0 48 hH ?_
         refine ag 1 49 hH ?_
         refine ag 2 50 hH ?_
         refine ag 3 51 hH ?_
         refine ag 4 52 hH ?_
         refine aR 5 (fun K hK=>?_)
         go_simp
         refine (HPG.out _).mono ?_
         rintro e3 w3 ⟨rfl,rfl⟩
         refine hK.out _ _ (hH) (fun hH=>?_)
         clear hK K
         try simp only[Act.put,az,ay,aA]
         refine ag 6 54 hH ?_
         refine ag 7 55 hH ?_
         refine ag 8 56 hH ?_
         refine ag 9 57 hH ?_
         refine ag 10 58 hH ?_
         refine ag 11 59 hH ?_
         refine ag 12 60 hH ?_
         refine ag 13 61 hH ?_
         refine ag 14 62 hH ?_
         refine ag 15 63 hH ?_
         refine ag 16 64 hH ?_
         refine wpAnyH_done (by kernel_rfl) ?_ _
         go_wp2
         go_roundw
         case rel=>exact HN.out _
         case measure=>simp[intOf];omega
        --END1
       ·have hik2:i=k:=by omega
        subst hik2
        rw[cB (l:=l.take i) (by rw[kS];exact Nat.min_le_left _ _)]
        have jL:II names (l.take i) nm=(a && (l.take i).all fun g=>gy g.1.1 && !decide (g.1.1=nm)):=by unfold II;rw[HA.out]
        obtain⟨K,hK⟩:∃K,(a && (l.take i).all fun g=>gy g.1.1 && !decide (g.1.1=nm))=K:=⟨_,rfl⟩
        rw[hK] at jL ⊢
        have HKW:=af jL
        have HBF:=af (iD.out.trans ((HBW3.out.trans (hb3.mono HBW3.out.size)).mono iD.out.size))
        clear jL hK hb3
        cases K with
        | false=>
         have hr:R=100:=by
          have hE:E=100:=by have:=Df.out;rw[HKW.out] at this;simpa using this
          rw[NP.out (by omega),hE]
         subst hr
         go_wp2
         go_ret
         exact⟨rfl,HBF.out⟩
        | true=>
         have HN:Hid (N7 w n names l (.int .i64 (i+1:Nat)) wr):=af (by
          have hE:E=0:=by have:=Df.out;rw[HKW.out] at this;simpa using this
          exact⟨i+1,rfl,hlt,by rw[HE0.out,hE],HBF.out⟩)
         go_wp2
         go_roundw
         case rel=>exact HN.out
         case measure=>simp[intOf];omega
  ·have hkn:k=n:=by omega
   have hr:R=0:=by
    rw[←cz.out]
    rwa [cB (by have:=dX.out;omega)] at hok
   subst hr
   clear hok
   subst hkn
   go_wp2
   go_ret
   exact⟨rfl,HB.out⟩
end
section
open Go.RowKit Go.Maps
def cj (a b:ByteArray):ByteArray:=if b≠⟨#[]⟩∧a≠⟨#[]⟩ then a++KG++b else a++b
def qf (vs:List ByteArray):ByteArray:=vs.foldl cj ⟨#[]⟩
theorem adr {l:List Fd}{k:Nat}{f:Fd}(h:l[k]?=some f):(l.take (k+1)).foldl fJ ([],none)=fJ ((l.take k).foldl fJ ([],none)) f:=by
 rw[iw,h,iL,og]
 rfl
def jm (l:List Fd):Nat:=(l.map fun f=>f.1.2.size+2).sum
theorem ajv {l:List Fd}{k:Nat}{f:Fd}(h:l[k]?=some f):jm (l.take (k+1))=jm (l.take k)+(f.1.2.size+2):=by
 unfold jm
 rw[iw,h,iL,j6,List.sum_append]
 simp
theorem abq (l:List Fd) (k:Nat):jm (l.take k)≤jm l:=by
 unfold jm
 conv=>rhs;rw[←vV k l,j6,List.sum_append]
 omega
theorem XI (a b:ByteArray):(cj a b).size≤a.size+b.size+2:=by
 unfold cj
 split
 ·rw[ByteArray.size_append,ByteArray.size_append];show a.size+2+b.size≤_;omega
 ·rw[ByteArray.size_append];omega
structure Nj (l:List Fd) (s:List Fd×Option Nat):Prop where
 at_:∀i,s.2=some i→i<s.1.length
 len:s.1.length≤l.length
 sz:∀f ∈ s.1,f.1.2.size≤jm l
theorem XJ (l:List Fd):Nj l (l.foldl fJ ([],none)):=by
 refine aaJ (P:=fun l=>Nj l (l.foldl fJ ([],none))) ⟨fun i h=>(by cases h),ah _,fun f h=>(by cases h)⟩ (fun l f ih=>?_) l
 rw[og]
 show Nj _ (fJ (l.foldl fJ ([],none)) f)
 obtain⟨st,hst⟩:∃st,l.foldl fJ ([],none)=st:=⟨_,rfl⟩
 rw[hst] at ih ⊢
 have hv:jm (l++[f])=jm l+(f.1.2.size+2):=by unfold jm;rw[j6,List.sum_append];simp
 obtain⟨s,o⟩:=st
 obtain⟨h1,h2,h3⟩:=ih
 dsimp only at h1 h2 h3
 unfold fJ
 dsimp only
 split
 ·refine⟨fun i hi=>?_,by simp;omega,fun g hg=>?_⟩
  ·have:=h1 i hi
   simp only[aN];omega
  ·rcases List.mem_append.1 hg with hg | hg
   ·have:=h3 g hg;omega
   ·rw[List.mem_singleton.1 hg];omega
 ·cases o with
  | none=>
   refine⟨fun i hi=>?_,by simp;omega,fun g hg=>?_⟩
   ·simp only[Cg] at hi
    simp only[aN,fe,List.length_nil];omega
   ·rcases List.mem_append.1 hg with hg | hg
    ·have:=h3 g hg;omega
    ·rw[List.mem_singleton.1 hg];omega
  | some i=>
   refine⟨fun j hj=>?_,by rw[List.length_modify];simp;omega,fun g hg=>?_⟩
   ·simp only[Cg] at hj
    rw[List.length_modify,←hj]
    exact h1 i rfl
   ·obtain⟨j,hj⟩:=List.mem_iff_getElem?.1 hg
    rw[List.getElem?_modify] at hj
    obtain⟨q,hq,e⟩:=Option.map_eq_some_iff.1 hj
    have xO:=h3 q (fq hq)
    rw[hv,←e]
    split
    ·have:=XI q.1.2 f.1.2
     unfold cj at this
     show (if f.1.2≠⟨#[]⟩∧q.1.2≠⟨#[]⟩ then q.1.2++KG++f.1.2 else q.1.2++f.1.2).size≤_
     omega
    ·omega
theorem Ye:∀(l:List Fd) (i:Nat) (v:Fd→ByteArray),i<l.length→∀g,l[i]?=some g→(fds l).set (i*3+1) (.string (v g))=fds (l.modify i fun g=>((g.1.1,v g),g.2))
 | [],i,v,h,g,hg=>by cases hg
 | f :: r,0,v,h,g,hg=>by
  obtain rfl:f=g:=by simpa using hg
  simp[Ij]
 | f :: r,i+1,v,h,g,hg=>by
  have ih:=Ye r i v (by simpa using h) g (by simpa using hg)
  rw[List.modify_succ_cons,Ij,Ij,←ih]
  rw[show (i+1)*3+1=(i*3+1)+1+1+1 by omega]
  rfl
def avV (o:Option Nat):Value:=match o with
 | none=>.int .i64 (-1)
 | some i=>.int .i64 i
def KS (w:World) (n:Nat) (l:List Fd) (ov av iv:Value) (wr:World):Prop:=∃k:Nat,iv = .int .i64 k∧k≤n∧av=avV ((l.take k).foldl fJ ([],none)).2∧bQ w ((l.take k).foldl fJ ([],none)).1 ov wr
theorem adt {A:Option Addr}{n c:Nat}{l:List Fd}(w:World) (hr:Rd w w.heap.size 3 A n (fds l)) (hn:n≤1048576) (hz:jm l≤140737488351232) :
 Calls Tryz.prog 210 #[.slice A n c] w (fun e w'=>∃v,e = .returned v∧bQ w (jw l) v w'):=by
 have H1:=af hr
 have HZ:=af hz
 clear hr hz
 go_enter Tryz.func210,Tryz.ntmps210
 go_wp2_with fail
 go_loopw [3,4,9] (fun ov av iv wr=>KS w n l ov av iv wr) (fun _ _ iv _=>n-(intOf iv).toNat)
 case atStart=>exact⟨0,rfl,aL _,rfl,xW (Below.refl _ _)⟩
 case round=>
  obtain⟨k,rfl,hk,rfl,hown⟩:=hrel
  have HO:=af hown
  have dZ:=hown.2.size
  clear hown
  by_cases hlt:k<n
  ·obtain⟨bf,b,o,rfl,hbl,hc⟩:=mE (H1.out.below HO.out.2 (ah _)) (by omega)
   obtain⟨f,hf⟩:∃f,l[k]?=some f:=⟨_,a_ (by omega)⟩
   obtain⟨z0,z1,z2⟩:=hc k f hf
   have n0:(k:Int)<n:=by omega
   have aY:b<wr.heap.size:=by omega
   have kM:=adr hf
   have hok:=XJ (l.take k)
   have hvk:=abq l (k+1)
   rw[ajv hf] at hvk
   obtain⟨⟨S,oi⟩,hS⟩:∃S,(l.take k).foldl fJ ([],none)=S:=⟨_,rfl⟩
   rw[hS] at kM hok HO ⊢
   dsimp only at HO ⊢
   have hSl:S.length≤k:=by have:=hok.len;rw[kS] at this;dsimp only at this;omega
   have gL:=af kM
   have jG:=af hok
   have HVK:=af hvk
   obtain⟨⟨nm,vl⟩,nv⟩:=f
   simp only at z0 z1 z2
   have HZS:=HZ.out
   obtain⟨q,hq⟩:∃q,wr.heap.size=q:=⟨_,rfl⟩
   have hb0:Below wr.heap.size wr (wr.alloc (.cells #[.string nm,.string vl,.bool nv] 26)):=(Below.refl _ _).alloc (ah _) _
   have hnew:=heap_alloc_new wr (.cells #[.string nm,.string vl,.bool nv] 26)
   obtain⟨W,hW⟩:∃W,wr.alloc (.cells #[.string nm,.string vl,.bool nv] 26)=W:=⟨_,rfl⟩
   have Cq:W.heap.size=q+1:=by rw[←hW,←hq];simp
   rw[hW] at hb0 hnew
   rw[hq] at hnew
   have y0:W.cell? ⟨q,0,none⟩=some (.string nm):=by unfold World.cell?;rw[hnew];rfl
   have y1:W.cell? ⟨q,1,none⟩=some (.string vl):=by unfold World.cell?;rw[hnew];rfl
   have y2:W.cell? ⟨q,2,none⟩=some (.bool nv):=by unfold World.cell?;rw[hnew];rfl
   have dW:=af hb0
   have HW:=af hW
   have HQ:=af (And.intro hq Cq)
   have hqW:q<W.heap.size:=by omega
   have hqr:wr.heap.size≤W.heap.size:=by omega
   clear hc hf bf kM hok hvk hS hb0 hnew hW Cq
   go_upto_region 7 with fail
   try rw[hq]
   try rw[HW.out]
   clear hq z0 z1 z2
   by_cases ko:nm=bK
   ·have e1:(nm.toList == [99,111,111,107,105,101])=true:=by rw[ko];decide +kernel
    have vN:=af ko
    clear ko
    cases oi with
    | none=>
     simp only[avV]
     obtain⟨A3,c3,hv3,-,-,-,-⟩:=aC HO.out.1
     rw[hv3] at HO ⊢
     clear hv3
     go_upto_region 11 with fail
     go_wp2_with (at_builtin;refine dI ?_)
     unfold Stop
     refine dQ (.tmp 36) (.tmp 38) j3 rfl rfl (EE HO.out dW.out _) rfl (Rd.rC _ _ _ _ _) rfl (by simp[Value.oneCell']) (bn (by omega)) (by omega) (by simp;omega) ?_
     intro v5 w5 bZ dR _
     have HN:Hid (KS w n l v5 (.int .i64 S.length) (.int .i64 (k+1:Nat)) w5):=af (by
      have hcs:fJ (S,none) ((nm,vl),nv)=(S++[((nm,vl),nv)],some S.length):=by unfold fJ;rw[aj (fun h=>h vN.out)]
      refine⟨k+1,rfl,hlt,?_,?_⟩
      ·rw[gL.out,hcs];rfl
      ·rw[gL.out,hcs]
       exact HO.out.app ((nm,vl),nv) dW.out _ bZ dR)
     obtain⟨A5,c5,fB,-,-,-,-⟩:=aC bZ
     rw[fB] at HN ⊢
     clear bZ dR fB
     go_wp2
     go_roundw
     case rel=>exact HN.out
     case measure=>simp[intOf];omega
    | some i=>
     have hil:=jG.out.at_ i rfl
     dsimp only at hil
     obtain⟨g,hg⟩:∃g,S[i]?=some g:=⟨_,a_ hil⟩
     have hgs:=jG.out.sz g (fq hg)
     have hown:W.ownsRow w.heap.size 26 3 u3 S.length (fds S):=d_ HO.out.1 (Kept.jk (F:=fun _=>False) dW.out) (fun _ _ h=>h)
     obtain⟨gb,cap,hv3,aeN,ve⟩:=hown.form (by omega)
     rw[hv3] at hown ⊢
     obtain⟨-,b3,o3,gp,-,hc3⟩:=mE (Rd.lJ hown) (by omega)
     have JB:gb=b3∧o3=0:=by injection gp with h;injection h with h1 h2;exact⟨h1,h2.symm⟩
     obtain⟨rfl,rfl⟩:=JB
     obtain⟨-,w1,-⟩:=hc3 i g hg
     rw[mh] at w1
     have fro:=World.ownsRow.frozenAt hown (i*3+1)
     have i0:¬((i:Int)<0):=by omega
     have i1:(i:Int)<S.length:=by omega
     have HI:=af (And.intro hil (And.intro hg hown))
     have HGB:=af (And.intro aeN (HO.out.2.trans (dW.out.mono dZ)))
     obtain⟨⟨gn,gv⟩,gx⟩:=g
     simp only at w1 hgs
     have hvl:vl.size≤140737488351232:=by have:=HVK.out;dsimp only at this;omega
     have hgz:gv.size≤140737488351232:=by have:=abq l k;omega
     have Ci:∀w',(Op.stringOp .add ⟨#[59,32]⟩ vl).run Tryz.prog w' = .ok (.string (⟨#[59,32]⟩ ++ vl)) w':=fun w'=>run_string_add_sum (P:=Tryz.prog) w' ⟨#[59,32]⟩ vl (by show 2+vl.size≤_;omega)
     have z_:∀w',(Op.stringOp .add gv (⟨#[59,32]⟩ ++ vl)).run Tryz.prog w' = .ok (.string (gv++(⟨#[59,32]⟩ ++ vl))) w':=fun w'=>run_string_add_sum (P:=Tryz.prog) w' gv (⟨#[59,32]⟩ ++ vl) (by rw[ByteArray.size_append];show gv.size+(2+vl.size)≤_;omega)
     have Lv:∀w',(Op.stringOp .add gv vl).run Tryz.prog w' = .ok (.string (gv++vl)) w':=fun w'=>run_string_add_sum (P:=Tryz.prog) w' gv vl (by omega)
     have HN:Hid (KS w n l (.slice (some ⟨gb,0,none⟩) S.length cap) (.int .i64 i) (.int .i64 (k+1:Nat)) (W.setCell ⟨gb,i*3+1,none⟩ (.string (cj gv vl))).drew):=af (by
      have hcs:fJ (S,some i) ((nm,vl),nv)=(S.modify i fun g=>((g.1.1,cj g.1.2 vl),g.2),some i):=by unfold fJ;rw[aj (fun h=>h vN.out)];rfl
      refine⟨k+1,rfl,hlt,?_,?_⟩
      ·rw[gL.out,hcs];rfl
      ·rw[gL.out,hcs]
       have hst:=(HI.out.2.2.stored (i*3+1) (.string (cj gv vl))).1
       rw[Ye S i (fun g=>cj g.1.2 vl) HI.out.1 _ HI.out.2.1] at hst
       refine⟨?_,(HGB.out.2.setCell (p:=⟨gb,i*3+1,none⟩) HGB.out.1 _).drew⟩
       rw[List.length_modify]
       exact hst)
     clear hg hown hc3 gp hgs hil hv3
     simp only[avV]
     by_cases hv0:vl=⟨#[]⟩
     ·have e2:(vl.toList == [])=true:=by rw[hv0];decide +kernel
      have hj:cj gv vl=gv++vl:=by unfold cj;rw[aj (fun h=>h.1 hv0)]
      rw[hj] at HN
      clear hv0 hj
      go_wp2_with fail
      go_region
      go_wp2
      go_roundw
      case rel=>exact HN.out
      case measure=>simp[intOf];omega
     ·obtain⟨e2,-,-⟩:=wU (s:=vl) (fun h=>hv0 (vG h))
      have j4:=af hv0
      clear hv0
      by_cases hg0:gv=⟨#[]⟩
      ·have e3:(gv.toList == [])=true:=by rw[hg0];decide +kernel
       have hj:cj gv vl=gv++vl:=by unfold cj;rw[aj (fun h=>h.2 hg0)]
       rw[hj] at HN
       clear hg0 hj
       go_wp2_with fail
       go_region
       go_wp2
       go_roundw
       case rel=>exact HN.out
       case measure=>simp[intOf];omega
      ·obtain⟨e3,-,-⟩:=wU (s:=gv) (fun h=>hg0 (vG h))
       have hj:cj gv vl=gv++(⟨#[59,32]⟩ ++ vl):=by unfold cj;rw[ax ⟨j4.out,hg0⟩,ByteArray.append_assoc];rfl
       rw[hj] at HN
       clear hg0 hj
       go_wp2_with fail
       go_region
       go_wp2
       go_roundw
       case rel=>exact HN.out
       case measure=>simp[intOf];omega
   ·have e1:=sG ko
    rw[show bK.toList=[99,111,111,107,105,101] from by decide +kernel] at e1
    go_wp2_with (at_builtin;refine dI ?_)
    unfold Stop
    refine dQ (.tmp 27) (.tmp 29) j3 rfl rfl (EE HO.out dW.out _) rfl (Rd.rC _ _ _ _ _) rfl (by simp[Value.oneCell']) (bn (by omega)) (by omega) (by simp;omega) ?_
    intro v5 w5 bZ dR _
    have HN:Hid (KS w n l v5 (avV oi) (.int .i64 (k+1:Nat)) w5):=af (by
     have hcs:fJ (S,oi) ((nm,vl),nv)=(S++[((nm,vl),nv)],oi):=by unfold fJ;rw[ax ko]
     refine⟨k+1,rfl,hlt,?_,?_⟩
     ·rw[gL.out,hcs]
     ·rw[gL.out,hcs]
      exact HO.out.app ((nm,vl),nv) dW.out _ bZ dR)
    obtain⟨A5,c5,fB,-,-,-,-⟩:=aC bZ
    rw[fB] at HN ⊢
    clear bZ dR fB ko
    go_wp2
    go_roundw
    case rel=>exact HN.out
    case measure=>simp[intOf];omega
  ·have hkn:k=n:=by omega
   have bf:l.length=n:=by have:=H1.out.1;rw[jJ] at this;omega
   have HE:Hid (bQ w (jw l) u3 wr):=af (by
    have h1:=HO.out
    rwa [cB (by omega)] at h1)
   clear bf
   subst hkn
   go_wp2
   go_ret
   exact⟨_,rfl,HE.out⟩
end
section
open Go.RowKit
def lN (V:ByteArray) (s:List Fd×Bool) (f:Fd):List Fd×Bool:=
 if gy f.1.1 || decide (f.1.1=aG) || (decide (f.1.1=bK) && s.2) then s
 else if f.1.1=bK then (s.1++[((f.1.1,V),f.2)],true)
 else (s.1++[f],s.2)
def nT (l:List Fd):List Fd:=bV (l.filter fun g=>!gy g.1.1)
theorem stepR_skip (V:ByteArray):∀(l:List Fd) (s:List Fd×Bool),l.foldl (lN V) s=(nT l).foldl (lN V) s
 | [],s=>rfl
 | f :: l,s=>by
  have ih:=stepR_skip V l
  rw[nD]
  by_cases hp:gy f.1.1=true
  ·have e:nT (f :: l)=nT l:=by unfold nT;simp[hp]
   rw[e,←ih]
   congr 1
   unfold lN
   simp[hp]
  ·by_cases hh:f.1.1=aG
   ·have e:nT (f :: l)=nT l:=by unfold nT bV;simp[hh]
    rw[e,←ih]
    congr 1
    unfold lN
    simp[hh]
   ·have e:nT (f :: l)=f :: nT l:=by unfold nT bV;simp[hp,hh]
    rw[e,nD,ih]
theorem ZT {l:List Fd}{f:Fd}(h:f ∈ nT l):gy f.1.1=false∧f.1.1≠aG∧f ∈ l:=by
 unfold nT bV at h
 obtain⟨h1,h2⟩:=List.mem_filter.1 h
 obtain⟨h3,h4⟩:=List.mem_filter.1 h1
 exact⟨by simpa using h4,by simpa using h2,h3⟩
theorem ZU (l:List Fd){j:ByteArray}(hj:gy j=false) (hh:j≠aG):aF (nT l) j=aF l j:=by
 unfold nT bV aF
 rw[List.filter_filter,List.filter_filter]
 congr 1
 refine List.filter_congr fun f _=>?_
 by_cases h:f.1.1=j
 ·simp[h,hj,hh]
 ·simp[h]
theorem Yk:∀r:List Fd,(∀f ∈ r,f.1.1≠bK)∨∃p c q,r=p++c :: q∧(∀f ∈ p,f.1.1≠bK)∧c.1.1=bK
 | []=>.inl fun f h=>by cases h
 | f :: r=>by
  by_cases hf:f.1.1=bK
  ·exact .inr ⟨[],f,r,rfl,fun f h=>(by cases h),hf⟩
  ·rcases Yk r with h | ⟨p,c,q,rfl,h1,h2⟩
   ·refine .inl fun g hg=>?_
    rcases List.mem_cons.1 hg with rfl | hg
    ·exact hf
    ·exact h g hg
   ·refine .inr ⟨f :: p,c,q,rfl,fun g hg=>?_,h2⟩
    rcases List.mem_cons.1 hg with rfl | hg
    ·exact hf
    ·exact h1 g hg
theorem Zo {α:Type}(g : α→α) (x : α) (z:List α):∀p:List α,(p++x :: z).modify p.length g=p++g x :: z
 | []=>by simp
 | y :: p=>by
  rw[oM,fe,List.modify_succ_cons,Zo g x z p]
  rfl
def qi (q:List Fd):List Fd:=q.filter fun g=>!decide (g.1.1=bK)
theorem Ov (p:List Fd) (nv:Bool):∀(q z:List Fd) (a:ByteArray),q.foldl fJ (p++((bK,a),nv) :: z,some p.length)=(p++((bK,(aF q bK).foldl cj a),nv) :: (z++qi q),some p.length)
 | [],z,a=>by simp[qi,aF]
 | f :: q,z,a=>by
  rw[nD]
  by_cases hf:f.1.1=bK
  ·have e:fJ (p++((bK,a),nv) :: z,some p.length) f=(p++((bK,cj a f.1.2),nv) :: z,some p.length):=by
    unfold fJ
    rw[aj (fun h=>h hf)]
    dsimp only
    rw[Zo]
    rfl
   rw[e,Ov p nv q z _]
   have e1:aF (f :: q) bK=f.1.2 :: aF q bK:=by unfold aF;simp[hf]
   have e2:qi (f :: q)=qi q:=by unfold qi;simp[hf]
   rw[e1,e2,nD]
  ·have e:fJ (p++((bK,a),nv) :: z,some p.length) f=(p++((bK,a),nv) :: (z++[f]),some p.length):=by
    unfold fJ
    rw[ax hf]
    simp
   rw[e,Ov p nv q _ a]
   have e1:aF (f :: q) bK=aF q bK:=by unfold aF;simp[hf]
   have e2:qi (f :: q)=f :: qi q:=by unfold qi;simp[hf]
   rw[e1,e2]
   simp
theorem VO (V:ByteArray) (m:Bool):∀(p a:List Fd),(∀f ∈ p,f.1.1≠bK∧gy f.1.1=false∧f.1.1≠aG)→p.foldl (lN V) (a,m)=(a++p,m)
 | [],a,_=>by simp
 | f :: p,a,h=>by
  obtain⟨h1,h2,h3⟩:=h f (iK ..)
  have e:lN V (a,m) f=(a++[f],m):=by unfold lN;simp[h1,h2,h3]
  rw[nD,e,VO V m p _ fun g hg=>h g (fH _ hg)]
  simp
theorem aaM (V:ByteArray):∀(q a:List Fd),(∀f ∈ q,gy f.1.1=false∧f.1.1≠aG)→q.foldl (lN V) (a,true)=(a++qi q,true)
 | [],a,_=>by simp[qi]
 | f :: q,a,h=>by
  obtain⟨h2,h3⟩:=h f (iK ..)
  have ih:=fun a=>aaM V q a fun g hg=>h g (fH _ hg)
  rw[nD]
  by_cases hf:f.1.1=bK
  ·have e:lN V (a,true) f=(a,true):=by unfold lN;simp[hf]
   have e2:qi (f :: q)=qi q:=by unfold qi;simp[hf]
   rw[e,ih,e2]
  ·have e:lN V (a,true) f=(a++[f],true):=by unfold lN;simp[hf,h2,h3]
   have e2:qi (f :: q)=f :: qi q:=by unfold qi;simp[hf]
   rw[e,ih,e2]
   simp
theorem ada (v:ByteArray):cj ⟨#[]⟩ v=v:=by
 unfold cj
 rw[aj (fun h=>h.2 rfl)]
 exact ByteArray.empty_append
theorem aiH (l:List Fd):(l.foldl (lN (qf (aF l bK))) ([],false)).1=jw (nT l):=by
 rw[stepR_skip,←ZU l (j:=bK) (by decide +kernel) (by decide +kernel)]
 have hm:∀f ∈ nT l,gy f.1.1=false∧f.1.1≠aG:=fun f hf=>⟨(ZT hf).1,(ZT hf).2.1⟩
 obtain⟨r,hr⟩:∃r,nT l=r:=⟨_,rfl⟩
 rw[hr] at hm ⊢
 clear hr
 rcases Yk r with h | ⟨p,c,q,rfl,h1,h2⟩
 ·rw[XP h,VO _ _ r [] fun f hf=>⟨h f hf,hm f hf⟩]
  rfl
 ·have e1:aF (p++c :: q) bK=c.1.2 :: aF q bK:=by
   rw[V6]
   have e0:aF p bK=[]:=by
    unfold aF
    rw[List.map_eq_nil_iff,List.filter_eq_nil_iff]
    intro f hf
    simpa using h1 f hf
   rw[e0]
   unfold aF
   simp[h2]
  have hj:qf (c.1.2 :: aF q bK)=(aF q bK).foldl cj c.1.2:=by
   unfold qf
   rw[nD,ada]
  obtain⟨⟨cn,cv⟩,cb⟩:=c
  dsimp only at h2
  subst h2
  have hc:=hm ((bK,cv),cb) (by simp)
  rw[e1,hj]
  have e2:fJ (p,none) ((bK,cv),cb)=(p++[((bK,cv),cb)],some p.length):=by unfold fJ;rw[aj (fun h=>h rfl)]
  have hR:jw (p++((bK,cv),cb) :: q)=p++((bK,(aF q bK).foldl cj cv),cb) :: qi q:=by
   unfold jw
   rw[og,nD,Ox p [] h1,jQ,e2,Ov p cb q [] cv,jQ]
  rw[hR]
  dsimp only
  obtain⟨V,hV⟩:∃V,(aF q bK).foldl cj cv=V:=⟨_,rfl⟩
  rw[hV,og,nD,VO V false p [] fun f hf=>⟨h1 f hf,hm f (by simp[hf])⟩,jQ]
  have e3:lN V (p,false) ((bK,cv),cb)=(p++[((bK,V),cb)],true):=by unfold lN;simp[hc]
  rw[e3,aaM V q _ fun f hf=>hm f (by simp[hf])]
  simp
theorem afc (l:List Fd):dn (nT l)=dn l:=by
 unfold dn
 rw[ZU l (j:=bu) (by decide +kernel) (by decide +kernel)]
end
end Go.Proofs.YtpkmciohehaboaaGreatDoor
