/- Part 13 of the proof. -/
import Derived.Test.YtpkmciohehaboaaGreatDoorK0
import Derived.Test.YtpkmciohehaboaaGreatDoorK12
set_option maxRecDepth 100000
set_option maxHeartbeats 100000000
set_option linter.unusedVariables false
set_option linter.unusedSimpArgs false
set_option linter.unusedSectionVars false
set_option linter.unnecessarySimpa false
namespace Go.Proofs.YtpkmciohehaboaaGreatDoor
section
open Go.RowKit
def zz (c:UInt8):Bool:=decide (33≤c.toNat∧c.toNat≤126∧c.toNat≠35)
def EJ:ByteArray:=⟨#[42]⟩
def GX:ByteArray:=⟨#[79,80,84,73,79,78,83]⟩
def wR (s m:ByteArray):Bool:=if s=EJ then decide (m=GX) else s.data.toList.all zz && Lib.hasPrefix s.data.toList [47]
def Lp (l:List UInt8) (n:Nat) (iv:Value):Prop:=∃k:Nat,iv = .int .i64 k∧k≤n∧(l.take k).all zz=true
theorem agL (s m:ByteArray) (w:World) (hs:s.size≤140737488355328):Calls Tryz.prog 207 #[.string s,.string m] w fun e w'=>e = .returned (.bool (wR s m))∧w=w':=by
 obtain⟨R,hR⟩:∃R,wR s m=R:=⟨_,rfl⟩
 rw[hR]
 unfold wR at hR
 by_cases hst:s=EJ
 ·rw[ax hst] at hR
  have e0:(s.toList == [42])=true:=by rw[hst];decide +kernel
  by_cases hm:m=GX
  ·have e1:(m.toList == [79,80,84,73,79,78,83])=true:=by rw[hm];decide +kernel
   have hr:R=true:=by rw[←hR];simp[hm]
   subst hr
   clear hR hst hm
   go_enter Tryz.func207,Tryz.ntmps207
   go_wp2_with fail
   go_ret
   exact⟨rfl,rfl⟩
  ·have e1:=sG hm
   rw[show GX.toList=[79,80,84,73,79,78,83] from by decide +kernel] at e1
   have hr:R=false:=by rw[←hR];simp[hm]
   subst hr
   clear hR hst hm
   go_enter Tryz.func207,Tryz.ntmps207
   go_wp2_with fail
   go_ret
   exact⟨rfl,rfl⟩
 ·rw[aj hst] at hR
  have e0:=sG hst
  rw[show EJ.toList=[42] from by decide +kernel] at e0
  have HP:=af (fun w=>Any.strings_HasPrefix Tryz.lays99 s ⟨#[47]⟩ w)
  have hl47:(⟨#[47]⟩:ByteArray).data.toList=[47]:=rfl
  rw[hl47] at HP
  have aQ:=lX s
  have hlen:=gJ s
  obtain⟨l,hl⟩:∃l,s.data.toList=l:=⟨_,rfl⟩
  rw[hl] at aQ hlen hR HP
  obtain⟨n,hn⟩:∃n,s.size=n:=⟨_,rfl⟩
  have HL:=af hlen
  have HR:=af hR
  have HN:=af hn
  clear hlen hl hR hst hl47 hn
  go_enter Tryz.func207,Tryz.ntmps207
  go_wp2_with fail
  go_loop [12] (fun iv=>Lp l n iv) (fun iv=>n-(intOf iv).toNat)
  case atStart=>exact⟨0,rfl,aL _,rfl⟩
  case round=>
   obtain⟨k,rfl,hk,hall⟩:=hrel
   have dM:=af hall
   clear hall
   by_cases hlt:k<n
   ·have hks:k<s.size:=by have:=HN.out;omega
    have hkl:k<l.length:=by rw[HL.out];exact hks
    have k1:(k:Int)<s.size:=by omega
    have h_:=aQ k hks
    have hb:ba l k=(l[k]).toNat:=kH hkl
    have HB:=af hb
    obtain⟨c,hc⟩:∃c,ba l k=c:=⟨_,rfl⟩
    rw[hc] at h_
    have HC:=af hc
    have cZ:Hid (¬(33≤c∧c≤126∧c≠35)→R=false):=af (fun h=>by
     rw[←HR.out,xu hkl (by unfold zz;rw[←HB.out,HC.out];simp;omega),Bool.false_and])
    clear aQ hb hc
    by_cases Cm:c<33
    ·have i1:(c:Int)<33:=by omega
     have hr:=cZ.out (by omega)
     subst hr
     go_wp2_with fail
     go_ret
     exact⟨rfl,rfl⟩
    ·have i1:¬((c:Int)<33):=by omega
     by_cases OP : 126<c
     ·have i2:(c:Int) > 126:=by omega
      have hr:=cZ.out (by omega)
      subst hr
      go_wp2_with fail
      go_ret
      exact⟨rfl,rfl⟩
     ·have i2:¬((c:Int) > 126):=by omega
      by_cases h35:c=35
      ·have i3:((c:Int)==35)=true:=by rw[h35];rfl
       have hr:=cZ.out (by omega)
       subst hr
       clear h35
       go_wp2_with fail
       go_ret
       exact⟨rfl,rfl⟩
      ·have i3:((c:Int)==35)=false:=by simp;omega
       have HE:Hid (Lp l n (.int .i64 (k+1:Nat))):=af ⟨k+1,rfl,hlt,v_ dM.out hkl (by unfold zz;rw[←HB.out,HC.out];simp;omega)⟩
       go_wp2_with fail
       go_round
       case rel=>exact HE.out
       case measure=>simp[intOf];have:=HN.out;omega
   ·have hkn:k=s.size:=by have:=HN.out;omega
    have kK:l.all zz=true:=by
     have h1:=dM.out
     rwa [cB (by rw[HL.out];omega)] at h1
    have hr:Lib.hasPrefix l [47]=R:=by rw[←HR.out,kK,zF]
    rw[hr] at HP
    clear aQ hr kK
    subst hkn
    go_wp2_with fail
    refine (HP.out _).mono ?_
    rintro e w1 ⟨rfl,rfl⟩
    go_wp2
    go_ret
    exact⟨rfl,rfl⟩
def Ey:List UInt8:=[46,45,91,93]
def SK (v:Nat):Bool:=decide ((97≤v∧v≤122)∨(65≤v∧v≤90))
def tK (c:UInt8):Bool:=SK c.toNat || decide (48≤c.toNat∧c.toNat≤58) || Ey.contains c
def jW (s:ByteArray):Bool:=s.data.toList.all tK && decide (s.data.toList≠[])
theorem agu:∀v:Nat,v<256→Go.bits .or .u8 (v:Int) 32=(((Go.bits .or .u8 (v:Int) 32).toNat:Nat):Int)∧SK v=(decide (¬(Go.bits .or .u8 (v:Int) 32).toNat<97) && decide (¬122<(Go.bits .or .u8 (v:Int) 32).toNat) && decide (¬v<65)):=by decide +kernel
def KR (l:List UInt8) (n:Nat) (iv:Value):Prop:=∃k:Nat,iv = .int .i64 k∧k≤n∧(l.take k).all tK=true
theorem Xl (s:ByteArray) (w:World) (hs:s.size≤140737488355328):Calls Tryz.prog 219 #[.string s] w fun e w'=>e = .returned (.bool (jW s))∧w=w':=by
 obtain⟨R,hR⟩:∃R,jW s=R:=⟨_,rfl⟩
 rw[hR]
 unfold jW at hR
 have aQ:=lX s
 have hlen:=gJ s
 obtain⟨l,hl⟩:∃l,s.data.toList=l:=⟨_,rfl⟩
 rw[hl] at aQ hlen hR
 obtain⟨n,hn⟩:∃n,s.size=n:=⟨_,rfl⟩
 have HL:=af (And.intro hlen hl)
 have HR:=af hR
 have HN:=af hn
 clear hlen hl hR hn
 go_enter Tryz.func219,Tryz.ntmps219
 go_wp2_with fail
 go_loop [7] (fun iv=>KR l n iv) (fun iv=>n-(intOf iv).toNat)
 case atStart=>exact⟨0,rfl,aL _,rfl⟩
 case round=>
  obtain⟨k,rfl,hk,hall⟩:=hrel
  have dM:=af hall
  clear hall
  by_cases hlt:k<n
  ·have hks:k<s.size:=by have:=HN.out;omega
   have hkl:k<l.length:=by rw[HL.out.1];exact hks
   have k1:(k:Int)<s.size:=by omega
   have h_:=aQ k hks
   have hb:ba l k=(l[k]).toNat:=kH hkl
   have Mi:ba l k<256:=by rw[hb];exact UInt8.toNat_lt _
   have HI:=af (Any.strings_IndexByte Tryz.lays137 ⟨Ey.toArray⟩ ((ba l k:Nat):Int) w)
   have hcc:(((ba l k:Nat):Int)).toNat.toUInt8=l[k]:=by rw[hb];simp
   have hl4:(⟨Ey.toArray⟩:ByteArray).data.toList=Ey:=rfl
   rw[hcc,hl4] at HI
   have hm:=Lib.contains_iff_indexByte Ey (l[k])
   have hge:=Lib.indexByte_ge Ey (l[k])
   obtain⟨i,hi⟩:∃i,Lib.indexByte Ey (l[k])=i:=⟨_,rfl⟩
   rw[hi] at HI hm hge
   obtain⟨c,hc⟩:∃c,ba l k=c:=⟨_,rfl⟩
   have hau:tK (l[k])=(SK c || decide (48≤c∧c≤58) || decide (0≤i)):=by unfold tK;rw[hm,←hb,hc]
   rw[hc] at h_ Mi HI
   obtain⟨su,jh⟩:=agu c Mi
   obtain⟨o,ho⟩:∃o,(Go.bits .or .u8 (c:Int) 32).toNat=o:=⟨_,rfl⟩
   rw[ho] at su jh
   have HE:Hid (tK (l[k])=true→KR l n (.int .i64 (k+1:Nat))):=af (fun h=>⟨k+1,rfl,hlt,v_ dM.out hkl h⟩)
   have cZ:Hid (tK (l[k])=false→R=false):=af (fun h=>by rw[←HR.out,xu hkl h,Bool.false_and])
   rw[hau,jh] at HE cZ
   unfold Ey at HI
   clear aQ hb hcc hl4 hm hi hc hau ho jh
   by_cases JW:¬o<97∧¬122<o∧¬c<65
   ·obtain⟨a1,a2,a3⟩:=JW
    have jP:=af (HE.out (by simp[a1,a2,a3]))
    have i1:¬((o:Int)<97):=by omega
    have i2:¬((o:Int) > 122):=by omega
    have i3:¬((c:Int)<65):=by omega
    clear HE cZ a1 a2 a3 hge
    go_wp2_with fail
    go_round
    case rel=>exact jP.out
    case measure=>simp[intOf];have:=HN.out;omega
   ·have iE:(decide (¬o<97) && decide (¬122<o) && decide (¬c<65))=false:=by
     rw[Bool.eq_false_iff]
     intro h
     simp at h
     exact JW ⟨by omega,by omega,by omega⟩
    rw[iE] at HE cZ
    have oV:(o:Int)<97∨(¬((o:Int)<97)∧(o:Int) > 122)∨(¬((o:Int)<97)∧¬((o:Int) > 122)∧(c:Int)<65):=by omega
    by_cases Ml : 48≤c∧c≤58
    ·have jP:=af (HE.out (by simp[Ml]))
     have i4:¬((c:Int)<48):=by omega
     have i5:¬((c:Int) > 58):=by omega
     clear HE cZ hge iE JW Ml
     rcases oV with h | ⟨h,h'⟩ | ⟨h,h',h''⟩
     all_goals
      go_wp2_with fail
      go_round
      case rel=>exact jP.out
      case measure=>simp[intOf];have:=HN.out;omega
    ·have YD:(c:Int)<48∨(¬((c:Int)<48)∧(c:Int) > 58):=by omega
     by_cases hix : 0≤i
     ·have jP:=af (HE.out (by simp[hix]))
      have i6:¬(i<0):=by omega
      clear HE cZ hge iE JW Ml
      rcases oV with h | ⟨h,h'⟩ | ⟨h,h',h''⟩
      all_goals
       rcases YD with g | ⟨g,g'⟩
       all_goals
        go_wp2_with fail
        refine HI.out.mono ?_
        rintro e w1 ⟨rfl,rfl⟩
        go_wp2_with fail
        go_round
        case rel=>exact jP.out
        case measure=>simp[intOf];have:=HN.out;omega
     ·have hr:=cZ.out (by simp[hix];omega)
      subst hr
      have i6:i<0:=by omega
      clear HE cZ hge iE JW Ml
      rcases oV with h | ⟨h,h'⟩ | ⟨h,h',h''⟩
      all_goals
       rcases YD with g | ⟨g,g'⟩
       all_goals
        go_wp2_with fail
        refine HI.out.mono ?_
        rintro e w1 ⟨rfl,rfl⟩
        go_wp2_with fail
        go_ret
        exact⟨rfl,rfl⟩
  ·have hkn:k=s.size:=by have:=HN.out;omega
   have kK:l.all tK=true:=by
    have h1:=dM.out
    rwa [cB (by rw[HL.out.1];omega)] at h1
   have hr:R=decide (l≠[]):=by rw[←HR.out,kK,zF]
   clear aQ kK
   by_cases he:l=[]
   ·have GI:s=⟨#[]⟩:=vG (HL.out.2.trans he)
    have hr2:R=false:=by rw[hr];simp[he]
    subst hr2
    clear hr he
    subst GI
    subst hkn
    go_wp2_with fail
    go_ret
    exact⟨rfl,rfl⟩
   ·obtain⟨e1,-,-⟩:=wU (s:=s) (by rw[HL.out.2];exact he)
    have hr2:R=true:=by rw[hr];simp[he]
    subst hr2
    clear hr he
    subst hkn
    go_wp2_with fail
    go_ret
    exact⟨rfl,rfl⟩
end
section
open Go.RowKit
def aG:ByteArray:=⟨#[104,111,115,116]⟩
def bV (l:List Fd):List Fd:=l.filter fun f=>!decide (f.1.1=aG)
theorem ahz {l:List Fd}{k:Nat}{f:Fd}(h:l[k]?=some f):bV (l.take (k+1))=bV (l.take k)++(if f.1.1=aG then [] else [f]):=by
 rw[iw,h,iL]
 unfold bV
 rw[List.filter_append]
 congr 1
 by_cases hn:f.1.1=aG <;> simp[hn]
theorem aam (l:List Fd):(bV l).length≤l.length:=List.length_filter_le _ _
def sI (v:Value) (vs:List ByteArray):dx:=aD 9 1 v vs.length (strs vs)
def lM (v:Value) (l:List Fd):dx:=aD 26 3 v l.length (fds l)
def NS (w:World) (n:Nat) (l:List Fd) (ov rv iv:Value) (wr:World):Prop:=∃k:Nat,iv = .int .i64 k∧k≤n∧All w.heap.size wr [sI ov (aF (l.take k) aG),lM rv (bV (l.take k))]∧Below w.heap.size w wr
theorem ZM {w:World}{B:Nat}{t:TypeId}{size n:Nat}{v:Value}{xs:List Value}(h:w.ownsRow 0 t size v n xs) (hb:∀b,v.ownBlock=some b→B≤b):w.ownsRow B t size v n xs:=by
 rcases h with ⟨hl,h0 | ⟨g,cap,cur,hv,hg,hbk,h3⟩⟩
 ·exact⟨hl,.inl h0⟩
 ·exact⟨hl,.inr ⟨g,cap,cur,hv,hb g (by rw[hv];rfl),hbk,h3⟩⟩
theorem aeU {A:Option Addr}{n c:Nat}{l:List Fd}(w:World) (hr:Rd w w.heap.size 3 A n (fds l)) (hn:n≤1048576) :
 Calls Tryz.prog 208 #[.slice A n c] w (fun e w'=>∃ov rv,e = .returned (.tuple #[ov,rv])∧All w.heap.size w' [sI ov (aF l aG),lM rv (bV l)]∧Below w.heap.size w w'):=by
 have H1:=af hr
 clear hr
 go_enter Tryz.func208,Tryz.ntmps208
 go_wp2_with fail
 go_loopw [4,5,10] (fun ov rv iv wr=>NS w n l ov rv iv wr) (fun _ _ iv _=>n-(intOf iv).toNat)
 case atStart=>exact⟨0,rfl,aL _,((All.nil w).new (c':=lM (.slice none 0 0) []) (Below.refl _ _) (World.ownsRow_nil _ _ _ _) (fun b hb=>by cases hb)).new (c':=sI (.slice none 0 0) []) (Below.refl _ _) (World.ownsRow_nil _ _ _ _) (fun b hb=>by cases hb),Below.refl _ _⟩
 case round=>
  obtain⟨k,rfl,hk,hall,hb⟩:=hrel
  have HO:=af (And.intro hall hb)
  have dZ:=hb.size
  clear hall hb
  by_cases hlt:k<n
  ·obtain⟨hl,b,o,rfl,hbl,hc⟩:=mE (H1.out.below HO.out.2 (ah _)) (by omega)
   obtain⟨f,hf⟩:∃f,l[k]?=some f:=⟨_,a_ (by omega)⟩
   obtain⟨z0,z1,z2⟩:=hc k f hf
   have n1:(k:Int)<n:=by omega
   have HS:=af (And.intro (V7 hf aG) (ahz hf))
   have hvl:=I9 (l.take k) aG
   have hrl:=aam (l.take k)
   rw[kS] at hvl hrl
   have aY:b<wr.heap.size:=by omega
   clear hc hf hl
   obtain⟨⟨nm,vl⟩,nv⟩:=f
   simp only at z0 z1 z2 HS
   have bM:Hid (∀o1,All w.heap.size (wr.alloc o1) [sI u4 (aF (l.take k) aG),lM u5 (bV (l.take k))]):=af (fun o1=>HO.out.1.below ((Below.refl _ _).alloc (ah _) o1))
   have bH:Hid (∀o1,Below w.heap.size w (wr.alloc o1)):=af (fun o1=>HO.out.2.alloc dZ o1)
   by_cases hnm:nm=aG
   ·have e1:(nm.toList == [104,111,115,116])=true:=by rw[hnm];decide +kernel
    have fZ:Hid (aF (l.take (k+1)) aG=aF (l.take k) aG++[vl]∧bV (l.take (k+1))=bV (l.take k)):=af (by
     obtain⟨h1,h2⟩:=HS.out
     rw[ax hnm] at h1 h2
     exact⟨h1,by rw[h2,kR]⟩)
    clear hnm HS
    go_wp2_with (at_builtin;refine dI ?_)
    unfold Stop
    have hrd:=Rd.one (wr.alloc (.cells #[.string nm,.string vl,.bool nv] 26)) (.string vl) 9
    rw[World.size_alloc] at hrd
    refine dQ (.tmp 17) (.tmp 20) Db rfl rfl ((bM.out _).below ((Below.refl _ _).alloc (ah _) _)).head rfl hrd rfl (by simp[Value.oneCell']) (bn (by omega)) (by omega) (aL _) ?_
    intro v6 w6 dK gu dO
    obtain⟨iy,iW⟩:=((bM.out _).below ((Below.refl _ _).alloc (ah _) _)).app dK gu dO
    obtain⟨A6,c6,kN,-,-,-,-⟩:=aC dK
    have HN:Hid (NS w n l v6 u5 (.int .i64 (k+1:Nat)) w6):=af (by
     refine⟨k+1,rfl,hlt,?_,((bH.out _).alloc (by simp;omega) _).trans iW⟩
     rw[fZ.out.1,fZ.out.2]
     have e:sI v6 (aF (l.take k) aG++[vl])=aD 9 1 v6 ((aF (l.take k) aG).length+1) (strs (aF (l.take k) aG)++[.string vl]):=by unfold sI;rw[aN,I6];rfl
     rw[e]
     exact iy)
    rw[kN] at HN ⊢
    clear dK gu dO iy iW kN
    go_wp2
    go_roundw
    case rel=>exact HN.out
    case measure=>simp[intOf];omega
   ·have e1:=sG hnm
    rw[show aG.toList=[104,111,115,116] from by decide +kernel] at e1
    have fZ:Hid (aF (l.take (k+1)) aG=aF (l.take k) aG∧bV (l.take (k+1))=bV (l.take k)++[((nm,vl),nv)]):=af (by
     obtain⟨h1,h2⟩:=HS.out
     rw[aj hnm] at h1 h2
     exact⟨by rw[h1,kR],h2⟩)
    clear hnm HS
    go_wp2_with (at_builtin;refine dI ?_)
    unfold Stop
    have hrd:=Rd.rC (wr.alloc (.cells #[.string nm,.string vl,.bool nv] 26)) (.string nm) (.string vl) (.bool nv) 26
    rw[World.size_alloc] at hrd
    refine dQ (.tmp 22) (.tmp 24) j3 rfl rfl (((bM.out _).below ((Below.refl _ _).alloc (ah _) _)).pick [_]).head rfl hrd rfl (by simp[Value.oneCell']) (bn (by omega)) (by omega) (aL _) ?_
    intro v6 w6 dK gu dO
    obtain⟨iy,iW⟩:=(((bM.out _).below ((Below.refl _ _).alloc (ah _) _)).pick [_]).app dK gu dO
    obtain⟨A6,c6,kN,-,-,-,-⟩:=aC dK
    have HN:Hid (NS w n l u4 v6 (.int .i64 (k+1:Nat)) w6):=af (by
     refine⟨k+1,rfl,hlt,?_,((bH.out _).alloc (by simp;omega) _).trans iW⟩
     rw[fZ.out.1,fZ.out.2]
     have e:lM v6 (bV (l.take k)++[((nm,vl),nv)])=aD 26 3 v6 ((bV (l.take k)).length+1) (fds (bV (l.take k))++[.string nm,.string vl,.bool nv]):=by unfold lM;rw[aN,oP];rfl
     rw[e]
     exact iy.pick [_])
    rw[kN] at HN ⊢
    clear dK gu dO iy iW kN
    go_wp2
    go_roundw
    case rel=>exact HN.out
    case measure=>simp[intOf];omega
  ·have hkn:k=n:=by omega
   have bf:l.length=n:=by have:=H1.out.1;rw[jJ] at this;omega
   have HE:Hid (All w.heap.size wr [sI u4 (aF l aG),lM u5 (bV l)]∧Below w.heap.size w wr):=af (by
    have h1:=HO.out
    rwa [cB (by omega)] at h1)
   subst hkn
   clear bf
   go_wp2
   exact bodyPost_ret (v:=.tuple #[u4,u5]) (by simp[results,Tryz.results208,go_sem]) rfl ⟨_,_,rfl,HE.out.1,HE.out.2⟩
end
section
open Go.RowKit Go.Maps
def iM:ByteArray:=⟨#[58,97,117,116,104,111,114,105,116,121]⟩
def vZ (a:Option ByteArray) (hs:List ByteArray):List ByteArray:=hs++a.toList
def oF (t:ByteArray) (h:ByteArray):Bool:=jW h && dL h.data.toList t.data.toList
def iX (a:Option ByteArray) (hs:List ByteArray):ByteArray×Nat:=
 if 1<hs.length then (⟨#[]⟩,101) else match vZ a hs with
  | []=>(⟨#[]⟩,100)
  | t :: r=>if (t :: r).all (oF t) then (aJ (aO t.data.toList),0) else (⟨#[]⟩,100)
def Lm (w1:World) (n:Nat) (L:List ByteArray) (t:ByteArray) (iv:Value) (wr:World):Prop:=∃k:Nat,iv = .int .i64 (k:Nat)∧k≤n∧Below w1.heap.size w1 wr∧(L.take k).all (oF t)=true
theorem Xe {α:Type}{f : α→Bool}{l:List α}{k:Nat}{x : α}(h:l[k]?=some x) (h0:(l.take k).all f=true) (hx:f x=true):(l.take (k+1)).all f=true:=by
 rw[iw,h,iL,List.all_append,h0]
 simp[hx]
theorem Js {α:Type}{f : α→Bool}{l:List α}{k:Nat}{x : α}(h:l[k]?=some x) (hx:f x=false):l.all f=false:=by
 rw[Bool.eq_false_iff]
 intro h1
 rw[tC] at h1
 have:=h1 x (fq h)
 rw[hx] at this
 cases this
def abV (B:Nat) (w:World) (cs:List dx) (R:ByteArray×Nat) (e:Ending) (w':World):Prop:=e = .returned (.tuple #[.string R.1,.int .i64 (R.2:Int)])∧Below B w w'∧All B w' cs
theorem agT {B mb N k0:Nat}{hv:Value}{hs:List ByteArray}{cs:List dx}{f:ByteArray→Option ByteArray}(w:World) (h:All B w (sI hv hs :: cs)) (hm:bq Ex w mb N f k0)
 (hz:∀s ∈ hs,s.size≤140737488351232) (hz2:∀s,f iM=some s→s.size≤140737488351232) (hn:hs.length≤1048576) :
 Calls Tryz.prog 209 #[.map (some mb),hv] w (abV B w cs (iX (f iM) hs)):=by
 obtain⟨R,hR⟩:∃R,iX (f iM) hs=R:=⟨_,rfl⟩
 rw[hR]
 have hlk:=hm.look IP (i:=iM) (by show iM.size≤maxLen;decide +kernel)
 obtain⟨F,hF⟩:∃F,f iM=F:=⟨_,rfl⟩
 rw[hF] at hR hlk hz2
 have JX:(Instr.lookup 83 (.map (some mb)) (.string ⟨#[58,97,117,116,104,111,114,105,116,121]⟩) true).run Tryz.prog w = .ok (.tuple #[.agg #[.string (F.getD ⟨#[]⟩)],.bool F.isSome]) w:=hlk
 have HA:=af h
 have HR:=af hR
 have HZ:=af hz
 have HZ2:=af hz2
 obtain⟨A0,c0,hv0,-,-,Iz,-⟩:=aC h.head
 have HV:=af hv0
 have NN:=af Iz
 have jF:=af ((Below.refl B w).alloc h.sz)
 rw[hv0]
 clear h hm hlk hR hz hz2 hF hv0 Iz
 by_cases h1 : 1<hs.length
 ·have i1:((hs.length:Int) > 1):=by omega
  have hr:R=(⟨#[]⟩,101):=by rw[←HR.out];unfold iX;rw[ax h1]
  subst hr
  clear JX HR
  go_enter Tryz.func209,Tryz.ntmps209
  go_wp2_with fail
  go_ret2
  exact⟨rfl,Below.refl _ _,HA.out.tail⟩
 ·have i1:¬((hs.length:Int) > 1):=by omega
  have oC:=HR.out
  unfold iX at oC
  rw[aj h1] at oC
  have fU:=af oC
  clear oC HR
  cases F with
  | none=>
   have HAP:Hid (vZ none hs=hs):=af (by simp[vZ])
   simp only[Option.getD_none,Option.isSome_none] at JX
   by_cases hne:hs.length=0
   ·have hnil:hs=[]:=zR hne
    have hr:R=(⟨#[]⟩,100):=by rw[←fU.out,HAP.out,hnil]
    subst hr
    have i2:((hs.length:Int)==0)=true:=by rw[hne];rfl
    clear hnil hne
    go_enter Tryz.func209,Tryz.ntmps209
    go_wp2_with fail
    go_ret2
    exact⟨rfl,jF.out _,HA.out.tail.below ((Below.refl _ _).alloc (ah _) _)⟩
   ·have i2:((hs.length:Int)==0)=false:=by rw[fO];omega
    obtain⟨t,r,hL⟩:∃t r,hs=t :: r:=by
     cases hs with
     | nil=>exact absurd rfl hne
     | cons t r=>exact⟨t,r,rfl⟩
    have FC:Hid ((if (t :: r).all (oF t)=true then (aJ (aO t.data.toList),0) else ((⟨#[]⟩:ByteArray),100))=R):=af (by rw[←fU.out,HAP.out,hL])
    have f_:Hid (∀s ∈ hs,s.size≤140737488351232):=HZ
    have Fz:Hid (Rd (w.alloc (.cells #[.string ⟨#[]⟩] 87)) (w.alloc (.cells #[.string ⟨#[]⟩] 87)).heap.size 1 A0 hs.length (strs hs)):=af ((NN.out.alloc (ah _) _).more (by simp))
    have gY:Hid (All B (w.alloc (.cells #[.string ⟨#[]⟩] 87)) cs∧Below B w (w.alloc (.cells #[.string ⟨#[]⟩] 87))):=af ⟨HA.out.tail.below ((Below.refl _ _).alloc (ah _) _),jF.out _⟩
    have hnL : 0<hs.length:=by omega
    obtain⟨L,Cn⟩:∃L,hs=L:=⟨_,rfl⟩
    obtain⟨nL,hnl⟩:∃nL,hs.length=nL:=⟨_,rfl⟩
    rw[hnl] at Fz hnL i1 i2 hn ⊢
    rw[Cn] at Fz f_ hnl
    rw[hL] at Cn
    have HL:Hid (L=t :: r):=af Cn.symm
    clear hL Cn hne fU HAP HZ2 NN HV HA HZ h1
    go_enter Tryz.func209,Tryz.ntmps209
    go_wp2_with fail
    generalize (w.alloc (.cells #[.string ⟨#[]⟩] 87))=W1 at *
    go_loopw [29] (fun iv wr=>Lm W1 nL L t iv wr) (fun iv _=>nL-(intOf iv).toNat)
    case atStart=>exact⟨0,rfl,aL _,Below.refl _ _,by simp⟩
    case round=>
     obtain⟨k,rfl,hk,hb,hall⟩:=hrel
     have HB:=af hb
     have dM:=af hall
     have dZ:=hb.size
     obtain⟨hl,b,o,rfl,hbl,hc⟩:=BF (Fz.out.below hb (ah _)) hnL
     have z0:=hc 0 t (by rw[HL.out];rfl)
     rw[Nat.add_zero] at z0
     have aY:b<wr.heap.size:=by omega
     have HTS:=f_.out t (by rw[HL.out];exact iK ..)
     clear hall
     by_cases hlt:k<nL
     ·obtain⟨s,hs2⟩:∃s,L[k]?=some s:=⟨_,a_ (by omega)⟩
      have z1:=hc k s hs2
      have n1:(k:Int)<nL:=by omega
      have GJ:=f_.out s (fq hs2)
      have EY:=af (Xl s wr (by omega))
      have pQ:=af (KE s t wr (by omega) (by omega))
      have HK:=af hs2
      clear hc hs2 hl hb
      obtain⟨a1,ha1⟩:∃a1,jW s=a1:=⟨_,rfl⟩
      have bM:=af ha1
      rw[ha1] at EY
      clear ha1
      go_wp2_with fail
      refine EY.out.mono ?_
      rintro e w2 ⟨rfl,rfl⟩
      cases a1 with
      | false=>
       have hr:R=(⟨#[]⟩,100):=by
        rw[←FC.out,aj]
        rw[←HL.out,Js HK.out (by unfold oF;rw[bM.out,Bool.false_and])]
        simp
       subst hr
       go_wp2_with fail
       go_ret2
       exact⟨rfl,gY.out.2.trans (HB.out.mono gY.out.1.sz),gY.out.1.below HB.out⟩
      | true=>
       obtain⟨s1,hs1⟩:∃s1,dL s.data.toList t.data.toList=s1:=⟨_,rfl⟩
       have fV:=af hs1
       rw[hs1] at pQ
       clear hs1
       go_wp2_with fail
       refine pQ.out.mono ?_
       rintro e w3 ⟨rfl,hb3⟩
       have aM:=af (HB.out.trans (hb3.mono dZ))
       clear hb3 pQ EY
       cases s1 with
       | false=>
        have hr:R=(⟨#[]⟩,100):=by
         rw[←FC.out,aj]
         rw[←HL.out,Js HK.out (by unfold oF;rw[fV.out,De])]
         simp
        subst hr
        go_wp2_with fail
        go_ret2
        exact⟨rfl,gY.out.2.trans (aM.out.mono gY.out.1.sz),gY.out.1.below aM.out⟩
       | true=>
        have HN:Hid (Lm W1 nL L t (.int .i64 (k+1:Nat)) w3):=af ⟨k+1,rfl,hlt,aM.out,Xe HK.out dM.out (by unfold oF;rw[bM.out,fV.out];rfl)⟩
        clear z0 z1
        go_wp2_with fail
        go_roundw
        case rel=>exact HN.out
        case measure=>simp[intOf];omega
     ·have hkn:k=nL:=by omega
      have kK:L.all (oF t)=true:=by
       have:=dM.out
       rwa [cB (by omega)] at this
      have hr:R=(aJ (aO t.data.toList),0):=by rw[←FC.out,ax];rw[←HL.out];exact kK
      have Dn:=af (IM t wr (by omega))
      have hnz:(nL:Int) > 0:=by omega
      subst hr
      clear hc hl hb kK
      subst hkn
      go_wp2_with fail
      refine Dn.out.mono ?_
      rintro e w2 ⟨rfl,hb2⟩
      have aI:=af (HB.out.trans (hb2.mono dZ))
      clear hb2
      go_wp2_with fail
      go_ret2
      exact⟨rfl,gY.out.2.trans (aI.out.mono gY.out.1.sz),gY.out.1.below aI.out⟩
  | some a=>
   have HAP:Hid (vZ (some a) hs=hs++[a]):=af (by simp[vZ])
   simp only[Option.getD_some,Option.isSome_some] at JX
   have bY:Hid (∀o1 o2,All B ((w.alloc o1).alloc o2) (sI hv hs :: cs)∧Below B w ((w.alloc o1).alloc o2)):=af (fun o1 o2=>⟨(HA.out.below ((Below.refl _ _).alloc (ah _) o1)).below ((Below.refl _ _).alloc (ah _) o2),((jF.out o1).alloc (by have:=HA.out.sz;simp;omega) o2)⟩)
   clear NN jF
   go_enter Tryz.func209,Tryz.ntmps209
   go_wp2_with (at_builtin;refine dI ?_)
   unfold Stop
   have hrow:=(bY.out (.cells #[.string a] 87) (.cells #[.string a] 9)).1.head
   have hrow2:((w.alloc (.cells #[.string a] 87)).alloc (.cells #[.string a] 9)).ownsRow 0 9 1 (.slice A0 hs.length c0) hs.length (strs hs):=by rw[←HV.out];exact hrow
   have hrd:=Rd.one (w.alloc (.cells #[.string a] 87)) (.string a) 9
   rw[World.size_alloc] at hrd
   refine dQ (.tmp 19) (.tmp 22) Db rfl rfl hrow2 rfl hrd rfl (by simp[Value.oneCell']) (bn (by omega)) (by omega) (aL _) ?_
   intro v6 w6 dK gu dO
   rw[←HV.out] at gu dO
   obtain⟨iy,iW⟩:=(bY.out (.cells #[.string a] 87) (.cells #[.string a] 9)).1.app dK gu dO
   obtain⟨A6,c6,kN,-,-,hrd6,-⟩:=aC dK
   have gY:Hid (All B w6 cs∧Below B w w6):=af ⟨iy.tail,(bY.out (.cells #[.string a] 87) (.cells #[.string a] 9)).2.trans iW⟩
   obtain⟨t,r,hL⟩:∃t r,hs++[a]=t :: r:=by
    cases hs with
    | nil=>exact⟨a,[],rfl⟩
    | cons t r=>exact⟨t,r++[a],rfl⟩
   have FC:Hid ((if (t :: r).all (oF t)=true then (aJ (aO t.data.toList),0) else ((⟨#[]⟩:ByteArray),100))=R):=af (by rw[←fU.out,HAP.out,hL])
   have f_:Hid (∀s ∈ hs++[a],s.size≤140737488351232):=af (fun s hs2=>by
    rcases List.mem_append.1 hs2 with h | h
    ·exact HZ.out s h
    ·rw[List.mem_singleton.1 h];exact HZ2.out a rfl)
   have Fz:Hid (Rd w6 w6.heap.size 1 A6 (hs.length+1) (strs (hs++[a]))):=af (by rw[I6];exact hrd6)
   obtain⟨L,Cn⟩:∃L,hs++[a]=L:=⟨_,rfl⟩
   have iF:(hs++[a]).length=hs.length+1:=by simp
   obtain⟨nL,hnl⟩:∃nL,hs.length+1=nL:=⟨_,rfl⟩
   have hnL : 0<nL:=by omega
   have sj:nL≤1048577:=by omega
   have i2:((nL:Int)==0)=false:=by rw[fO];omega
   rw[hnl] at Fz iF kN
   rw[Cn] at Fz f_ iF
   rw[hL] at Cn
   have HL:Hid (L=t :: r):=af Cn.symm
   subst kN
   clear hL Cn fU HAP HZ2 HV HA HZ h1 bY dK gu dO iy iW hrd6 hrow hrow2 hrd JX
   go_wp2_with fail
   go_loopw [29] (fun iv wr=>Lm w6 nL L t iv wr) (fun iv _=>nL-(intOf iv).toNat)
   case atStart=>exact⟨0,rfl,aL _,Below.refl _ _,by simp⟩
   case round=>
    obtain⟨k,rfl,hk,hb,hall⟩:=hrel
    have HB:=af hb
    have dM:=af hall
    have dZ:=hb.size
    obtain⟨hl,b,o,rfl,hbl,hc⟩:=BF (Fz.out.below hb (ah _)) hnL
    have z0:=hc 0 t (by rw[HL.out];rfl)
    rw[Nat.add_zero] at z0
    have aY:b<wr.heap.size:=by omega
    have HTS:=f_.out t (by rw[HL.out];exact iK ..)
    clear hall
    by_cases hlt:k<nL
    ·obtain⟨s,hs2⟩:∃s,L[k]?=some s:=⟨_,a_ (by omega)⟩
     have z1:=hc k s hs2
     have n1:(k:Int)<nL:=by omega
     have GJ:=f_.out s (fq hs2)
     have EY:=af (Xl s wr (by omega))
     have pQ:=af (KE s t wr (by omega) (by omega))
     have HK:=af hs2
     clear hc hs2 hl hb
     obtain⟨a1,ha1⟩:∃a1,jW s=a1:=⟨_,rfl⟩
     have bM:=af ha1
     rw[ha1] at EY
     clear ha1
     go_wp2_with fail
     refine EY.out.mono ?_
     rintro e w2 ⟨rfl,rfl⟩
     cases a1 with
     | false=>
      have hr:R=(⟨#[]⟩,100):=by
       rw[←FC.out,aj]
       rw[←HL.out,Js HK.out (by unfold oF;rw[bM.out,Bool.false_and])]
       simp
      subst hr
      go_wp2_with fail
      go_ret2
      exact⟨rfl,gY.out.2.trans (HB.out.mono gY.out.1.sz),gY.out.1.below HB.out⟩
     | true=>
      obtain⟨s1,hs1⟩:∃s1,dL s.data.toList t.data.toList=s1:=⟨_,rfl⟩
      have fV:=af hs1
      rw[hs1] at pQ
      clear hs1
      go_wp2_with fail
      refine pQ.out.mono ?_
      rintro e w3 ⟨rfl,hb3⟩
      have aM:=af (HB.out.trans (hb3.mono dZ))
      clear hb3 pQ EY
      cases s1 with
      | false=>
       have hr:R=(⟨#[]⟩,100):=by
        rw[←FC.out,aj]
        rw[←HL.out,Js HK.out (by unfold oF;rw[fV.out,De])]
        simp
       subst hr
       go_wp2_with fail
       go_ret2
       exact⟨rfl,gY.out.2.trans (aM.out.mono gY.out.1.sz),gY.out.1.below aM.out⟩
      | true=>
       have HN:Hid (Lm w6 nL L t (.int .i64 (k+1:Nat)) w3):=af ⟨k+1,rfl,hlt,aM.out,Xe HK.out dM.out (by unfold oF;rw[bM.out,fV.out];rfl)⟩
       clear z0 z1
       go_wp2_with fail
       go_roundw
       case rel=>exact HN.out
       case measure=>simp[intOf];omega
    ·have hkn:k=nL:=by omega
     have kK:L.all (oF t)=true:=by
      have:=dM.out
      rwa [cB (by omega)] at this
     have hr:R=(aJ (aO t.data.toList),0):=by rw[←FC.out,ax];rw[←HL.out];exact kK
     have Dn:=af (IM t wr (by omega))
     have hnz:(nL:Int) > 0:=by omega
     subst hr
     clear hc hl hb kK
     subst hkn
     go_wp2_with fail
     refine Dn.out.mono ?_
     rintro e w2 ⟨rfl,hb2⟩
     have aI:=af (HB.out.trans (hb2.mono dZ))
     clear hb2
     go_wp2_with fail
     go_ret2
     exact⟨rfl,gY.out.2.trans (aI.out.mono gY.out.1.sz),gY.out.1.below aI.out⟩
end
section
open Go.RowKit
def bK:ByteArray:=⟨#[99,111,111,107,105,101]⟩
def KG:ByteArray:=⟨#[59,32]⟩
def fJ (s:List Fd×Option Nat) (f:Fd):List Fd×Option Nat:=
 if f.1.1≠bK then (s.1++[f],s.2) else match s.2 with
  | none=>(s.1++[f],some s.1.length)
  | some i=>(s.1.modify i fun g=>((g.1.1,if f.1.2≠⟨#[]⟩∧g.1.2≠⟨#[]⟩ then g.1.2++KG++f.1.2 else g.1.2++f.1.2),g.2),some i)
def jw (l:List Fd):List Fd:=(l.foldl fJ ([],none)).1
theorem Ox:∀(l:List Fd) (a:List Fd),(∀f ∈ l,f.1.1≠bK)→l.foldl fJ (a,none)=(a++l,none)
 | [],a,_=>by simp
 | f :: r,a,h=>by
  have h1:=h f (iK ..)
  have e:fJ (a,none) f=(a++[f],none):=by unfold fJ;rw[ax h1]
  rw[nD,e,Ox r _ fun g hg=>h g (fH _ hg)]
  simp
theorem XP {l:List Fd}(h:∀f ∈ l,f.1.1≠bK):jw l=l:=by unfold jw;rw[Ox l [] h];rfl
def Wi (w:World) (n:Nat) (l:List Fd) (ov iv:Value) (wr:World):Prop:=∃k:Nat,iv = .int .i64 k∧k≤n∧bQ w (l.take k) ov wr
theorem adu {A:Option Addr}{n c:Nat}{l:List Fd}(w:World) (hr:Rd w w.heap.size 3 A n (fds l)) (hn:n≤1048576) (hc0:∀f ∈ l,f.1.1≠bK) :
 Calls Tryz.prog 210 #[.slice A n c] w (fun e w'=>∃v,e = .returned v∧bQ w (jw l) v w'):=by
 have H1:=af hr
 have HC0:=af hc0
 rw[XP hc0]
 clear hr hc0
 go_enter Tryz.func210,Tryz.ntmps210
 go_wp2_with fail
 go_loopw [3,4,9] (fun ov av iv wr=>av = .int .i64 (-1)∧Wi w n l ov iv wr) (fun _ _ iv _=>n-(intOf iv).toNat)
 case atStart=>exact⟨rfl,0,rfl,aL _,World.ownsRow_nil _ _ _ _,Below.refl _ _⟩
 case round=>
  obtain⟨rfl,k,rfl,hk,hown⟩:=hrel
  have HO:=af hown
  have dZ:=hown.2.size
  clear hown
  by_cases hlt:k<n
  ·obtain⟨bf,b,o,rfl,hbl,hc⟩:=mE (H1.out.below HO.out.2 (ah _)) (by omega)
   obtain⟨f,hf⟩:∃f,l[k]?=some f:=⟨_,a_ (by omega)⟩
   obtain⟨z0,z1,z2⟩:=hc k f hf
   have n0:(k:Int)<n:=by omega
   have aY:b<wr.heap.size:=by omega
   have e1:=sG (HC0.out f (fq hf))
   rw[show bK.toList=[99,111,111,107,105,101] from by decide +kernel] at e1
   have HT:Hid (l.take (k+1)=l.take k++[f]):=af (by rw[iw,hf,iL])
   have hlen:(l.take k).length=k:=by rw[kS];omega
   clear hc hf bf
   obtain⟨⟨nm,vl⟩,nv⟩:=f
   simp only at z0 z1 z2 HT e1
   go_wp2_with (at_builtin;refine dI ?_)
   unfold Stop
   have hb0:Below wr.heap.size wr (wr.alloc (.cells #[.string nm,.string vl,.bool nv] 26)):=(Below.refl _ _).alloc (ah _) _
   have hrd:=Rd.rC (wr.alloc (.cells #[.string nm,.string vl,.bool nv] 26)) (.string nm) (.string vl) (.bool nv) 26
   rw[World.size_alloc] at hrd
   refine dQ (.tmp 27) (.tmp 29) j3 rfl rfl (EE HO.out hb0 _) rfl hrd rfl (by simp[Value.oneCell']) (bn (by omega)) (by omega) (by simp;omega) ?_
   intro v5 w5 bZ dR _
   have HN:Hid (Wi w n l v5 (.int .i64 (k+1:Nat)) w5):=af (by
    refine⟨k+1,rfl,hlt,?_⟩
    rw[HT.out]
    exact HO.out.app ((nm,vl),nv) hb0 _ bZ dR)
   obtain⟨A5,c5,fB,-,-,-,-⟩:=aC bZ
   rw[fB] at HN ⊢
   clear bZ dR fB
   go_wp2
   go_roundw
   case rel=>have h:=HN.out;rw[hlen] at h;exact⟨rfl,h⟩
   case measure=>simp[intOf];omega
  ·have hkn:k=n:=by omega
   have bf:l.length=n:=by have:=H1.out.1;rw[jJ] at this;omega
   have HE:Hid (bQ w l u3 wr):=af (by
    have h1:=HO.out
    rwa [cB (by omega)] at h1)
   clear bf
   subst hkn
   go_wp2
   go_ret
   exact⟨_,rfl,HE.out⟩
end
section
open Go.RowKit Go.Maps
def kz:ByteArray:=⟨#[58,109,101,116,104,111,100]⟩
def kV:ByteArray:=⟨#[58,115,99,104,101,109,101]⟩
def kC:ByteArray:=⟨#[58,112,97,116,104]⟩
def LM:ByteArray:=⟨#[67,79,78,78,69,67,84]⟩
def Kg:ByteArray:=⟨#[104,116,116,112]⟩
def Kh:ByteArray:=⟨#[104,116,116,112,115]⟩
def jb:List ByteArray:=[kz,kV,iM,kC]
def gZ (G:Gt) (k:ByteArray):ByteArray:=(G.1 k).getD ⟨#[]⟩
def pW (m s p:ByteArray):Bool:=!iB m.data.toList || decide (m=LM) || (decide (s≠Kg) && decide (s≠Kh)) || !wR p m
structure Rq where
 aW:ByteArray
 iH:ByteArray
 ek:ByteArray
 path:ByteArray
 fields:List Fd
def jR:Rq:=⟨⟨#[]⟩,⟨#[]⟩,⟨#[]⟩,⟨#[]⟩,[]⟩
noncomputable def aS (l:List Fd):Rq×Nat:=
 let G:=bG jb Gt.none l
 if G.2≠0 then (jR,G.2)
 else if pW (gZ G.1 kz) (gZ G.1 kV) (gZ G.1 kC) then (jR,100)
 else
  let P:=iX (G.1.1 iM) (aF G.1.2 aG)
  if P.2≠0 then (jR,P.2)
  else if dn (bV G.1.2)=none then (jR,102)
  else (⟨gZ G.1 kz,gZ G.1 kV,P.1,gZ G.1 kC,jw (bV G.1.2)⟩,0)
def ab1 (w:World) (R:Rq×Nat) (e:Ending) (w':World):Prop:=∃v,e = .returned (.tuple #[.agg #[.string R.1.aW,.string R.1.iH,.string R.1.ek,.string R.1.path,v],.int .i64 (R.2:Int)])∧bQ w R.1.fields v w'
theorem mJ:(Tryz.prog.info? 60).map (·.size)=some 5:=by kernel_rfl
theorem results_read {tmps:Array Value}{w:World}{g:Nat}{cs:Array Value}(hp:tmps.getD 2 undef = .pointer (some ⟨g,0,none⟩)) (hg:w.heap[g]?=some (.cells cs 60 (0,0))) (hs:cs.size=5) :
 (results Tryz.f192 tmps).run Tryz.prog w = .ok (.tuple #[.agg cs,tmps.getD 3 undef]) w:=by
 have h1:=run_loadVar_row (P:=Tryz.prog) w g 60 60 cs (0,0) _ hg Tryz.underlying60 rfl (by rw[mJ,hs])
 have hp':tmps[2]?.getD undef = .pointer (some ⟨g,0,none⟩):=by simpa using hp
 simp[results,Tryz.results192,hp',asAddr,h1]
theorem ZK (w:World):Rd (w.alloc (.cells (strs jb).toArray 9)) (w.heap.size+1) 1 (some ⟨w.heap.size,0,none⟩) 4 (strs jb):=by
 refine⟨rfl,fun _=>⟨_,_,rfl,by omega,fun j hj=>?_⟩⟩
 rw[World.cell?_alloc_at _ _ _ _ rfl]
 simp
def eX:Array Value:=#[.string ⟨#[]⟩,.string ⟨#[]⟩,.string ⟨#[]⟩,.string ⟨#[]⟩,.slice none 0 0]
theorem aai {A:Option Addr}{n c:Nat}{l:List Fd}(w:World) (hl:Rd w w.heap.size 3 A n (fds l)) (hn:n≤1048575) (hz:Tx l)
 (ko:∀(w:World) (A:Option Addr) (n c:Nat),Rd w w.heap.size 3 A n (fds (bV (bG jb Gt.none l).1.2))→n≤1048576→Calls Tryz.prog 210 #[.slice A n c] w (fun e w'=>∃v,e = .returned v∧bQ w (jw (bV (bG jb Gt.none l).1.2)) v w')) :
 Calls Tryz.prog 192 #[.slice A n c] w (ab1 w (aS l)):=by
 have bf:l.length=n:=by have:=hl.1;rw[jJ] at this;omega
 -- the result's block,the names' block
 obtain⟨W0,hW0⟩:∃W0,w.alloc (.cells eX 60)=W0:=⟨_,rfl⟩
 obtain⟨W1,hW1⟩:∃W1,W0.alloc (.cells (strs jb).toArray 9)=W1:=⟨_,rfl⟩
 have b0:Below w.heap.size w W0:=by rw[←hW0];exact (Below.refl _ _).alloc (ah _) _
 have b1:Below w.heap.size w W1:=by rw[←hW1];exact b0.alloc b0.size _
 have kq:W0.heap[w.heap.size]?=some (.cells eX 60 (0,0)):=by rw[←hW0];exact aZ _ _
 have s0:W0.heap.size=w.heap.size+1:=by rw[←hW0];simp
 have s1:W1.heap.size=w.heap.size+2:=by rw[←hW1];simp[s0]
 have kq1:W1.heap[w.heap.size]?=some (.cells eX 60 (0,0)):=by rw[←hW1];exact (Below.heap_alloc _ _ _ (by omega)).trans kq
 have zg:Rd W1 W1.heap.size 1 (some ⟨w.heap.size+1,0,none⟩) 4 (strs jb):=by
  have h:=ZK W0
  rw[hW1,s0] at h
  rw[s1]
  exact h
 have HG:=af (aez (c:=c) (c1:=4) W1 ((hl.below b1 (ah _)).more b1.size) hn hz zg (by omega))
 have hinv:=L6 (names:=jb) (P:=fun s=>s.size≤140737488351232) (Q:=fun f=>f.1.1.size≤140737488351232∧f.1.2.size≤140737488351232) l Gt.none (fun f hf=>⟨(hz f hf).2,hz f hf⟩) (fun j v h=>by cases h) (fun f hf=>by cases hf)
 have hlen:=Yo (names:=jb) l Gt.none
 have HI:=af hinv
 have vN:=af ko
 obtain⟨R,hR⟩:∃R,aS l=R:=⟨_,rfl⟩
 rw[hR]
 unfold aS at hR
 dsimp only at hR
 obtain⟨⟨G,e1⟩,hG⟩:∃G,bG jb Gt.none l=G:=⟨_,rfl⟩
 rw[hG] at HG HI hlen hR vN
 dsimp only at HI hlen hR vN
 have cz:=af hR
 have bH:=af (And.intro b1 kq1)
 have HW:=af (And.intro hW0 hW1)
 have fV:=af s1
 have hlen2:G.2.length≤n:=by simp[Gt.none] at hlen;omega
 clear hl hz b0 b1 kq kq1 s0 s1 zg hinv hR hG hlen ko hW0 hW1
 unfold eX at HW
 go_enter Tryz.func192,Tryz.ntmps192
 go_wp2_with fail
 refine LJ ?_
 intro zY yP
 obtain rfl:zY=W1:=by rw[yP];rw[←HW.out.2,←HW.out.1];rfl
 clear yP
 refine HG.out.mono ?_
 rintro e w2 ⟨⟨mv,rv,rfl,hok,hno⟩,hb2⟩
 obtain⟨q,hq⟩:∃q,w.heap.size=q:=⟨_,rfl⟩
 have HQ:=af hq
 rw[hq] at bH fV ⊢
 have aI:Hid (Below q w w2∧w2.heap[q]?=some (.cells eX 60 (0,0))∧zY.heap.size≤w2.heap.size):=af ⟨bH.out.1.trans (hb2.mono (by have:=fV.out;omega)),(hb2.block q (by have:=fV.out;omega)).trans bH.out.2,hb2.size⟩
 have hq2:q+2≤w2.heap.size:=by have:=fV.out;have:=aI.out.2.2;omega
 clear hq hb2 HG HW
 by_cases h0:e1=0
 ·obtain⟨mb,k,rfl,hmb,hmap,hrow⟩:=hok h0
  obtain⟨A2,c2,rfl,-,-,CP,-⟩:=aC hrow
  dsimp only at CP hmap
  have iE:=hmap.wM IP (i:=kz) (by show kz.size≤maxLen;decide +kernel)
  have hl2:=hmap.wM IP (i:=kV) (by show kV.size≤maxLen;decide +kernel)
  have xJ:=hmap.wM IP (i:=kC) (by show kC.size≤maxLen;decide +kernel)
  have hfl:∀(x:Value) (w:World),(Instr.field 87 (.agg #[x]) 0).run Tryz.prog w = .ok x w:=fun _ _=>rfl
  have kT:=cz.out
  rw[aj (by omega)] at kT
  have hts:∀k,(gZ G k).size≤140737488351232:=fun k=>by
   unfold gZ
   cases hc:G.1 k with
   | none=>simp[ByteArray.size]
   | some x=>exact HI.out.1 _ _ hc
  have dS:=hts kz
  have hs1:=hts kV
  have iP:=hts kC
  obtain⟨m,hm⟩:∃m,gZ G kz=m:=⟨_,rfl⟩
  obtain⟨s,hs⟩:∃s,gZ G kV=s:=⟨_,rfl⟩
  obtain⟨p,hp⟩:∃p,gZ G kC=p:=⟨_,rfl⟩
  have hl1':(Instr.lookup 83 (.map (some mb)) (.string ⟨#[58,109,101,116,104,111,100]⟩) false).run Tryz.prog w2 = .ok (.agg #[.string m]) w2:=by rw[←hm];exact iE
  have hl2':(Instr.lookup 83 (.map (some mb)) (.string ⟨#[58,115,99,104,101,109,101]⟩) false).run Tryz.prog w2 = .ok (.agg #[.string s]) w2:=by rw[←hs];exact hl2
  have hl3':(Instr.lookup 83 (.map (some mb)) (.string ⟨#[58,112,97,116,104]⟩) false).run Tryz.prog w2 = .ok (.agg #[.string p]) w2:=by rw[←hp];exact xJ
  rw[hm,hs,hp] at kT
  rw[hm] at dS
  rw[hs] at hs1
  rw[hp] at iP
  obtain⟨BD,DX⟩:∃BD,pW m s p=BD:=⟨_,rfl⟩
  have rH:=af DX
  rw[DX] at kT
  have fU:=af kT
  have NI:=af hmap
  have HRD2:=af CP
  subst h0
  have ee:(((0:Nat):Int)==0)=true:=rfl
  clear hok hno iE hl2 xJ kT DX hm hs hp hmap hrow CP cz hmb hts
  go_upto_region 5 with fail
  refine bI ?_
  intro W3 hW3
  have b3:Below w2.heap.size w2 W3:=by rw[hW3];exact (Below.refl _ _).alloc (ah _) _
  have k3:W3.heap[w2.heap.size]?=some (.cells #[.string m,.string s,.string ⟨#[]⟩,.string p,.slice none 0 0] 60 (0,0)):=by rw[hW3];exact aZ _ _
  have s3:W3.heap.size=w2.heap.size+1:=by rw[hW3];simp
  obtain⟨q7,Eh⟩:∃q7,w2.heap.size=q7:=⟨_,rfl⟩
  have aM:Hid (Below q w W3∧W3.heap[q]?=some (.cells eX 60 (0,0))∧Rd W3 W3.heap.size 3 A2 G.2.length (fds G.2)∧bq Ex W3 mb n G.1 k):=af ⟨aI.out.1.trans (b3.mono (by omega)),(b3.block q (by omega)).trans aI.out.2.1,(HRD2.out.below b3 (ah _)).more (by omega),NI.out.below b3 NI.out.lt⟩
  rw[Eh] at k3 s3 ⊢
  have nW:=af (And.intro k3 s3)
  have z0:W3.cell? ⟨q7,0,none⟩=some (.string m):=by unfold World.cell?;rw[k3];rfl
  have z1:W3.cell? ⟨q7,1,none⟩=some (.string s):=by unfold World.cell?;rw[k3];rfl
  have z3:W3.cell? ⟨q7,3,none⟩=some (.string p):=by unfold World.cell?;rw[k3];rfl
  have hqq:q+2≤q7:=by omega
  have gm:=af (Nb m W3 (by omega))
  have qE:=af (agL p m W3 (by omega))
  clear hW3 b3 k3 s3 Eh hl1' hl2' hl3' NI HRD2 hq2
  go_cut [56] (fun y wx=>y = .bool BD∧wx=W3)
  case first=>
   obtain⟨T,hT⟩:∃T,iB m.data.toList=T:=⟨_,rfl⟩
   have HT:=af hT
   rw[hT] at gm
   clear hT
   cases T with
   | false=>
    have hb:BD=true:=by rw[←rH.out];unfold pW;simp[HT.out]
    subst hb
    go_wp2_with fail
    refine gm.out.mono ?_
    rintro e w4 ⟨rfl,rfl⟩
    go_wp2_with fail
    go_meet
    exact⟨rfl,rfl⟩
   | true=>
    by_cases jA:m=LM
    ·have e1:(m.toList == [67,79,78,78,69,67,84])=true:=by rw[jA];decide +kernel
     have hb:BD=true:=by rw[←rH.out];unfold pW;simp[jA]
     subst hb
     clear jA
     go_wp2_with fail
     refine gm.out.mono ?_
     rintro e w4 ⟨rfl,rfl⟩
     go_wp2_with fail
     go_meet
     exact⟨rfl,rfl⟩
    ·have e1:=sG jA
     rw[show LM.toList=[67,79,78,78,69,67,84] from by decide +kernel] at e1
     obtain⟨PT,hPT⟩:∃PT,wR p m=PT:=⟨_,rfl⟩
     have HPP:=af hPT
     rw[hPT] at qE
     clear hPT
     by_cases hh:s=Kg
     ·have e2:(s.toList == [104,116,116,112])=true:=by rw[hh];decide +kernel
      have hb:BD = !PT:=by rw[←rH.out];unfold pW;simp[HT.out,jA,hh,HPP.out]
      subst hb
      clear hh jA
      go_wp2_with fail
      refine gm.out.mono ?_
      rintro e w4 ⟨rfl,rfl⟩
      go_wp2_with fail
      refine qE.out.mono ?_
      rintro e w4 ⟨rfl,rfl⟩
      go_wp2_with fail
      go_meet
      exact⟨rfl,rfl⟩
     ·have e2:=sG hh
      rw[show Kg.toList=[104,116,116,112] from by decide +kernel] at e2
      by_cases hhs:s=Kh
      ·have e3:(s.toList == [104,116,116,112,115])=true:=by rw[hhs];decide +kernel
       have hb:BD = !PT:=by rw[←rH.out];unfold pW;simp[HT.out,jA,hhs,HPP.out]
       subst hb
       clear hh hhs jA
       go_wp2_with fail
       refine gm.out.mono ?_
       rintro e w4 ⟨rfl,rfl⟩
       go_wp2_with fail
       refine qE.out.mono ?_
       rintro e w4 ⟨rfl,rfl⟩
       go_wp2_with fail
       go_meet
       exact⟨rfl,rfl⟩
      ·have e3:=sG hhs
       rw[show Kh.toList=[104,116,116,112,115] from by decide +kernel] at e3
       have hb:BD=true:=by rw[←rH.out];unfold pW;simp[hh,hhs]
       subst hb
       clear hh hhs jA
       go_wp2_with fail
       refine gm.out.mono ?_
       rintro e w4 ⟨rfl,rfl⟩
       go_wp2_with fail
       go_meet
       exact⟨rfl,rfl⟩
  case rest=>
  obtain⟨rfl,hwc⟩:=hcut
  subst hwc
  clear gm qE z0 z1 z3
  cases BD with
  | true=>
   have lT:Hid (R=(jR,100)):=af (by rw[←fU.out,ax rfl])
   go_wp2_with (first
    | (refine wpList_store_rowTo rfl 60 (.tmp 2) _ rfl rfl q #[.string ⟨#[]⟩,.string ⟨#[]⟩,.string ⟨#[]⟩,.string ⟨#[]⟩,.slice none 0 0] rfl rfl 60 _ aM.out.2.1 mJ rfl (by simp[Value.oneCell']) ?_))
   refine bodyPost_ret (results_read rfl (setRow_heap _ _ _ _ _ _ aM.out.2.1) rfl) rfl ?_
   rw[lT.out,←HQ.out]
   exact⟨.slice none 0 0,rfl,xW (by rw[HQ.out];exact aM.out.1.trans ⟨rfl,rfl,rfl,by simp,fun k hk=>setRow_other _ _ _ _ (by omega)⟩)⟩
  | false=>
   have kT:=fU.out
   rw[aj (by simp)] at kT
   have BU:=af kT
   clear kT fU rH
   have HHO:=af (aeU (c:=c2) wc aM.out.2.2.1 (by omega))
   go_wp2_with fail
   refine HHO.out.mono ?_
   rintro e w4 ⟨ov,rv,rfl,dN,hb4⟩
   have aX:=af dN
   have s37:=nW.out.2
   have dz:Hid (Below q w w4∧w4.heap[q]?=some (.cells eX 60 (0,0))∧w4.heap[q7]?=some (.cells #[.string m,.string s,.string ⟨#[]⟩,.string p,.slice none 0 0] 60 (0,0))∧wc.heap.size≤w4.heap.size):=af ⟨aM.out.1.trans (hb4.mono (by omega)),(hb4.block q (by omega)).trans aM.out.2.1,(hb4.block q7 (by omega)).trans nW.out.1,hb4.size⟩
   have vR:=af (aM.out.2.2.2.below hb4 aM.out.2.2.2.lt)
   obtain⟨A5,c5,lD,-,-,-,-⟩:=aC dN.head
   obtain⟨A6,c6,xQ,-,-,-,-⟩:=aC (dN.pick [_]).head
   have hvl:=I9 G.2 aG
   have hrl:=aam G.2
   have hvz:∀s ∈ aF G.2 aG,s.size≤140737488351232:=fun s hs=>by
    obtain⟨f,hf,rfl⟩:=I_ hs
    exact (HI.out.2 f hf).2
   have wJ:Tx (bV G.2):=fun f hf=>HI.out.2 f (by unfold bV at hf;exact (List.mem_filter.1 hf).1)
   have qD:=af (agT w4 dN vR.out hvz (fun s hs=>HI.out.1 _ _ hs) (by omega))
   have pR:=af wJ
   clear dN hb4 hvz wJ HHO
   rw[lD] at qD ⊢
   rw[xQ]
   have HRV:=af xQ
   clear lD xQ
   go_wp2_with fail
   refine qD.out.mono ?_
   rintro e w5 ⟨rfl,aT,iN⟩
   obtain⟨P,hP⟩:∃P,iX (G.1 iM) (aF G.2 aG)=P:=⟨_,rfl⟩
   have hR3:=BU.out
   rw[hP] at hR3 ⊢
   have HR4:=af hR3
   obtain⟨P1,P2⟩:=P
   dsimp only at HR4 ⊢
   clear hR3 hP qD BU
   have k5:=(aT.block q7 (by omega)).trans dz.out.2.2.1
   have y2:w5.cell? ⟨q7,2,none⟩=some (.string ⟨#[]⟩):=by unfold World.cell?;rw[k5];rfl
   have f2:w5.frozen? ⟨q7,2,none⟩=false:=by unfold World.frozen?;rw[k5];rfl
   have k6:=oH (o:=2) (.string P1) k5
   have dO:Below q w (w5.setCell ⟨q7,2,none⟩ (.string P1)):=(dz.out.1.trans (aT.mono (by omega))).setCell (by show q≤q7;omega) _
   have kq6:(w5.setCell ⟨q7,2,none⟩ (.string P1)).heap[q]?=some (.cells eX 60 (0,0)):=(Below.heap_setCell _ _ _ _ (by show q≠q7;omega)).trans ((aT.block q (by omega)).trans dz.out.2.1)
   have hs6:(w5.setCell ⟨q7,2,none⟩ (.string P1)).heap.size=w5.heap.size:=by simp
   have hs45:w4.heap.size≤w5.heap.size∨True:=.inr trivial
   have Y2:=iN.head
   have hlt5:∀b,rv.ownBlock=some b→wc.heap.size≤b:=fun b hb=>iN.base _ (iK ..) b hb
   have Y3:(w5.setCell ⟨q7,2,none⟩ (.string P1)).ownsRow 0 26 3 rv (bV G.2).length (fds (bV G.2)):=d_ Y2 ((Kept.refl (fun b=>b=q7) w5).setCell rfl 2 _) (fun b hb e1=>by have:=hlt5 b hb;omega)
   obtain⟨A7,c7,Er,-,-,IA,-⟩:=aC Y3
   rw[HRV.out] at Er
   injection Er with e1 e2 e3
   subst e1
   have BO:=af (And.intro k6 (And.intro dO kq6))
   have HRD6:=af IA
   have hsz6:wc.heap.size≤w5.heap.size:=by have:=iN.sz;omega
   clear k5 k6 dO kq6 Y2 Y3 hlt5 IA aT iN hs45 e3
   by_cases wz:P2=0
   ·subst wz
    have ee2:(((0:Nat):Int)==0)=true:=rfl
    have Gi:=HR4.out
    rw[aj (by simp)] at Gi
    have HR5:=af Gi
    clear Gi HR4
    have gz:=af (fun w hr=>SI (c:=c6) (l:=bV G.2) (A:=A6) (n:=(bV G.2).length) w hr (by omega) pR.out)
    go_wp2_with fail
    generalize (w5.setCell ⟨q7,2,none⟩ (.string P1))=w6 at *
    refine (gz.out w6 HRD6.out).mono ?_
    rintro e w7 ⟨rfl,dU⟩
    have yu:Hid (w7.heap[q7]?=some (.cells #[.string m,.string s,.string P1,.string p,.slice none 0 0] 60 (0,0))∧Below q w w7∧w7.heap[q]?=some (.cells eX 60 (0,0))∧w6.heap.size≤w7.heap.size):=af ⟨(dU.block q7 (by omega)).trans BO.out.1,BO.out.2.1.trans (dU.mono (by omega)),(dU.block q (by omega)).trans BO.out.2.2,dU.size⟩
    have HRD7:=af ((HRD6.out.below dU (ah _)).more dU.size)
    obtain⟨LF,hLF⟩:∃LF,dn (bV G.2)=LF:=⟨_,rfl⟩
    have Gi:=HR5.out
    rw[hLF] at Gi ⊢
    have BV:=af Gi
    clear hLF dU Gi HR5 y2 f2
    cases LF with
    | none=>
     have lT:Hid (R=(jR,102)):=af (by rw[←BV.out,ax rfl])
     unfold gU
     dsimp only
     go_wp2_with (first
      | (refine wpList_store_rowTo rfl 60 (.tmp 2) _ rfl rfl q #[.string ⟨#[]⟩,.string ⟨#[]⟩,.string ⟨#[]⟩,.string ⟨#[]⟩,.slice none 0 0] rfl rfl 60 _ yu.out.2.2.1 mJ rfl (by simp[Value.oneCell']) ?_))
     refine bodyPost_ret (results_read rfl (setRow_heap _ _ _ _ _ _ yu.out.2.2.1) rfl) rfl ?_
     rw[lT.out,←HQ.out]
     exact⟨.slice none 0 0,rfl,xW (by rw[HQ.out];exact yu.out.2.1.trans ⟨rfl,rfl,rfl,by simp,fun k hk=>setRow_other _ _ _ _ (by omega)⟩)⟩
    | some LF=>
     have lT:Hid (R=(⟨m,s,P1,p,jw (bV G.2)⟩,0)):=af (by rw[←BV.out,aj (by simp)])
     obtain⟨x,y,hxy⟩:∃x y,gU (some LF)=(x,y,0):=by cases LF <;> exact⟨_,_,rfl⟩
     rw[hxy]
     dsimp only
     have ee3:(((0:Nat):Int)==0)=true:=rfl
     have HCC:=af (vN.out w7 A6 (bV G.2).length c6 HRD7.out (by omega))
     go_wp2_with fail
     refine HCC.out.mono ?_
     rintro e w8 ⟨cv,rfl,mZ⟩
     have k8:=(mZ.2.block q7 (by have:=yu.out.2.2.2;omega)).trans yu.out.1
     have y4:w8.cell? ⟨q7,4,none⟩=some (.slice none 0 0):=by unfold World.cell?;rw[k8];rfl
     have f4:w8.frozen? ⟨q7,4,none⟩=false:=by unfold World.frozen?;rw[k8];rfl
     obtain⟨A8,c8,Es,-,-,-,-⟩:=aC mZ.1
     subst Es
     have HO8:=af mZ
     have HK8:=af k8
     have h78:=mZ.2.size
     have y0:w8.cell? ⟨q7,0,none⟩=some (.string m):=by unfold World.cell?;rw[k8];rfl
     have y1:w8.cell? ⟨q7,1,none⟩=some (.string s):=by unfold World.cell?;rw[k8];rfl
     have y2:w8.cell? ⟨q7,2,none⟩=some (.string P1):=by unfold World.cell?;rw[k8];rfl
     have y3:w8.cell? ⟨q7,3,none⟩=some (.string p):=by unfold World.cell?;rw[k8];rfl
     have HK9:Hid ((w8.setCell ⟨q7,4,none⟩ (.slice A8 (jw (bV G.2)).length c8)).heap[q]?=some (.cells eX 60 (0,0))∧Below q w (w8.setCell ⟨q7,4,none⟩ (.slice A8 (jw (bV G.2)).length c8))):=af ⟨(Below.heap_setCell _ _ _ _ (by show q≠q7;omega)).trans ((mZ.2.block q (by have:=yu.out.2.2.2;omega)).trans yu.out.2.2.1),(yu.out.2.1.trans (mZ.2.mono (by have:=yu.out.2.2.2;omega))).setCell (by show q≤q7;omega) _⟩
     clear mZ k8 HCC
     go_wp2_with (first
      | (refine wpList_store_rowTo rfl 60 (.tmp 2) _ rfl rfl q #[.string m,.string s,.string P1,.string p,.slice A8 (jw (bV G.2)).length c8] rfl rfl 60 _ HK9.out.1 mJ rfl (by simp[Value.oneCell']) ?_))
     refine bodyPost_ret (results_read rfl (setRow_heap _ _ _ _ _ _ HK9.out.1) rfl) rfl ?_
     rw[lT.out]
     refine⟨_,rfl,?_,?_⟩
     ·have h1:=pG HO8.out.1 (show w.heap.size≤w7.heap.size by have:=HQ.out;have:=yu.out.2.2.2;omega)
      exact d_ h1 (((Kept.refl (fun b=>b=q7∨b=q) w8).setCell (.inl rfl) 4 _).same ⟨rfl,rfl,rfl,by simp,fun k hk hne=>setRow_other _ _ _ _ (fun e=>hne (.inr e))⟩) (fun b hb e1=>by
       have h2:=(World.ownsRow.lt HO8.out.1 b hb).1
       have:=yu.out.2.2.2
       omega)
     ·rw[HQ.out]
      exact HK9.out.2.trans ⟨rfl,rfl,rfl,by simp,fun k hk=>setRow_other _ _ _ _ (by omega)⟩
   ·have ee2:((P2:Int)==0)=false:=by rw[fO];omega
    have lT:Hid (R=(jR,P2)):=af (by rw[←HR4.out,ax wz])
    go_wp2_with (first
     | (refine wpList_store_rowTo rfl 60 (.tmp 2) _ rfl rfl q #[.string ⟨#[]⟩,.string ⟨#[]⟩,.string ⟨#[]⟩,.string ⟨#[]⟩,.slice none 0 0] rfl rfl 60 _ BO.out.2.2 mJ rfl (by simp[Value.oneCell']) ?_))
    refine bodyPost_ret (results_read rfl (setRow_heap _ _ _ _ _ _ BO.out.2.2) rfl) rfl ?_
    rw[lT.out,←HQ.out]
    exact⟨.slice none 0 0,rfl,xW (by rw[HQ.out];exact BO.out.2.1.trans ⟨rfl,rfl,rfl,by simp,fun k hk=>setRow_other _ _ _ _ (by omega)⟩)⟩
 ·have ee:((e1:Int)==0)=false:=by rw[fO];omega
  obtain⟨rfl,rfl⟩:=hno h0
  have lT:Hid (R=(jR,e1)):=af (by rw[←cz.out,ax h0])
  clear hok hno
  go_wp2_with (first
   | (refine wpList_store_rowTo rfl 60 (.tmp 2) _ rfl rfl q #[.string ⟨#[]⟩,.string ⟨#[]⟩,.string ⟨#[]⟩,.string ⟨#[]⟩,.slice none 0 0] rfl rfl 60 _ aI.out.2.1 mJ rfl (by simp[Value.oneCell']) ?_))
  refine bodyPost_ret (results_read rfl (setRow_heap _ _ _ _ _ _ aI.out.2.1) rfl) rfl ?_
  rw[lT.out,←HQ.out]
  exact⟨.slice none 0 0,rfl,xW (by rw[HQ.out];exact aI.out.1.trans ⟨rfl,rfl,rfl,by simp,fun k hk=>setRow_other _ _ _ _ (by omega)⟩)⟩
end
section
open Go.RowKit
structure gW where
 aW:ByteArray
 tgt:ByteArray
 fields:List Fd
 body:ByteArray
def Z5:ByteArray:=⟨#[80,79,83,84]⟩
def Z9:ByteArray:=⟨#[80,85,84]⟩
def ZN:ByteArray:=⟨#[80,65,84,67,72]⟩
def zk:List UInt8:=[32,72,84,84,80,47,49,46,49]
def ng (a:gW):List UInt8:=a.aW.data.toList++32 :: (a.tgt.data.toList++zk)
def fP (f:Fd):List UInt8:=f.1.1.data.toList++58 :: 32 :: f.1.2.data.toList
def zo (a:gW):Bool:=decide (a.body≠⟨#[]⟩) || decide (a.aW=Z5) || decide (a.aW=Z9) || decide (a.aW=ZN)
def pX (n:Nat):Fd:=((bu,aJ (jH n)),false)
def gH (a:gW):List Fd:=a.fields++(if zo a then [pX a.body.size] else [])
def cr (l:List UInt8):List UInt8:=l++[13,10]
def jB (a:gW):List UInt8:=cr (ng a)++((gH a).map fP).flatMap cr++[13,10]
def yc (c:UInt8):Bool:=decide (33≤c.toNat∧c.toNat≤126)
def qw (l:List UInt8):Bool:=!l.isEmpty && l.all yc
def wu (nm:ByteArray):Bool:=dL nm.data.toList bu.data.toList || dL nm.data.toList oq.data.toList
def Ez (f:Fd):Bool:=iB f.1.1.data.toList && !wu f.1.1 && iI f.1.2.data.toList
def qg (a:gW):Bool:=a.fields.all Ez && iB a.aW.data.toList && qw a.tgt.data.toList
def cO (f:Fd):Fd:=((aJ (aO f.1.1.data.toList),f.1.2),false)
def wN (a:gW):gW:=⟨a.aW,a.tgt,a.fields.map cO,a.body⟩
theorem M_:∀c,sM c=true→c≠10∧c≠13∧c≠32∧c≠58∧c≠9:=F6 (p:=fun c=>sM c=true→c≠10∧c≠13∧c≠32∧c≠58∧c≠9) (by decide +kernel)
theorem ajn:∀c,ni c=true→c≠10∧c≠13:=F6 (p:=fun c=>ni c=true→c≠10∧c≠13) (by decide +kernel)
theorem aa7:∀c,yc c=true→c≠10∧c≠13∧c≠32:=F6 (p:=fun c=>yc c=true→c≠10∧c≠13∧c≠32) (by decide +kernel)
theorem Na {l:List UInt8}(h:iB l=true):l≠[]∧∀c ∈ l,sM c=true:=by
 unfold iB at h
 rw[pI,tC] at h
 refine⟨?_,h.2⟩
 rintro rfl
 simp at h
theorem abl {l:List UInt8}(h:iI l=true):(jl l).length=l.length∧∀c ∈ l,ni c=true:=by
 unfold iI at h
 rw[pI,tC] at h
 exact⟨of_decide_eq_true h.1,h.2⟩
theorem aa8 {l:List UInt8}(h:qw l=true):l≠[]∧∀c ∈ l,yc c=true:=by
 unfold qw at h
 rw[pI,tC] at h
 refine⟨?_,h.2⟩
 rintro rfl
 simp at h
theorem ajj (l:List UInt8):(jl l).Sublist l:=by
 unfold jl Lib.trimS Lib.trimLeftS Lib.trimRightS
 refine (yB _).trans ?_
 have h:(l.reverse.dropWhile (([32,9]:List UInt8).contains ·)).Sublist l.reverse:=yB _
 simpa using h.reverse
theorem abg {l:List UInt8}(h:(jl l).length=l.length):jl l=l:=(ajj l).eq_of_length h
theorem aji (l:List UInt8):jl (32 :: l)=jl l:=by
 rw[KO,KO]
 rfl
theorem aej {n r:List UInt8}(h:∀c ∈ n,c≠58):yK (n++58 :: r)=n.length:=by
 unfold yK
 congr 1
 induction n with
 | nil=>rfl
 | cons c n ih=>
  have hc:=h c (iK ..)
  simp only[oM]
  rw[List.takeWhile_cons_of_pos (by simpa using hc),ih fun x hx=>h x (fH _ hx)]
theorem aek {f:Fd}(hn:iB f.1.1.data.toList=true) (hv:iI f.1.2.data.toList=true):Km (fP f)=(cO f,true):=by
 obtain⟨-,ht⟩:=Na hn
 obtain⟨Bh,-⟩:=abl hv
 have hc:yK (fP f)=f.1.1.data.toList.length:=aej fun c hc=>(M_ c (ht c hc)).2.2.2.1
 have h1:(fP f).take f.1.1.data.toList.length=f.1.1.data.toList:=List.take_left' rfl
 have h2:(fP f).drop (f.1.1.data.toList.length+1)=32 :: f.1.2.data.toList:=by
  unfold fP
  rw[show f.1.1.data.toList++58 :: 32 :: f.1.2.data.toList=(f.1.1.data.toList++[58])++32 :: f.1.2.data.toList by simp]
  exact List.drop_left' (by simp)
 unfold Km
 rw[hc,h1,h2,aji,abg Bh,hn,hv,aj]
 ·unfold cO
  rw[EA]
 ·rintro (h | h)
  ·have:=congrArg List.length (rfl:fP f=fP f)
   unfold fP at h
   simp at h
  ·cases h
def NV (l:List UInt8):Prop:=∀c ∈ l,c≠10∧c≠13
theorem ael {f:Fd}(hn:iB f.1.1.data.toList=true) (hv:iI f.1.2.data.toList=true):NV (fP f):=by
 intro c hc
 unfold fP at hc
 rcases List.mem_append.1 hc with hc | hc
 ·have:=M_ c ((Na hn).2 c hc);exact⟨this.1,this.2.1⟩
 ·rcases List.mem_cons.1 hc with rfl | hc
  ·decide
  ·rcases List.mem_cons.1 hc with rfl | hc
   ·decide
   ·exact ajn c ((abl hv).2 c hc)
theorem ahu {a:gW}(hm:iB a.aW.data.toList=true) (ht:qw a.tgt.data.toList=true):NV (ng a):=by
 intro c hc
 unfold ng at hc
 rcases List.mem_append.1 hc with hc | hc
 ·have:=M_ c ((Na hm).2 c hc);exact⟨this.1,this.2.1⟩
 ·rcases List.mem_cons.1 hc with rfl | hc
  ·decide
  ·rcases List.mem_append.1 hc with hc | hc
   ·have:=aa7 c ((aa8 ht).2 c hc);exact⟨this.1,this.2.1⟩
   ·have h:∀c ∈ zk,c≠10∧c≠13:=by decide
    exact h c hc
theorem X7:∀d:Nat,d<10→lu (UInt8.ofNat (48+d)).toNat=d∧tV (UInt8.ofNat (48+d))=true:=by decide
theorem XZ (l:List UInt8) (c:UInt8):mD (l++[c])=mD l*10+lu c.toNat:=by
 unfold mD
 rw[og]
 rfl
theorem XY (n:Nat):mD (jH n)=n∧(jH n).all tV=true∧jH n≠[]:=by
 induction n using Nat.strongRecOn with
 | ind n ih=>
  by_cases h:n<10
  ·rw[Oz h]
   obtain⟨h1,h2⟩:=X7 n h
   refine⟨?_,by rw[List.all_cons,h2];rfl,by simp⟩
   rw[show [UInt8.ofNat (48+n)]=[]++[UInt8.ofNat (48+n)] from rfl,XZ,h1]
   simp[mD]
  ·rw[Oy h]
   obtain⟨h1,h2,h3⟩:=ih (n / 10) (by omega)
   obtain⟨h4,h5⟩:=X7 (n%10) (by omega)
   refine⟨?_,by simp only[List.all_append,h2,h5,List.all_cons,List.all_nil,Bool.and_self],by simp⟩
   rw[XZ,h1,h4]
   omega
theorem adA {n:Nat}(hn:n≤1099511627776):gD (jH n)=(n,0):=by
 obtain⟨h1,h2,h3⟩:=XY n
 unfold gD
 rw[aj h3,aj (by rw[h2];decide),h1,aj (by omega)]
theorem abf {l:List UInt8}(h:∀c ∈ l,di c=false):jl l=l:=by
 have hd:∀l:List UInt8,(∀c ∈ l,di c=false)→l.dropWhile di=l:=by
  intro l h
  cases l with
  | nil=>rfl
  | cons c r=>rw[List.dropWhile_cons_of_neg (by rw[h c (iK ..)];decide)]
 rw[KO,hd l h,hd l.reverse fun c hc=>h c (List.mem_reverse.1 hc),List.reverse_reverse]
theorem X6:∀c,tV c=true→di c=false∧ni c=true:=F6 (p:=fun c=>tV c=true→di c=false∧ni c=true) (by decide +kernel)
theorem adE (n:Nat):iI (jH n)=true:=by
 obtain⟨-,h2,-⟩:=XY n
 rw[tC] at h2
 unfold iI
 rw[abf fun c hc=>(X6 c (h2 c hc)).1,List.all_eq_true.2 fun c hc=>(X6 c (h2 c hc)).2]
 simp
theorem ade (n:Nat):iB (pX n).1.1.data.toList=true∧iI (pX n).1.2.data.toList=true:=by
 refine⟨by show iB bu.data.toList=true;decide +kernel,?_⟩
 show iI (aJ (jH n)).data.toList=true
 rw[l9]
 exact adE n
theorem Kq {a:gW}(h:qg a=true):(∀f ∈ a.fields,iB f.1.1.data.toList=true∧wu f.1.1=false∧iI f.1.2.data.toList=true)∧iB a.aW.data.toList=true∧qw a.tgt.data.toList=true:=by
 unfold qg at h
 rw[pI,pI,tC] at h
 refine⟨fun f hf=>?_,h.1.2,h.2⟩
 have:=h.1.1 f hf
 unfold Ez at this
 rw[pI,pI] at this
 refine⟨this.1.1,?_,this.2⟩
 simpa using this.1.2
theorem afp {a:gW}(h:qg a=true):∀f ∈ gH a,iB f.1.1.data.toList=true∧iI f.1.2.data.toList=true:=by
 intro f hf
 unfold gH at hf
 rcases List.mem_append.1 hf with hf | hf
 ·have:=(Kq h).1 f hf;exact⟨this.1,this.2.2⟩
 ·split at hf
  ·rw[List.mem_singleton.1 hf];exact ade _
  ·cases hf
theorem Zm (a b:List UInt8):dL (aO a) b=dL a b:=by unfold dL;rw[afy]
theorem SN:aO bu.data.toList=bu.data.toList:=by decide +kernel
theorem agz {a:gW}(h:qg a=true):aF (a.fields.map cO) bu=[]:=by
 unfold aF
 rw[List.map_eq_nil_iff,List.filter_eq_nil_iff]
 intro f hf
 obtain⟨g,hg,rfl⟩:=List.mem_map.1 hf
 have h1:=((Kq h).1 g hg).2.1
 unfold wu at h1
 rw[EU] at h1
 simp only[tQ]
 intro e
 have e2:aO g.1.1.data.toList=bu.data.toList:=by
  have:=congrArg (fun x:ByteArray=>x.data.toList) e
  simpa [cO,l9] using this
 have h2:=h1.1
 unfold dL at h2
 rw[e2,SN] at h2
 simp at h2
theorem afn {a:gW}(h:qg a=true) (hb:a.body.size≤1099511627776):dn ((gH a).map cO)=some (if zo a then some a.body.size else none):=by
 unfold dn gH
 have hv:aF ((a.fields++(if zo a then [pX a.body.size] else [])).map cO) bu=if zo a then [aJ (jH a.body.size)] else []:=by
  rw[j6]
  unfold aF
  rw[List.filter_append,j6]
  have:=agz h
  unfold aF at this
  rw[this,jQ]
  split
  ·have e:cO (pX a.body.size)=pX a.body.size:=by
    unfold cO pX
    rw[SN,EA]
   rw[lV,vU,e]
   simp[pX]
  ·rfl
 rw[hv]
 split
 ·simp only[nD,List.foldl_nil,lH]
  rw[l9,adA hb]
  simp
 ·rfl
theorem afr {a:gW}(h:qg a=true):dJ ((gH a).map cO) [bu]=a.fields.map cO:=by
 unfold gH dJ
 rw[j6,List.filter_append]
 have h1:(a.fields.map cO).filter (fun f=>!([bu].any fun n=>dL n.data.toList f.1.1.data.toList))=a.fields.map cO:=by
  rw[List.filter_eq_self]
  intro f hf
  obtain⟨g,hg,rfl⟩:=List.mem_map.1 hf
  have h1:=((Kq h).1 g hg).2.1
  unfold wu at h1
  rw[EU] at h1
  simp only[List.any_cons,List.any_nil,Bool.or_false,ET]
  show dL _ (aJ (aO g.1.1.data.toList)).data.toList=false
  rw[l9,KD,Zm]
  exact h1.1
 rw[h1]
 split
 ·have e:cO (pX a.body.size)=pX a.body.size:=by
   unfold cO pX
   rw[SN,EA]
  rw[lV,vU,e]
  simp[pX,aih]
 ·simp
theorem afq {a:gW}(h:qg a=true):Ag oq (((gH a).map cO).map fun f=>f.1.1)=false:=by
 unfold Ag gH
 rw[List.any_eq_false]
 intro x hx
 rw[j6,j6] at hx
 rcases List.mem_append.1 hx with hx | hx
 ·obtain⟨f,hf,rfl⟩:=List.mem_map.1 hx
  obtain⟨g,hg,rfl⟩:=List.mem_map.1 hf
  have h1:=((Kq h).1 g hg).2.1
  unfold wu at h1
  rw[EU] at h1
  show ¬dL oq.data.toList (aJ (aO g.1.1.data.toList)).data.toList=true
  rw[l9,KD,Zm,h1.2]
  decide
 ·split at hx
  ·simp only[lV,vU,List.mem_singleton] at hx
   subst hx
   show ¬dL oq.data.toList (aJ (aO bu.data.toList)).data.toList=true
   decide +kernel
  ·cases hx
end
end Go.Proofs.YtpkmciohehaboaaGreatDoor
