/- Part 10 of the proof. -/
import Derived.Test.YtpkmciohehaboaaGreatDoorK0
import Derived.Test.YtpkmciohehaboaaGreatDoorK9
set_option maxRecDepth 100000
set_option maxHeartbeats 100000000
set_option linter.unusedVariables false
set_option linter.unusedSimpArgs false
set_option linter.unusedSectionVars false
set_option linter.unnecessarySimpa false
namespace Go.Proofs.YtpkmciohehaboaaGreatDoor
section
open Go.RowKit
def strs (l:List ByteArray):List Value:=l.map Value.string
theorem KL (l:List ByteArray):(strs l).length=l.length:=by simp[strs]
theorem I6 (l:List ByteArray) (s:ByteArray):strs (l++[s])=strs l++[.string s]:=by simp[strs]
theorem aaS {l:List ByteArray}{i:Nat}{s:ByteArray}(h:l[i]?=some s):(strs l)[i]?=some (.string s):=by simp[strs,h]
theorem Db:rR Tryz.prog 80 9 (.string ByteArray.empty) 1 16:=⟨Tryz.underlying80,by kernel_rfl,rfl,by decide⟩
def aF (l:List Fd) (name:ByteArray):List ByteArray:=(l.filter fun f=>decide (f.1.1=name)).map fun f=>f.1.2
theorem V7 {l:List Fd}{k:Nat}{f:Fd}(h:l[k]?=some f) (name:ByteArray):aF (l.take (k+1)) name=aF (l.take k) name++(if f.1.1=name then [f.1.2] else []):=by
 rw[iw,h,iL]
 unfold aF
 rw[List.filter_append,j6]
 congr 1
 by_cases hn:f.1.1=name <;> simp[hn]
theorem I9 (l:List Fd) (name:ByteArray):(aF l name).length≤l.length:=by
 unfold aF
 rw[List.length_map]
 exact List.length_filter_le _ _
theorem I_ {l:List Fd}{name s:ByteArray}(h:s ∈ aF l name):∃f ∈ l,f.1.2=s:=by
 unfold aF at h
 obtain⟨f,hf,rfl⟩:=List.mem_map.1 h
 exact⟨f,(List.mem_filter.1 hf).1,rfl⟩
def lH (o:Option (Option Nat)) (s:ByteArray):Option (Option Nat):=match o with
 | none=>none
 | some t=>if (gD s.data.toList).2≠0∨(∃k,t=some k∧(gD s.data.toList).1≠k) then none else some (some (gD s.data.toList).1)
def bu:ByteArray:=⟨#[99,111,110,116,101,110,116,45,108,101,110,103,116,104]⟩
def dn (l:List Fd):Option (Option Nat):=(aF l bu).foldl lH (some none)
def gU (o:Option (Option Nat)):Nat×Bool×Nat:=match o with
 | none=>(0,false,102)
 | some none=>(0,false,0)
 | some (some n)=>(n,true,0)
def Tx (l:List Fd):Prop:=∀f ∈ l,f.1.1.size≤140737488351232∧f.1.2.size≤140737488351232
def Og (w:World) (n:Nat) (l:List Fd) (name:ByteArray) (ov iv:Value) (wr:World):Prop:=∃k:Nat,iv = .int .i64 k∧k≤n∧wr.ownsRow w.heap.size 9 1 ov (aF (l.take k) name).length (strs (aF (l.take k) name))∧Below w.heap.size w wr
def Dx (w:World) (vs:List ByteArray) (e:Ending) (w':World):Prop:=∃v,e = .returned v∧w'.ownsRow w.heap.size 9 1 v vs.length (strs vs)∧Below w.heap.size w w'
theorem aau {A:Option Addr}{n c:Nat}{l:List Fd}(name:ByteArray) (w:World) (hr:Rd w w.heap.size 3 A n (fds l)) (hn:n≤1048576) :
 Calls Tryz.prog 42 #[.slice A n c,.string name] w (Dx w (aF l name)):=by
 have H1:=af hr
 clear hr
 go_enter Tryz.func42,Tryz.ntmps42
 go_wp2_with fail
 go_loopw [5,6] (fun ov iv wr=>Og w n l name ov iv wr) (fun _ iv _=>n-(intOf iv).toNat)
 case atStart=>exact⟨0,rfl,aL _,World.ownsRow_nil _ _ _ _,Below.refl _ _⟩
 case round=>
  obtain⟨k,rfl,hk,hown,hb⟩:=hrel
  have HO:=af (And.intro hown hb)
  have dZ:=hb.size
  clear hown hb
  by_cases hlt:k<n
  ·obtain⟨hl,b,o,rfl,hbl,hc⟩:=mE (H1.out.below HO.out.2 (ah _)) (by omega)
   obtain⟨f,hf⟩:∃f,l[k]?=some f:=⟨_,a_ (by omega)⟩
   obtain⟨z0,z1,-⟩:=hc k f hf
   have n1:(k:Int)<n:=by omega
   have kM:=V7 hf name
   have hvl:=I9 (l.take k) name
   rw[kS] at hvl
   have HS:=af kM
   have aY:b<wr.heap.size:=by omega
   have gY:Hid (∀ob,(wr.alloc ob).ownsRow w.heap.size 9 1 u5 (aF (l.take k) name).length (strs (aF (l.take k) name))):=af (fun ob=>d_ HO.out.1 ((Kept.refl (fun _=>False) wr).alloc ob) (fun _ _ h=>h))
   clear hc kM hf
   obtain⟨⟨nm,vl⟩,nv⟩:=f
   simp only at z0 z1
   by_cases hnm:nm=name
   ·subst hnm
    have h16:((aF (l.take k) nm).length+1)*16≤140737488355328:=by omega
    go_wp2_with (at_builtin;refine dI ?_)
    unfold Stop
    refine dQ (.tmp 20) (.tmp 26) Db rfl rfl (gY.out _) rfl (Rd.one _ _ _) rfl (by simp[Value.oneCell']) (bn (by omega)) (by omega) (by simp;omega) ?_
    intro v6 w6 dK gu _
    obtain⟨A6,c6,kN,-,-,-,-⟩:=aC dK
    have HN:Hid (Og w n l nm v6 (.int .i64 (k+1:Nat)) w6):=af (by
     refine⟨k+1,rfl,hlt,?_,Below.app (HO.out.2.alloc dZ _) (gY.out _) gu (ah _) (by simp;omega)⟩
     rw[HS.out]
     simp only[if_true]
     rw[aN,I6]
     exact dK)
    rw[kN] at HN ⊢
    clear dK gu kN
    go_wp2
    go_roundw
    case rel=>exact HN.out
    case measure=>simp[intOf];omega
   ·have e1:(nm.toList==name.toList)=false:=(Lib.bytes_beq_false_iff nm name).2 hnm
    have HN:Hid (Og w n l name u5 (.int .i64 (k+1:Nat)) wr):=af (by
     refine⟨k+1,rfl,hlt,?_,HO.out.2⟩
     rw[HS.out,aj hnm,kR]
     exact HO.out.1)
    clear hnm
    go_wp2
    go_roundw
    case rel=>exact HN.out
    case measure=>simp[intOf];omega
  ·have hkn:k=n:=by omega
   have bf:l.length=n:=by have:=H1.out.1;rw[jJ] at this;omega
   have HE:Hid (Dx w (aF l name) (.returned u5) wr):=af (by
    have h1:=HO.out.1
    rw[cB (by omega)] at h1
    exact⟨_,rfl,h1,HO.out.2⟩)
   subst hkn
   clear bf
   go_wp2
   go_ret
   exact HE.out
theorem BF {w:World}{B n:Nat}{A:Option Addr}{vs:List ByteArray}(h:Rd w B 1 A n (strs vs)) (hn : 0<n):vs.length=n∧∃b o,A=some ⟨b,o,none⟩∧b<B∧∀j s,vs[j]?=some s→w.cell? ⟨b,o+j,none⟩=some (.string s):=by
 have hl:=h.1
 rw[KL] at hl
 obtain⟨b,o,hA,hb,hc⟩:=h.at_ hn
 refine⟨by omega,b,o,hA,hb,fun j s hs=>?_⟩
 rw[hc j (by have:=(List.getElem?_eq_some_iff.1 hs).1;omega),aaS hs]
def N8 (vs:List ByteArray) (n:Nat) (mv iv:Value):Prop:=∃(k m:Nat),iv = .int .i64 k∧mv = .int .i64 m∧k≤n∧m≤1099511627776∧((k=0∧m=0)∨(0<k∧(vs.take k).foldl lH (some none)=some (some m)))
theorem SH:∀vs:List ByteArray,vs.foldl lH none=none
 | []=>rfl
 | _ :: vs=>SH vs
theorem aff {vs:List ByteArray}{k:Nat}{s:ByteArray}(h:vs[k]?=some s):(vs.take (k+1)).foldl lH (some none)=lH ((vs.take k).foldl lH (some none)) s:=by
 rw[iw,h,iL,og]
 rfl
theorem afd {vs:List ByteArray}{k:Nat}(h:(vs.take k).foldl lH (some none)=none):vs.foldl lH (some none)=none:=by
 rw[←vV k vs,og,h,SH]
theorem XX (l:List UInt8):(gD l).1≤1099511627776:=by
 unfold gD
 split
 ·simp
 ·split
  ·simp
  ·split
   ·simp
   ·simp only;omega
theorem KC {A:Option Addr}{n c:Nat}{l:List Fd}(w:World) (hr:Rd w w.heap.size 3 A n (fds l)) (hn:n≤1048576) (hz:Tx l) :
 Calls Tryz.prog 12 #[.slice A n c] w fun e w'=>e = .returned (.tuple #[.int .i64 (gU (dn l)).1,.bool (gU (dn l)).2.1,.int .i64 (gU (dn l)).2.2])∧Below w.heap.size w w':=by
 have HV:=af (aau (c:=c) bu w hr hn)
 have GM:∀s ∈ aF l bu,s.size≤140737488351232:=fun s hs=>by
  obtain⟨f,hf,rfl⟩:=I_ hs
  exact (hz f hf).2
 have hvl:=I9 l bu
 have bf:l.length=n:=by have:=hr.1;rw[jJ] at this;omega
 obtain⟨vs,hvs⟩:∃vs,aF l bu=vs:=⟨_,rfl⟩
 have hlf:dn l=vs.foldl lH (some none):=by unfold dn;rw[hvs]
 rw[hvs] at HV GM hvl
 obtain⟨R1,h1⟩:∃R,(gU (dn l)).1=R:=⟨_,rfl⟩
 obtain⟨R2,h2⟩:∃R,(gU (dn l)).2.1=R:=⟨_,rfl⟩
 obtain⟨R3,h3⟩:∃R,(gU (dn l)).2.2=R:=⟨_,rfl⟩
 rw[h1,h2,h3]
 have HR:Hid (gU (vs.foldl lH (some none))=(R1,R2,R3)):=af (by rw[←hlf,←h1,←h2,←h3])
 have HM:=af GM
 obtain⟨m,hm⟩:∃m,vs.length=m:=⟨_,rfl⟩
 rw[hm] at hvl
 have HL:=af hm
 have hm6:m≤1048576:=by omega
 clear hr hz hvs hlf h1 h2 h3 GM bf hvl hm
 unfold bu at HV
 go_enter Tryz.func12,Tryz.ntmps12
 go_wp2_with fail
 refine HV.out.mono ?_
 rintro e w1 ⟨v,rfl,hown,hb⟩
 rw[HL.out] at hown
 obtain⟨Av,cv,rfl,-,-,xQ,-⟩:=aC hown
 have H1:=af (And.intro xQ hb)
 clear hown xQ hb HV
 go_wp2_with fail
 go_loop [6,7] (fun mv iv=>N8 vs m mv iv) (fun _ iv=>m-(intOf iv).toNat)
 case atStart=>exact⟨0,0,rfl,rfl,aL _,by omega,.inl ⟨rfl,rfl⟩⟩
 case round=>
  obtain⟨k,t,rfl,rfl,hk,ht,ic⟩:=hrel
  have HO:=af ic
  clear ic
  by_cases hlt:k<m
  ·obtain⟨hl2,b,o,rfl,hbl,hc⟩:=BF H1.out.1 (by omega)
   obtain⟨s,hs⟩:∃s,vs[k]?=some s:=⟨_,a_ (by omega)⟩
   have z0:=hc k s hs
   have k1:(k:Int)<m:=by omega
   have HD:=af (aho s w1 (by have:=HM.out s (fq hs);omega))
   have htk:=aff hs
   have Cu:=XX s.data.toList
   obtain⟨V,hV⟩:∃V,(gD s.data.toList).1=V:=⟨_,rfl⟩
   obtain⟨E,hE⟩:∃E,(gD s.data.toList).2=E:=⟨_,rfl⟩
   rw[hV,hE] at HD
   rw[hV] at Cu
   have hst:∀o,lH (some o) s=if E≠0∨(∃k,o=some k∧V≠k) then none else some (some V):=fun o=>by
    show (if (gD s.data.toList).2≠0∨(∃k,o=some k∧(gD s.data.toList).1≠k) then none else some (some (gD s.data.toList).1))=_
    rw[hV,hE]
   have HT:=af (And.intro htk hst)
   clear hc hs htk hV hE hst
   have cZ:Hid ((vs.take (k+1)).foldl lH (some none)=none→(R1,R2,R3)=(0,false,102)):=af (fun h=>by rw[←HR.out,afd h];rfl)
   by_cases yZ:E=0
   ·subst yZ
    by_cases hk0:k=0
    ·have HN:Hid (N8 vs m (.int .i64 V) (.int .i64 (k+1:Nat))):=af (by
      refine⟨k+1,V,rfl,rfl,hlt,Cu,.inr ⟨by omega,?_⟩⟩
      rw[HT.out.1,hk0,List.take_zero]
      show lH (some none) s=_
      rw[HT.out.2,aj (by rintro (h | ⟨k,h,_⟩);exact h rfl;cases h)])
     have hkz:¬(0:Int)<k:=by omega
     clear cZ HT hk0
     go_wp2_with fail
     refine HD.out.mono ?_
     rintro e w2 ⟨rfl,rfl⟩
     go_wp2
     go_round
     case rel=>exact HN.out
     case measure=>simp[intOf];omega
    ·have hf:=(HO.out.resolve_left (fun h=>hk0 h.1)).2
     have kp:(0:Int)<k:=by omega
     by_cases GN:V=t
     ·subst GN
      have HN:Hid (N8 vs m (.int .i64 V) (.int .i64 (k+1:Nat))):=af (by
       refine⟨k+1,V,rfl,rfl,hlt,Cu,.inr ⟨by omega,?_⟩⟩
       rw[HT.out.1,hf,HT.out.2,aj (by rintro (h | ⟨k,h,h2⟩);exact h rfl;injection h with h;exact h2 h)])
      have e2:((V:Int) != V)=false:=by simp
      clear cZ HT hf hk0
      go_wp2_with fail
      refine HD.out.mono ?_
      rintro e w2 ⟨rfl,rfl⟩
      go_wp2
      go_round
      case rel=>exact HN.out
      case measure=>simp[intOf];omega
     ·have hr:=cZ.out (by rw[HT.out.1,hf,HT.out.2,ax (.inr ⟨t,rfl,GN⟩)])
      injection hr with r1 r2
      injection r2 with r2 r3
      subst r1 r2 r3
      have e2:((V:Int) != t)=true:=by rw[bne_iff_ne];omega
      clear cZ HT hf hk0 GN
      go_wp2_with fail
      refine HD.out.mono ?_
      rintro e w2 ⟨rfl,rfl⟩
      go_wp2
      exact bodyPost_ret (v:=.tuple #[.int .i64 0,.bool false,.int .i64 102]) (by simp[results,Tryz.results12,go_sem]) rfl ⟨rfl,H1.out.2⟩
   ·have nP:(vs.take (k+1)).foldl lH (some none)=none:=by
     rw[HT.out.1]
     by_cases hk0:k=0
     ·rw[hk0,List.take_zero]
      show lH (some none) s=_
      rw[HT.out.2,ax (.inl yZ)]
     ·rw[(HO.out.resolve_left (fun h=>hk0 h.1)).2,HT.out.2,ax (.inl yZ)]
    have hr:=cZ.out nP
    injection hr with r1 r2
    injection r2 with r2 r3
    subst r1 r2 r3
    have e2:((E:Int) != 0)=true:=by rw[bne_iff_ne];omega
    clear cZ HT yZ nP
    go_wp2_with fail
    refine HD.out.mono ?_
    rintro e w2 ⟨rfl,rfl⟩
    go_wp2
    exact bodyPost_ret (v:=.tuple #[.int .i64 0,.bool false,.int .i64 102]) (by simp[results,Tryz.results12,go_sem]) rfl ⟨rfl,H1.out.2⟩
  ·have hkn:k=m:=by omega
   subst hkn
   have qY:vs.take k=vs:=cB (by rw[HL.out];exact ah _)
   have ic:=HO.out
   rw[qY] at ic
   have hr:=HR.out
   by_cases hk0:k=0
   ·have hv0:vs=[]:=zR (by rw[HL.out];exact hk0)
    have qX:t=0:=by rcases ic with h | h <;> omega
    rw[hv0] at hr
    injection hr with r1 r2
    injection r2 with r2 r3
    subst r1 r2 r3
    subst qX
    have hkz:¬(0:Int)<k:=by omega
    have hkd:decide ((0:Int)<k)=false:=bU hkz
    clear ic qY hk0 hv0
    go_wp2
    exact bodyPost_ret (v:=.tuple #[.int .i64 0,.bool false,.int .i64 0]) (by simp[results,Tryz.results12,go_sem];omega) rfl ⟨rfl,H1.out.2⟩
   ·have hf:=(ic.resolve_left (fun h=>hk0 h.1)).2
    rw[hf] at hr
    injection hr with r1 r2
    injection r2 with r2 r3
    subst r1 r2 r3
    have kp:(0:Int)<k:=by omega
    clear ic qY hk0 hf
    go_wp2
    exact bodyPost_ret (v:=.tuple #[.int .i64 t,.bool true,.int .i64 0]) (by simp[results,Tryz.results12,go_sem];omega) rfl ⟨rfl,H1.out.2⟩
theorem ajq {l:List Fd}{k:Nat}{f:Fd}(h:l[k]?=some f):(aF (l.take (k+1)) bu).foldl lH (some none)=if f.1.1=bu then lH ((aF (l.take k) bu).foldl lH (some none)) f.1.2 else (aF (l.take k) bu).foldl lH (some none):=by
 rw[V7 h,og]
 by_cases hn:f.1.1=bu
 ·rw[ax hn,ax hn];rfl
 ·rw[aj hn,aj hn];rfl
theorem afe {l:List Fd}{k:Nat}(h:(aF (l.take k) bu).foldl lH (some none)=none):dn l=none:=by
 have e:aF l bu=aF (l.take k) bu++aF (l.drop k) bu:=by
  unfold aF
  rw[←j6,←List.filter_append,vV]
 unfold dn
 rw[e,og,h,SH]
def GU (o:Option Nat):Int:=match o with
 | none=>-1
 | some n=>n
def NW (w:World) (l:List Fd) (n:Nat) (mv iv:Value) (wr:World):Prop:=∃(k:Nat) (o:Option Nat),iv = .int .i64 k∧mv = .int .i64 (GU o)∧k≤n∧(∀t,o=some t→t≤1099511627776)∧(aF (l.take k) bu).foldl lH (some none)=some o∧Below w.heap.size w wr
theorem SI {A:Option Addr}{n c:Nat}{l:List Fd}(w:World) (hr:Rd w w.heap.size 3 A n (fds l)) (hn:n≤1048576) (hz:Tx l) :
 Calls Tryz.prog 41 #[.slice A n c] w fun e w'=>e = .returned (.tuple #[.int .i64 (gU (dn l)).1,.bool (gU (dn l)).2.1,.int .i64 (gU (dn l)).2.2])∧Below w.heap.size w w':=by
 have bf:l.length=n:=by have:=hr.1;rw[jJ] at this;omega
 obtain⟨R1,h1⟩:∃R,(gU (dn l)).1=R:=⟨_,rfl⟩
 obtain⟨R2,h2⟩:∃R,(gU (dn l)).2.1=R:=⟨_,rfl⟩
 obtain⟨R3,h3⟩:∃R,(gU (dn l)).2.2=R:=⟨_,rfl⟩
 rw[h1,h2,h3]
 have HR:Hid (gU (dn l)=(R1,R2,R3)):=af (by rw[←h1,←h2,←h3])
 have H1:=af (And.intro hr (And.intro hz bf))
 clear hr hz bf h1 h2 h3
 go_enter Tryz.func41,Tryz.ntmps41
 go_wp2_with fail
 go_loopw [5,12] (fun mv iv wr=>NW w l n mv iv wr) (fun _ iv _=>n-(intOf iv).toNat)
 case atStart=>exact⟨0,none,rfl,rfl,aL _,(fun t h=>by cases h),rfl,Below.refl _ _⟩
 case round=>
  obtain⟨k,o,rfl,rfl,hk,ho40,hfo,hb⟩:=hrel
  have HO:=af (And.intro hfo (And.intro hb ho40))
  have dZ:=hb.size
  clear hfo hb ho40
  by_cases hlt:k<n
  ·obtain⟨hl,b,o2,rfl,hbl,hc⟩:=mE (H1.out.1.below HO.out.2.1 (ah _)) (by omega)
   obtain⟨f,hf⟩:∃f,l[k]?=some f:=⟨_,a_ (by omega)⟩
   obtain⟨z0,z1,z2⟩:=hc k f hf
   have n1:(k:Int)<n:=by omega
   have gm:=af (ajq hf)
   have wJ:=H1.out.2.1 f (fq hf)
   obtain⟨⟨nm,vl⟩,nv⟩:=f
   simp only at z0 z1 z2 wJ
   have hbA:Below w.heap.size w (wr.alloc (.cells #[.string nm,.string vl,.bool nv] 26)):=HO.out.2.1.alloc dZ _
   have yo:=af hbA
   clear hc hf hbA
   by_cases hnm:nm=bu
   ·subst hnm
    have HD:=af (fun w=>adM vl w (by omega))
    have Cu:=XX vl.data.toList
    obtain⟨V,hV⟩:∃V,(gD vl.data.toList).1=V:=⟨_,rfl⟩
    obtain⟨E,hE⟩:∃E,(gD vl.data.toList).2=E:=⟨_,rfl⟩
    rw[hV,hE] at HD
    rw[hV] at Cu
    have hst:lH (some o) vl=if E≠0∨(∃k,o=some k∧V≠k) then none else some (some V):=by
     show (if (gD vl.data.toList).2≠0∨(∃k,o=some k∧(gD vl.data.toList).1≠k) then none else some (some (gD vl.data.toList).1))=_
     rw[hV,hE]
    have HT:Hid ((aF (l.take (k+1)) bu).foldl lH (some none)=if E≠0∨(∃k,o=some k∧V≠k) then none else some (some V)):=af (by
     rw[gm.out]
     simp only[if_true]
     rw[HO.out.1,hst])
    have Dh:=af (HD.out (wr.alloc (.cells #[.string bu,.string vl,.bool nv] 26)))
    clear hV hE hst HD gm
    unfold bu at z0 Dh yo
    by_cases nP:E≠0∨(∃k,o=some k∧V≠k)
    ·have hr:gU (dn l)=(0,false,102):=by
      rw[afe (k:=k+1) (by rw[HT.out,ax nP])]
      rfl
     rw[HR.out] at hr
     injection hr with r1 r2
     injection r2 with r2 r3
     subst r1 r2 r3
     by_cases yZ:E=0
     ·subst yZ
      obtain⟨t,hto,GN⟩:=nP.resolve_left (fun h=>h rfl)
      subst hto
      have e2:((V:Int) != t)=true:=by rw[bne_iff_ne];omega
      clear HT GN nP
      unfold GU
      go_wp2_with fail
      refine Dh.out.mono ?_
      rintro e w2 ⟨rfl,rfl⟩
      go_wp2
      exact bodyPost_ret (v:=.tuple #[.int .i64 0,.bool false,.int .i64 102]) (by simp[results,Tryz.results41,go_sem]) rfl ⟨rfl,yo.out⟩
     ·have e2:((E:Int) != 0)=true:=by rw[bne_iff_ne];omega
      clear HT nP yZ
      go_wp2_with fail
      refine Dh.out.mono ?_
      rintro e w2 ⟨rfl,rfl⟩
      go_wp2
      exact bodyPost_ret (v:=.tuple #[.int .i64 0,.bool false,.int .i64 102]) (by simp[results,Tryz.results41,go_sem]) rfl ⟨rfl,yo.out⟩
    ·have yZ:E=0:=by
      rcases zT E with h | h
      ·exact h
      ·exact absurd (.inl (by omega)) nP
     have HN:Hid (NW w l n (.int .i64 V) (.int .i64 (k+1:Nat)) (wr.alloc (.cells #[.string ⟨#[99,111,110,116,101,110,116,45,108,101,110,103,116,104]⟩,.string vl,.bool nv] 26))):=af ⟨k+1,some V,rfl,rfl,hlt,(fun t h=>by injection h with h;omega),by rw[HT.out,aj nP],yo.out⟩
     have Bi:∀t,o=some t→V=t:=fun t ht=>by
      rcases vW V t with h | h
      ·exact absurd (.inr ⟨t,ht,by omega⟩) nP
      ·rcases vW t V with h2 | h2
       ·exact absurd (.inr ⟨t,ht,by omega⟩) nP
       ·omega
     subst yZ
     clear nP HT
     cases o with
     | none=>
      unfold GU
      clear Bi
      go_wp2_with fail
      refine Dh.out.mono ?_
      rintro e w2 ⟨rfl,rfl⟩
      go_wp2
      go_roundw
      case rel=>exact HN.out
      case measure=>simp[intOf];omega
     | some t=>
      obtain rfl:=Bi t rfl
      clear Bi
      have e2:((V:Int) != V)=false:=by simp
      unfold GU
      go_wp2_with fail
      refine Dh.out.mono ?_
      rintro e w2 ⟨rfl,rfl⟩
      go_wp2
      go_roundw
      case rel=>exact HN.out
      case measure=>simp[intOf];omega
   ·have e1:(nm.toList==(⟨#[99,111,110,116,101,110,116,45,108,101,110,103,116,104]⟩:ByteArray).toList)=false:=(Lib.bytes_beq_false_iff nm _).2 hnm
    rw[show (⟨#[99,111,110,116,101,110,116,45,108,101,110,103,116,104]⟩:ByteArray).toList=[99,111,110,116,101,110,116,45,108,101,110,103,116,104] from by decide +kernel] at e1
    have HN:Hid (NW w l n (.int .i64 (GU o)) (.int .i64 (k+1:Nat)) (wr.alloc (.cells #[.string nm,.string vl,.bool nv] 26))):=af ⟨k+1,o,rfl,rfl,hlt,HO.out.2.2,by rw[gm.out,aj hnm];exact HO.out.1,yo.out⟩
    clear hnm gm
    go_wp2
    go_roundw
    case rel=>exact HN.out
    case measure=>simp[intOf];omega
  ·have qY:l.take k=l:=cB (by rw[H1.out.2.2];omega)
   have hr:gU (dn l)=gU (some o):=by
    have:=HO.out.1
    rw[qY] at this
    unfold dn
    rw[this]
   rw[HR.out] at hr
   clear qY
   cases o with
   | none=>
    injection hr with r1 r2
    injection r2 with r2 r3
    subst r1 r2 r3
    unfold GU
    go_wp2
    exact bodyPost_ret (v:=.tuple #[.int .i64 0,.bool false,.int .i64 0]) (by simp[results,Tryz.results41,go_sem];omega) rfl ⟨rfl,HO.out.2.1⟩
   | some t=>
    have ht:=HO.out.2.2 t rfl
    injection hr with r1 r2
    injection r2 with r2 r3
    subst r1 r2 r3
    have hm:max (R1:Int) 0=R1:=by omega
    unfold GU
    go_wp2
    exact bodyPost_ret (v:=.tuple #[.int .i64 R1,.bool true,.int .i64 0]) (by simp[results,Tryz.results41,go_sem]) rfl ⟨rfl,HO.out.2.1⟩
end
section
open Go.RowKit Go.Maps
structure MK (κ ε:Type) where
 t:TypeId
 k:TypeId
 e:TypeId
 kv : κ→Value
 kl : κ→Lit
 rA : κ→Prop
 ev : ε→Value
 el : ε→Lit
 z : ε
section
variable {κ ε:Type}
open Classical in
noncomputable def MK.R (M:MK κ ε) (v:Value):Option (DataW Unit×List MemPlace):=if h:∃x,v=M.ev x then some (.lit (M.el h.choose),[]) else none
structure pV (M:MK κ ε):Prop where
 ht:Tryz.prog.underlying M.t=some (.map M.k M.e)
 keyed:Keyed Tryz.prog M.k
 key:∀x,M.rA x→keyOf Tryz.prog M.k (M.kv x)=some (M.kl x)
 CU:∀x y,M.kl x=M.kl y→x=y
 Ih:∀x y,M.ev x=M.ev y→x=y
 IL:∀x y,M.el x=M.el y→x=y
 zero:∀w,(zeroValue M.e).run Tryz.prog w = .ok (M.ev M.z) w
variable {M:MK κ ε}
theorem pV.NZ (h:pV M) (x : ε):M.R (M.ev x)=some (.lit (M.el x),[]):=by
 unfold MK.R
 have h1:∃y,M.ev x=M.ev y:=⟨x,rfl⟩
 rw[dif_pos h1,←h.Ih _ _ h1.choose_spec]
theorem pV.Lr (h:pV M){v:Value}{x : ε}{ps:List MemPlace}(hv:M.R v=some (.lit (M.el x),ps)):v=M.ev x:=by
 unfold MK.R at hv
 split at hv
 ·rename_i h1
  injection hv with hv
  injection hv with hv
  injection hv with hv
  rw[h1.choose_spec,h.IL _ _ hv]
 ·cases hv
theorem pV.lit (h:pV M){x : κ}(hx:M.rA x):WideAt.IsKeyLit (M.kl x):=Keyed.key h.keyed (h.key x hx)
def bq (M:MK κ ε) (w:World) (mb N:Nat) (f : κ→Option ε) (n:Nat):Prop:=
 ∃D:DataW Unit,w.ownsMap Tryz.prog M.k M.R mb N D∧(∀i,M.rA i→has D (M.kl i)=(f i).isSome)∧(∀i b,M.rA i→f i=some b→D.atKey (M.kl i) (.lit (M.el M.z)) = .lit (M.el b))∧size D=n
def gLook (M:MK κ ε) (o:Option ε):Value:=.tuple #[M.ev (o.getD M.z),.bool o.isSome]
variable {w w':World} {mb N n:Nat} {f f' : κ→Option ε}
theorem bq.lt (h:bq M w mb N f n):mb<w.heap.size:=by obtain⟨D,hD,_⟩:=h;exact hD.lt
theorem bq.keep (h:bq M w mb N f n) (hk:w'.heap[mb]?=w.heap[mb]?):bq M w' mb N f n:=by
 obtain⟨D,⟨es,cl,hb,h2⟩,h3⟩:=h
 exact⟨D,⟨es,cl,hk.trans hb,h2⟩,h3⟩
theorem bq.below {B:Nat}(h:bq M w mb N f n) (hb:Below B w w') (hB:mb<B):bq M w' mb N f n:=h.keep (hb.block mb hB)
theorem bq.more (h:bq M w mb N f n){N':Nat}(hn:N≤N'):bq M w mb N' f n:=by
 obtain⟨D,h1,h2⟩:=h
 exact⟨D,h1.mono hn,h2⟩
theorem bq.congr (h:bq M w mb N f n) (hf:∀i,M.rA i→f' i=f i):bq M w mb N f' n:=by
 obtain⟨D,h1,h2,h3,h4⟩:=h
 exact⟨D,h1,fun i hi=>by rw[hf i hi];exact h2 i hi,fun i b hi hb=>h3 i b hi (by rw[←hf i hi];exact hb),h4⟩
theorem bq.look (ok:pV M) (h:bq M w mb N f n){i : κ}(hi:M.rA i):(Instr.lookup M.t (.map (some mb)) (M.kv i) true).run Tryz.prog w = .ok (gLook M (f i)) w:=by
 obtain⟨D,h1,h2,h3,h4⟩:=h
 obtain⟨v,ps,hrun,hR⟩:=h1.look_ok ok.keyed ok.ht (ok.zero _) (zd:=.lit (M.el M.z)) (zp:=[]) (ok.NZ _) (ok.key i hi)
 rw[hrun,h2 i hi]
 cases hf:f i with
 | some b=>
  rw[h3 i b hi hf] at hR
  rw[ok.Lr hR];rfl
 | none=>
  rw[atKey_of_not_has (by rw[h2 i hi,hf];rfl)] at hR
  rw[ok.Lr hR];rfl
theorem bq.len (h:bq M w mb N f n) (ok:pV M) (ty:TypeId):(Builtin.len_ #[M.t] ty #[.map (some mb)]).run Tryz.prog w = .ok (.int .i64 n) w:=by
 obtain⟨D,h1,h2,h3,h4⟩:=h
 rw[h1.len ok.ht ty,h4]
open Classical in
theorem bq.put (ok:pV M) (h:bq M w mb N f n){i : κ}(hi:M.rA i) (hN:N<maxLen) (b : ε) :
 ∃w',(Instr.mapUpdate M.t (.map (some mb)) (M.kv i) (M.ev b)).run Tryz.prog w = .ok () w'∧bq M w' mb (N+1) (fun j=>if j=i then some b else f j) (if (f i).isSome then n else n+1)∧w.grownBy w' (some mb):=by
 obtain⟨D,h1,h2,h3,h4⟩:=h
 obtain⟨w',hrun,ho,hg⟩:=h1.update ok.keyed ok.ht hN (ok.key i hi) (ok.NZ b)
 have ht:=h1.tidy ok.keyed
 refine⟨w',hrun,⟨_,ho,fun j hj=>?_,fun j c hj hc=>?_,?_⟩,hg⟩
 ·by_cases e:j=i
  ·subst e;rw[has_put_same ht.isMap (ok.lit hj)];simp
  ·rw[has_put_other (fun e2=>e (ok.CU _ _ e2)),h2 j hj];simp[e]
 ·by_cases e:j=i
  ·subst e
   simp only[if_true] at hc
   have hc2:b=c:=qI hc
   rw[←hc2]
   exact atKey_put_same ht.isMap (ok.lit hj) _ _
  ·simp only[aj e] at hc
   rw[atKey_put_other (fun e2=>e (ok.CU _ _ e2))]
   exact h3 j c hj hc
 ·rw[size_put ht,h2 i hi,h4]
theorem L9 (M:MK κ ε) (w:World):bq M (w.alloc (.map #[] 0)) w.heap.size 0 (fun _=>none) 0:=⟨.map [],World.ownsMap_made _ _ _ _,fun _ _=>rfl,(fun _ _ _ h=>by cases h),rfl⟩
end
def Ex:MK ByteArray ByteArray:={ t:=83,k:=9,e:=87,kv:=.string,kl:=fun s=>.string s.data.toList,rA:=fun s=>s.size≤maxLen,ev:=fun s=>.agg #[.string s],el:=fun s=>.string s.data.toList,z:=⟨#[]⟩ }
theorem IP:pV Ex where
 ht:=Tryz.underlying83
 keyed:=string_keyed Tryz.underlying9
 key x h:=WideMaps.keyOf_string_mk Tryz.underlying9 h
 CU x y h:=by injection h with h;exact Go.WideShapes.bytes_inj h
 Ih x y h:=by
  have h1:(Value.agg #[.string x]) = .agg #[.string y]:=h
  injection h1 with h1
  injection h1 with h1
  injection h1 with h1 h2
  injection h1
 IL x y h:=by injection h with h;exact Go.WideShapes.bytes_inj h
 zero w:=by kernel_rfl
def Ko:MK ByteArray Int:={ t:=157,k:=9,e:=3,kv:=.string,kl:=fun s=>.string s.data.toList,rA:=fun s=>s.size≤maxLen,ev:=fun i=>.int .i64 i,el:=fun i=>.int .i64 i,z:=0 }
theorem ZC:pV Ko where
 ht:=Tryz.underlying157
 keyed:=string_keyed Tryz.underlying9
 key x h:=WideMaps.keyOf_string_mk Tryz.underlying9 h
 CU x y h:=by injection h with h;exact Go.WideShapes.bytes_inj h
 Ih x y h:=by injection h
 IL x y h:=by injection h
 zero w:=by kernel_rfl
end
section
open Go.RowKit Go.Maps
def look (L:List (Int×Int)) (s:Int):Option Int:=(L.find? fun p=>p.1==s).map (·.2)
def upd (L:List (Int×Int)) (s x:Int):List (Int×Int):=L.map fun p=>if p.1==s then (s,x) else p
def sO (L:List (Int×Int)) (s x:Int):List (Int×Int):=if (look L s).isSome then upd L s x else L++[(s,x)]
def tT (L:List (Int×Int)) (s:Int):List (Int×Int):=L.filter fun p=>p.1 != s
def yC (L:List (Int×Int)):Prop:=(L.map (·.1)).Nodup
theorem zq (p:Int×Int) (L:List (Int×Int)) (s:Int):look (p :: L) s=if p.1=s then some p.2 else look L s:=by
 unfold look
 rw[List.find?_cons]
 by_cases h:p.1=s
 ·simp[h]
 ·have:(p.1==s)=false:=by simpa using h
  simp[this,h]
theorem Zg {L:List (Int×Int)}{s:Int}:look L s=none↔s ∉ L.map (·.1):=by
 induction L with
 | nil=>simp[look]
 | cons p L ih=>
  rw[zq]
  by_cases h:p.1=s
  ·simp[h]
  ·rw[aj h,ih]
   simp only[lV,qG,not_or]
   exact⟨fun x=>⟨fun e=>h e.symm,x⟩,fun x=>x.2⟩
theorem afu (L M:List (Int×Int)) (s:Int):look (L++M) s=(look L s).or (look M s):=by
 induction L with
 | nil=>simp[look]
 | cons p L ih=>
  rw[oM,zq,zq,ih]
  split <;> rfl
theorem upd_keys (L:List (Int×Int)) (s x:Int):(upd L s x).map (·.1)=L.map (·.1):=by
 unfold upd
 rw[List.map_map]
 apply List.map_congr_left
 intro p _
 simp only[Function.comp]
 split
 ·rename_i h;simpa using (by simpa using h:p.1=s).symm
 ·rfl
theorem afv (L:List (Int×Int)) (s x r:Int):look (upd L s x) r=if r=s then (look L s).map (fun _=>x) else look L r:=by
 induction L with
 | nil=>simp[look,upd]
 | cons p L ih=>
  rw[show upd (p :: L) s x=(if p.1==s then (s,x) else p) :: upd L s x from rfl,zq,ih,zq,zq]
  by_cases h:p.1=s
  ·have e:(p.1==s)=true:=by simpa using h
   rw[ax e]
   by_cases hr:r=s
   ·subst hr;simp[h]
   ·simp[h,hr,Ne.symm hr]
  ·have e:(p.1==s)=false:=by simpa using h
   rw[e]
   by_cases hr:r=s
   ·subst hr;simp[h]
   ·by_cases hp:p.1=r
    ·simp[hp,hr]
    ·simp[hp,hr]
theorem Zh (L:List (Int×Int)) (s x r:Int):look (sO L s x) r=if r=s then some x else look L r:=by
 unfold sO
 cases hl:look L s with
 | some y=>
  simp only[Option.isSome_some,if_true]
  rw[afv,hl];rfl
 | none=>
  simp only[Option.isSome_none,zD,if_false]
  rw[afu,zq]
  by_cases hr:r=s
  ·subst hr;simp[hl]
  ·simp[Ne.symm hr,hr,look]
theorem Zf (L:List (Int×Int)) (s r:Int):look (tT L s) r=if r=s then none else look L r:=by
 induction L with
 | nil=>simp[look,tT]
 | cons p L ih=>
  unfold tT at ih ⊢
  rw[List.filter_cons]
  by_cases h:p.1=s
  ·have e:(p.1 != s)=false:=by simpa using h
   rw[e,zq]
   simp only[zD,if_false]
   rw[ih]
   by_cases hr:r=s
   ·simp[hr]
   ·have:p.1≠r:=fun e=>hr (by omega)
    simp[hr,this]
  ·have e:(p.1 != s)=true:=by simpa using h
   rw[e]
   simp only[if_true]
   rw[zq,zq,ih]
   by_cases hr:r=s
   ·subst hr;simp[h]
   ·simp[hr]
theorem age {L:List (Int×Int)}(h:yC L) (s x:Int):yC (sO L s x):=by
 unfold sO yC at *
 cases hl:look L s with
 | some y=>simp only[Option.isSome_some,if_true];rw[upd_keys];exact h
 | none=>
  simp only[Option.isSome_none,zD,if_false,j6,lV,vU]
  rw[List.nodup_append]
  refine⟨h,by simp,fun a ha b hb=>?_⟩
  simp at hb
  subst hb
  intro e;subst e
  exact Zg.1 hl ha
theorem agd {L:List (Int×Int)}(h:yC L) (s:Int):yC (tT L s):=
 List.Nodup.sublist (List.Sublist.map _ List.filter_sublist) h
theorem ag9 (L:List (Int×Int)) (s x:Int):(sO L s x).length=if (look L s).isSome then L.length else L.length+1:=by
 unfold sO
 split <;> simp[upd]
theorem adN {L:List (Int×Int)}(h:yC L) (s:Int):(tT L s).length+(if (look L s).isSome then 1 else 0)=L.length:=by
 induction L with
 | nil=>simp[tT,look]
 | cons p L ih=>
  have hL:yC L:=by unfold yC at h ⊢;exact (List.nodup_cons.1 h).2
  have hn:p.1 ∉ L.map (·.1):=by unfold yC at h;exact (List.nodup_cons.1 h).1
  have:=ih hL
  unfold tT at this ⊢
  rw[List.filter_cons,zq]
  by_cases hp:p.1=s
  ·have hl:look L s=none:=Zg.2 (hp ▸ hn)
   rw[hl] at this
   simp[hp] at this ⊢
   exact this
  ·have e:(p.1 != s)=true:=by simpa using hp
   simp only[e,if_true,aj hp,fe]
   omega
def key (s:Int):Lit:=.int .i64 s
def Ng (x:Int):DataW Unit:=.lit (.int .i64 x)
structure zS (D:DataW Unit) (L:List (Int×Int)):Prop where
 has:∀s,Maps.has D (key s)=(look L s).isSome
 at_:∀s x,look L s=some x→D.atKey (key s) (Ng 0)=Ng x
 size:Maps.size D=L.length
theorem MI {s r:Int}(h:s≠r):key s≠key r:=fun e=>h (by injection e)
theorem Y7 (s:Int):WideAt.IsKeyLit (key s):=by unfold key WideAt.IsKeyLit;trivial
theorem zS.empty:zS (.map []) []:=⟨fun s=>rfl,fun s x h=>by simp[look] at h,rfl⟩
theorem zS.put {D:DataW Unit}{L:List (Int×Int)}(h:zS D L) (ht:Tidy D) (s x:Int):zS (D.put (key s) (Ng x)) (sO L s x):=by
 refine⟨fun r=>?_,fun r y hy=>?_,?_⟩
 ·rw[Zh]
  by_cases hr:r=s
  ·subst hr;rw[has_put_same ht.isMap (Y7 _)];simp
  ·rw[has_put_other (MI hr),h.has];simp[hr]
 ·rw[Zh] at hy
  by_cases hr:r=s
  ·subst hr
   rw[ax rfl] at hy
   injection hy with hy
   subst hy
   exact atKey_put_same ht.isMap (Y7 _) _ _
  ·rw[aj hr] at hy
   rw[atKey_put_other (MI hr)]
   exact h.at_ r y hy
 ·rw[size_put ht,h.has,ag9,h.size]
theorem zS.del {D:DataW Unit}{L:List (Int×Int)}(h:zS D L) (ht:Tidy D) (ho:yC L) (s:Int):zS (D.del (key s)) (tT L s):=by
 refine⟨fun r=>?_,fun r y hy=>?_,?_⟩
 ·rw[Zf]
  by_cases hr:r=s
  ·subst hr;rw[has_del_same];simp
  ·rw[has_del_other (MI hr),h.has];simp[hr]
 ·rw[Zf] at hy
  by_cases hr:r=s
  ·rw[ax hr] at hy;cases hy
  ·rw[aj hr] at hy
   rw[atKey_del_other (MI hr)]
   exact h.at_ r y hy
 ·have h1:=size_del (k:=key s) ht
  have h2:=adN ho s
  rw[h.has,h.size] at h1
  omega
end
section
open Go.RowKit Go.Maps
theorem zn:Keyed Tryz.prog 3:=int_keyed Tryz.underlying3
theorem zeroE (w:World):(zeroValue 2).run Tryz.prog w = .ok (.int .i64 0) w:=by kernel_rfl
theorem ajx (w:World) (o:Obj):(w.alloc o).heap[w.heap.size]?=some o:=by
 show (w.heap.push o)[w.heap.size]?=_
 simp
structure pJ (g m:Nat) (w w':World):Prop where
 os:w'.os=w.os
 tape:w'.tape=w.tape
 output:w'.output=w.output
 size:w.heap.size≤w'.heap.size
 block:∀k,k<w.heap.size→k≠g→k≠m→w'.heap[k]?=w.heap[k]?
theorem pJ.refl (g m:Nat) (w:World):pJ g m w w:=⟨rfl,rfl,rfl,ah _,fun _ _ _ _=>rfl⟩
theorem pJ.trans {g m:Nat}{a b c:World}(h:pJ g m a b) (k:pJ g m b c):pJ g m a c:=
 ⟨k.os.trans h.os,k.tape.trans h.tape,k.output.trans h.output,gM h.size k.size,fun i hi h1 h2=>(k.block i (fI hi h.size) h1 h2).trans (h.block i hi h1 h2)⟩
theorem pJ.grown {g m:Nat}{w w':World}(h:w.grownBy w' (some m)):pJ g m w w':=⟨h.os,h.tape,h.output,h.size,fun i hi _ h2=>h.block i hi (by simpa using h2)⟩
theorem pJ.below {g m B:Nat}{w w':World}(h:pJ g m w w') (h1:B≤g) (h2:B≤m) (hs:B≤w.heap.size):Below B w w':=
 ⟨h.os,h.tape,h.output,h.size,fun k hk=>h.block k (by omega) (by omega) (by omega)⟩
theorem pJ.setCell (g m:Nat) (w:World) (o:Nat) (v:Value):pJ g m w (w.setCell ⟨g,o,none⟩ v):=
 ⟨rfl,rfl,rfl,by simp[World.setCell],fun k _ h1 _=>Below.heap_setCell _ _ _ _ h1⟩
structure WB (w:World) (g m:Nat) (all first:Int) (L:List (Int×Int)):Prop where
 book:w.heap[g]?=some (.cells #[.int .i64 all,.int .i64 first,.map (some m)] 173 (0,0))
 ne:g≠m
 once:yC L
 map:∃D:DataW Unit,w.ownsMap Tryz.prog 3 (plainElem Tryz.prog 2) m L.length D∧zS D L
section
variable {w w':World} {g m:Nat} {all first:Int} {L:List (Int×Int)}
theorem tight {P:Program}{H:Type}{k:TypeId}{R:Value→Option (DataW H×List MemPlace)}{b n:Nat}{D:DataW H}(h:w.ownsMap P k R b n D):w.ownsMap P k R b (Maps.size D) D:=by
 obtain⟨es,cl,h1,h2,_,h4⟩:=h
 refine⟨es,cl,h1,h2,?_,h4⟩
 rw[h4,Maps.size_eq,length_read]
 exact ah _
theorem WB.lt (h:WB w g m all first L):g<w.heap.size∧m<w.heap.size:=by
 obtain⟨D,hD,_⟩:=h.map
 exact⟨(Array.getElem?_eq_some_iff.1 h.book).1,hD.lt⟩
theorem WB.keep (h:WB w g m all first L) (hg:w'.heap[g]?=w.heap[g]?) (hm:w'.heap[m]?=w.heap[m]?):WB w' g m all first L:=by
 obtain⟨D,⟨es,cl,h1,h2⟩,h3⟩:=h.map
 exact⟨hg.trans h.book,h.ne,h.once,D,⟨es,cl,hm.trans h1,h2⟩,h3⟩
theorem WB.below {B:Nat}(h:WB w g m all first L) (hb:Below B w w') (h1:g<B) (h2:m<B):WB w' g m all first L:=h.keep (hb.block g h1) (hb.block m h2)
theorem WB.cells (h:WB w g m all first L):w.cell? ⟨g,0,none⟩=some (.int .i64 all)∧w.cell? ⟨g,1,none⟩=some (.int .i64 first)∧w.cell? ⟨g,2,none⟩=some (.map (some m)):=by
 refine⟨?_,?_,?_⟩ <;> (unfold World.cell?;rw[h.book];rfl)
theorem hb_g (h:WB w g m all first L) (hg:w.grownBy w' (some m)):w'.heap[g]?=some (.cells #[.int .i64 all,.int .i64 first,.map (some m)] 173 (0,0)):=
 (hg.block g h.lt.1 (by have:=h.ne;simpa using this)).trans h.book
theorem WB.free (h:WB w g m all first L) (o:Nat):w.frozen? ⟨g,o,none⟩=false:=by
 unfold World.frozen?;rw[h.book];simp
end
def WNew (n:Int) (W:World) (e:Ending) (w':World):Prop:=∃g m,e = .returned (.tuple #[.pointer (some ⟨g,0,none⟩),.int .i64 0])∧WB w' g m 65535 n []∧W.heap.size≤g∧W.heap.size≤m∧Below W.heap.size W w'
theorem ajB (n:Int) (w:World) (h0 : 0≤n) (h1:n≤2147483647):Calls Tryz.prog 48 #[.int .i64 n] w (WNew n w):=by
 have fA:=@run_makeMap Tryz.prog
 go_enter Tryz.func48,Tryz.ntmps48
 go_wp2
 go_ret2
 refine⟨w.heap.size+1,w.heap.size,rfl,⟨?_,by omega,List.nodup_nil,.map [],?_,zS.empty⟩,by omega,by omega,((Below.refl _ _).alloc (ah _) _).alloc (by simp) _⟩
 ·have hn:=ajx (w.alloc (.map #[] 0)) (.cells #[.int .i64 65535,.int .i64 n,.map (some w.heap.size)] 173)
  rw[show (w.alloc (.map #[] 0)).heap.size=w.heap.size+1 by simp] at hn
  exact hn
 ·exact (World.ownsMap_made w _ _ _).alloc _
def WDid (g m:Nat) (W:World) (err:Int) (all first:Int) (L:List (Int×Int)) (e:Ending) (w':World):Prop:=
 e = .returned (.int .i64 err)∧WB w' g m all first L∧pJ g m W w'
theorem ajC {g m:Nat}{all first:Int}{L:List (Int×Int)}(s:Int) (w:World) (h:WB w g m all first L) (hs:(Lit.int .i64 s).wf=true) (h1 : 1≤s) (hn:L.length<100000) :
 Calls Tryz.prog 193 #[.pointer (some ⟨g,0,none⟩),.int .i64 s] w
  (if (look L s).isSome then WDid g m w 5 all first L else WDid g m w 0 all first (sO L s 0)):=by
 obtain⟨c0,c1,c2⟩:=h.cells
 obtain⟨D,hD,hM⟩:=h.map
 have HS:=af hs
 have HD:=af hD
 have HM:=af hM
 have H:=af h
 have hh:=hM.has s
 clear hs hD hM h
 cases hl:look L s with
 | some x=>
  rw[hl] at hh
  have HH:=af hh
  clear hh hl
  simp only[Option.isSome_some,if_true]
  go_enter Tryz.func193,Tryz.ntmps193
  go_wp2_with (at_lookup;refine wpList_lookup_own_ok_int _ rfl _ _ 171 rfl 3 2 .i64 zn Tryz.underlying171 Tryz.underlying2 (zeroE _) m _ D rfl HD.out _ (key s) rfl (keyOf_int_mk Tryz.underlying3 HS.out) ?_;intro c hat hwc;rw[HH.out];clear hat hwc)
  go_ret
  exact⟨rfl,H.out,pJ.refl _ _ _⟩
 | none=>
  have HL:=af hl
  rw[hl] at hh
  have HH:=af hh
  clear hh hl
  simp only[Option.isSome_none,zD,if_false]
  go_enter Tryz.func193,Tryz.ntmps193
  go_wp2_with (first
   | (at_lookup;refine wpList_lookup_own_ok_int _ rfl _ _ 171 rfl 3 2 .i64 zn Tryz.underlying171 Tryz.underlying2 (zeroE _) m _ D rfl HD.out _ (key s) rfl (keyOf_int_mk Tryz.underlying3 HS.out) ?_;intro c hat hwc;rw[HH.out];clear hat hwc)
   | (at_mapUpdate;refine wpList_mapUpdate_own _ rfl _ _ _ 171 rfl 3 2 zn Tryz.underlying171 _ m _ D rfl HD.out (by unfold maxLen;omega) _ _ (key s) rfl rfl (keyOf_int_mk Tryz.underlying3 HS.out) (Ng 0) [] (plainElem_int Tryz.underlying2 (by decide)) ?_;intro w1 hown1 D_))
  go_ret
  have hb:=pJ.grown (g:=g) D_
  have hlt:=H.out.lt
  refine⟨rfl,⟨(hb_g H.out D_),H.out.ne,age H.out.once s 0,_,?_,HM.out.put (HD.out.tidy zn) s 0⟩,hb⟩
  have:=tight hown1
  rw[(HM.out.put (HD.out.tidy zn) s 0).size] at this
  exact this
end
section
open Go.RowKit Go.Maps
theorem ajI {g m:Nat}{all first:Int}{L:List (Int×Int)}(s:Int) (w:World) (h:WB w g m all first L) (hs:(Lit.int .i64 s).wf=true) :
 Calls Tryz.prog 161 #[.pointer (some ⟨g,0,none⟩),.int .i64 s] w fun e w'=>e = .returned (.tuple #[])∧WB w' g m all first (tT L s)∧pJ g m w w':=by
 obtain⟨c0,c1,c2⟩:=h.cells
 obtain⟨D,hD,hM⟩:=h.map
 have HS:=af hs
 have HD:=af hD
 have HM:=af hM
 have H:=af h
 clear hs hD hM h
 go_enter Tryz.func161,Tryz.ntmps161
 go_wp2_with (at_delete;refine wpList_delete_own _ rfl _ _ 171 3 rfl 2 zn Tryz.underlying171 _ m _ D rfl HD.out _ (key s) rfl (keyOf_int_mk Tryz.underlying3 HS.out) ?_;intro w1 hown1 hturn1)
 go_end0
 have hg:=hturn1.grown
 refine⟨rfl,⟨hb_g H.out hg,H.out.ne,agd H.out.once s,_,?_,HM.out.del (HD.out.tidy zn) H.out.once s⟩,pJ.grown hg⟩
 have:=tight hown1
 rw[(HM.out.del (HD.out.tidy zn) H.out.once s).size] at this
 exact this
end
section
open Go.RowKit Go.Maps

end
section
open Go.RowKit Go.Maps
structure dx where
 F:Nat→Prop
 P:World→Prop
 lt:∀w,P w→∀b,F b→b<w.heap.size
 loc:∀w w',(∀b,F b→w'.heap[b]?=w.heap[b]?)→P w→P w'
structure All (B:Nat) (w:World) (cs:List dx):Prop where
 here:∀c ∈ cs,c.P w
 apart:cs.Pairwise fun a b=>∀x,a.F x→¬b.F x
 base:∀c ∈ cs,∀b,c.F b→B≤b
 sz:B≤w.heap.size
section
variable {B:Nat} {w w':World} {c c':dx} {cs pre post:List dx}
theorem All.head (h:All B w (c :: cs)):c.P w:=h.here c (iK ..)
theorem All.below (h:All B w cs) (hb:Below w.heap.size w w'):All B w' cs:=
 ⟨fun c hc=>c.loc w w' (fun b hF=>hb.block b (c.lt w (h.here c hc) b hF)) (h.here c hc),h.apart,h.base,gM h.sz hb.size⟩
theorem All.step (h:All B w (c :: cs)) (hk:Kept c.F w w') (hg:kX w c.F c'.F) (hp:c'.P w'):All B w' (c' :: cs):=by
 obtain⟨h1,h2⟩:=List.pairwise_cons.1 h.apart
 refine⟨fun d hd=>?_,List.pairwise_cons.2 ⟨fun d hd x hx hdx=>?_,h2⟩,fun d hd b hF=>?_,gM h.sz hk.size⟩
 ·rcases List.mem_cons.1 hd with rfl | hd
  ·exact hp
  ·have hdp:=h.here d (fH _ hd)
   exact d.loc w w' (fun b hF=>hk.block b (d.lt w hdp b hF) (fun hc=>h1 d hd b hc hF)) hdp
 ·have hdp:=h.here d (fH _ hd)
  rcases hg x hx with hx | hx
  ·exact h1 d hd x hx hdx
  ·have:=d.lt w hdp x hdx;omega
 ·rcases List.mem_cons.1 hd with rfl | hd
  ·rcases hg b hF with hb | hb
   ·exact h.base c (iK ..) b hb
   ·exact gM h.sz hb
  ·exact h.base d (fH _ hd) b hF
theorem All.kept (h:All B w (c :: cs)) (hk:Kept c.F w w'):Below B w w':=hk.below (fun b hb=>h.base c (iK ..) b hb) h.sz
theorem All.pick (pre:List dx) (h:All B w (pre++c :: post)):All B w (c :: (pre++post)):=
 have hp:(pre++c :: post).Perm (c :: (pre++post)):=List.perm_middle
 ⟨fun d hd=>h.here d (hp.mem_iff.2 hd),(hp.pairwise_iff (fun hab x h1 h2=>hab x h2 h1)).1 h.apart,fun d hd=>h.base d (hp.mem_iff.2 hd),h.sz⟩
theorem All.put (pre:List dx) (h:All B w (c :: (pre++post))):All B w (pre++c :: post):=
 have hp:(c :: (pre++post)).Perm (pre++c :: post):=List.perm_middle.symm
 ⟨fun d hd=>h.here d (hp.mem_iff.2 hd),(hp.pairwise_iff (fun hab x h1 h2=>hab x h2 h1)).1 h.apart,fun d hd=>h.base d (hp.mem_iff.2 hd),h.sz⟩
theorem All.new (h:All B w cs) (hb:Below w.heap.size w w') (hp:c'.P w') (hf:∀b,c'.F b→w.heap.size≤b):All B w' (c' :: cs):=by
 have h2:=h.below hb
 refine⟨fun d hd=>?_,List.pairwise_cons.2 ⟨fun d hd x hx hdx=>?_,h.apart⟩,fun d hd b hF=>?_,h2.sz⟩
 ·rcases List.mem_cons.1 hd with rfl | hd
  ·exact hp
  ·exact h2.here d hd
 ·have:=d.lt w (h.here d hd) x hdx
  have:=hf x hx
  omega
 ·rcases List.mem_cons.1 hd with rfl | hd
  ·exact gM h.sz (hf b hF)
  ·exact h.base d hd b hF
theorem All.nil (w:World):All w.heap.size w []:=⟨fun _ h=>(by cases h),List.Pairwise.nil,fun _ h=>(by cases h),ah _⟩
theorem All.tail (h:All B w (c :: cs)):All B w cs:=⟨fun d hd=>h.here d (fH _ hd),(List.pairwise_cons.1 h.apart).2,fun d hd=>h.base d (fH _ hd),h.sz⟩
theorem All.same (h:All B w (c :: cs)) (hF:∀b,c'.F b→c.F b) (hp:c'.P w):All B w (c' :: cs):=h.step (Kept.refl _ w) (fun b hb=>.inl (hF b hb)) hp
end
def bg (p:Nat) (cs:Array Value) (t:TypeId):dx where
 F:=fun b=>b=p
 P:=fun w=>w.heap[p]?=some (.cells cs t (0,0))
 lt:=fun w h b hb=>by subst hb;exact (Array.getElem?_eq_some_iff.1 h).1
 loc:=fun w w' hk h=>(hk p rfl).trans h
def aD (t:TypeId) (size:Nat) (v:Value) (n:Nat) (xs:List Value):dx where
 F:=fun b=>v.ownBlock=some b
 P:=fun w=>w.ownsRow 0 t size v n xs
 lt:=fun _ h b hb=>(World.ownsRow.lt h b hb).2
 loc:=fun _ _ hk h=>by
  rcases h with ⟨hl,h0 | ⟨g,cap,cur,hv,hg,hb,h3⟩⟩
  ·exact⟨hl,.inl h0⟩
  ·exact⟨hl,.inr ⟨g,cap,cur,hv,hg,(hk g (by rw[hv];rfl)).trans hb,h3⟩⟩
def aH {κ ε:Type}(M:MK κ ε) (mb N:Nat) (f : κ→Option ε) (n:Nat):dx where
 F:=fun b=>b=mb
 P:=fun w=>bq M w mb N f n
 lt:=fun w h b hb=>by subst hb;exact h.lt
 loc:=fun w w' hk h=>h.keep (hk mb rfl)
def mV (d:Nat) (G:Nat→Prop) (N:Nat) (mo li:Int) (T:Tb) (br:Bool):dx where
 F:=G
 P:=fun w=>pK w d G N mo li T br
 lt:=fun _ h b hb=>h.lt b hb
 loc:=fun _ _ hk h=>h.keep hk
def gB (g m:Nat) (all first:Int) (L:List (Int×Int)):dx where
 F:=fun b=>b=g∨b=m
 P:=fun w=>WB w g m all first L
 lt:=fun w h b hb=>by
  obtain⟨h1,h2⟩:=h.lt
  rcases hb with rfl | rfl
  ·exact h1
  ·exact h2
 loc:=fun w w' hk h=>h.keep (hk g (.inl rfl)) (hk m (.inr rfl))
theorem All.app {B:Nat}{w w':World}{cs:List dx}{t:TypeId}{size:Nat}{v v':Value}{n n':Nat}{xs xs':List Value}(h:All B w (aD t size v n xs :: cs)) (hown:w'.ownsRow 0 t size v' n' xs') (hg:w.grownBy w' v.ownBlock) (hb:v'.ownBlock=v.ownBlock∨v'.ownBlock=some w.heap.size) :
 All B w' (aD t size v' n' xs' :: cs)∧Below B w w':=by
 have hk:Kept (aD t size v n xs).F w w':=(Kept.refl (fun b=>v.ownBlock=some b) w).grown hg (fun k hk=>.inl hk)
 refine⟨h.step hk (fun b hb'=>?_) hown,h.kept hk⟩
 have hb2:v'.ownBlock=some b:=hb'
 rcases hb with hb | hb
 ·exact .inl (hb.symm.trans hb2)
 ·rw[hb] at hb2;injection hb2 with hb2;exact .inr (by omega)
theorem All.set {B:Nat}{w:World}{cs:List dx}{p:Nat}{c:Array Value}{t:TypeId}(h:All B w (bg p c t :: cs)) (o:Nat) (v:Value) :
 All B (w.setCell ⟨p,o,none⟩ v) (bg p (c.setIfInBounds o v) t :: cs)∧Below B w (w.setCell ⟨p,o,none⟩ v):=by
 have hk:Kept (bg p c t).F w (w.setCell ⟨p,o,none⟩ v):=(Kept.refl (fun b=>b=p) w).setCell rfl o v
 exact⟨h.step (c':=bg p (c.setIfInBounds o v) t) hk (fun b hb=>.inl hb) (oH v h.head),h.kept hk⟩
end
section
open Go.RowKit
def ru {α:Type}:Nat→List α→List α
 | 0,l=>l
 | _+1,[]=>[]
 | n+1,x :: l=>match ru n l with
  | []=>[x]
  | y :: r=>y :: x :: r
def pkF {α:Type}:List Nat→List α→List α
 | [],l=>l
 | i :: is,l=>pkF is (ru i l)
theorem All.mv {B:Nat}{w:World}:∀(n:Nat){cs:List dx},All B w cs→All B w (ru n cs)
 | 0,_,h=>by simpa only[ru] using h
 | _+1,[],h=>by simpa only[ru] using h
 | n+1,x :: l,h=>by
  have ht:=All.mv n h.tail
  have h2:∃pre y post,ru n l=y :: (pre++post)∧l=pre++y :: post∨ru n l=l:=by
   clear h ht
   induction n generalizing l with
   | zero=>exact⟨[],x,[],.inr (by simp only[ru])⟩
   | succ n ih=>
    cases l with
    | nil=>exact⟨[],x,[],.inr (by simp only[ru])⟩
    | cons z l=>
     obtain⟨pre,y,post,h | h⟩:=ih (l:=l)
     ·refine⟨z :: pre,y,post,.inl ⟨?_,by rw[h.2];rfl⟩⟩
      simp only[ru,h.1,oM]
     ·cases l with
      | nil=>exact⟨[],x,[],.inr (by simp only[ru,h])⟩
      | cons q l=>exact⟨[z],q,l,.inl ⟨by simp only[ru,h,oM,jQ],rfl⟩⟩
  obtain⟨pre,y,post,h3 | h3⟩:=h2
  ·simp only[ru,h3.1]
   rw[h3.2] at h
   exact All.pick (x :: pre) h
  ·cases l with
   | nil=>simpa only[ru,h3] using h
   | cons q l=>simp only[ru,h3];exact All.pick [x] h
theorem All.pkA {B:Nat}{w:World}:∀(is:List Nat){cs:List dx},All B w cs→All B w (pkF is cs)
 | [],_,h=>by simpa only[pkF] using h
 | i :: is,_,h=>by simp only[pkF];exact All.pkA is (All.mv i h)
theorem All.aP {B:Nat}{w:World}{cs cs':List dx}(h:All B w cs) (is:List Nat) (he:pkF is cs=cs':=by ((try simp only[pkF,ru]);try exact rfl)):All B w cs':=he ▸ All.pkA is h
end
section
open Go.RowKit
theorem rdZq {P:Program}{md:Region.Mode}{ops:Array Oper}{Q:Exit→Act→World→Prop}{S:World→Prop}{fuel:Nat}{listed:Array Bool}{a:Act}{w:World}{o:Oper}(i:Nat) (ho:ops[i]?=some o)
 (h:∀K':Act→World→Prop,Shut (∀a w,S w→(S w→wpAnyH P md ops Q S fuel (listed.setIfInBounds i true) a w)→K' a w)→if Region.wanted o (yielded ops a.tmps)=true then Oper.wp P o a w K' Q else K' (a.put o.dst undef) w)
 (hr:Region.ready md ops listed=[i]:=by kernel_rfl):wpAnyH P md ops Q S (fuel+1) listed a w:=
 wpAnyH_ready hr (by simp) (AllReadyH.cons ho h AllReadyH.nil)
end
end Go.Proofs.YtpkmciohehaboaaGreatDoor
