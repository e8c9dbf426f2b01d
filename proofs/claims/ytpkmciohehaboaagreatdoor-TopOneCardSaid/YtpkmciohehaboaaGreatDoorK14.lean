/- Part 14 of the proof. -/
import Derived.Test.YtpkmciohehaboaaGreatDoorK0
import Derived.Laws.ResultCell
import Derived.Test.YtpkmciohehaboaaGreatDoorK13
set_option maxRecDepth 100000
set_option maxHeartbeats 100000000
set_option linter.unusedVariables false
set_option linter.unusedSimpArgs false
set_option linter.unusedSectionVars false
set_option linter.unnecessarySimpa false
namespace Go.Proofs.YtpkmciohehaboaaGreatDoor
section
open Go.RowKit
theorem Kj:(Tryz.prog.info? 26).map (·.size)=some 3:=by kernel_rfl
theorem adm {l:List UInt8}{k:Nat}(hk:k≤l.length) (h:(l.take k).all (fun c=>decide (c≠58))=true) (he:k=l.length∨ba l k=58):yK l=k:=by
 have h1:∀c ∈ l.take k,decide (c≠58)=true:=by rw[tC] at h;exact h
 unfold yK
 conv=>lhs;rw[←vV k l]
 rw[List.takeWhile_append_of_pos h1]
 have h2:(l.drop k).takeWhile (fun c=>decide (c≠58))=[]:=by
  rcases he with he | he
  ·rw[List.drop_of_length_le (by omega)];rfl
  ·by_cases hl:k<l.length
   ·rw[List.drop_eq_getElem_cons hl,List.takeWhile_cons_of_neg]
    have:(l[k]).toNat=58:=by unfold ba at he;rw[Cc,a_ hl] at he;exact he
    have h3:l[k]=58:=UInt8.toNat_inj.1 this
    simp[h3]
   ·rw[List.drop_of_length_le (by omega)];rfl
 rw[h2]
 simp;omega
def Wl (l:List UInt8) (n:Nat) (iv:Value):Prop:=∃k:Nat,iv = .int .i64 k∧k≤n∧(l.take k).all (fun c=>decide (c≠58))=true
theorem Tk {tmps:Array Value}{w:World}{g:Nat}{cs:Array Value}(hp:tmps.getD 2 undef = .pointer (some ⟨g,0,none⟩)) (hg:w.heap[g]?=some (.cells cs 26 (0,0))) (hs:cs.size=3) :
 (results Tryz.f7 tmps).run Tryz.prog w = .ok (.tuple #[.agg cs,tmps.getD 3 undef]) w:=by
 have h1:=run_loadVar_row (P:=Tryz.prog) w g 26 26 cs (0,0) _ hg Tryz.underlying26 rfl (by rw[Kj,hs])
 have hp':tmps[2]?.getD undef = .pointer (some ⟨g,0,none⟩):=by simpa using hp
 simp[results,Tryz.results7,hp',asAddr,h1]
def Np (w:World) (R:Fd×Bool) (e:Ending) (w':World):Prop:=e = .returned (.tuple #[.agg #[.string R.1.1.1,.string R.1.1.2,.bool R.1.2],.bool R.2])∧Below w.heap.size w w'
theorem aea (s:ByteArray) (w:World) (hs:s.size≤140737488350000):Calls Tryz.prog 7 #[.string s] w (Np w (Km s.data.toList)):=by
 have aQ:=lX s
 have hlen:=gJ s
 have Ir:=fun k h=>VM s k h
 have hto:=fun k h=>VN s k h
 obtain⟨l,hl⟩:∃l,s.data.toList=l:=⟨_,rfl⟩
 rw[hl] at aQ hlen Ir hto ⊢
 obtain⟨n,hn⟩:∃n,s.size=n:=⟨_,rfl⟩
 have HL:=af hlen
 have HFT:=af (And.intro Ir hto)
 obtain⟨R,hR⟩:∃R,Km l=R:=⟨_,rfl⟩
 rw[hR]
 have HR:=af hR
 have HN:=af hn
 have hnew:=heap_alloc_new w (.cells #[.string ⟨#[]⟩,.string ⟨#[]⟩,.bool false] 26)
 have H0:Hid (Below w.heap.size w (w.alloc (.cells #[.string ⟨#[]⟩,.string ⟨#[]⟩,.bool false] 26))):=af ((Below.refl _ _).alloc (ah _) _)
 have hsz:w.heap.size<(w.alloc (.cells #[.string ⟨#[]⟩,.string ⟨#[]⟩,.bool false] 26)).heap.size:=by simp
 clear hlen hl hR hn Ir hto
 go_enter Tryz.func7,Tryz.ntmps7
 go_wp2_with fail
 generalize hW:(w.alloc (.cells #[.string ⟨#[]⟩,.string ⟨#[]⟩,.bool false] 26))=W at *
 generalize hq:w.heap.size=q at *
 have qB:=af hnew
 have f_:=af hsz
 have HW:=af (And.intro hW hq)
 clear hnew hsz hW hq
 go_loop [4] (fun iv=>Wl l n iv) (fun iv=>n-(intOf iv).toNat)
 case atStart=>exact⟨0,rfl,aL _,rfl⟩
 case round=>
  obtain⟨k,rfl,hk,hall⟩:=hrel
  have dM:=af hall
  clear hall
  have hkl:k≤l.length:=by rw[HL.out,HN.out];exact hk
  by_cases hgo:k<n∧ba l k≠58
  ·obtain⟨hlt,hne⟩:=hgo
   have k1:(k:Int)<s.size:=by have:=HN.out;omega
   have h_:=aQ k (by have:=HN.out;omega)
   have e1:(((ba l k:Nat):Int)==58)=false:=by simp;omega
   have HE:Hid (Wl l n (.int .i64 (k+1:Nat))):=af ⟨k+1,rfl,hlt,v_ dM.out (by rw[HL.out,HN.out];exact hlt) (by
    have:ba l k=(l[k]'(by rw[HL.out,HN.out];exact hlt)).toNat:=(kH (by rw[HL.out,HN.out];exact hlt))
    simp
    intro h
    rw[h] at this
    exact hne this)⟩
   clear aQ
   go_wp2_with fail
   go_round
   case rel=>exact HE.out
   case measure=>have:=HN.out;simp[intOf];omega
  ·have hksz:k<n→k<s.size:=fun h=>by have:=HN.out;omega
   have Io:yK l=k:=adm hkl dM.out (by
    by_cases h1:k<n
    ·right
     by_cases h2:ba l k=58
     ·exact h2
     ·exact absurd ⟨h1,h2⟩ hgo
    ·left;have:=HN.out;have:=HL.out;omega)
   have kT:=HR.out
   unfold Km at kT
   rw[Io] at kT
   have fU:=af kT
   by_cases hlt:k<n
   ·have h58:ba l k=58:=by
     by_cases h2:ba l k=58
     ·exact h2
     ·exact absurd ⟨hlt,h2⟩ hgo
    have k1:(k:Int)<s.size:=by have:=HN.out;omega
    have h_:=aQ k (hksz hlt)
    have e1:(((ba l k:Nat):Int)==58)=true:=by rw[h58];rfl
    have e2:((k:Int)==(s.size:Int))=false:=by have:=HN.out;simp;omega
    have hto:=HFT.out.2 k (by have:=HN.out;omega)
    have Ir:=HFT.out.1 (k+1) (by have:=HN.out;omega)
    have hfrom2:∀(w:World),(Instr.slice 9 (.string s) (some (.int .i64 ((k:Int)+1))) none none).run Tryz.prog w = .ok (.string (aJ (l.drop (k+1)))) w:=Ir
    have hllen:l.length≤140737488350000:=by rw[HL.out];exact hs
    have gm:=af (MR (aJ (l.take k)) W (by rw[pz];simp;omega))
    rw[l9] at gm
    obtain⟨T,hT⟩:∃T,iB (l.take k)=T:=⟨_,rfl⟩
    rw[hT] at gm fU
    clear aQ hgo Io kT hT Ir
    cases T with
    | false=>
     have cz:Hid (R=(((aJ [],aJ []),false),false)):=af (by rw[←fU.out,ax (.inr rfl)])
     go_wp2_with fail
     refine gm.out.mono ?_
     rintro e w1 ⟨rfl,rfl⟩
     go_wp2_with (first
      | (refine wpList_store_rowTo rfl 26 (.tmp 2) _ rfl rfl q #[.string ⟨#[]⟩,.string ⟨#[]⟩,.bool false] rfl rfl 26 _ qB.out Kj rfl (by simp[Value.oneCell']) ?_))
     refine bodyPost_ret (Tk rfl (setRow_heap _ _ _ _ _ _ qB.out) rfl) rfl ?_
     rw[cz.out]
     refine⟨rfl,?_⟩
     rw[HW.out.2]
     exact H0.out.trans ⟨rfl,rfl,rfl,by simp,fun k hk=>setRow_other _ _ _ _ (by omega)⟩
    | true=>
     have cz:Hid (R=(((aJ (aO (l.take k)),aJ (jl (l.drop (k+1)))),false),iI (jl (l.drop (k+1))))):=af (by
      rw[←fU.out,aj]
      rintro (h | h)
      ·have:=HL.out;have:=HN.out;omega
      ·cases h)
     have htl:=abe (l.drop (k+1))
     rw[xk] at htl
     have HTR:=af (ah7 (aJ (l.drop (k+1))) W (by rw[pz];simp;omega))
     rw[l9] at HTR
     obtain⟨V,hV⟩:∃V,jl (l.drop (k+1))=V:=⟨_,rfl⟩
     rw[hV] at HTR cz htl
     have Dn:=af (EG (aJ (l.take k)) W (by rw[pz];simp;omega))
     rw[l9] at Dn
     have FE:=af (fun w=>aat (aJ V) w (by rw[pz];omega))
     rw[l9] at FE
     clear hV
     go_wp2_with fail
     refine gm.out.mono ?_
     rintro e w1 ⟨rfl,rfl⟩
     go_wp2_with fail
     refine HTR.out.mono ?_
     rintro e w1 ⟨rfl,rfl⟩
     go_wp2_with fail
     refine Dn.out.mono ?_
     rintro e w2 ⟨rfl,hb2⟩
     have nu:=af ((hb2.block q f_.out).trans qB.out)
     have aI:=af (H0.out.trans (hb2.mono (mg f_.out)))
     clear hb2
     go_wp2_with fail
     refine (FE.out _).mono ?_
     rintro e w3 ⟨rfl,rfl⟩
     go_wp2_with (first
      | (refine wpList_store_rowTo rfl 26 (.tmp 2) _ rfl rfl q #[.string (aJ (aO (l.take k))),.string (aJ V),.bool false] rfl rfl 26 _ nu.out Kj rfl (by simp[Value.oneCell']) ?_))
     refine bodyPost_ret (Tk rfl (setRow_heap _ _ _ _ _ _ nu.out) rfl) rfl ?_
     rw[cz.out]
     refine⟨rfl,?_⟩
     rw[HW.out.2]
     exact aI.out.trans ⟨rfl,rfl,rfl,by simp,fun k hk=>setRow_other _ _ _ _ (by omega)⟩
   ·have hkn:k=s.size:=by have:=HN.out;omega
    have cz:Hid (R=(((aJ [],aJ []),false),false)):=af (by rw[←fU.out,ax (.inl (by rw[HL.out];exact hkn))])
    clear aQ hgo Io kT
    subst hkn
    go_wp2_with (first
     | (refine wpList_store_rowTo rfl 26 (.tmp 2) _ rfl rfl q #[.string ⟨#[]⟩,.string ⟨#[]⟩,.bool false] rfl rfl 26 _ qB.out Kj rfl (by simp[Value.oneCell']) ?_))
    refine bodyPost_ret (Tk rfl (setRow_heap _ _ _ _ _ _ qB.out) rfl) rfl ?_
    rw[cz.out]
    refine⟨rfl,?_⟩
    rw[HW.out.2]
    exact H0.out.trans ⟨rfl,rfl,rfl,by simp,fun k hk=>setRow_other _ _ _ _ (by omega)⟩
end
section
open Go.RowKit Go.Maps
def WV (l:List UInt8) (n:Nat) (iv:Value):Prop:=∃k:Nat,iv = .int .i64 k∧k≤n∧(l.take k).all yc=true
theorem ah5 (s:ByteArray) (w:World) (hs:s.size≤140737488355328):Calls Tryz.prog 144 #[.string s] w fun e w'=>e = .returned (.bool (qw s.data.toList))∧w=w':=by
 obtain⟨R,hR⟩:∃R,qw s.data.toList=R:=⟨_,rfl⟩
 rw[hR]
 unfold qw at hR
 have aQ:=lX s
 have hlen:=gJ s
 obtain⟨l,hl⟩:∃l,s.data.toList=l:=⟨_,rfl⟩
 rw[hl] at aQ hlen hR
 obtain⟨n,hn⟩:∃n,s.size=n:=⟨_,rfl⟩
 have HL:=af hlen
 have HR:=af hR
 have HN:=af hn
 have HG:=af aQ
 clear hlen hl hR hn aQ
 go_enter Tryz.func144,Tryz.ntmps144
 go_wp2_with fail
 go_loop [3] (fun iv=>WV l n iv) (fun iv=>n-(intOf iv).toNat)
 case atStart=>exact⟨0,rfl,aL _,rfl⟩
 case round=>
  obtain⟨k,rfl,hk,hall⟩:=hrel
  have dM:=af hall
  clear hall
  by_cases hlt:k<n
  ·have hks:k<s.size:=by have:=HN.out;omega
   have hkl:k<l.length:=by rw[HL.out];exact hks
   have k1:(k:Int)<s.size:=by omega
   have h_:=HG.out k hks
   have hb:ba l k=(l[k]).toNat:=kH hkl
   have HB:=af hb
   obtain⟨c,hc⟩:∃c,ba l k=c:=⟨_,rfl⟩
   rw[hc] at h_
   have HC:=af hc
   have cZ:Hid (¬(33≤c∧c≤126)→R=false):=af (fun h=>by
    rw[←HR.out,xu hkl (by unfold yc;rw[←HB.out,HC.out];simp;omega),De])
   clear hb hc
   by_cases Cm:c<33
   ·have i1:(c:Int)<33:=by omega
    have hr:=cZ.out (by omega)
    subst hr
    go_wp2
    go_ret
    exact⟨rfl,rfl⟩
   ·have i1:¬((c:Int)<33):=by omega
    by_cases OP : 126<c
    ·have i2:(c:Int) > 126:=by omega
     have hr:=cZ.out (by omega)
     subst hr
     go_wp2
     go_ret
     exact⟨rfl,rfl⟩
    ·have i2:¬((c:Int) > 126):=by omega
     have HE:Hid (WV l n (.int .i64 (k+1:Nat))):=af ⟨k+1,rfl,hlt,v_ dM.out hkl (by unfold yc;rw[←HB.out,HC.out];simp;omega)⟩
     go_wp2
     go_round
     case rel=>exact HE.out
     case measure=>simp[intOf];have:=HN.out;omega
  ·have hkn:k=s.size:=by have:=HN.out;omega
   have hr:decide (0<s.size)=R:=by
    have h1:=dM.out
    rw[cB (by rw[HL.out];omega)] at h1
    rw[←HR.out,h1,Bool.and_true]
    cases l with
    | nil=>have:=HL.out;simp at this;rw[bU (by omega)];rfl
    | cons x r=>have:=HL.out;simp at this;rw[bP (by omega)];rfl
   have BU:=af hr
   clear hr
   subst hkn
   go_wp2
   go_ret
   exact⟨by rw[←BU.out];simp,rfl⟩
def WE (w:World) (n:Nat) (l:List Fd) (ov iv:Value) (wr:World):Prop:=∃k:Nat,iv = .int .i64 k∧k≤n∧wr.ownsRow w.heap.size 9 1 ov k (strs ((l.take k).map fun f=>f.1.1))∧Below w.heap.size w wr
theorem ahM {A:Option Addr}{n c:Nat}{l:List Fd}(w:World) (hr:Rd w w.heap.size 3 A n (fds l)) (hn:n≤1048576) :
 Calls Tryz.prog 113 #[.slice A n c] w (fun e w'=>∃v,e = .returned v∧w'.ownsRow w.heap.size 9 1 v n (strs (l.map fun f=>f.1.1))∧Below w.heap.size w w'):=by
 have H1:=af hr
 have bf:l.length=n:=by have:=hr.1;rw[jJ] at this;omega
 have dX:=af bf
 clear hr bf
 go_enter Tryz.func113,Tryz.ntmps113
 go_wp2_with fail
 go_loopw [3,4] (fun ov iv wr=>WE w n l ov iv wr) (fun _ iv _=>n-(intOf iv).toNat)
 case atStart=>exact⟨0,rfl,aL _,World.ownsRow_nil _ _ _ _,Below.refl _ _⟩
 case round=>
  obtain⟨k,rfl,hk,hown,hb⟩:=hrel
  have HO:=af (And.intro hown hb)
  have dZ:=hb.size
  clear hown hb
  by_cases hlt:k<n
  ·obtain⟨-,b,o,rfl,hbl,hc⟩:=mE (H1.out.below HO.out.2 (ah _)) (by omega)
   obtain⟨f,hf⟩:∃f,l[k]?=some f:=⟨_,a_ (by have:=dX.out;omega)⟩
   obtain⟨z0,-,-⟩:=hc k f hf
   have n1:(k:Int)<n:=by omega
   have aY:b<wr.heap.size:=by omega
   have HT:Hid ((l.take (k+1)).map (fun f:Fd=>f.1.1)=(l.take k).map (fun f=>f.1.1)++[f.1.1]):=af (by rw[iw,hf,iL,j6];rfl)
   have gY:Hid (∀ob,(wr.alloc ob).ownsRow w.heap.size 9 1 u3 k (strs ((l.take k).map fun f=>f.1.1))):=af (fun ob=>d_ HO.out.1 ((Kept.jk (F:=fun _=>False) (Below.refl _ _)).alloc ob) (fun _ _ h=>h))
   clear hc hf
   obtain⟨⟨nm,vl⟩,nv⟩:=f
   simp only at z0 HT
   go_wp2_with (at_builtin;refine dI ?_)
   unfold Stop
   refine dQ (.tmp 11) (.tmp 17) Db rfl rfl (gY.out _) rfl (Rd.one _ _ _) rfl (by simp[Value.oneCell']) (bn (by omega)) (by omega) (by simp;omega) ?_
   intro v6 w6 dK gu _
   obtain⟨A6,c6,kN,-,-,-,-⟩:=aC dK
   have HN:Hid (WE w n l v6 (.int .i64 (k+1:Nat)) w6):=af (by
    refine⟨k+1,rfl,hlt,?_,Below.app (HO.out.2.alloc dZ _) (gY.out _) gu (ah _) (by simp;omega)⟩
    rw[HT.out,I6]
    exact dK)
   rw[kN] at HN ⊢
   clear dK gu kN
   go_wp2
   go_roundw
   case rel=>exact HN.out
   case measure=>simp[intOf];omega
  ·have hkn:k=n:=by omega
   have HE:Hid (wr.ownsRow w.heap.size 9 1 u3 n (strs (l.map fun f=>f.1.1))∧Below w.heap.size w wr):=af (by
    have h1:=HO.out
    rw[cB (by have:=dX.out;omega)] at h1
    subst hkn
    exact h1)
   subst hkn
   go_wp2
   go_ret
   exact⟨_,rfl,HE.out⟩
theorem afm {pre s rest L:List UInt8}(hL:L=pre++s++13 :: 10 :: rest):(∀j,j<s.length→ba L (pre.length+j)=(s.getD j 0).toNat)∧ba L (pre.length+s.length)=13∧ba L (pre.length+s.length+1)=10∧pre.length+s.length+2≤L.length:=by
 subst hL
 have hb:∀(l:List UInt8) (j:Nat),ba l j=(l.getD j 0).toNat:=fun l j=>rfl
 refine⟨fun j hj=>?_,?_,?_,by simp only[aN,fe];omega⟩
 ·rw[hb,jf]
  simp only[Cc]
  rw[kF (by omega),vT (by omega)]
  congr 3
  omega
 ·rw[hb]
  simp only[Cc]
  rw[kF (by simp)]
  simp
 ·rw[hb]
  simp only[Cc]
  rw[kF (by simp)]
  have:pre.length+s.length+1-(pre++s).length=1:=by simp
  rw[this]
  rfl
def WA (a m:Nat) (iv:Value):Prop:=∃k:Nat,iv = .int .i64 ((a+k:Nat):Int)∧k≤m
theorem Tt {A:Option Addr}{n c:Nat}{pre s rest L:List UInt8}(w:World) (hr:Rd w w.heap.size 1 A n (ak L)) (hc:n≤c) (hn:n≤1000000000) (hL:L=pre++s++13 :: 10 :: rest) (hs:NV s) :
 Calls Tryz.prog 110 #[.slice A n c,.int .i64 (pre.length:Int)] w fun e w'=>e = .returned (.tuple #[.string (aJ s),.int .i64 ((pre.length+s.length+2:Nat):Int),.int .i64 0])∧Below w.heap.size w w':=by
 obtain⟨h1,h2,h3,h4⟩:=afm hL
 have iF:L.length=n:=hr.mR
 have hcs:∀j,j<s.length→ba L (pre.length+j)≠10∧ba L (pre.length+j)≠13:=by
  intro j hj
  rw[h1 j hj]
  have hm:s.getD j 0 ∈ s:=by rw[Cc,a_ hj];exact List.getElem_mem hj
  obtain⟨a1,a2⟩:=hs _ hm
  exact⟨fun h=>a1 (UInt8.toNat_inj.1 h),fun h=>a2 (UInt8.toNat_inj.1 h)⟩
 have hpc:(L.drop pre.length).take s.length=s:=by
  rw[hL,jf,List.drop_left' rfl,List.take_left' rfl]
 have fM:=aaI A n c pre.length (pre.length+s.length) (by omega) (by omega)
 have hrd:=hr.lh (lo:=pre.length) (hi:=pre.length+s.length) (by omega) (by omega) hc
 rw[show pre.length+s.length-pre.length=s.length by omega] at fM hrd
 rw[hpc] at hrd
 obtain⟨A',hA'⟩:∃A',(if c=pre.length then A else A.map (·.add pre.length))=A':=⟨_,rfl⟩
 rw[hA'] at fM hrd
 have zi:(convert 48 9 (.slice A' s.length (c-pre.length))).run Tryz.prog w = .ok (.string (aJ s)) w:=sJ Tryz.underlying48 Tryz.underlying5 Tryz.underlying9 hrd _
 obtain⟨b,o,hA,-,hcell⟩:=(hr.tL (by omega)).2
 subst hA
 obtain⟨a,ha⟩:∃a,pre.length=a:=⟨_,rfl⟩
 obtain⟨m,hm⟩:∃m,s.length=m:=⟨_,rfl⟩
 rw[ha] at h2 h3 h4 hcs fM hA' ⊢
 rw[hm] at h2 h3 h4 hcs fM zi ⊢
 rw[ha] at zi
 have K8:=af (And.intro fM zi)
 have HCS:=af hcs
 have H23:=af (And.intro h2 h3)
 have E_:=af hcell
 have hamn:a+m+2≤n:=by omega
 clear h1 h2 h3 h4 hcs hpc fM hrd hA' zi hcell hr hL hs iF ha hm
 go_enter Tryz.func110,Tryz.ntmps110
 go_wp2_with fail
 go_loop [7] (fun iv=>WA a m iv) (fun iv=>a+m+1-(intOf iv).toNat)
 case atStart=>exact⟨0,rfl,aL _⟩
 case round=>
  obtain⟨k,rfl,hk⟩:=hrel
  obtain⟨q,hq⟩:∃q,a+k=q:=⟨_,rfl⟩
  rw[hq]
  have hqn:q+1<n:=by omega
  have k1:(q:Int)<n:=by omega
  have z0:=E_.out q (by omega)
  by_cases hlt:k<m
  ·obtain⟨g1,g2⟩:=HCS.out k hlt
   rw[hq] at g1 g2
   obtain⟨x,hx⟩:∃x,ba L q=x:=⟨_,rfl⟩
   rw[hx] at z0 g1 g2
   have e1:((x:Int)==10)=false:=by simp;omega
   have e2:((x:Int)==13)=false:=by simp;omega
   have HE:Hid (WA a m (.int .i64 (q+1:Nat))):=af ⟨k+1,by rw[←hq];rfl,hlt⟩
   clear hx g1 g2
   go_wp2
   go_round
   case rel=>exact HE.out
   case measure=>simp[intOf];omega
  ·have hkm:k=m:=by omega
   subst hkm
   rw[hq] at K8 H23
   have z1:=E_.out (q+1) hqn
   rw[H23.out.1] at z0
   rw[H23.out.2] at z1
   have k2:((q:Int)+1)<n:=by omega
   have fM:=K8.out.1
   have zi:=K8.out.2
   clear K8 H23 HCS
   go_wp2
   refine bodyPost_ret (v:=.tuple #[.string (aJ s),.int .i64 ((q:Int)+2),.int .i64 0]) (by simp[results,Tryz.results110,go_sem]) rfl ⟨?_,?_⟩
   ·rw[←hq]
   ·exact Below.refl _ _
theorem Xm {l r t:List UInt8}{c:UInt8}(h:l=r++c :: t):ba l r.length=c.toNat:=by
 subst h
 show ((r++c :: t).getD r.length 0).toNat=_
 simp
theorem ba_in {l r t:List UInt8}(h:l=r++t){j:Nat}(hj:j<r.length):∃c ∈ r,ba l j=c.toNat:=by
 subst h
 refine⟨r[j],List.getElem_mem hj,?_⟩
 show ((r++t).getD j 0).toNat=_
 rw[Cc,vT hj,a_ hj]
 rfl
theorem aiz (s:ByteArray) (a b:Nat) (h1:a≤b) (h:b≤s.size):∀w,(Instr.slice 9 (.string s) (some (.int .i64 (a:Int))) (some (.int .i64 (b:Int))) none).run Tryz.prog w = .ok (.string (aJ ((s.data.toList.take b).drop a))) w:=by
 intro w
 rw[run_slice_string (P:=Tryz.prog) (w:=w) 9 s .i64 .i64 (a:Int) (b:Int) Tryz.underlying9 (by omega) (by omega) (by omega),Cb,Cb,Ii]
def Wm (m:Nat) (iv:Value):Prop:=∃k:Nat,iv = .int .i64 k∧k≤m
def Wn (m t:Nat) (iv:Value):Prop:=∃k:Nat,iv = .int .i64 ((m+1+k:Nat):Int)∧k≤t
def mP (a:gW) (v:Value):Value:=.agg #[.string a.aW,.string a.tgt,v,.string a.body]
theorem vw:(Tryz.prog.info? 68).map (·.size)=some 4:=by kernel_rfl
theorem ahC {tmps:Array Value}{w:World}{g:Nat}{cs:Array Value}(hp:tmps.getD 2 undef = .pointer (some ⟨g,0,none⟩)) (hg:w.heap[g]?=some (.cells cs 68 (0,0))) (hs:cs.size=4) :
 (results Tryz.f111 tmps).run Tryz.prog w = .ok (.tuple #[.agg cs,tmps.getD 3 undef]) w:=by
 have h1:=run_loadVar_row (P:=Tryz.prog) w g 68 68 cs (0,0) _ hg Tryz.underlying68 rfl (by rw[vw,hs])
 have hp':tmps[2]?.getD undef = .pointer (some ⟨g,0,none⟩):=by simpa using hp
 simp[results,Tryz.results111,hp',asAddr,h1]
theorem ahJ (m t:ByteArray) (w:World) (hm:iB m.data.toList=true) (ht:qw t.data.toList=true) (hsz:m.size+t.size≤1000000000) :
 Calls Tryz.prog 111 #[.string (aJ (m.data.toList++32 :: (t.data.toList++zk)))] w fun e w'=>e = .returned (.tuple #[.agg #[.string m,.string t,.slice none 0 0,.string ⟨#[]⟩],.bool true])∧Below w.heap.size w w':=by
 obtain⟨s,hs⟩:∃s,aJ (m.data.toList++32 :: (t.data.toList++zk))=s:=⟨_,rfl⟩
 have fM:s.data.toList=m.data.toList++32 :: (t.data.toList++zk):=by rw[←hs,l9]
 have hml:m.data.toList.length=m.size:=nV
 have htl:t.data.toList.length=t.size:=nV
 have aQ:=lX s
 have hlen:=gJ s
 have hsize:s.size=m.size+1+t.size+9:=by
  rw[←hlen,fM]
  simp only[aN,fe,hml,htl]
  have:zk.length=9:=rfl
  omega
 have hsplit:s.data.toList=(m.data.toList++32 :: t.data.toList)++32 :: [72,84,84,80,47,49,46,49]:=by rw[fM];simp[zk]
 have hb0:∀j,j<m.size→ba s.data.toList j≠32:=fun j hj=>by
  obtain⟨c,hc,e⟩:=ba_in fM (j:=j) (by omega)
  rw[e]
  intro h
  exact (M_ c ((Na hm).2 c hc)).2.2.1 (UInt8.toNat_inj.1 h)
 have hb1:ba s.data.toList m.size=32:=by have:=Xm fM;rw[hml] at this;exact this
 have hb2:∀j,j<t.size→ba s.data.toList (m.size+1+j)≠32:=fun j hj=>by
  have hsp2:s.data.toList=(m.data.toList++[32])++(t.data.toList++zk):=by rw[fM];simp
  have e:ba s.data.toList (m.size+1+j)=(t.data.toList.getD j 0).toNat:=by
   rw[hsp2]
   show (((m.data.toList++[32])++(t.data.toList++zk)).getD (m.size+1+j) 0).toNat=_
   have iE:(m.data.toList++[32]).length=m.size+1:=by rw[aN,hml];rfl
   rw[Cc,kF (by omega),iE]
   rw[show m.size+1+j-(m.size+1)=j by omega,vT (by omega),←Cc]
  have hmem:t.data.toList.getD j 0 ∈ t.data.toList:=by rw[Cc,a_ (by omega)];exact List.getElem_mem _
  rw[e]
  intro h
  exact (aa7 _ ((aa8 ht).2 _ hmem)).2.2 (UInt8.toNat_inj.1 h)
 have hb3:ba s.data.toList (m.size+1+t.size)=32:=by
  have:=Xm hsplit
  rw[show (m.data.toList++32 :: t.data.toList).length=m.size+1+t.size by simp[hml,htl];omega] at this
  exact this
 have s1:∀w,(Instr.slice 9 (.string s) none (some (.int .i64 (m.size:Int))) none).run Tryz.prog w = .ok (.string m) w:=by
  have:=VN s m.size (by omega)
  rw[fM,List.take_left' hml,EA] at this
  exact this
 have s2:∀w,(Instr.slice 9 (.string s) (some (.int .i64 ((m.size:Int)+1))) (some (.int .i64 ((m.size+1+t.size:Nat):Int))) none).run Tryz.prog w = .ok (.string t) w:=by
  have:=aiz s (m.size+1) (m.size+1+t.size) (by omega) (by omega)
  rw[hsplit,List.take_left' (by simp[hml,htl];omega)] at this
  rw[show m.data.toList++32 :: t.data.toList=(m.data.toList++[32])++t.data.toList by simp,List.drop_left' (by simp[hml]),EA] at this
  exact this
 have s3:∀w,(Instr.slice 9 (.string s) (some (.int .i64 (((m.size+1+t.size:Nat):Int)+1))) none none).run Tryz.prog w = .ok (.string ⟨#[72,84,84,80,47,49,46,49]⟩) w:=by
  have:=VM s (m.size+1+t.size+1) (by omega)
  rw[hsplit] at this
  rw[show (m.data.toList++32 :: t.data.toList)++32 :: [72,84,84,80,47,49,46,49]=(m.data.toList++32 :: t.data.toList++[32])++[72,84,84,80,47,49,46,49] by simp,List.drop_left' (by simp[hml,htl];omega)] at this
  exact this
 have gm:=af (fun w=>MR m w (by omega))
 have Du:=af (fun w=>ah5 t w (by omega))
 rw[hm] at gm
 rw[ht] at Du
 rw[hs]
 obtain⟨l,hl⟩:∃l,s.data.toList=l:=⟨_,rfl⟩
 rw[hl] at aQ hb0 hb1 hb2 hb3
 obtain⟨M,hM⟩:∃M,m.size=M:=⟨_,rfl⟩
 obtain⟨T,hT⟩:∃T,t.size=T:=⟨_,rfl⟩
 rw[hM] at hb0 hb1 hb2 hb3 s1 s2 s3 hsize
 rw[hT] at hb2 hb3 s2 s3 hsize
 have hnew:=heap_alloc_new w (.cells #[.string ⟨#[]⟩,.string ⟨#[]⟩,.slice none 0 0,.string ⟨#[]⟩] 68)
 have H0:Hid (Below w.heap.size w (w.alloc (.cells #[.string ⟨#[]⟩,.string ⟨#[]⟩,.slice none 0 0,.string ⟨#[]⟩] 68))):=af ((Below.refl _ _).alloc (ah _) _)
 have HG:=af aQ
 have HB:=af (And.intro hb0 (And.intro hb1 (And.intro hb2 hb3)))
 have HS:=af (And.intro s1 (And.intro s2 s3))
 have f_:=af hsize
 have hbnd:M+T≤1000000000:=by omega
 clear hs fM hml htl aQ hlen hsize hsplit hb0 hb1 hb2 hb3 s1 s2 s3 hm ht hsz hM hT hl
 go_enter Tryz.func111,Tryz.ntmps111
 go_wp2_with fail
 generalize hW:(w.alloc (.cells #[.string ⟨#[]⟩,.string ⟨#[]⟩,.slice none 0 0,.string ⟨#[]⟩] 68))=W at *
 generalize hq:w.heap.size=q at *
 have qB:=af hnew
 have HW:=af (And.intro hW hq)
 clear hnew hW hq
 go_loop [4] (fun iv=>Wm M iv) (fun iv=>M+1-(intOf iv).toNat)
 case atStart=>exact⟨0,rfl,aL _⟩
 case round=>
  obtain⟨k,rfl,hk⟩:=hrel
  have k0:k<s.size:=by have:=f_.out;omega
  have k1:(k:Int)<s.size:=by omega
  have h_:=HG.out k k0
  by_cases hlt:k<M
  ·have hne:=HB.out.1 k hlt
   obtain⟨x,hx⟩:∃x,ba l k=x:=⟨_,rfl⟩
   rw[hx] at h_ hne
   have e1:((x:Int)==32)=false:=by simp;omega
   have HE:Hid (Wm M (.int .i64 (k+1:Nat))):=af ⟨k+1,rfl,hlt⟩
   clear hne hx
   go_wp2
   go_round
   case rel=>exact HE.out
   case measure=>simp[intOf];omega
  ·have hkM:k=M:=by omega
   subst hkM
   rw[HB.out.2.1] at h_
   go_wp2_with fail
   clear h_
   go_loop [5] (fun iv=>Wn k T iv) (fun iv=>k+1+T+1-(intOf iv).toNat)
   case atStart=>exact⟨0,rfl,aL _⟩
   case round=>
    obtain⟨j,rfl,hj⟩:=hrel
    obtain⟨z,hz⟩:∃z,k+1+j=z:=⟨_,rfl⟩
    rw[hz]
    have z0:z<s.size:=by have:=f_.out;omega
    have z1:(z:Int)<s.size:=by omega
    have hgz:=HG.out z z0
    by_cases hjt:j<T
    ·have hne:=HB.out.2.2.1 j hjt
     rw[hz] at hne
     obtain⟨x,hx⟩:∃x,ba l z=x:=⟨_,rfl⟩
     rw[hx] at hgz hne
     have e1:((x:Int)==32)=false:=by simp;omega
     have HE:Hid (Wn k T (.int .i64 (z+1:Nat))):=af ⟨j+1,by rw[←hz];rfl,hjt⟩
     clear hne hx
     go_wp2
     go_round
     case rel=>exact HE.out
     case measure=>simp[intOf];omega
    ·have hjT:j=T:=by omega
     subst hjT
     rw[hz] at HS HB
     rw[HB.out.2.2.2] at hgz
     have s1:=HS.out.1
     have s2:=HS.out.2.1
     have s3:=HS.out.2.2
     have n1:¬((z:Int) ≥ s.size):=by omega
     go_wp2_with fail
     refine (gm.out _).mono ?_
     rintro e w1 ⟨rfl,rfl⟩
     go_wp2_with fail
     refine (Du.out _).mono ?_
     rintro e w1 ⟨rfl,rfl⟩
     have hwr:IntKind.i64.wrap ((k:Int)+1)=(k:Int)+1:=IntWalk.i64_in _ ⟨by omega,by omega⟩
     go_upto_region 9 with fail
     --REGION9
     refine wp_region_held_drew (S:=fun w'=>True) (by kernel_rfl) (trivial) (fun hH=>?_)
     refine wpAnyH_take (i:=0) (oi:=⟨some 60,_,_,_,_,_⟩) (v:=?_) rfl (by kernel_rfl) (by kernel_rfl) (by kernel_rfl) (fun _ _ _ h=>h) (Or.inl ⟨by kernel_rfl,?_⟩) hH ?_
     rotate_left
     ·intro wt hSw
      clear hSw
      go_simp
      all_goals with_reducible rfl
     try simp only[Act.put,az,ay,aA]
     refine wpAnyH_take (i:=1) (oi:=⟨some 61,_,_,_,_,_⟩) (v:=?_) rfl (by kernel_rfl) (by kernel_rfl) (by kernel_rfl) (fun _ _ _ h=>h) (Or.inl ⟨by kernel_rfl,?_⟩) hH ?_
     rotate_left
     ·intro wt hSw
      clear hSw
      go_simp
      all_goals with_reducible rfl
     try simp only[Act.put,az,ay,aA]
     refine wpAnyH_take (i:=2) (oi:=⟨some 62,_,_,_,_,_⟩) (v:=?_) rfl (by kernel_rfl) (by kernel_rfl) (by kernel_rfl) (fun _ _ _ h=>h) (Or.inl ⟨by kernel_rfl,?_⟩) hH ?_
     rotate_left
     ·intro wt hSw
      clear hSw
      go_simp
      all_goals with_reducible rfl
     try simp only[Act.put,az,ay,aA]
     refine wpAnyH_take (i:=3) (oi:=⟨some 63,_,_,_,_,_⟩) (v:=?_) rfl (by kernel_rfl) (by kernel_rfl) (by kernel_rfl) (fun _ _ _ h=>h) (Or.inl ⟨by kernel_rfl,?_⟩) hH ?_
     rotate_left
     ·intro wt hSw
      clear hSw
      go_simp
      all_goals with_reducible rfl
     try simp only[Act.put,az,ay,aA]
     refine wpAnyH_take (i:=4) (oi:=⟨some 64,_,_,_,_,_⟩) (v:=?_) rfl (by kernel_rfl) (by kernel_rfl) (by kernel_rfl) (fun _ _ _ h=>h) (Or.inl ⟨by kernel_rfl,?_⟩) hH ?_
     rotate_left
     ·intro wt hSw
      clear hSw
      go_simp
      all_goals with_reducible rfl
     try simp only[Act.put,az,ay,aA]
     refine wpAnyH_take (i:=5) (oi:=⟨some 65,_,_,_,_,_⟩) (v:=?_) rfl (by kernel_rfl) (by kernel_rfl) (by kernel_rfl) (fun _ _ _ h=>h) (Or.inl ⟨by kernel_rfl,?_⟩) hH ?_
     rotate_left
     ·intro wt hSw
      clear hSw
      go_simp
      all_goals with_reducible rfl
     try simp only[Act.put,az,ay,aA]
     refine wpAnyH_take (i:=6) (oi:=⟨some 66,_,_,_,_,_⟩) (v:=?_) rfl (by kernel_rfl) (by kernel_rfl) (by kernel_rfl) (fun _ _ _ h=>h) (Or.inl ⟨by kernel_rfl,?_⟩) hH ?_
     rotate_left
     ·intro wt hSw
      clear hSw
      go_simp
      all_goals with_reducible rfl
     try simp only[Act.put,az,ay,aA]
     refine wpAnyH_take (i:=7) (oi:=⟨some 67,_,_,_,_,_⟩) (v:=?_) rfl (by kernel_rfl) (by kernel_rfl) (by kernel_rfl) (fun _ _ _ h=>h) (Or.inl ⟨by kernel_rfl,?_⟩) hH ?_
     rotate_left
     ·intro wt hSw
      clear hSw
      go_simp
      all_goals with_reducible rfl
     try simp only[Act.put,az,ay,aA]
     refine wpAnyH_take (i:=8) (oi:=⟨some 68,_,_,_,_,_⟩) (v:=?_) rfl (by kernel_rfl) (by kernel_rfl) (by kernel_rfl) (fun _ _ _ h=>h) (Or.inl ⟨by kernel_rfl,?_⟩) hH ?_
     rotate_left
     ·intro wt hSw
      clear hSw
      go_simp
      all_goals with_reducible rfl
     try simp only[Act.put,az,ay,aA]
     refine rdZq (o:=⟨none,_,_,_,_,_⟩) 9 rfl (fun K hK=>?_)
     rw[ax (by kernel_rfl)]
     refine wp_store_row 68 (.tmp 2) (.tmp 68) rfl q _ rfl rfl 68 #[.string ⟨#[]⟩,.string ⟨#[]⟩,.slice none 0 0,.string ⟨#[]⟩] qB.out vw rfl (by simp[Value.oneCell']) ?_
     refine hK.out _ _ trivial (fun hH=>?_)
     clear hK K
     try simp only[Act.put]
     refine wpAnyH_take (i:=10) (oi:=⟨some 3,_,_,_,_,_⟩) (v:=?_) rfl (by kernel_rfl) (by kernel_rfl) (by kernel_rfl) (fun _ _ _ h=>h) (Or.inl ⟨by kernel_rfl,?_⟩) hH ?_
     rotate_left
     ·intro wt hSw
      clear hSw
      go_simp
      all_goals with_reducible rfl
     try simp only[Act.put,az,ay,aA]
     refine wpAnyH_done (by kernel_rfl) ?_ _
     go_wp2_with fail
     refine bodyPost_ret (ahC rfl (setRow_heap _ _ _ _ _ _ qB.out) rfl) rfl ⟨rfl,?_⟩
     rw[HW.out.2]
     exact H0.out.trans ⟨rfl,rfl,rfl,by simp,fun k hk=>setRow_other _ _ _ _ (by omega)⟩
end
section
open Go.RowKit Go.Maps
def lK (a:gW) (k:Nat):List UInt8:=cr (ng a)++(((gH a).take k).map fP).flatMap cr
theorem ag0 (a:gW):lK a 0=cr (ng a):=by simp[lK]
theorem MP {a:gW}{k:Nat}{f:Fd}(h:(gH a)[k]?=some f):lK a (k+1)=lK a k++fP f++[13,10]:=by
 unfold lK
 rw[iw,h,iL,j6,List.flatMap_append]
 simp[cr]
theorem O4 {a:gW}{k:Nat}{f:Fd}(h:(gH a)[k]?=some f):∃rest,jB a++a.body.data.toList=lK a k++fP f++13 :: 10 :: rest:=by
 refine⟨(((gH a).drop (k+1)).map fP).flatMap cr++[13,10]++a.body.data.toList,?_⟩
 have hlt:=(List.getElem?_eq_some_iff.1 h).1
 have e:gH a=(gH a).take k++f :: (gH a).drop (k+1):=by
  conv=>lhs;rw[←vV k (gH a)]
  rw[List.drop_eq_getElem_cons hlt]
  rw[a_ hlt] at h
  rw[qI h]
 unfold jB lK
 conv=>lhs;rw[e]
 simp[cr]
theorem YJ (a:gW):jB a++a.body.data.toList=lK a (gH a).length++[]++13 :: 10 :: a.body.data.toList:=by
 unfold jB lK
 rw[List.take_length]
 simp
theorem aeH (a:gW):∃rest,jB a++a.body.data.toList=[]++ng a++13 :: 10 :: rest:=by
 refine⟨((gH a).map fP).flatMap cr++[13,10]++a.body.data.toList,?_⟩
 unfold jB
 simp[cr]
theorem af9 {a:gW}(h:zo a=false):a.body.size=0:=by
 unfold zo at h
 rw[EU,EU,EU] at h
 have:a.body=⟨#[]⟩:=by
  have:=h.1.1.1
  rw[decide_eq_false_iff_not] at this
  exact Classical.not_not.1 this
 rw[this]
 rfl
theorem afo {a:gW}(h:qg a=true) (hb:a.body.size≤1099511627776):∃told,gU (dn ((gH a).map cO))=(a.body.size,told,0):=by
 rw[afn h hb]
 cases hl:zo a with
 | true=>exact⟨_,rfl⟩
 | false=>
  refine⟨false,?_⟩
  rw[af9 hl]
  rfl
def iC:Array Value:=#[.string ⟨#[]⟩,.string ⟨#[]⟩,.slice none 0 0,.string ⟨#[]⟩]
theorem ahH {tmps:Array Value}{w:World}{g:Nat}{cs:Array Value}(hp:tmps.getD 2 undef = .pointer (some ⟨g,0,none⟩)) (hg:w.heap[g]?=some (.cells cs 68 (0,0))) (hs:cs.size=4) :
 (results Tryz.f70 tmps).run Tryz.prog w = .ok (.tuple #[.agg cs,tmps.getD 3 undef,tmps.getD 4 undef]) w:=by
 have h1:=run_loadVar_row (P:=Tryz.prog) w g 68 68 cs (0,0) _ hg Tryz.underlying68 rfl (by rw[vw,hs])
 have hp':tmps[2]?.getD undef = .pointer (some ⟨g,0,none⟩):=by simpa using hp
 simp[results,Tryz.results70,hp',asAddr,h1]
theorem Rd.keptA {w w':World}{B size n:Nat}{A:Option Addr}{xs:List Value}(h:Rd w B size A n xs) (hk:∀a o,A=some a→w'.cell? ⟨a.block,o,none⟩=w.cell? ⟨a.block,o,none⟩):Rd w' B size A n xs:=
 ⟨h.1,fun hn=>by
  obtain⟨b,o,e,hb,hc⟩:=h.2 hn
  exact⟨b,o,e,hb,fun j hj=>(hk _ _ e).trans (hc j hj)⟩⟩
def WZ (W:World) (a:gW) (m:Nat) (at_ ov:Value) (wr:World):Prop:=∃k:Nat,k≤m∧at_ = .int .i64 ((lK a k).length:Nat)∧bQ W (((gH a).take k).map cO) ov wr
theorem ah4 {A:Option Addr}{n c:Nat}{L:List UInt8}(a:gW) (w:World) (hr:Rd w w.heap.size 1 A n (ak L)) (hL:jB a++a.body.data.toList=L) (hc:n≤c) (hn:n≤1000000) (h:qg a=true) :
 Calls Tryz.prog 70 #[.slice A n c] w fun e w'=>∃v,e = .returned (.tuple #[mP a v,.int .i64 (n:Int),.int .i64 0])∧bQ w (a.fields.map cO) v w':=by
 have iF:L.length=n:=hr.mR
 have hlen:(jB a).length+a.body.size=n:=by
  rw[←iF,←hL,aN]
  show _=_+a.body.data.toList.length
  rw[nV]
  rfl
 obtain⟨hfs,hm,ht⟩:=Kq h
 have Ms:=afp h
 have HH:=af h
 have dX:=af hL
 have HLOK:=af Ms
 -- the first line
 obtain⟨r0,hr0⟩:=aeH a
 rw[hL] at hr0
 have hml:a.aW.data.toList.length=a.aW.size:=nV
 have htl:a.tgt.data.toList.length=a.tgt.size:=nV
 have hmt:a.aW.size+a.tgt.size≤1000000:=by
  have:=congrArg List.length hr0
  rw[iF] at this
  simp only[ng,aN,fe,jQ,hml,htl] at this
  omega
 have HL0:Hid (∀w1,Below w.heap.size w w1→Calls Tryz.prog 110 #[.slice A n c,.int .i64 0] w1 fun e w'=>e = .returned (.tuple #[.string (aJ (ng a)),.int .i64 ((lK a 0).length:Nat),.int .i64 0])∧Below w1.heap.size w1 w'):=af (fun w1 hb=>by
  have h1:=Tt w1 ((hr.below hb (ah _)).more hb.size) hc (by omega) hr0 (ahu hm ht)
  rw[ag0]
  have e:(([]:List UInt8).length+(ng a).length+2)=(cr (ng a)).length:=by simp[cr]
  rw[e] at h1
  exact h1)
 have HF:Hid (∀w1,Calls Tryz.prog 111 #[.string (aJ (ng a))] w1 fun e w'=>e = .returned (.tuple #[.agg #[.string a.aW,.string a.tgt,.slice none 0 0,.string ⟨#[]⟩],.bool true])∧Below w1.heap.size w1 w'):=af (fun w1=>ahJ a.aW a.tgt w1 hm ht (by omega))
 -- a field's line
 have HLF:Hid (∀k f,(gH a)[k]?=some f→∀w1,Below w.heap.size w w1→Calls Tryz.prog 110 #[.slice A n c,.int .i64 ((lK a k).length:Nat)] w1 fun e w'=>e = .returned (.tuple #[.string (aJ (fP f)),.int .i64 ((lK a (k+1)).length:Nat),.int .i64 0])∧Below w1.heap.size w1 w'):=af (fun k f hf w1 hb=>by
  obtain⟨r,hr2⟩:=O4 hf
  rw[hL] at hr2
  have h2:=Ms f (fq hf)
  have h1:=Tt w1 ((hr.below hb (ah _)).more hb.size) hc (by omega) hr2 (ael h2.1 h2.2)
  have e:(lK a k).length+(fP f).length+2=(lK a (k+1)).length:=by rw[MP hf];simp;omega
  rw[e] at h1
  exact h1)
 have HLE:Hid (∀w1,Below w.heap.size w w1→Calls Tryz.prog 110 #[.slice A n c,.int .i64 ((lK a (gH a).length).length:Nat)] w1 fun e w'=>e = .returned (.tuple #[.string ⟨#[]⟩,.int .i64 ((jB a).length:Nat),.int .i64 0])∧Below w1.heap.size w1 w'):=af (fun w1 hb=>by
  have hr2:=YJ a
  rw[hL] at hr2
  have h1:=Tt w1 ((hr.below hb (ah _)).more hb.size) hc (by omega) hr2 (fun c hc=>by cases hc)
  have e:(lK a (gH a).length).length+([]:List UInt8).length+2=(jB a).length:=by
   unfold jB lK
   rw[List.take_length]
   simp
   omega
  rw[e] at h1
  exact h1)
 have hfl:∀f ∈ gH a,f.1.1.size+f.1.2.size≤1000000:=by
  intro f hf
  obtain⟨k,hk⟩:=List.mem_iff_getElem?.1 hf
  obtain⟨r,hr2⟩:=O4 hk
  have h1:f.1.1.data.toList.length=f.1.1.size:=nV
  have h2:f.1.2.data.toList.length=f.1.2.size:=nV
  have:=congrArg List.length hr2
  rw[hL,iF] at this
  simp only[fP,aN,fe,h1,h2] at this
  omega
 have sS:Hid (∀f ∈ gH a,∀w1,Calls Tryz.prog 7 #[.string (aJ (fP f))] w1 (Np w1 (cO f,true))):=af (fun f hf w1=>by
  have h1:=Ms f hf
  have hsz:=hfl f hf
  have h2:=aea (aJ (fP f)) w1 (by
   rw[pz]
   have h1:f.1.1.data.toList.length=f.1.1.size:=nV
   have h2:f.1.2.data.toList.length=f.1.2.size:=nV
   simp only[fP,aN,fe,h1,h2]
   omega)
  rw[l9,aek h1.1 h1.2] at h2
  exact h2)
 have hmn:(gH a).length≤1000000:=by
  have h3:∀k,k≤(gH a).length→k≤(lK a k).length:=by
   intro k
   induction k with
   | zero=>intro _;omega
   | succ k ih=>
    intro hk
    obtain⟨f,hf⟩:∃f,(gH a)[k]?=some f:=⟨_,a_ (by omega)⟩
    have:=ih (by omega)
    rw[MP hf]
    simp only[aN,fe,List.length_nil]
    omega
  have h4:=h3 _ (ah _)
  have:=congrArg List.length (YJ a)
  rw[hL,iF] at this
  simp only[aN,fe] at this
  omega
 have wJ:Tx ((gH a).map cO):=fun f hf=>by
  obtain⟨g,hg,rfl⟩:=List.mem_map.1 hf
  have:=hfl g hg
  refine⟨?_,by show g.1.2.size≤_;omega⟩
  show (aJ (aO g.1.1.data.toList)).size≤_
  rw[pz,Bq]
  have h1:g.1.1.data.toList.length=g.1.1.size:=nV
  omega
 have pR:=af wJ
 have HR:=af hr
 have HLEN:=af hlen
 obtain⟨m,fA⟩:∃m,(gH a).length=m:=⟨_,rfl⟩
 rw[fA] at HLE hmn
 have HM:=af fA
 clear iF hlen hfs hm ht Ms hr0 hml htl hfl wJ hr hL h fA
 go_enter Tryz.func70,Tryz.ntmps70
 go_upto_region 2 with (first
  | (refine wpList_store_rowTo rfl 68 (.tmp 5) (.tmp 16) rfl rfl (w.heap.size+1) iC rfl rfl 68 iC (by have h:=aZ (w.alloc (.cells iC 68)) (.cells iC 68);rw[World.size_alloc] at h;exact h) vw rfl (by simp[Value.oneCell',iC]) ?_))
 refine bI ?_
 intro W2 hW2
 have Eg:W2.heap[w.heap.size]?=some (.cells iC 68 (0,0)):=by
  rw[hW2]
  exact (setRow_other _ _ _ _ (by omega)).trans ((Below.heap_alloc _ _ _ (by simp)).trans (aZ _ _))
 have fK:W2.heap[w.heap.size+1]?=some (.cells iC 68 (0,0)):=by
  rw[hW2]
  have h:=aZ (w.alloc (.cells iC 68)) (.cells iC 68)
  rw[World.size_alloc] at h
  exact setRow_heap _ _ _ _ _ _ h
 have hb2:Below w.heap.size w W2:=by
  rw[hW2]
  exact (((Below.refl _ w).alloc (ah _) _).alloc (by simp) _).trans ⟨rfl,rfl,rfl,by simp,fun k hk=>setRow_other _ _ _ _ (by omega)⟩
 have hs2:W2.heap.size=w.heap.size+2:=by rw[hW2];simp
 obtain⟨q0,hq⟩:∃q,w.heap.size=q:=⟨_,rfl⟩
 have aI:=af hb2
 have HQ:=af hq
 rw[hq] at Eg fK hs2 ⊢
 have BJ:=af (And.intro Eg fK)
 clear hW2 Eg fK hb2 hq
 go_wp2_with fail
 refine (HL0.out W2 aI.out).mono ?_
 rintro e w3 ⟨rfl,hb3⟩
 have aM:=af (aI.out.trans (hb3.mono aI.out.size))
 have BJ:Hid (w3.heap[q0]?=some (.cells iC 68 (0,0))∧w3.heap[q0+1]?=some (.cells iC 68 (0,0))):=af ⟨(hb3.block _ (by omega)).trans BJ.out.1,(hb3.block _ (by omega)).trans BJ.out.2⟩
 have hs3:q0+2≤w3.heap.size:=by have:=hb3.size;omega
 clear hb3 hs2
 go_wp2_with fail
 refine (HF.out w3).mono ?_
 rintro e w4 ⟨rfl,hb4⟩
 have dz:=af (aM.out.trans (hb4.mono aM.out.size))
 have BJ:Hid (w4.heap[q0]?=some (.cells iC 68 (0,0))∧w4.heap[q0+1]?=some (.cells iC 68 (0,0))):=af ⟨(hb4.block _ (by omega)).trans BJ.out.1,(hb4.block _ (by omega)).trans BJ.out.2⟩
 have oZ:q0+2≤w4.heap.size:=by have:=hb4.size;omega
 clear hb4 hs3
 go_upto_region 6 with (first
  | (refine wpList_store_rowTo rfl 68 (.tmp 9) (.tmp 30) rfl rfl w4.heap.size #[.string a.aW,.string a.tgt,.slice none 0 0,.string ⟨#[]⟩] rfl rfl 68 iC (aZ _ _) vw rfl (by simp[Value.oneCell']) ?_))
 refine bI ?_
 intro W5 kg
 have hg:W5.heap[w4.heap.size]?=some (.cells #[.string a.aW,.string a.tgt,.slice none 0 0,.string ⟨#[]⟩] 68 (0,0)):=by
  rw[kg]
  exact setRow_heap _ _ _ _ _ _ (aZ _ _)
 have aT:Below w4.heap.size w4 W5:=by
  rw[kg]
  exact ((Below.refl _ w4).alloc (ah _) _).trans ⟨rfl,rfl,rfl,by simp,fun k hk=>setRow_other _ _ _ _ (by omega)⟩
 have hs5:W5.heap.size=w4.heap.size+1:=by rw[kg];simp
 obtain⟨g,xH⟩:∃g,w4.heap.size=g:=⟨_,rfl⟩
 have eG:=af (dz.out.trans (aT.mono dz.out.size))
 have H5:Hid (W5.heap[q0]?=some (.cells iC 68 (0,0))∧W5.heap[q0+1]?=some (.cells iC 68 (0,0))):=af ⟨(aT.block _ (by omega)).trans BJ.out.1,(aT.block _ (by omega)).trans BJ.out.2⟩
 rw[xH] at hg hs5 oZ ⊢
 have HG:=af hg
 clear kg hg aT xH BJ
 go_wp2_with fail
 go_loopw [7,11] (fun at_ ov wr=>WZ W5 a m at_ ov wr) (fun at_ _ _=>n+1-(intOf at_).toNat)
 case atStart=>exact⟨0,aL _,rfl,xW (Below.refl _ _)⟩
 case round=>
  obtain⟨k,hk,rfl,hown⟩:=hrel
  have HO:=af hown
  have dZ:=hown.2.size
  have aY:=eG.out.trans (hown.2.mono eG.out.size)
  have iD:=af aY
  clear hown aY
  by_cases hlt:k<m
  ·obtain⟨f,hf⟩:∃f,(gH a)[k]?=some f:=⟨_,a_ (by rw[HM.out];exact hlt)⟩
   have hmem:=fq hf
   have HC:=af (HLF.out k f hf wr iD.out)
   have HC2:=af (sS.out f hmem)
   obtain⟨e1,-,-⟩:=wU (s:=aJ (fP f)) (by rw[l9];unfold fP;simp)
   have yV:((gH a).take (k+1)).map cO=((gH a).take k).map cO++[cO f]:=by rw[iw,hf,iL,j6];rfl
   have Hy:=af yV
   have htl:(((gH a).take k).map cO).length=k:=by rw[List.length_map,kS,HM.out];omega
   obtain⟨x,hx⟩:∃x,cO f=x:=⟨_,rfl⟩
   rw[hx] at HC2 Hy
   obtain⟨sf,Ep⟩:∃sf,aJ (fP f)=sf:=⟨_,rfl⟩
   rw[Ep] at HC HC2 e1
   have hpl:(lK a (k+1)).length≤n:=by
    obtain⟨r,hr2⟩:=O4 hf
    rw[dX.out] at hr2
    have h1:=congrArg List.length hr2
    rw[MP hf]
    have h2:=HLEN.out
    have h3:=HR.out.mR
    simp only[aN,fe,List.length_nil] at h1 ⊢
    omega
   have hpk:(lK a k).length<(lK a (k+1)).length:=by rw[MP hf];simp
   obtain⟨⟨xn,xv⟩,xb⟩:=x
   unfold Np at HC2
   dsimp only at HC2
   clear hf hmem yV hx Ep
   obtain⟨pa,hpa⟩:∃p,(lK a k).length=p:=⟨_,rfl⟩
   obtain⟨pb,Gy⟩:∃p,(lK a (k+1)).length=p:=⟨_,rfl⟩
   rw[hpa] at HC hpk ⊢
   rw[Gy] at HC hpk hpl
   have Fq:=af Gy
   clear hpa Gy
   go_wp2_with fail
   refine HC.out.mono ?_
   rintro e w6 ⟨rfl,dO⟩
   have gK:=af dO
   have hs6:=dO.size
   clear dO HC
   go_wp2_with fail
   refine (HC2.out w6).mono ?_
   rintro e w7 ⟨rfl,dU⟩
   have iZ:=af (gK.out.trans (dU.mono hs6))
   have o8:=dU.size
   clear dU HC2
   go_upto_region 14 with (first
    | (refine wpList_store_rowTo rfl 26 (.tmp 12) (.tmp 51) rfl rfl w7.heap.size #[.string xn,.string xv,.bool xb] rfl rfl 26 #[.string ⟨#[]⟩,.string ⟨#[]⟩,.bool false] (aZ _ _) Kj rfl (by simp[Value.oneCell']) ?_))
   refine bI ?_
   intro W8 wB
   have qc:W8.heap[w7.heap.size]?=some (.cells #[.string xn,.string xv,.bool xb] 26 (0,0)):=by
    rw[wB]
    exact setRow_heap _ _ _ _ _ _ (aZ _ _)
   have bF:Below w7.heap.size w7 W8:=by
    rw[wB]
    exact ((Below.refl _ w7).alloc (ah _) _).trans ⟨rfl,rfl,rfl,by simp,fun k hk=>setRow_other _ _ _ _ (by omega)⟩
   have ja:=af (iZ.out.trans (bF.mono iZ.out.size))
   obtain⟨v8,Es⟩:∃v,w7.heap.size=v:=⟨_,rfl⟩
   rw[Es] at qc ⊢
   have z0:W8.cell? ⟨v8,0,none⟩=some (.string xn):=by unfold World.cell?;rw[qc];rfl
   have z1:W8.cell? ⟨v8,1,none⟩=some (.string xv):=by unfold World.cell?;rw[qc];rfl
   have z2:W8.cell? ⟨v8,2,none⟩=some (.bool xb):=by unfold World.cell?;rw[qc];rfl
   have hs8:=ja.out.size
   clear qc bF wB Es
   go_wp2_with (at_builtin;refine dI ?_)
   unfold Stop
   refine dQ (.tmp 56) (.tmp 58) j3 rfl rfl (EE HO.out ja.out _) rfl (Rd.rC _ _ _ _ _) rfl (by simp[Value.oneCell']) (bn (by rw[htl];omega)) (by omega) (by simp;omega) ?_
   intro v9 w9 bR dP _
   have HN:Hid (WZ W5 a m (.int .i64 (pb:Nat)) v9 w9):=af (by
    refine⟨k+1,hlt,by rw[Fq.out],?_⟩
    rw[Hy.out]
    exact HO.out.app ((xn,xv),xb) ja.out _ bR dP)
   obtain⟨A9,c9,eD,-,-,-,-⟩:=aC bR
   rw[htl] at eD
   rw[eD] at HN ⊢
   clear bR dP eD z0 z1 z2
   go_wp2
   go_roundw
   case rel=>exact HN.out
   case measure=>simp[intOf];omega
  ·have hkm:k=m:=by omega
   subst hkm
   have hown:bQ W5 ((gH a).map cO) u11 wr:=by
    have h1:=HO.out
    rwa [cB (by rw[HM.out];exact ah _)] at h1
   obtain⟨yh,c11,IE,-,-,PN,hA11⟩:=aC hown.1
   have mM:=af hA11
   clear hA11
   have Bc:((gH a).map cO).length=k:=by rw[List.length_map,HM.out]
   rw[Bc] at PN IE
   have HR11:=af PN
   have HBO:=af hown.2
   subst IE
   clear hown PN Bc HO
   go_wp2_with fail
   refine (HLE.out wr iD.out).mono ?_
   rintro e w6 ⟨rfl,dO⟩
   have gK:=af (HBO.out.trans (dO.mono dZ))
   have BV:=af ((HR11.out.below dO (ah _)).more dO.size)
   clear dO
   obtain⟨told,htold⟩:=afo HH.out (by have:=HLEN.out;omega)
   have gz:=af (KC (c:=c11) w6 BV.out (by omega) pR.out)
   rw[htold] at gz
   dsimp only at gz
   clear htold
   go_wp2_with fail
   refine gz.out.mono ?_
   rintro e w7 ⟨rfl,dU⟩
   have iZ:=af (gK.out.trans (dU.mono gK.out.size))
   have BX:=af ((BV.out.below dU (ah _)).more dU.size)
   clear dU gz
   have hbn:¬((a.body.size:Int) > 2147483647):=by have:=HLEN.out;omega
   go_wp2_with fail
   refine (ahM (c:=c11) w7 BX.out (by omega)).mono ?_
   rintro e w8 ⟨v8,rfl,xM,bF⟩
   obtain⟨A8,c8,rfl,-,-,ze,-⟩:=aC xM
   have ja:=af (iZ.out.trans (bF.mono iZ.out.size))
   have HR8:=af ((BX.out.below bF (ah _)).more bF.size)
   have BK:=af (Xf (c:=c8) oq w8 ze (by omega) (fun s hs=>by
    obtain⟨f,hf,rfl⟩:=List.mem_map.1 hs
    exact (pR.out f hf).1) (by decide +kernel))
   rw[afq HH.out] at BK
   unfold oq at BK
   clear xM bF ze
   go_wp2_with fail
   refine BK.out.mono ?_
   rintro e w9 ⟨rfl,dB⟩
   have iq:=af (ja.out.trans (dB.mono ja.out.size))
   have HR9:=af ((HR8.out.below dB (ah _)).more dB.size)
   clear dB BK
   have hgz:g<w9.heap.size:=by have:=iq.out.size;omega
   have Cy:=(iq.out.block g (by omega)).trans HG.out
   have f3:w9.frozen? ⟨g,3,none⟩=false:=yN Cy 3
   have c3:w9.cell? ⟨g,3,none⟩=some (.string ⟨#[]⟩):=by unfold World.cell?;rw[Cy];rfl
   have hHn:(jB a).length+a.body.size=n:=HLEN.out
   obtain⟨hd,xI⟩:∃hd,(jB a).length=hd:=⟨_,rfl⟩
   obtain⟨bs,wC⟩:∃bs,a.body.size=bs:=⟨_,rfl⟩
   have YI:(L.drop hd).take bs=a.body.data.toList:=by
    rw[←dX.out,←xI,List.drop_left' rfl,cB (by rw[←wC,nV];exact ah _)]
   have hrL:Rd w9 w9.heap.size 1 A n (ak L):=by
    have hb:=eG.out.trans (iq.out.mono eG.out.size)
    exact (HR.out.below hb (ah _)).more hb.size
   rw[xI,wC] at hHn
   have fM:=aaI A n c hd n (by omega) hc
   have hrd:=hrL.lh (lo:=hd) (hi:=n) (by omega) (ah _) hc
   rw[show n-hd=bs by omega] at fM hrd
   rw[YI] at hrd
   obtain⟨A',hA'⟩:∃A',(if c=hd then A else A.map (·.add hd))=A':=⟨_,rfl⟩
   rw[hA'] at fM hrd
   have zi:(convert 48 9 (.slice A' bs (c-hd))).run Tryz.prog w9 = .ok (.string a.body) w9:=by
    have h1:=sJ (P:=Tryz.prog) Tryz.underlying48 Tryz.underlying5 Tryz.underlying9 hrd (c-hd)
    rw[show (⟨a.body.data.toList.toArray⟩:ByteArray)=a.body from EA a.body] at h1
    exact h1
   have i1:¬((n:Int)-hd<bs):=by omega
   have i2:((hd:Int)+bs)=n:=by omega
   rw[wC] at hbn
   try rw[xI]
   try rw[wC]
   have HHD:=af (And.intro xI wC)
   have HKG:=af Cy
   clear YI hrL hrd hA' Cy xI wC
   go_upto_region 23 with fail
   clear fM zi i1 i2 c3 f3
   obtain⟨W,hW⟩:∃W,w9.setCell ⟨g,3,none⟩ (.string a.body)=W:=⟨_,rfl⟩
   have jL:W.heap[g]?=some (.cells #[.string a.aW,.string a.tgt,.slice none 0 0,.string a.body] 68 (0,0)):=by
    rw[←hW]
    exact oH _ HKG.out
   have Cq:W.heap.size=w9.heap.size:=by rw[←hW];simp
   have AP:Kept (fun b=>b=g) w9 W:=by rw[←hW];exact (Kept.refl (fun b=>b=g) w9).setCell rfl _ _
   have hrW:Rd W W.heap.size 3 yh k (fds ((gH a).map cO)):=by
    have h1:=HR9.out.keptA (w':=W) (fun x o e=>by
     have:=mM.out x e
     rw[←hW]
     exact World.cell?_setCell_far w9 ⟨g,3,none⟩ ⟨x.block,o,none⟩ _ (by show g≠x.block;omega))
    rw[Cq]
    exact h1
   rw[hW]
   have HKW:=af jL
   obtain⟨W1,hW1⟩:∃W1,W.alloc (.cells #[.string ⟨#[99,111,110,116,101,110,116,45,108,101,110,103,116,104]⟩] 9)=W1:=⟨_,rfl⟩
   have hb1:Below W.heap.size W W1:=by rw[←hW1];exact (Below.refl _ _).alloc (ah _) _
   have hone:Rd W1 W1.heap.size 1 (some ⟨W.heap.size,0,none⟩) 1 (strs [bu]):=by
    have h1:=Rd.one W (.string bu) 9
    have h2:W1.heap.size=W.heap.size+1:=by rw[←hW1];simp
    rw[h2,←hW1]
    exact h1
   have nC:=af (MS (c:=c11) (c1:=1) W1 ((hrW.below hb1 (ah _)).more hb1.size) (by omega) pR.out hone (by omega) (fun s hs=>by rw[List.mem_singleton.1 hs];decide +kernel))
   rw[afr HH.out] at nC
   have FH:=af (And.intro AP (And.intro Cq (And.intro hb1 hW1)))
   clear hW jL AP Cq hrW hb1 hone
   go_wp2_with fail
   clear hW1
   refine nC.out.mono ?_
   rintro e oJ ⟨v12,rfl,J3⟩
   have hs1:=FH.out.2.2.1.size
   have hs12:=J3.2.size
   have hgW:g<W.heap.size:=by rw[FH.out.2.1];exact hgz
   have Cy:=(J3.2.block g (by omega)).trans ((FH.out.2.2.1.block g hgW).trans HKW.out)
   have c2:oJ.cell? ⟨g,2,none⟩=some (.slice none 0 0):=by unfold World.cell?;rw[Cy];rfl
   have f2:oJ.frozen? ⟨g,2,none⟩=false:=yN Cy 2
   obtain⟨A12,c12,hv12,-,-,-,-⟩:=aC J3.1
   have NL:=af J3
   have HKG2:=af Cy
   subst hv12
   clear J3 Cy nC
   go_upto_region 24 with fail
   refine bI ?_
   intro kG xC
   have JV:kG.heap[g]?=some (.cells #[.string a.aW,.string a.tgt,.slice A12 a.fields.length c12,.string a.body] 68 (0,0)):=by
    rw[xC]
    exact oH _ HKG2.out
   have hkk:Kept (fun b=>b=g) oJ kG:=by rw[xC];exact (Kept.refl (fun b=>b=g) oJ).setCell rfl _ _
   have hq13:kG.heap[q0]?=some (.cells iC 68 (0,0)):=by
    have hs9:=iq.out.size
    refine (hkk.block q0 (by omega) (by omega)).trans ?_
    refine (NL.out.2.block q0 (by omega)).trans ?_
    refine (FH.out.2.2.1.block q0 (by omega)).trans ?_
    refine (FH.out.1.block q0 (by omega) (by omega)).trans ?_
    exact (iq.out.block q0 (by omega)).trans H5.out.1
   have g0:kG.cell? ⟨g,0,none⟩=some (.string a.aW):=by unfold World.cell?;rw[JV];rfl
   have g1:kG.cell? ⟨g,1,none⟩=some (.string a.tgt):=by unfold World.cell?;rw[JV];rfl
   have g2:kG.cell? ⟨g,2,none⟩=some (.slice A12 a.fields.length c12):=by unfold World.cell?;rw[JV];rfl
   have g3:kG.cell? ⟨g,3,none⟩=some (.string a.body):=by unfold World.cell?;rw[JV];rfl
   have i2:((hd:Int)+bs)=n:=by omega
   have Ji:=af hq13
   have bz:=af hkk
   clear xC JV hkk hq13 c2 f2
   go_wp2_with (first
    | (refine wpList_store_rowTo rfl 68 (.tmp 2) (.tmp 97) rfl rfl q0 #[.string a.aW,.string a.tgt,.slice A12 a.fields.length c12,.string a.body] rfl rfl 68 iC Ji.out vw rfl (by simp[Value.oneCell']) ?_))
   refine bodyPost_ret (ahH rfl (setRow_heap _ _ _ _ _ _ Ji.out) rfl) rfl ?_
   have hlm:(a.fields.map cO).length=a.fields.length:=List.length_map ..
   have hqw:=HQ.out
   have hk14:Kept (fun b=>b=g∨b=q0) oJ (kG.setRow q0 #[.string a.aW,.string a.tgt,.slice A12 a.fields.length c12,.string a.body]):=
    ⟨bz.out.os,bz.out.tape,bz.out.output,by have:=bz.out.size;simpa [World.setRow] using this,fun k hk hn=>(setRow_other _ _ _ _ (fun e=>hn (.inr e))).trans (bz.out.block k hk (fun e=>hn (.inl e)))⟩
   have hs9:=iq.out.size
   have hbW:Below w.heap.size w w9:=eG.out.trans (iq.out.mono eG.out.size)
   have hbW2:Below w.heap.size w W:=hbW.trans (FH.out.1.below (fun k e=>by omega) hbW.size)
   have JF:Below w.heap.size w oJ:=(hbW2.trans (FH.out.2.2.1.mono hbW2.size)).trans (NL.out.2.mono (by omega))
   refine⟨.slice A12 a.fields.length c12,rfl,?_,JF.trans (hk14.below (fun k e=>by omega) JF.size)⟩
   rw[hlm]
   have h1:=NL.out.1
   rw[hlm] at h1
   refine pG (d_ h1 hk14 (fun b hb e=>?_)) (by omega)
   have:=(World.ownsRow.lt h1 b hb).1
   omega
end
section
open Go.RowKit Go.Maps
def rz (R:Rq) (body who:ByteArray):gW:=⟨R.aW,R.path,[((aG,R.ek),false)]++dJ (fG R.fields) [bu,aG]++[((rG,⟨#[50,32]⟩ ++ who),false)],body⟩
theorem ahG {tmps:Array Value}{w:World}{g:Nat}{cs:Array Value}(hp:tmps.getD 6 undef = .pointer (some ⟨g,0,none⟩)) (hg:w.heap[g]?=some (.cells cs 68 (0,0))) (hs:cs.size=4) :
 (results Tryz.f29 tmps).run Tryz.prog w = .ok (.agg cs) w:=by
 have h1:=run_loadVar_row (P:=Tryz.prog) w g 68 68 cs (0,0) _ hg Tryz.underlying68 rfl (by rw[vw,hs])
 have hp':tmps[6]?.getD undef = .pointer (some ⟨g,0,none⟩):=by simpa using hp
 simp[results,Tryz.results29,hp',asAddr,h1]
theorem ahQ {A:Option Addr}{n c:Nat}(R:Rq) (body who:ByteArray) (w:World) (hr:Rd w w.heap.size 3 A n (fds R.fields)) (hn:n≤1048570) (hz:Tx R.fields) (hno:∀f ∈ R.fields,dL f.1.1.data.toList lg.data.toList=false) (hw:who.size≤1000000) :
 Calls Tryz.prog 29 #[.agg #[.string R.aW,.string R.iH,.string R.ek,.string R.path,.slice A n c],.string body,.string who] w fun e w'=>∃v,e = .returned (mP (rz R body who) v)∧bQ w (rz R body who).fields v w':=by
 obtain⟨m,sc,au,pa,l⟩:=R
 dsimp only at hr hz hno ⊢
 have bf:l.length=n:=by have:=hr.1;rw[jJ] at this;omega
 have fM:(fG l).length≤n:=by rw[←bf];exact ER _ _
 have hsl2:(dJ (fG l) [bu,aG]).length≤(fG l).length:=ER _ _
 have HZ:=af hz
 have HST:Hid (∀w1,Below w.heap.size w w1→Calls Tryz.prog 72 #[.slice A n c] w1 (fun e w'=>∃v,e = .returned v∧bQ w1 (fG l) v w')):=af (fun w1 hb=>ah3 w1 ((hr.below hb (ah _)).more hb.size) (by omega) hz hno)
 have wJ:Tx (fG l):=fun f hf=>hz f (KI hf).1
 have pR:=af wJ
 have Ci:∀w',(Op.stringOp .add ⟨#[50,32]⟩ who).run Tryz.prog w' = .ok (.string (⟨#[50,32]⟩ ++ who)) w':=fun w'=>run_string_add_sum (P:=Tryz.prog) w' ⟨#[50,32]⟩ who (by show 2+who.size≤_;omega)
 clear hr hz hno wJ bf
 go_enter Tryz.func29,Tryz.ntmps29
 go_upto_region 2 with fail
 refine bI ?_
 intro W3 hW3
 obtain⟨W2,hW2⟩:∃W2,(w.alloc (.cells #[.string m,.string sc,.string au,.string pa,.slice A n c] 60)).alloc (.cells iC 68)=W2:=⟨_,rfl⟩
 have Ik:W3=W2.alloc (.cells #[.string aG,.string au,.bool false] 26):=by rw[hW3,←hW2];rfl
 obtain⟨q,hq⟩:∃q,w.heap.size=q:=⟨_,rfl⟩
 have hb2:Below w.heap.size w W2:=by rw[←hW2];exact ((Below.refl _ _).alloc (ah _) _).alloc (by simp) _
 have hs2:W2.heap.size=q+2:=by rw[←hW2,←hq];simp
 have hk0:W2.heap[q]?=some (.cells #[.string m,.string sc,.string au,.string pa,.slice A n c] 60 (0,0)):=by
  rw[←hW2,←hq]
  exact (Below.heap_alloc _ _ _ (by simp)).trans (aZ _ _)
 have iO:W2.heap[q+1]?=some (.cells iC 68 (0,0)):=by
  have h:=aZ (w.alloc (.cells #[.string m,.string sc,.string au,.string pa,.slice A n c] 60)) (.cells iC 68)
  rw[World.size_alloc,hq,hW2] at h
  exact h
 have iA:bQ W2 [((aG,au),false)] (.slice (some ⟨W2.heap.size,0,none⟩) 1 1) W3:=by
  rw[Ik]
  exact ED W2 W2 ((aG,au),false) (Below.refl _ _)
 rw[hs2] at iA
 have hs3:W3.heap.size=q+3:=by rw[Ik];simp[hs2]
 have aI:=af hb2
 have yw:=af iA
 have HK:=af (And.intro hk0 (And.intro iO (And.intro hs2 hs3)))
 have hcells:∀wr,Below W2.heap.size W2 wr→wr.cell? ⟨q,0,none⟩=some (.string m)∧wr.cell? ⟨q,3,none⟩=some (.string pa)∧wr.cell? ⟨q,4,none⟩=some (.slice A n c):=fun wr hb=>by
  have h:=(hb.block q (by omega)).trans hk0
  refine⟨?_,?_,?_⟩ <;> (unfold World.cell?;rw[h];rfl)
 have HC:=af hcells
 obtain⟨-,-,c4⟩:=hcells W3 iA.2
 have aM:=af (hb2.trans (iA.2.mono hb2.size))
 have HQ:=af hq
 rw[hq]
 clear hW3 Ik hW2 hb2 hs2 hk0 iO iA hs3 hcells hq
 go_wp2_with fail
 refine (HST.out W3 aM.out).mono ?_
 rintro e w5 ⟨v5,rfl,nR⟩
 obtain⟨A5,c5,rfl,-,-,vk,-⟩:=aC nR.1
 have eG:=af (yw.out.2.trans (nR.2.mono yw.out.2.size))
 have HB5':=af nR.2
 obtain⟨W6,AO⟩:∃W6,w5.alloc (.cells #[.string ⟨#[99,111,110,116,101,110,116,45,108,101,110,103,116,104]⟩,.string ⟨#[104,111,115,116]⟩] 9)=W6:=⟨_,rfl⟩
 have dO:Below w5.heap.size w5 W6:=by rw[←AO];exact (Below.refl _ _).alloc (ah _) _
 have h2:Rd W6 W6.heap.size 1 (some ⟨w5.heap.size,0,none⟩) 2 (strs [bu,aG]):=by
  have h1:=Rd.lit w5 #[.string bu,.string aG] 9 2 rfl
  have h3:W6.heap.size=w5.heap.size+1:=by rw[←AO];simp
  rw[h3,←AO]
  exact h1
 have nC:=af (MS (c:=c5) (c1:=2) W6 ((vk.below dO (ah _)).more dO.size) (by omega) pR.out h2 (by omega) (by
  intro s hs
  have h:∀s ∈ [bu,aG],s.size≤140737488351232:=by decide +kernel
  exact h s hs))
 have gK:=af (eG.out.trans (dO.mono eG.out.size))
 have HB6':=af (HB5'.out.trans (dO.mono HB5'.out.size))
 clear nR vk dO h2
 go_wp2_with fail
 clear AO
 refine nC.out.mono ?_
 rintro e w7 ⟨v7,rfl,Ee⟩
 obtain⟨A7,c7,rfl,-,-,Bg,-⟩:=aC Ee.1
 have iZ:=af (gK.out.trans (Ee.2.mono gK.out.size))
 have HB7':=af (HB6'.out.trans (Ee.2.mono HB6'.out.size))
 have BX:=af Bg
 clear Ee Bg nC
 go_wp2_with (at_builtin;refine dI ?_)
 unfold Stop
 have za:w7.ownsRow W2.heap.size 26 3 (.slice (some ⟨q+2,0,none⟩) 1 1) 1 (fds [((aG,au),false)]):=d_ yw.out.1 (Kept.jk (F:=fun _=>False) HB7'.out) (fun _ _ h=>h)
 obtain⟨m2,hm2⟩:∃m2,(dJ (fG l) [bu,aG]).length=m2:=⟨_,rfl⟩
 rw[hm2] at BX hsl2
 try rw[hm2]
 have sZ:=af hm2
 have hbw7:=iZ.out.size
 clear hm2
 refine dQ (.tmp 12) (.tmp 17) j3 rfl rfl za rfl BX.out rfl (yL _) (bn (by omega)) (by omega) hbw7 ?_
 intro v9 w9 bR dP _
 have H9:Hid (bQ W2 ([((aG,au),false)]++dJ (fG l) [bu,aG]) v9 w9):=af (by
  refine⟨?_,Below.app iZ.out za dP (ah _) hbw7⟩
  rw[aN,sZ.out,oP]
  exact bR)
 obtain⟨A9,c9,eD,-,-,-,-⟩:=aC bR
 subst eD
 clear bR dP za
 have hl9:([((aG,au),false)]++dJ (fG l) [bu,aG]:List Fd).length=1+m2:=by rw[aN,sZ.out];rfl
 have HL9:=af hl9
 clear hl9
 go_wp2_with (at_builtin;refine dI ?_)
 unfold Stop
 have PU:=EE H9.out (Below.refl _ _) (.cells #[.string rG,.string (⟨#[50,32]⟩ ++ who),.bool false] 26)
 rw[HL9.out] at PU
 have hbs9:=H9.out.2.size
 refine dQ (.tmp 19) (.tmp 23) j3 rfl rfl PU rfl (Rd.rC _ _ _ _ _) rfl (by simp[Value.oneCell']) (bn (by omega)) (by omega) (by simp;omega) ?_
 intro v11 ig PE hg11 _
 have EW:Hid (bQ W2 ([((aG,au),false)]++dJ (fG l) [bu,aG]++[((rG,⟨#[50,32]⟩ ++ who),false)]) v11 ig):=af (H9.out.app ((rG,⟨#[50,32]⟩ ++ who),false) (Below.refl _ _) _ (by rw[HL9.out];exact PE) hg11)
 obtain⟨yh,c11,IE,-,-,-,-⟩:=aC PE
 subst IE
 clear PE hg11 PU
 obtain⟨c0,c3,-⟩:=HC.out ig EW.out.2
 have hz0:=(EW.out.2.block (q+1) (by have:=HK.out.2.2.1;omega)).trans HK.out.2.1
 go_wp2_with (first
  | (refine wpList_store_rowTo rfl 68 (.tmp 6) (.tmp 31) rfl rfl (q+1) #[.string m,.string pa,.slice yh (1+m2+1) c11,.string body] rfl rfl 68 iC hz0 vw rfl (by simp[Value.oneCell']) ?_))
 refine bodyPost_ret (ahG rfl (setRow_heap _ _ _ _ _ _ hz0) rfl) rfl ?_
 have Bc:([((aG,au),false)]++dJ (fG l) [bu,aG]++[((rG,⟨#[50,32]⟩ ++ who),false)]:List Fd).length=1+m2+1:=by rw[aN,HL9.out];rfl
 have hqw:=HQ.out
 have hs2:=HK.out.2.2.1
 have lZ:=yI (cs:=#[.string m,.string pa,.slice yh (1+m2+1) c11,.string body]) (aI.out.trans (EW.out.2.mono aI.out.size)) (show w.heap.size≤q+1 by omega)
 refine⟨.slice yh (1+m2+1) c11,rfl,?_,lZ⟩
 have h1:=EW.out.1
 rw[Bc] at h1
 show World.ownsRow _ w.heap.size 26 3 _ _ (fds ([((aG,au),false)]++dJ (fG l) [bu,aG]++[((rG,⟨#[50,32]⟩ ++ who),false)]))
 have hk:Kept (fun b=>b=q+1) ig (ig.setRow (q+1) #[.string m,.string pa,.slice yh (1+m2+1) c11,.string body]):=⟨rfl,rfl,rfl,by simp,fun k hk hF=>setRow_other _ _ _ _ hF⟩
 have h2:=pG (d_ h1 hk (fun b hb e=>by
  have:=(World.ownsRow.lt h1 b hb).1
  omega)) (show w.heap.size≤W2.heap.size by omega)
 rw[←Bc] at h2 ⊢
 exact h2
end
end Go.Proofs.YtpkmciohehaboaaGreatDoor
