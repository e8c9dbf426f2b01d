/- Part 12 of the proof. -/
import Derived.Test.YtpkmciohehaboaaGreatDoorK0
import Derived.Test.YtpkmciohehaboaaGreatDoorK11
set_option maxRecDepth 100000
set_option maxHeartbeats 100000000
set_option linter.unusedVariables false
set_option linter.unusedSimpArgs false
set_option linter.unusedSectionVars false
set_option linter.unnecessarySimpa false
namespace Go.Proofs.YtpkmciohehaboaaGreatDoor
section
open Go.RowKit Go.Maps
structure qy (B:Nat) (v:ByteArray) (s:gX) (ov:Value) (w:World):Prop where
 sz:B+3≤w.heap.size
 cv:w.heap[B]?=some (.cells #[.string v] 9 (0,0))
 co:w.heap[B+1]?=some (.cells #[ov] 80 (0,0))
 cf:w.heap[B+2]?=some (.cells #[.int .i64 (s.from_:Int)] 3 (0,0))
 row:w.ownsRow (B+3) 9 1 ov s.out.length (strs s.out)
variable {B:Nat} {v:ByteArray} {s:gX} {ov:Value} {w w':World}
theorem qy.below (h:qy B v s ov w) (hb:Below w.heap.size w w'):qy B v s ov w' where
 sz:=gM h.sz hb.size
 cv:=(hb.block _ (by have:=h.sz;omega)).trans h.cv
 co:=(hb.block _ (by have:=h.sz;omega)).trans h.co
 cf:=(hb.block _ (by have:=h.sz;omega)).trans h.cf
 row:=d_ h.row (Kept.jk (F:=fun _=>False) hb) (fun _ _ h=>h)
theorem qy.next (h:qy B v s ov w) (k:Nat):qy B v { s with from_:=k } ov (w.setCell ⟨B+2,0,none⟩ (.int .i64 (k:Int))) where
 sz:=by simp;exact h.sz
 cv:=(Below.heap_setCell _ _ _ _ (by show B≠B+2;omega)).trans h.cv
 co:=(Below.heap_setCell _ _ _ _ (by show B+1≠B+2;omega)).trans h.co
 cf:=by rw[zB _ h.cf];rfl
 row:=d_ h.row ((Kept.refl (fun k=>k=B+2) w).setCell rfl 0 _) (fun q hq e=>by have:=(World.ownsRow.lt h.row q hq).1;omega)
theorem qy.app {v3:Value}{w3:World}{o:Obj}{x:ByteArray}(h:qy B v s ov w)
 (hown:w3.ownsRow (B+3) 9 1 v3 (s.out.length+1) (strs s.out++[.string x])) (hg:(w.alloc o).grownBy w3 ov.ownBlock) :
 qy B v { s with out:=s.out++[x] } v3 (w3.setCell ⟨B+1,0,none⟩ v3)∧Below B w (w3.setCell ⟨B+1,0,none⟩ v3)∧w3.heap[B+1]?=some (.cells #[ov] 80 (0,0)):=by
 have hs:=h.sz
 have hb3:Below (B+3) w w3:=Below.app ((Below.refl _ _).alloc hs _) (d_ h.row ((Kept.refl (fun _=>False) w).alloc o) (fun _ _ h=>h)) hg (ah _) (by simp;omega)
 have hk:∀j,j<B+3→j≠B+1→(w3.setCell ⟨B+1,0,none⟩ v3).heap[j]?=w.heap[j]?:=fun j hj hne=>(Below.heap_setCell _ _ _ _ hne).trans (hb3.block j hj)
 have h3:w3.heap[B+1]?=some (.cells #[ov] 80 (0,0)):=(hb3.block _ (by omega)).trans h.co
 refine⟨⟨?_,(hk _ (by omega) (by omega)).trans h.cv,?_,(hk _ (by omega) (by omega)).trans h.cf,?_⟩,(hb3.mono (by omega)).setCell (by show B≤B+1;omega) _,h3⟩
 ·have:=hb3.size;simp;omega
 ·rw[zB _ h3];rfl
 ·dsimp only
  rw[aN,I6]
  exact d_ hown ((Kept.refl (fun k=>k=B+1) w3).setCell rfl 0 v3) (fun q hq e=>by have:=(World.ownsRow.lt hown q hq).1;omega)
def PutEl (w:World) (B:Nat) (v:ByteArray) (s:gX) (e:Ending) (w':World):Prop:=e = .returned (.tuple #[])∧(∃ov,qy B v s ov w')∧Below B w w'
theorem Z8 (k:Nat) (h:qy B v s ov w) (hv:v.size≤1048576) (hf:s.from_≤k) (hk:k≤v.size) (hl:s.out.length≤1048576) :
 Calls Tryz.prog 117 #[.int .i64 (k:Int),.pointer (some ⟨B,0,none⟩),.pointer (some ⟨B+2,0,none⟩),.pointer (some ⟨B+1,0,none⟩)] w (PutEl w B v (s.put v.data.toList k)):=by
 have H:=af h
 have hsz:=h.sz
 have c0:w.cell? ⟨B,0,none⟩=some (.string v):=by unfold World.cell?;rw[h.cv];rfl
 have c2:w.cell? ⟨B+2,0,none⟩=some (.int .i64 (s.from_:Int)):=by unfold World.cell?;rw[h.cf];rfl
 obtain⟨a,cap,lD⟩:∃a cap,ov = .slice a s.out.length cap:=by
  rcases h.row.2 with ⟨e1,e2⟩ | ⟨g,cap,cur,e1,_⟩
  ·exact⟨none,0,by rw[e1,e2]⟩
  ·exact⟨_,_,e1⟩
 obtain⟨R,hR⟩:∃R,s.put v.data.toList k=R:=⟨_,rfl⟩
 rw[hR]
 have hex:=Ii v s.from_ k
 obtain⟨T,hT⟩:∃T,jl ((v.data.toList.take k).drop s.from_)=T:=⟨_,rfl⟩
 have HTR:Hid (∀w,Calls Tryz.prog 118 #[.string (v.extract s.from_ k)] w fun e w'=>e = .returned (.string (aJ T))∧Below w.heap.size w w'):=af (fun w=>by
  have h1:=abh (v.extract s.from_ k) w (by rw[hex,pz];simp;omega)
  rw[hex,l9,hT] at h1
  rw[hex]
  exact h1)
 unfold gX.put at hR
 rw[hT] at hR
 have HR:=af hR
 have HOV:=af lD
 obtain⟨L,hL⟩:∃L,s.out.length=L:=⟨_,rfl⟩
 have HL:=af hL
 obtain⟨F,hF⟩:∃F,s.from_=F:=⟨_,rfl⟩
 have HF:=af hF
 rw[hF] at HTR c2 hf
 clear h hex hT hR lD hL hF
 go_enter Tryz.func117,Tryz.ntmps117
 go_wp2_with fail
 refine (HTR.out _).mono ?_
 rintro e w2 ⟨rfl,hb2⟩
 have H2:=af (H.out.below hb2)
 have aI:Hid (Below B w w2):=af (hb2.mono (by omega))
 have PY:=H2.out.sz
 have co:w2.cell? ⟨B+1,0,none⟩=some ov:=by unfold World.cell?;rw[H2.out.co];rfl
 clear c0 c2 hb2 H
 by_cases hT:T=[]
 ·subst hT
  have e0:((aJ []).toList == [])=true:=by decide +kernel
  have HE:=af (H2.out.next (k+1))
  have c2:w2.cell? ⟨B+2,0,none⟩=some (.int .i64 (F:Int)):=by unfold World.cell?;rw[H2.out.cf,HF.out];rfl
  have hfz:w2.frozen? ⟨B+2,0,none⟩=false:=by unfold World.frozen?;rw[H2.out.cf];rfl
  clear co
  go_wp2_with fail
  go_end0
  refine⟨rfl,⟨ov,?_⟩,aI.out.setCell (by show B≤B+2;omega) _⟩
  rw[←HR.out]
  simp only[if_true]
  exact HE.out
 ·obtain⟨e1,-,-⟩:=wU (s:=aJ T) (by rw[l9];exact hT)
  go_wp2_with (at_builtin;refine dI ?_)
  unfold Stop
  refine dQ (.tmp 13) (.tmp 15) Db rfl rfl (d_ H2.out.row ((Kept.refl (fun _=>False) w2).alloc _) (fun _ _ h=>h)) rfl (Rd.one _ _ _) rfl (by simp[Value.oneCell']) (bn (by omega)) (by omega) (by simp;omega) ?_
  intro v3 w3 hown hg3 _
  obtain⟨h3,hb3,h3o⟩:=H2.out.app hown hg3
  have H3:=af h3
  have aM:=af (aI.out.trans hb3)
  obtain⟨A3,c3,hv3,-,-,-,-⟩:=aC hown
  subst hv3
  have hfo:w3.frozen? ⟨B+1,0,none⟩=false:=by unfold World.frozen?;rw[h3o];rfl
  have hco:w3.cell? ⟨B+1,0,none⟩=some ov:=by unfold World.cell?;rw[h3o];rfl
  clear hown hg3 h3 hb3 h3o co
  have c2:w3.cell? ⟨B+2,0,none⟩=some (.int .i64 (F:Int)):=by
   have:=H3.out.cf
   rw[Below.heap_setCell _ _ _ _ (by show B+2≠B+1;omega)] at this
   unfold World.cell?;rw[this];dsimp only;rw[HF.out];rfl
  have hfz:w3.frozen? ⟨B+2,0,none⟩=false:=by
   have:=H3.out.cf
   rw[Below.heap_setCell _ _ _ _ (by show B+2≠B+1;omega)] at this
   unfold World.frozen?;rw[this];rfl
  have HE:=af (H3.out.next (k+1))
  go_wp2_with fail
  go_end0
  refine⟨rfl,⟨.slice A3 (s.out.length+1) c3,?_⟩,?_⟩
  ·rw[←HR.out,aj hT]
   exact HE.out
  ·exact aM.out.setCell (p:=⟨B+2,0,none⟩) (by show B≤B+2;omega) _
end
section
open Go.RowKit Go.Maps
theorem OC (v:List UInt8):∀k,(gX.run v k).from_≤k∧(gX.run v k).out.length≤k
 | 0=>⟨ah _,ah _⟩
 | k+1=>by
  obtain⟨h1,h2⟩:=OC v k
  rw[gX.run]
  unfold gX.step
  split
  ·exact⟨by dsimp only;omega,by dsimp only;omega⟩
  ·split
   ·exact⟨by dsimp only;omega,by dsimp only;omega⟩
   ·split
    ·exact⟨by dsimp only;omega,by dsimp only;omega⟩
    ·split
     ·unfold gX.put
      refine⟨ah _,?_⟩
      dsimp only
      split
      ·omega
      ·simp;omega
     ·exact⟨by omega,by omega⟩
theorem adU (v:List UInt8):(elems v).length≤v.length+1:=by
 unfold elems gX.put
 have:=(OC v v.length).2
 dsimp only
 split
 ·omega
 ·simp;omega
theorem qy.flags {B:Nat}{v:ByteArray}{s s':gX}{ov:Value}{w:World}(h:qy B v s ov w) (h1:s'.from_=s.from_) (h2:s'.out=s.out):qy B v s' ov w:=⟨h.sz,h.cv,h.co,by rw[h1];exact h.cf,by rw[h2];exact h.row⟩
def Nn (w:World) (v:ByteArray) (n:Nat) (qv tv iv:Value) (wr:World):Prop:=
 ∃k ov,iv = .int .i64 (k:Nat)∧k≤n∧qv = .bool (gX.run v.data.toList k).q∧tv = .bool (gX.run v.data.toList k).t∧qy w.heap.size v (gX.run v.data.toList k) ov wr∧Below w.heap.size w wr
theorem adS (v:ByteArray) (w:World) :
 qy w.heap.size v (gX.run v.data.toList 0) (.slice none 0 0) (((w.alloc (.cells #[.string v] 9)).alloc (.cells #[.slice none 0 0] 80)).alloc (.cells #[.int .i64 0] 3)) ∧
 Below w.heap.size w (((w.alloc (.cells #[.string v] 9)).alloc (.cells #[.slice none 0 0] 80)).alloc (.cells #[.int .i64 0] 3)):=by
 refine⟨⟨?_,?_,?_,?_,World.ownsRow_nil _ _ _ _⟩,(((Below.refl _ _).alloc (ah _) _).alloc (by simp) _).alloc (by simp;omega) _⟩
 ·simp
 ·unfold World.alloc
  simp only[Array.getElem?_push,Array.size_push]
  repeat (first | rw[ax (by omega)] | rw[aj (by omega)] | rw[ax trivial])
 ·unfold World.alloc
  simp only[Array.getElem?_push,Array.size_push]
  repeat (first | rw[ax (by omega)] | rw[aj (by omega)] | rw[ax trivial])
 ·unfold World.alloc
  simp only[Array.getElem?_push,Array.size_push]
  repeat (first | rw[ax (by omega)] | rw[aj (by omega)] | rw[ax trivial])
  rfl
theorem adT (v:ByteArray) (w:World) (hv:v.size≤1048575):Calls Tryz.prog 77 #[.string v] w (Dx w (elems v.data.toList)):=by
 have aQ:=lX v
 have hlen:=gJ v
 obtain⟨n,hn⟩:∃n,v.size=n:=⟨_,rfl⟩
 have HL:=af hlen
 have HN:=af hn
 have H0:=af (adS v w)
 have hmf:∀fn first cap w,(Instr.makeFunc fn first cap).run Tryz.prog w = .ok (.func fn first cap) w:=fun _ _ _ _=>rfl
 clear hlen hn
 go_enter Tryz.func77,Tryz.ntmps77
 go_wp2_with fail
 generalize (((w.alloc (.cells #[.string v] 9)).alloc (.cells #[.slice none 0 0] 80)).alloc (.cells #[.int .i64 0] 3))=W0 at *
 go_loopw [5,6,13] (fun qv tv iv wr=>Nn w v n qv tv iv wr) (fun _ _ iv _=>n-(intOf iv).toNat)
 case atStart=>exact⟨0,_,rfl,aL _,rfl,rfl,H0.out.1,H0.out.2⟩
 case round=>
  obtain⟨k,ov,rfl,hk,rfl,rfl,hel,hb⟩:=hrel
  have hinv:=OC v.data.toList k
  obtain⟨S,hS⟩:∃S,gX.run v.data.toList k=S:=⟨_,rfl⟩
  have hstep:gX.run v.data.toList (k+1)=S.step v.data.toList k:=by rw[gX.run,hS]
  rw[hS] at hel hinv ⊢
  have HEL:=af hel
  have HB:=af hb
  have HST:=af hstep
  have dZ:=hel.sz
  obtain⟨hi1,hi2⟩:=hinv
  have hc0:wr.cell? ⟨w.heap.size,0,none⟩=some (.string v):=by unfold World.cell?;rw[hel.cv];rfl
  have HS:=af hS
  clear hel hb hstep hS
  obtain⟨F,Q,T,out⟩:=S
  dsimp only at hi1 hi2 ⊢
  by_cases hlt:k<n
  ·have k1:(k:Int)<n:=by omega
   have hks:k<v.size:=by have:=HN.out;omega
   have h_:=aQ k hks
   have ym:Hid (∀S',gX.run v.data.toList (k+1)=S'→S'.from_=F→S'.out=out→Nn w v n (.bool S'.q) (.bool S'.t) (.int .i64 (k+1:Nat)) wr):=af (fun S' h h1 h2=>by
    subst h
    exact⟨k+1,ov,rfl,hlt,rfl,rfl,HEL.out.flags h1 h2,HB.out⟩)
   clear aQ
   cases T with
   | true=>
    have nu:=af (ym.out { from_:=F,q:=Q,t:=false,out:=out } (by rw[HST.out];rfl) rfl rfl)
    clear ym
    go_wp2_with fail
    go_roundw
    case rel=>exact nu.out
    case measure=>simp[intOf];omega
   | false=>
    by_cases DT:Q=true∧ba v.data.toList k=92
    ·obtain⟨rfl,DT⟩:=DT
     have nu:=af (ym.out { from_:=F,q:=true,t:=true,out:=out } (by rw[HST.out];unfold gX.step;simp[DT]) rfl rfl)
     have e92:(((ba v.data.toList k:Nat):Int)==92)=true:=by rw[DT];rfl
     clear ym
     go_wp2_with fail
     go_roundw
     case rel=>exact nu.out
     case measure=>simp[intOf];omega
    ·by_cases h34:ba v.data.toList k=34
     ·have nu:=af (ym.out { from_:=F,q:=!Q,t:=false,out:=out } (by rw[HST.out];unfold gX.step;simp[h34]) rfl rfl)
      have e34:(((ba v.data.toList k:Nat):Int)==34)=true:=by rw[h34];rfl
      have e92:(((ba v.data.toList k:Nat):Int)==92)=false:=by rw[h34];rfl
      clear ym DT
      cases Q
      all_goals
       go_wp2_with fail
       go_roundw
       case rel=>exact nu.out
       case measure=>simp[intOf];omega
     ·have e34:(((ba v.data.toList k:Nat):Int)==34)=false:=by simp;omega
      cases Q with
      | true=>
       have h92':¬ba v.data.toList k=92:=fun e=>DT ⟨rfl,e⟩
       have e92:(((ba v.data.toList k:Nat):Int)==92)=false:=by simp;omega
       have nu:=af (ym.out { from_:=F,q:=true,t:=false,out:=out } (by rw[HST.out];unfold gX.step;simp[h34,h92']) rfl rfl)
       clear ym DT
       by_cases h44:ba v.data.toList k=44
       ·have e44:(((ba v.data.toList k:Nat):Int)==44)=true:=by rw[h44];rfl
        go_wp2_with fail
        go_roundw
        case rel=>exact nu.out
        case measure=>simp[intOf];omega
       ·have e44:(((ba v.data.toList k:Nat):Int)==44)=false:=by simp;omega
        go_wp2_with fail
        go_roundw
        case rel=>exact nu.out
        case measure=>simp[intOf];omega
      | false=>
       clear DT
       by_cases h44:ba v.data.toList k=44
       ·have e44:(((ba v.data.toList k:Nat):Int)==44)=true:=by rw[h44];rfl
        have H6:=af (Z8 (s:={ from_:=F,q:=false,t:=false,out:=out }) k HEL.out (by omega) hi1 (by omega) (by dsimp only;omega))
        have hs2:gX.run v.data.toList (k+1)=gX.put v.data.toList { from_:=F,q:=false,t:=false,out:=out } k:=by rw[HST.out];unfold gX.step;simp[h44]
        have fZ:=af hs2
        clear ym hs2
        go_wp2_with fail
        refine H6.out.mono ?_
        rintro e w2 ⟨rfl,⟨ov2,Gq⟩,hb2⟩
        have nu:Hid (Nn w v n (.bool false) (.bool false) (.int .i64 (k+1:Nat)) w2):=af (by
         refine⟨k+1,ov2,rfl,hlt,?_,?_,?_,HB.out.trans hb2⟩
         ·rw[fZ.out];rfl
         ·rw[fZ.out];rfl
         ·rw[fZ.out];exact Gq)
        clear Gq hb2 H6
        go_wp2_with fail
        go_roundw
        case rel=>exact nu.out
        case measure=>simp[intOf];omega
       ·have e44:(((ba v.data.toList k:Nat):Int)==44)=false:=by simp;omega
        have nu:=af (ym.out { from_:=F,q:=false,t:=false,out:=out } (by rw[HST.out];unfold gX.step;simp[h34,h44]) rfl rfl)
        clear ym
        go_wp2_with fail
        go_roundw
        case rel=>exact nu.out
        case measure=>simp[intOf];omega
  ·have hkn:k=v.size:=by have:=HN.out;omega
   have hcf:wr.cell? ⟨w.heap.size+1+1,0,none⟩=some (.int .i64 (F:Int)):=by unfold World.cell?;rw[show w.heap.size+1+1=w.heap.size+2 from rfl,HEL.out.cf];rfl
   have hle:((F:Int)≤(v.size:Int)):=by omega
   have H6:=af (Z8 (s:={ from_:=F,q:=Q,t:=T,out:=out }) v.size HEL.out (by omega) (by dsimp only;omega) (ah _) (by dsimp only;omega))
   have HEQ:Hid ((gX.put v.data.toList { from_:=F,q:=Q,t:=T,out:=out } v.size).out=elems v.data.toList):=af (by
    unfold elems
    rw[HL.out,←hkn,HS.out])
   obtain⟨P,hP⟩:∃P,gX.put v.data.toList { from_:=F,q:=Q,t:=T,out:=out } v.size=P:=⟨_,rfl⟩
   rw[hP] at H6 HEQ
   clear aQ hP
   subst hkn
   go_wp2_with fail
   refine H6.out.mono ?_
   rintro e w2 ⟨rfl,⟨ov2,Gq⟩,hb2⟩
   have HE:Hid (Dx w (elems v.data.toList) (.returned ov2) w2):=af (by
    refine⟨_,rfl,?_,HB.out.trans hb2⟩
    rw[←HEQ.out]
    exact pG Gq.row (by omega))
   have hco:w2.cell? ⟨w.heap.size+1,0,none⟩=some ov2:=by unfold World.cell?;rw[Gq.co];rfl
   obtain⟨A2,c2,hv2,-,-,-,-⟩:=aC Gq.row
   rw[hv2] at hco HE
   clear Gq hb2 hv2 H6 hc0
   go_wp2_with fail
   go_ret
   exact HE.out
end
section
open Go.RowKit Go.Maps
def qM (vs:List ByteArray):List ByteArray:=vs.flatMap fun v=>elems v.data.toList
theorem ace {vs:List ByteArray}{k:Nat}{v:ByteArray}(h:vs[k]?=some v):qM (vs.take (k+1))=qM (vs.take k)++elems v.data.toList:=by
 unfold qM
 rw[iw,h,iL,List.flatMap_append]
 simp
theorem acd (vs:List ByteArray) (k:Nat):(qM (vs.take k)).length≤(qM vs).length:=by
 have h:qM vs=qM (vs.take k)++qM (vs.drop k):=by
  unfold qM
  rw[←List.flatMap_append,vV]
 rw[h,aN]
 omega
def We (_w w1:World) (vs:List ByteArray) (n:Nat) (ov iv:Value) (wr:World):Prop:=∃k:Nat,iv = .int .i64 k∧k≤n∧wr.ownsRow w1.heap.size 9 1 ov (qM (vs.take k)).length (strs (qM (vs.take k)))∧Below w1.heap.size w1 wr
theorem acf {A:Option Addr}{n c:Nat}{l:List Fd}(name:ByteArray) (w:World) (hr:Rd w w.heap.size 3 A n (fds l)) (hn:n≤1048576) (hz:Tx l) (hnm:name.size≤140737488355328)
 (hv:∀f ∈ l,f.1.2.size≤1048575) (ht:(rU l name).length≤1048576) :
 Calls Tryz.prog 37 #[.slice A n c,.string name] w (Dx w (rU l name)):=by
 have HV:=af (ajs (c:=c) name w hr hn hz hnm)
 have GM:∀s ∈ oG l name,s.size≤1048575:=fun s hs=>by
  obtain⟨f,hf,rfl⟩:=aii hs
  exact hv f hf
 have hvl:=aaw l name
 have bf:l.length=n:=by have:=hr.1;rw[jJ] at this;omega
 have hall:rU l name=qM (oG l name):=rfl
 rw[hall] at ht ⊢
 obtain⟨vs,hvs⟩:∃vs,oG l name=vs:=⟨_,rfl⟩
 rw[hvs] at HV GM hvl ht ⊢
 have HM:=af GM
 have HT:=af ht
 clear hr hz hv GM hvs hall ht
 go_enter Tryz.func37,Tryz.ntmps37
 go_wp2_with fail
 refine HV.out.mono ?_
 rintro e w1 ⟨vv,rfl,hown1,hb1⟩
 obtain⟨A1,c1,rfl,-,-,J_,-⟩:=aC hown1
 have HR:=af J_
 have bH:=af hb1
 obtain⟨m,hm⟩:∃m,vs.length=m:=⟨_,rfl⟩
 have HML:=af hm
 rw[hm] at hvl HR ⊢
 clear HV hown1 J_ hb1 hm
 go_wp2_with fail
 go_loopw [5,12] (fun ov iv wr=>We w w1 vs m ov iv wr) (fun _ iv _=>m-(intOf iv).toNat)
 case atStart=>exact⟨0,rfl,aL _,World.ownsRow_nil _ _ _ _,Below.refl _ _⟩
 case round=>
  obtain⟨k,rfl,hk,hown,hb⟩:=hrel
  have HO:=af (And.intro hown hb)
  have dZ:=hb.size
  clear hown hb
  by_cases hlt:k<m
  ·obtain⟨hl,b,o,rfl,hbl,hc⟩:=BF (HR.out.below HO.out.2 (ah _)) (by omega)
   obtain⟨s,hs⟩:∃s,vs[k]?=some s:=⟨_,a_ (by omega)⟩
   have z0:=hc k s hs
   have n1:(k:Int)<m:=by omega
   have hsz:=HM.out s (fq hs)
   have HE:=af (adT s wr hsz)
   have HS:=af (ace hs)
   have hel:=adU s.data.toList
   have hle:(qM (vs.take (k+1))).length≤1048576:=gM (acd vs (k+1)) HT.out
   rw[HS.out,aN] at hle
   clear hc hs
   go_wp2_with fail
   refine HE.out.mono ?_
   rintro e w2 ⟨ev,rfl,hown2,hb2⟩
   obtain⟨A2,c2,rfl,-,-,CP,-⟩:=aC hown2
   go_wp2_with (at_builtin;refine dI ?_)
   unfold Stop
   have eB:=d_ HO.out.1 (Kept.jk (F:=fun _=>False) hb2) (fun _ _ h=>h)
   refine dQ (.tmp 16) (.tmp 18) Db rfl rfl eB rfl CP rfl (by simp[strs,Value.oneCell']) (bn (by omega)) (by omega) (by have:=hb2.size;omega) ?_
   intro v6 w6 dK gu _
   obtain⟨A6,c6,kN,-,-,-,-⟩:=aC dK
   have HN:Hid (We w w1 vs m v6 (.int .i64 (k+1:Nat)) w6):=af (by
    refine⟨k+1,rfl,hlt,?_,Below.app (HO.out.2.trans (hb2.mono dZ)) eB gu (ah _) (by have:=hb2.size;omega)⟩
    rw[HS.out,aN,show strs (qM (vs.take k)++elems s.data.toList)=strs (qM (vs.take k))++strs (elems s.data.toList) by simp[strs]]
    exact dK)
   rw[kN] at HN ⊢
   clear dK gu kN eB hown2 CP hb2 hle hel
   go_wp2
   go_roundw
   case rel=>exact HN.out
   case measure=>simp[intOf];omega
  ·have hkn:k=m:=by omega
   have HE:Hid (Dx w (qM vs) (.returned u5) wr):=af (by
    have h1:=HO.out.1
    rw[cB (by have:=HML.out;omega)] at h1
    exact⟨_,rfl,pG h1 bH.out.size,bH.out.trans (HO.out.2.mono bH.out.size)⟩)
   subst hkn
   go_wp2
   go_ret
   exact HE.out
theorem acj {α:Type}{f : α→Bool}{l:List α}{k:Nat}{x : α}(h:l[k]?=some x) (h0:(l.take k).any f=false) (hx:f x=false):(l.take (k+1)).any f=false:=by
 rw[iw,h,iL,List.any_append,h0]
 simp[hx]
end
section
open Go.RowKit Go.Maps
section
variable {κ ε:Type} {M:MK κ ε}
theorem bq.wM {w:World}{mb N n:Nat}{f : κ→Option ε}(ok:pV M) (h:bq M w mb N f n){i : κ}(hi:M.rA i):(Instr.lookup M.t (.map (some mb)) (M.kv i) false).run Tryz.prog w = .ok (M.ev ((f i).getD M.z)) w:=by
 obtain⟨D,h1,h2,h3,h4⟩:=h
 obtain⟨v,ps,hrun,hR⟩:=h1.lookup ok.keyed ok.ht (ok.zero _) (zd:=.lit (M.el M.z)) (zp:=[]) (ok.NZ _) (ok.key i hi)
 rw[hrun]
 cases hf:f i with
 | some b=>
  rw[h3 i b hi hf] at hR
  rw[ok.Lr hR];rfl
 | none=>
  rw[atKey_of_not_has (by rw[h2 i hi,hf];rfl)] at hR
  rw[ok.Lr hR];rfl
end
theorem L6 {names:List ByteArray}{P:ByteArray→Prop}{Q:Fd→Prop}:∀(l:List Fd) (G:Gt),(∀f ∈ l,P f.1.2∧Q f)→(∀j v,G.1 j=some v→P v)→(∀f ∈ G.2,Q f) →
 (∀j v,(bG names G l).1.1 j=some v→P v)∧(∀f ∈ (bG names G l).1.2,Q f)
 | [],G,_,h1,h2=>⟨h1,h2⟩
 | f :: r,G,h,h1,h2=>by
  have hp:=h f (iK ..)
  have ha:(∀j v,(gN names G f).1.1 j=some v→P v)∧(∀g ∈ (gN names G f).1.2,Q g):=by
   unfold gN
   split
   ·split
    ·exact⟨h1,h2⟩
    ·refine⟨fun j v hj=>?_,h2⟩
     dsimp only at hj
     split at hj
     ·injection hj with hj;rw[←hj];exact hp.1
     ·exact h1 j v hj
   ·split
    ·refine⟨h1,fun g hg=>?_⟩
     rcases List.mem_append.1 hg with hg | hg
     ·exact h2 g hg
     ·rw[List.mem_singleton.1 hg];exact hp.2
    ·exact⟨h1,h2⟩
  rw[bG]
  split
  ·exact L6 r _ (fun g hg=>h g (fH _ hg)) ha.1 ha.2
  ·exact ha
theorem Yo {names:List ByteArray}:∀(l:List Fd) (G:Gt),(bG names G l).1.2.length≤G.2.length+l.length
 | [],G=>by simp[bG]
 | f :: r,G=>by
  rw[bG]
  have:=Xg (names:=names) (G:=G) (f:=f)
  split
  ·have:=Yo (names:=names) r (gN names G f).1
   simp only[fe];omega
  ·simp only[fe];omega
theorem xW {w w':World}(h:Below w.heap.size w w'):bQ w [] (.slice none 0 0) w':=⟨World.ownsRow_nil _ _ _ _,h⟩
end
section
open Go.RowKit Go.Maps
theorem Zl (s:ByteArray) (w:World) (hs:s.size≤140737488355328):Calls Tryz.prog 36 #[.string s] w fun e w'=>e = .returned (.string (aJ (aO s.data.toList)))∧Below w.heap.size w w':=IM s w hs
theorem aiG {b mb N k:Nat}{f:ByteArray→Option Int}(fd:Fd) (w:World) (hb:w.cell? ⟨b,0,none⟩=some (.map (some mb))) (hm:bq Ko w mb N f k) (h1:fd.1.1.size≤140737488351232) :
 Calls Tryz.prog 78 #[xB fd,.pointer (some ⟨b,0,none⟩)] w fun e w'=>e = .returned (.bool (!(f (aJ (aO fd.1.1.data.toList))).isSome))∧Below w.heap.size w w':=by
 obtain⟨⟨nm,vl⟩,nv⟩:=fd
 unfold xB
 dsimp only at h1 ⊢
 have hblt:b<w.heap.size:=World.block_lt_of_cell? w ⟨b,0,none⟩ hb
 have hmlt:=hm.lt
 obtain⟨O,hO⟩:∃O,f (aJ (aO nm.data.toList))=O:=⟨_,rfl⟩
 obtain⟨X,hX⟩:∃X:Int,O.getD 0=X:=⟨_,rfl⟩
 obtain⟨Y,hY⟩:∃Y,O.isSome=Y:=⟨_,rfl⟩
 have BP:Hid (∀w2:World,w2.heap[mb]?=(w.alloc (.cells #[.string nm,.string vl,.bool nv] 26)).heap[mb]?→(Instr.lookup 157 (.map (some mb)) (.string (aJ (aO nm.data.toList))) true).run Tryz.prog w2 = .ok (.tuple #[.int .i64 X,.bool Y]) w2):=af (fun w2 h2=>by
  have h3:=(hm.keep (h2.trans (Below.heap_alloc _ _ _ hmlt))).look ZC (i:=aJ (aO nm.data.toList)) (by show (aJ _).size≤maxLen;rw[pz,Bq];unfold maxLen;have:nm.data.toList.length=nm.size:=gJ nm;omega)
  rw[hO] at h3
  rw[←hX,←hY]
  exact h3)
 rw[hO,hY]
 have zM:=af (fun w=>Zl nm w (by omega))
 clear hm hO hX hY
 have xO:(w.alloc (.cells #[.string nm,.string vl,.bool nv] 26)).heap.size=w.heap.size+1:=by simp
 have Bf:=heap_alloc_new w (.cells #[.string nm,.string vl,.bool nv] 26)
 have rZ:(w.alloc (.cells #[.string nm,.string vl,.bool nv] 26)).cell? ⟨b,0,none⟩=some (.map (some mb)):=(World.cell?_alloc_lt _ _ _ hblt).trans hb
 have HW:=af ((Below.refl w.heap.size w).alloc (ah _) (.cells #[.string nm,.string vl,.bool nv] 26))
 go_enter Tryz.func78,Tryz.ntmps78
 go_wp2_with fail
 generalize hq:w.heap.size=q at *
 generalize (w.alloc (.cells #[.string nm,.string vl,.bool nv] 26))=wa at *
 have Eg:wa.cell? ⟨q,0,none⟩=some (.string nm):=by unfold World.cell?;rw[Bf];rfl
 have rO:Hid (wa.drew.cell? ⟨b,0,none⟩=some (.map (some mb))∧wa.drew.cell? ⟨q,0,none⟩=some (.string nm)∧(Instr.lookup 157 (.map (some mb)) (.string (aJ (aO nm.data.toList))) true).run Tryz.prog wa.drew = .ok (.tuple #[.int .i64 X,.bool Y]) wa.drew):=af ⟨rZ,Eg,BP.out _ rfl⟩
 have kE:Hid (b<wa.drew.heap.size∧q<wa.drew.heap.size∧mb<wa.drew.heap.size):=af ⟨by show b<wa.heap.size;omega,by show q<wa.heap.size;omega,by show mb<wa.heap.size;omega⟩
 have HQ:=af hq
 clear hb hblt hmlt Bf rZ Eg hq xO
 --Ia
 refine wp_region_held_drew (S:=fun w'=>w'.cell? ⟨b,0,none⟩=some (.map (some mb))∧w'.cell? ⟨q,0,none⟩=some (.string nm)∧(Instr.lookup 157 (.map (some mb)) (.string (aJ (aO nm.data.toList))) true).run Tryz.prog w' = .ok (.tuple #[.int .i64 X,.bool Y]) w') (by kernel_rfl) (rO.out) (fun hH=>?_)
 refine ag 0 7 hH ?_
 refine ag 1 8 hH ?_
 refine ag 2 9 hH ?_
 refine aR 3 (fun K hK=>?_)
 go_simp
 refine (zM.out _).mono ?_
 rintro e w3 ⟨rfl,hb3⟩
 have aM:=af hb3
 have k0:=(hb3.cell (p:=⟨b,0,none⟩) kE.out.1).trans hH.1
 have k1:=(hb3.cell (p:=⟨q,0,none⟩) kE.out.2.1).trans hH.2.1
 have k2:=BP.out w3 (hb3.block mb kE.out.2.2)
 clear hb3
 refine hK.out _ _ (⟨k0,k1,k2⟩) (fun hH=>?_)
 clear hK K
 try simp only[Act.put,az,ay,aA]
 refine ag 4 11 hH ?_
 refine ag 5 6 hH ?_
 refine ag 6 12 hH ?_
 refine ag 7 13 hH ?_
 refine ag 8 4 hH ?_
 refine ag 9 5 hH ?_
 refine wpAnyH_done (by kernel_rfl) ?_ _
 --END1
 go_wp2
 go_ret
 exact⟨rfl,by rw[HQ.out];exact HW.out.trans (Below.trans (by exact⟨rfl,rfl,rfl,ah _,fun _ _=>rfl⟩) (aM.out.mono (by have:=kE.out.2.1;omega)))⟩
end
section
open Go.RowKit Go.Maps
def Hr (names:List ByteArray) (f:ByteArray→Option Int):Prop:=∀s,(f s).isSome=names.any fun n=>decide (aJ (aO n.data.toList)=s)
theorem aeA:Hr [] (fun _=>none):=fun _=>rfl
theorem aeC {names:List ByteArray}{f f':ByteArray→Option Int}{k:Nat}{s:ByteArray}{x:Int}(h:names[k]?=some s) (hf:Hr (names.take k) f) (hf':∀j,f' j=if j=aJ (aO s.data.toList) then some x else f j):Hr (names.take (k+1)) f':=by
 intro j
 rw[iw,h,iL,List.any_append,←hf j,hf' j]
 by_cases e:j=aJ (aO s.data.toList)
 ·subst e;simp
 ·have e2:¬aJ (aO s.data.toList)=j:=fun h=>e h.symm
  simp[e,e2]
theorem aeB {names:List ByteArray}{f:ByteArray→Option Int}(h:Hr names f) (nm:ByteArray):(!(f (aJ (aO nm.data.toList))).isSome) = !(names.any fun n=>dL n.data.toList nm.data.toList):=by
 rw[h]
 congr 1
 congr 1
 funext n
 unfold dL
 simp only[aJ,XC]
def Wo1 (w:World) (B n:Nat) (names:List ByteArray) (iv:Value) (wr:World):Prop:=
 ∃(k m:Nat) (f:ByteArray→Option Int),iv = .int .i64 (k:Nat)∧k≤n∧bq Ko wr B k f m∧wr.heap[B+1]?=some (.cells #[.map (some B)] 157 (0,0))∧Below B w wr∧Hr (names.take k) f
theorem ajA {l:List Fd}{k:Nat}{f:Fd}(h:l[k]?=some f) (names:List ByteArray):dJ (l.take (k+1)) names=dJ (l.take k) names++(if (!(names.any fun n=>dL n.data.toList f.1.1.data.toList))=true then [f] else []):=by
 rw[iw,h,iL]
 unfold dJ
 rw[List.filter_append]
 congr 1
 by_cases hn:(!(names.any fun n=>dL n.data.toList f.1.1.data.toList))=true <;> simp[hn]
theorem ER (l:List Fd) (names:List ByteArray):(dJ l names).length≤l.length:=by
 unfold dJ
 exact List.length_filter_le _ _
def Wo2 (w1:World) (n:Nat) (l:List Fd) (names:List ByteArray) (ov iv:Value) (wr:World):Prop:=∃k:Nat,iv = .int .i64 k∧k≤n∧bQ w1 (dJ (l.take k) names) ov wr
theorem abv {A A1:Option Addr}{n c n1 c1:Nat}{l:List Fd}{names:List ByteArray}(w:World) (hl:Rd w w.heap.size 3 A n (fds l)) (hn:n≤1048576) (hz:Tx l)
 (hr:Rd w w.heap.size 1 A1 n1 (strs names)) (xL:n1≤2097152) (hs:∀s ∈ names,s.size≤140737488351232) :
 Calls Tryz.prog 38 #[.slice A n c,.slice A1 n1 c1] w (fun e w'=>∃v,e = .returned v∧bQ w (dJ l names) v w'):=by
 have HL:=af hl
 have HR:=af hr
 have HZ:=af hz
 have HS:=af hs
 clear hl hr hz hs
 have fA:=@run_makeMap Tryz.prog
 have hmf:∀fn first cap w,(Instr.makeFunc fn first cap).run Tryz.prog w = .ok (.func fn first cap) w:=fun _ _ _ _=>rfl
 obtain⟨B,hB⟩:∃B,w.heap.size=B:=⟨_,rfl⟩
 have dW:=af hB
 have H0:Hid (bq Ko ((w.alloc (.map #[] 0)).alloc (.cells #[.map (some B)] 157)) B 0 (fun _=>none) 0∧((w.alloc (.map #[] 0)).alloc (.cells #[.map (some B)] 157)).heap[B+1]?=some (.cells #[.map (some B)] 157 (0,0))∧Below B w ((w.alloc (.map #[] 0)).alloc (.cells #[.map (some B)] 157))):=af (by
  have h0:=L9 Ko w
  have hs:(w.alloc (.map #[] 0)).heap.size=B+1:=by simp[hB]
  rw[hB] at h0
  refine⟨h0.keep (Below.heap_alloc _ _ _ (by omega)),?_,?_⟩
  ·rw[←hs];exact heap_alloc_new _ _
  ·rw[←hB]
   exact ((Below.refl _ _).alloc (ah _) _).alloc (by simp) _)
 go_enter Tryz.func38,Tryz.ntmps38
 go_wp2_with fail
 generalize ((w.alloc (.map #[] 0)).alloc (.cells #[.map (some B)] 157))=W0 at *
 go_loopw [15] (fun iv wr=>Wo1 w B n1 names iv wr) (fun iv _=>n1-(intOf iv).toNat)
 case atStart=>exact⟨0,0,_,rfl,aL _,H0.out.1,H0.out.2.1,H0.out.2.2,by rw[List.take_zero];exact aeA⟩
 case round=>
  obtain⟨k,m,f,rfl,hk,hmap,OY,hb,YN⟩:=hrel
  have HO:=af (And.intro hmap (And.intro OY (And.intro hb YN)))
  have wC:B+1<wr.heap.size:=(Array.getElem?_eq_some_iff.1 OY).1
  have dZ:=hb.size
  clear hmap OY hb YN
  by_cases hlt:k<n1
  ·obtain⟨bf,b,o,rfl,hbl,hc⟩:=BF (HR.out.below (by rw[hB];exact HO.out.2.2.1) (ah _)) (by omega)
   obtain⟨s,hs⟩:∃s,names[k]?=some s:=⟨_,a_ (by omega)⟩
   have z0:=hc k s hs
   have n0:(k:Int)<n1:=by omega
   have HK:=af hs
   have hsz:=HS.out s (fq hs)
   have zM:=af (fun w=>Zl s w (by omega))
   have rO:Hid (wr.drew.cell? ⟨B+1,0,none⟩=some (.map (some B))):=af (by show wr.cell? _=_;unfold World.cell?;rw[HO.out.2.1];rfl)
   have kE:Hid (B+1<wr.drew.heap.size):=af wC
   clear hc hs bf
   go_wp2_with fail
   --Ia
   refine wp_region_held_drew (S:=fun w'=>w'.cell? ⟨B+1,0,none⟩=some (.map (some B))) (by kernel_rfl) (rO.out) (fun hH=>?_)
   refine wpAnyH_take (i:=0) (oi:=⟨some 20,_,_,_,_,_⟩) (v:=?_) rfl (by kernel_rfl) (by kernel_rfl) (by kernel_rfl) (fun _ _ _ h=>h) (Or.inl ⟨by kernel_rfl,?_⟩) hH ?_
   rotate_left
   ·intro w hSw
    have h0:=hSw
    go_simp
    all_goals with_reducible rfl
   try simp only[Act.put,az,ay,aA]
   refine wpAnyH_take (i:=1) (oi:=⟨some 21,_,_,_,_,_⟩) (v:=?_) rfl (by kernel_rfl) (by kernel_rfl) (by kernel_rfl) (fun _ _ _ h=>h) (Or.inl ⟨by kernel_rfl,?_⟩) hH ?_
   rotate_left
   ·intro w hSw
    have h0:=hSw
    go_simp
    all_goals with_reducible rfl
   try simp only[Act.put,az,ay,aA]
   refine wpAnyH_take (i:=3) (oi:=⟨some 23,_,_,_,_,_⟩) (v:=?_) rfl (by kernel_rfl) (by kernel_rfl) (by kernel_rfl) (fun _ _ _ h=>h) (Or.inl ⟨by kernel_rfl,?_⟩) hH ?_
   rotate_left
   ·intro w hSw
    have h0:=hSw
    go_simp
    all_goals with_reducible rfl
   try simp only[Act.put,az,ay,aA]
   refine aR 2 (fun K hK=>?_)
   go_simp
   refine (zM.out _).mono ?_
   rintro e w3 ⟨rfl,hb3⟩
   have aM:=af hb3
   have k0:=(hb3.cell (p:=⟨B+1,0,none⟩) kE.out).trans hH
   clear hb3
   refine hK.out _ _ (k0) (fun hH=>?_)
   clear hK K
   try simp only[Act.put,az,ay,aA]
   refine aR 4 (fun K hK=>?_)
   go_simp
   obtain⟨w4,hput,hmp,hgr⟩:=bq.put ZC (HO.out.1.keep (w':=w3) (aM.out.block B (Nat.lt_trans (rQ _) kE.out))) (i:=aJ (aO s.data.toList)) (by show (aJ _).size≤maxLen;rw[pz,Bq];unfold maxLen;have:s.data.toList.length=s.size:=gJ s;omega) (by unfold maxLen;omega) (k:Int)
   have YZ:(Instr.mapUpdate 157 (.map (some B)) (.string (aJ (aO s.data.toList))) (.int .i64 (k:Int))).run Tryz.prog w3 = .ok () w4:=hput
   have HP:=af (And.intro hmp hgr)
   have k1:=(hgr.cell (a:=⟨B+1,0,none⟩) (hH) (by show some (B+1)≠some B;simp))
   clear hput hmp hgr
   go_simp
   refine hK.out _ _ (k1) (fun hH=>?_)
   clear hK K
   try simp only[Act.put,az,ay,aA]
   refine wpAnyH_done (by kernel_rfl) ?_ _
   --END1
   have HN:Hid (Wo1 w B n1 names (.int .i64 (k+1:Nat)) w4):=af (by
    have hd:Below B w wr.drew:=HO.out.2.2.1.trans (by exact⟨rfl,rfl,rfl,ah _,fun _ _=>rfl⟩)
    refine⟨k+1,_,_,rfl,hlt,HP.out.1,?_,?_,?_⟩
    ·exact (HP.out.2.block (B+1) (fI kE.out aM.out.size) (by simp)).trans ((aM.out.block (B+1) kE.out).trans HO.out.2.1)
    ·exact (hd.trans (aM.out.mono (mg (Nat.lt_trans (rQ _) kE.out)))).grown HP.out.2 (gM (mg (Nat.lt_trans (rQ _) kE.out)) aM.out.size) (fun j hj=>by injection hj with hj;omega)
    ·exact aeC (x:=(k:Int)) HK.out HO.out.2.2.2 (fun j=>by by_cases h:j=aJ (aO s.data.toList) <;> simp[h]))
   clear HP YZ HO HK
   go_wp2_with fail
   go_roundw
   case rel=>exact HN.out
   case measure=>simp[intOf];omega
  ·have hkn:k=n1:=by omega
   have hll1:names.length=n1:=by have:=HR.out.1;rw[KL] at this;omega
   have HG:Hid (Hr names f):=af (by
    have:=HO.out.2.2.2
    rwa [cB (by omega)] at this)
   have qF:=af (And.intro HO.out.1 (And.intro HO.out.2.1 HO.out.2.2.1))
   clear HO hll1 H0
   generalize wr=wx at *
   subst hkn
   have HGS:=af (fun (fd:Fd) (w2:World) (h2:Below wx.heap.size wx w2) (h1:fd.1.1.size≤140737488351232)=>aiG (b:=B+1) fd w2 (by have h3:=(h2.block (B+1) wC).trans qF.out.2.1;unfold World.cell?;rw[h3];rfl) (qF.out.1.below h2 (by omega)) h1)
   go_wp2_with fail
   go_loopw [9,28] (fun ov iv w2=>Wo2 wx n l names ov iv w2) (fun _ iv _=>n-(intOf iv).toNat)
   case atStart=>exact⟨0,rfl,aL _,World.ownsRow_nil _ _ _ _,Below.refl _ _⟩
   case round=>
    obtain⟨k2,rfl,hk2,hown⟩:=hrel
    have HO:=af hown
    have hsr2:=hown.2.size
    clear hown
    by_cases CB:k2<n
    ·obtain⟨bf,b,o,rfl,hbl,hc⟩:=mE ((HL.out.below (by rw[hB];exact qF.out.2.2) (ah _)).below (HO.out.2.mono dZ) (ah _)) (by omega)
     obtain⟨f2,hf⟩:∃f,l[k2]?=some f:=⟨_,a_ (by omega)⟩
     obtain⟨z0,z1,z2⟩:=hc k2 f2 hf
     have n0:(k2:Int)<n:=by omega
     have aY:b<wr.heap.size:=by omega
     have gL:=af (ajA hf names)
     have hlen:=ER (l.take k2) names
     rw[kS] at hlen
     have HST:=af (HGS.out f2 (wr.alloc (.cells #[.string f2.1.1,.string f2.1.2,.bool f2.2] 26)) (HO.out.2.alloc hsr2 _) (HZ.out f2 (fq hf)).1)
     have HGO:=af (aeB HG.out f2.1.1)
     clear hc hf bf
     obtain⟨⟨nm,vl⟩,nv⟩:=f2
     simp only at z0 z1 z2 gL HST HGO
     unfold xB at HST
     dsimp only at HST
     rw[HGO.out] at HST
     obtain⟨S,hS⟩:∃S,(!(names.any fun n=>dL n.data.toList nm.data.toList))=S:=⟨_,rfl⟩
     rw[hS] at HST gL
     clear hS HGO
     go_wp2_with fail
     refine HST.out.mono ?_
     rintro e w2 ⟨rfl,hb2⟩
     have xO:(wr.alloc (.cells #[.string nm,.string vl,.bool nv] 26)).heap.size=wr.heap.size+1:=by simp
     have hq:=(hb2.block wr.heap.size (by omega)).trans (heap_alloc_new wr _)
     have hb3:Below wr.heap.size wr w2:=((Below.refl _ _).alloc (ah _) _).trans (hb2.mono (by omega))
     have c0:w2.cell? ⟨wr.heap.size,0,none⟩=some (.string nm):=by unfold World.cell?;rw[hq];rfl
     have c1:w2.cell? ⟨wr.heap.size,1,none⟩=some (.string vl):=by unfold World.cell?;rw[hq];rfl
     have c2:w2.cell? ⟨wr.heap.size,2,none⟩=some (.bool nv):=by unfold World.cell?;rw[hq];rfl
     have aM:=af hb3
     have hsz3:=hb3.size
     clear hq hb2 hb3 HST xO
     cases S with
     | true=>
      go_wp2_with (at_builtin;refine dI ?_)
      unfold Stop
      refine dQ (.tmp 35) (.tmp 37) j3 rfl rfl (EE HO.out aM.out _) rfl (Rd.rC _ _ _ _ _) rfl (by simp[Value.oneCell']) (bn (by omega)) (by omega) (by simp;omega) ?_
      intro v5 w5 bZ dR _
      have HN:Hid (Wo2 wx n l names v5 (.int .i64 (k2+1:Nat)) w5):=af (by
       refine⟨k2+1,rfl,CB,?_⟩
       rw[gL.out]
       simp only[if_true]
       exact HO.out.app ((nm,vl),nv) aM.out _ bZ dR)
      obtain⟨A5,c5,fB,-,-,-,-⟩:=aC bZ
      rw[fB] at HN ⊢
      clear bZ dR fB c0 c1 c2
      go_wp2
      go_roundw
      case rel=>exact HN.out
      case measure=>simp[intOf];omega
     | false=>
      have HN:Hid (Wo2 wx n l names u9 (.int .i64 (k2+1:Nat)) w2):=af (by
       refine⟨k2+1,rfl,CB,?_⟩
       rw[gL.out,aj (by simp),kR]
       exact⟨d_ HO.out.1 (Kept.jk (F:=fun _=>False) aM.out) (fun _ _ h=>h),HO.out.2.trans (aM.out.mono hsr2)⟩)
      clear c0 c1 c2
      go_wp2
      go_roundw
      case rel=>exact HN.out
      case measure=>simp[intOf];omega
    ·have hkn2:k2=n:=by omega
     have bf:l.length=n:=by have:=HL.out.1;rw[jJ] at this;omega
     have HE:Hid (bQ w (dJ l names) u9 wr):=af (by
      have h1:=HO.out
      rw[cB (by omega)] at h1
      exact⟨pG h1.1 dZ,(by rw[hB];exact qF.out.2.2.trans (h1.2.mono (by omega)))⟩)
     clear bf
     go_wp2
     go_ret
     exact⟨_,rfl,HE.out⟩
end
section
open Go.RowKit Go.Maps
theorem ZL (w:World):(w.alloc (.cells (strs nine).toArray 9)).ownsRow w.heap.size 9 1 (.slice (some ⟨w.heap.size,0,none⟩) 9 9) 9 (strs nine):=
 ⟨rfl,.inr ⟨_,9,(strs nine).toArray,rfl,ah _,heap_alloc_new _ _,ah _,by unfold maxLen;omega,by simp[strs,nine],by simp[strs,nine]⟩⟩
theorem aiT {A:Option Addr}{n c:Nat}{l:List Fd}(w:World) (hl:Rd w w.heap.size 3 A n (fds l)) (hn:n≤1048576) (hz:Tx l) (hv:∀f ∈ l,f.1.2.size≤1048575) (ht:(rU l lg).length≤1048576) (hes:∀x ∈ rU l lg,x.size≤140737488351232) :
 Calls Tryz.prog 10 #[.slice A n c] w (fun e w'=>∃v,e = .returned v∧bQ w (fG l) v w'):=by
 have hb0:Below w.heap.size w (w.alloc (.cells (strs nine).toArray 9)):=(Below.refl _ _).alloc (ah _) _
 have hs0:(w.alloc (.cells (strs nine).toArray 9)).heap.size=w.heap.size+1:=by simp
 have dM:=af (acf (c:=c) lg (w.alloc (.cells (strs nine).toArray 9)) ((hl.below hb0 (ah _)).more (by omega)) hn hz (by decide +kernel) hv ht)
 have nX:=af (ZL w)
 have HL:=af hl
 have dW:=af hb0
 have HZ:=af hz
 have HES:=af hes
 have hst:fG l=dJ l (nine++rU l lg):=rfl
 rw[hst]
 obtain⟨al,hal⟩:∃al,rU l lg=al:=⟨_,rfl⟩
 rw[hal] at dM ht HES ⊢
 clear hl hb0 hz hes hst hal hs0 hv
 go_enter Tryz.func10,Tryz.ntmps10
 go_wp2_with fail
 refine dM.out.mono ?_
 rintro e w1 ⟨av,rfl,hown1,hb1⟩
 obtain⟨A1,c1,rfl,-,-,J_,-⟩:=aC hown1
 have PD:=d_ nX.out (Kept.jk (F:=fun _=>False) hb1) (fun _ _ h=>h)
 go_wp2_with (at_builtin;refine dI ?_)
 unfold Stop
 refine dQ (.tmp 4) (.tmp 6) Db rfl rfl PD rfl J_ rfl (by simp[strs,Value.oneCell']) (bn (by omega)) (by omega) (by have:=hb1.size;have:=dW.out.size;omega) ?_
 intro v5 w5 bZ dR _
 have aT:Below w.heap.size w w5:=Below.app (dW.out.trans (hb1.mono dW.out.size)) PD dR (ah _) (by have:=hb1.size;have:=dW.out.size;omega)
 rw[show strs nine++strs al=strs (nine++al) by simp[strs]] at bZ
 obtain⟨A5,c5,fB,-,-,MB,-⟩:=aC bZ
 have nC:=af (abv (c:=c) (c1:=c5) w5 ((HL.out.below aT (ah _)).more aT.size) hn HZ.out MB (by omega) (fun s hs=>by
  rcases List.mem_append.1 hs with hs | hs
  ·have:∀s ∈ nine,s.size≤140737488351232:=by decide +kernel
   exact this s hs
  ·exact HES.out s hs))
 have eG:=af aT
 subst fB
 clear hown1 hb1 J_ PD bZ dR MB aT dM
 go_wp2_with fail
 refine nC.out.mono ?_
 rintro e w6 ⟨v6,rfl,dK⟩
 have HE:Hid (bQ w (dJ l (nine++al)) v6 w6):=af ⟨pG dK.1 eG.out.size,eG.out.trans (dK.2.mono eG.out.size)⟩
 obtain⟨A6,c6,kN,-,-,-,-⟩:=aC dK.1
 subst kN
 clear dK nC
 go_wp2
 go_ret
 exact⟨_,rfl,HE.out⟩
theorem aju {A:Option Addr}{n c:Nat}{l:List Fd}(who:ByteArray) (w:World) (hl:Rd w w.heap.size 3 A n (fds l)) (hn:n≤1048576) :
 Calls Tryz.prog 9 #[.slice A n c,.string who] w (fun e w'=>∃v,e = .returned v∧bQ w (l++[((rG,who),false)]) v w'):=by
 have bf:l.length=n:=by have:=hl.1;rw[jJ] at this;omega
 have HL:=af hl
 clear hl
 go_enter Tryz.func9,Tryz.ntmps9
 go_wp2_with (at_builtin;refine dI ?_)
 unfold Stop
 refine dQ (.const (.slice none 0 0)) (.tmp 5) j3 rfl rfl (World.ownsRow_nil w w.heap.size 26 3) rfl HL.out rfl (yL _) (bn (by omega)) (by omega) (ah _) ?_
 intro v3 w3 eB hg3 _
 have hb3:Below w.heap.size w w3:=Below.app (Below.refl _ _) (World.ownsRow_nil w w.heap.size 26 3) hg3 (ah _) (ah _)
 rw[mh,jQ] at eB
 have H3:Hid (bQ w l v3 w3):=af ⟨by rw[bf];exact eB,hb3⟩
 obtain⟨A3,c3,hv3,-,-,-,-⟩:=aC eB
 subst hv3
 have hs3:=hb3.size
 clear eB hg3 hb3
 go_wp2_with (at_builtin;refine dI ?_)
 unfold Stop
 refine dQ (.tmp 6) (.tmp 9) j3 rfl rfl (EE H3.out (Below.refl _ _) _) rfl (Rd.rC _ _ _ _ _) rfl (by simp[Value.oneCell']) (bn (by omega)) (by omega) (by simp;omega) ?_
 intro v5 w5 bZ dR _
 have HE:Hid (bQ w (l++[((rG,who),false)]) v5 w5):=af (H3.out.app ((rG,who),false) (Below.refl _ _) _ bZ dR)
 obtain⟨A5,c5,fB,-,-,-,-⟩:=aC bZ
 subst fB
 clear bZ dR
 go_wp2
 go_ret
 have h:=HE.out
 rw[bf] at h
 exact⟨_,rfl,h⟩
end
section
open Go.RowKit Go.Maps
theorem aar (s t:ByteArray) (w:World) (hs:s.size≤140737488351232) (ht:t.size≤140737488351232):Calls Tryz.prog 145 #[.string s,.string t] w fun e w'=>e = .returned (.bool (dL s.data.toList t.data.toList))∧Below w.heap.size w w':=by
 have HA:=af (EG s w hs)
 have HB:=af (fun w=>EG t w ht)
 obtain⟨R,hR⟩:∃R,dL s.data.toList t.data.toList=R:=⟨_,rfl⟩
 have hx:(aJ (aO s.data.toList)=aJ (aO t.data.toList))↔aO s.data.toList=aO t.data.toList:=by
  constructor
  ·intro h;have:=congrArg (fun x:ByteArray=>x.data.toList) h;rwa [l9,l9] at this
  ·intro h;rw[h]
 obtain⟨x,fE⟩:∃x:ByteArray,aJ (aO s.data.toList)=x:=⟨_,rfl⟩
 obtain⟨y,hyy⟩:∃y:ByteArray,aJ (aO t.data.toList)=y:=⟨_,rfl⟩
 rw[hR]
 rw[fE] at HA hx
 rw[hyy] at HB hx
 have HR:Hid ((x.toList==y.toList)=R):=af (by
  rw[←hR];unfold dL
  by_cases h:x=y
  ·rw[bP (hx.1 h),h];simp
  ·rw[bU (fun h2=>h (hx.2 h2))];exact (Lib.bytes_beq_false_iff x y).2 h)
 clear hx fE hyy hR
 go_enter Tryz.func145,Tryz.ntmps145
 go_wp2_with fail
 refine HA.out.mono ?_
 rintro e w1 ⟨rfl,hb1⟩
 have H1:=af hb1
 clear hb1 HA
 go_wp2_with fail
 refine (HB.out w1).mono ?_
 rintro e w2 ⟨rfl,hb2⟩
 have H2:=af (H1.out.trans (hb2.mono H1.out.size))
 clear hb2 HB
 have e1:=HR.out
 go_wp2
 go_ret
 exact⟨by simp,H2.out⟩
def Ag (nm:ByteArray) (names:List ByteArray):Bool:=names.any fun x=>dL nm.data.toList x.data.toList
def Wh (w:World) (nm:ByteArray) (names:List ByteArray) (n:Nat) (iv:Value) (wr:World):Prop:=∃k:Nat,iv = .int .i64 k∧k≤n∧(names.take k).any (fun x=>dL nm.data.toList x.data.toList)=false∧Below w.heap.size w wr
theorem ach {α:Type}{f : α→Bool}{l:List α}{k:Nat}{x : α}(h:l[k]?=some x) (hx:f x=true):l.any f=true:=List.any_eq_true.2 ⟨x,fq h,hx⟩
theorem Xf {A:Option Addr}{n c:Nat}{names:List ByteArray}(nm:ByteArray) (w:World) (hr:Rd w w.heap.size 1 A n (strs names)) (hn:n≤2097152) (hs:∀s ∈ names,s.size≤140737488351232) (hnm:nm.size≤140737488351232) :
 Calls Tryz.prog 112 #[.string nm,.slice A n c] w fun e w'=>e = .returned (.bool (Ag nm names))∧Below w.heap.size w w':=by
 have H1:=af hr
 have HS:=af hs
 have bf:names.length=n:=by have:=hr.1;rw[KL] at this;omega
 have dX:=af bf
 clear hr hs bf
 go_enter Tryz.func112,Tryz.ntmps112
 go_wp2_with fail
 go_loopw [5] (fun iv wr=>Wh w nm names n iv wr) (fun iv _=>n-(intOf iv).toNat)
 case atStart=>exact⟨0,rfl,aL _,rfl,Below.refl _ _⟩
 case round=>
  obtain⟨k,rfl,hk,hno,hb⟩:=hrel
  have HO:=af (And.intro hno hb)
  have dZ:=hb.size
  clear hno hb
  by_cases hlt:k<n
  ·obtain⟨b,o,rfl,hbl,hc⟩:=(H1.out.below HO.out.2 (ah _)).at_ (by omega)
   obtain⟨x,hx⟩:∃x,names[k]?=some x:=⟨_,a_ (by have:=dX.out;omega)⟩
   have z0:=hc k hlt
   rw[aaS hx] at z0
   have n1:(k:Int)<n:=by omega
   have aY:b<wr.heap.size:=by omega
   have HX:=af hx
   have pQ:=af (aar nm x wr hnm (HS.out x (fq hx)))
   obtain⟨S,hS⟩:∃S,dL nm.data.toList x.data.toList=S:=⟨_,rfl⟩
   rw[hS] at pQ
   have xe:=af hS
   clear hc hx hS
   go_wp2_with fail
   refine pQ.out.mono ?_
   rintro e w2 ⟨rfl,hb2⟩
   have aI:=af (HO.out.2.trans (hb2.mono dZ))
   clear hb2 pQ
   cases S with
   | true=>
    go_wp2
    go_ret
    refine⟨?_,aI.out⟩
    unfold Ag
    rw[ach HX.out xe.out]
    rfl
   | false=>
    have HN:Hid (Wh w nm names n (.int .i64 (k+1:Nat)) w2):=af ⟨k+1,rfl,hlt,acj HX.out HO.out.1 xe.out,aI.out⟩
    go_wp2
    go_roundw
    case rel=>exact HN.out
    case measure=>simp[intOf];omega
  ·have hkn:k=n:=by omega
   subst hkn
   have qY:names.take k=names:=cB (by have:=dX.out;omega)
   have hno:=HO.out.1
   rw[qY] at hno
   have HNO:=af hno
   clear hno qY
   go_wp2
   go_ret
   refine⟨?_,HO.out.2⟩
   unfold Ag
   rw[HNO.out]
   rfl
def Ty (l:List Fd) (names:List ByteArray):List Fd:=l.filter fun f=>!(Ag f.1.1 names)
theorem KD (a b:List UInt8):dL a b=dL b a:=by
 unfold dL
 by_cases h:aO a=aO b
 ·rw[bP h,bP h.symm]
 ·rw[bU h,bU (fun e=>h e.symm)]
theorem aav (l:List Fd) (names:List ByteArray):Ty l names=dJ l names:=by
 unfold Ty dJ Ag
 congr 1
 funext f
 congr 2
 funext x
 exact KD _ _
def N_ (w:World) (n:Nat) (l:List Fd) (names:List ByteArray) (ov iv:Value) (wr:World):Prop:=∃k:Nat,iv = .int .i64 k∧k≤n∧bQ w (dJ (l.take k) names) ov wr
theorem aic {l:List Fd}{names:List ByteArray}{k:Nat}{f:Fd}(h:l[k]?=some f):dJ (l.take (k+1)) names=dJ (l.take k) names++(if Ag f.1.1 names=true then [] else [f]):=by
 rw[←aav,←aav]
 unfold Ty
 rw[iw,h,iL,List.filter_append]
 congr 1
 cases hb:Ag f.1.1 names <;> simp[hb]
theorem MS {A A1:Option Addr}{n c n1 c1:Nat}{l:List Fd}{names:List ByteArray}(w:World) (hl:Rd w w.heap.size 3 A n (fds l)) (hn:n≤1048576) (hz:Tx l)
 (hr:Rd w w.heap.size 1 A1 n1 (strs names)) (xL:n1≤2097152) (hs:∀s ∈ names,s.size≤140737488351232) :
 Calls Tryz.prog 71 #[.slice A n c,.slice A1 n1 c1] w (fun e w'=>∃v,e = .returned v∧bQ w (dJ l names) v w'):=by
 have H1:=af hl
 have HZ:=af hz
 have HR:=af (And.intro hr hs)
 have bf:l.length=n:=by have:=hl.1;rw[jJ] at this;omega
 have dX:=af bf
 clear hl hz hr hs bf
 go_enter Tryz.func71,Tryz.ntmps71
 go_wp2_with fail
 go_loopw [5,6] (fun ov iv wr=>N_ w n l names ov iv wr) (fun _ iv _=>n-(intOf iv).toNat)
 case atStart=>exact⟨0,rfl,aL _,xW (Below.refl _ _)⟩
 case round=>
  obtain⟨k,rfl,hk,hown⟩:=hrel
  have HO:=af hown
  have dZ:=hown.2.size
  clear hown
  by_cases hlt:k<n
  ·obtain⟨-,b,o,rfl,hbl,hc⟩:=mE (H1.out.below HO.out.2 (ah _)) (by omega)
   obtain⟨f,hf⟩:∃f,l[k]?=some f:=⟨_,a_ (by have:=dX.out;omega)⟩
   obtain⟨z0,z1,z2⟩:=hc k f hf
   have n1':(k:Int)<n:=by omega
   have aY:b<wr.heap.size:=by omega
   have HS:=af (aic (names:=names) hf)
   have hvl:=ER (l.take k) names
   rw[kS] at hvl
   have BK:=af (Xf (c:=c1) f.1.1 wr ((HR.out.1.below HO.out.2 (ah _)).more dZ) xL HR.out.2 (HZ.out f (fq hf)).1)
   clear hc hf
   obtain⟨⟨nm,vl⟩,nv⟩:=f
   simp only at z0 z1 z2 BK HS
   obtain⟨S,hS⟩:∃S,Ag nm names=S:=⟨_,rfl⟩
   rw[hS] at BK HS
   clear hS
   go_wp2_with fail
   refine BK.out.mono ?_
   rintro e w2 ⟨rfl,hb2⟩
   have hs2:=hb2.size
   have aI:=af hb2
   have gY:Hid (∀ob,(w2.alloc ob).ownsRow w.heap.size 26 3 u5 (dJ (l.take k) names).length (fds (dJ (l.take k) names))):=af (fun ob=>EE HO.out hb2 ob)
   have y0:=(hb2.cell (p:=⟨b,o+k*3,none⟩) aY).trans z0
   have y1:=(hb2.cell (p:=⟨b,o+k*3+1,none⟩) aY).trans z1
   have y2:=(hb2.cell (p:=⟨b,o+k*3+2,none⟩) aY).trans z2
   clear hb2 BK z0 z1 z2
   cases S with
   | false=>
    go_wp2_with (at_builtin;refine dI ?_)
    unfold Stop
    refine dQ (.tmp 21) (.tmp 26) j3 rfl rfl (gY.out _) rfl (Rd.rC _ _ _ _ _) rfl (by simp[Value.oneCell']) (bn (by omega)) (by omega) (by simp;omega) ?_
    intro v5 w5 bZ dR _
    have HE:Hid (N_ w n l names v5 (.int .i64 (k+1:Nat)) w5):=af (by
     refine⟨k+1,rfl,hlt,?_⟩
     rw[HS.out,aj (by simp)]
     exact HO.out.app ((nm,vl),nv) aI.out _ bZ dR)
    obtain⟨A5,c5,fB,-,-,-,-⟩:=aC bZ
    rw[fB] at HE ⊢
    clear bZ dR fB
    go_wp2
    go_roundw
    case rel=>exact HE.out
    case measure=>simp[intOf];omega
   | true=>
    have HE:Hid (N_ w n l names u5 (.int .i64 (k+1:Nat)) w2):=af (by
     refine⟨k+1,rfl,hlt,?_⟩
     rw[HS.out,ax rfl,kR]
     exact⟨d_ HO.out.1 (Kept.jk (F:=fun _=>False) aI.out) (fun _ _ h=>h),HO.out.2.trans (aI.out.mono dZ)⟩)
    go_wp2
    go_roundw
    case rel=>exact HE.out
    case measure=>simp[intOf];omega
  ·have hkn:k=n:=by omega
   have HE:Hid (bQ w (dJ l names) u5 wr):=af (by
    have h1:=HO.out
    rw[cB (by have:=dX.out;omega)] at h1
    exact h1)
   subst hkn
   go_wp2
   go_ret
   exact⟨_,rfl,HE.out⟩
end
section
open Go.RowKit Go.Maps
def WG (w:World) (n:Nat) (ov iv:Value) (wr:World):Prop:=∃k:Nat,iv = .int .i64 k∧k≤n∧ov = .slice none 0 0∧Below w.heap.size w wr
theorem aib {A:Option Addr}{n c:Nat}{l:List Fd}(nm:ByteArray) (w:World) (hr:Rd w w.heap.size 3 A n (fds l)) (hn:n≤1048576) (hz:Tx l) (hnm:nm.size≤140737488351232) (hno:∀f ∈ l,dL f.1.1.data.toList nm.data.toList=false) :
 Calls Tryz.prog 146 #[.slice A n c,.string nm] w fun e w'=>e = .returned (.slice none 0 0)∧Below w.heap.size w w':=by
 have H1:=af hr
 have HZ:=af (And.intro hz hno)
 have bf:l.length=n:=by have:=hr.1;rw[jJ] at this;omega
 have dX:=af bf
 clear hr hz hno bf
 go_enter Tryz.func146,Tryz.ntmps146
 go_wp2_with fail
 go_loopw [5,6] (fun ov iv wr=>WG w n ov iv wr) (fun _ iv _=>n-(intOf iv).toNat)
 case atStart=>exact⟨0,rfl,aL _,rfl,Below.refl _ _⟩
 case round=>
  obtain⟨k,rfl,hk,rfl,hb⟩:=hrel
  have HB:=af hb
  have dZ:=hb.size
  by_cases hlt:k<n
  ·obtain⟨-,b,o,rfl,hbl,hc⟩:=mE (H1.out.below hb (ah _)) (by omega)
   obtain⟨f,hf⟩:∃f,l[k]?=some f:=⟨_,a_ (by have:=dX.out;omega)⟩
   obtain⟨z0,z1,z2⟩:=hc k f hf
   have n1:(k:Int)<n:=by omega
   have hm:=fq hf
   have HS:=af (aar f.1.1 nm wr (HZ.out.1 f hm).1 hnm)
   rw[HZ.out.2 f hm] at HS
   have aY:b<wr.heap.size:=by omega
   clear hc hf hm hb
   obtain⟨⟨fn,fv⟩,fb⟩:=f
   simp only at z0 z1 z2 HS
   go_wp2_with fail
   refine HS.out.mono ?_
   rintro e w2 ⟨rfl,hb2⟩
   have HN:Hid (WG w n (.slice none 0 0) (.int .i64 (k+1:Nat)) w2):=af ⟨k+1,rfl,hlt,rfl,HB.out.trans (hb2.mono dZ)⟩
   clear hb2
   go_wp2
   go_roundw
   case rel=>exact HN.out
   case measure=>simp[intOf];omega
  ·have hkn:k=n:=by omega
   subst hkn
   clear hb
   go_wp2
   go_ret
   exact⟨rfl,HB.out⟩
theorem ahc {A:Option Addr}{n c:Nat}{l:List Fd}(nm:ByteArray) (w:World) (hr:Rd w w.heap.size 3 A n (fds l)) (hn:n≤1048576) (hz:Tx l) (hnm:nm.size≤140737488351232) (hno:∀f ∈ l,dL f.1.1.data.toList nm.data.toList=false) :
 Calls Tryz.prog 114 #[.slice A n c,.string nm] w fun e w'=>e = .returned (.slice none 0 0)∧Below w.heap.size w w':=by
 have HV:=af (aib (c:=c) nm w hr hn hz hnm hno)
 clear hr hz hno
 go_enter Tryz.func114,Tryz.ntmps114
 go_wp2_with fail
 refine HV.out.mono ?_
 rintro e w1 ⟨rfl,hb1⟩
 have HB:=af hb1
 clear hb1 HV
 go_wp2_with fail
 go_loopw [6,7] (fun ov iv wr=>ov = .slice none 0 0∧iv = .int .i64 0∧wr=w1) (fun _ _ _=>0)
 case atStart=>exact⟨rfl,rfl,rfl⟩
 case round=>
  obtain⟨rfl,rfl,rfl⟩:=hrel
  go_wp2
  go_ret
  exact⟨rfl,HB.out⟩
theorem agw (w:World):Calls Tryz.prog 115 #[] w fun e w'=>e = .returned (.slice (some ⟨w.heap.size,0,none⟩) 9 9)∧w'=w.alloc (.cells (strs nine).toArray 9):=by
 go_enter Tryz.func115,Tryz.ntmps115
 go_wp2
 go_ret
 exact⟨rfl,rfl⟩
theorem all_none {l:List Fd}(hno:∀f ∈ l,dL f.1.1.data.toList lg.data.toList=false):rU l lg=[]:=by
 unfold rU oG
 rw[List.filter_eq_nil_iff.2 fun f hf=>by rw[hno f hf];decide]
 rfl
theorem ajz (l:List Fd):dJ l []=l:=by
 unfold dJ
 exact List.filter_eq_self.2 fun f _=>rfl
theorem ah3 {A:Option Addr}{n c:Nat}{l:List Fd}(w:World) (hr:Rd w w.heap.size 3 A n (fds l)) (hn:n≤1048576) (hz:Tx l) (hno:∀f ∈ l,dL f.1.1.data.toList lg.data.toList=false) :
 Calls Tryz.prog 72 #[.slice A n c] w (fun e w'=>∃v,e = .returned v∧bQ w (fG l) v w'):=by
 have HA:=af (ahc (c:=c) lg w hr hn hz (by decide +kernel) hno)
 have HW:Hid (∀w1,Below w.heap.size w w1→Calls Tryz.prog 71 #[.slice A n c,.slice none 0 0] w1 (fun e w'=>∃v,e = .returned v∧bQ w1 l v w')):=af (fun w1 hb=>by
  have h1:=MS (c:=c) (c1:=0) (n1:=0) (A1:=none) (names:=[]) w1 ((hr.below hb (ah _)).more hb.size) hn hz (Rd.none_ _ _ _ _) (by omega) (fun s hs=>by cases hs)
  rw[ajz] at h1
  exact h1)
 have bf:l.length=n:=by have:=hr.1;rw[jJ] at this;omega
 have hst:fG l=dJ l nine:=by unfold fG;rw[all_none hno,kR]
 have HZ:=af hz
 rw[hst]
 unfold lg at HA
 clear hr hno hst hz
 go_enter Tryz.func72,Tryz.ntmps72
 go_wp2_with fail
 refine HA.out.mono ?_
 rintro e w1 ⟨rfl,hb1⟩
 have bH:=af hb1
 clear hb1 HA
 go_wp2_with fail
 refine (HW.out w1 bH.out).mono ?_
 rintro e w2 ⟨v2,rfl,jh⟩
 obtain⟨A2,c2,rfl,-,-,hr2,-⟩:=aC jh.1
 rw[bf] at hr2 ⊢
 have aI:=af (bH.out.trans (jh.2.mono bH.out.size))
 have fU:=af hr2
 clear jh hr2 HW
 go_wp2_with fail
 refine (agw w2).mono ?_
 rintro e w3 ⟨rfl,hw3⟩
 have hb3:Below w2.heap.size w2 w3:=by rw[hw3];exact (Below.refl _ _).alloc (ah _) _
 have h9:Rd w3 w3.heap.size 1 (some ⟨w2.heap.size,0,none⟩) 9 (strs nine):=by
  rw[hw3]
  exact Rd.lJ (ZL w2)
 have nC:=af (MS (c:=c2) (c1:=9) w3 ((fU.out.below hb3 (ah _)).more hb3.size) hn HZ.out h9 (by omega) (by
  intro s hs
  have h:∀s ∈ nine,s.size≤140737488351232:=by decide +kernel
  exact h s hs))
 have aM:=af (aI.out.trans (hb3.mono aI.out.size))
 clear hw3 hb3 h9
 go_wp2_with fail
 refine nC.out.mono ?_
 rintro e w4 ⟨v4,rfl,sw⟩
 obtain⟨A4,c4,hv4,-,-,-,-⟩:=aC sw.1
 subst hv4
 have HE:=af (show bQ w (dJ l nine) _ w4 from ⟨pG sw.1 aM.out.size,aM.out.trans (sw.2.mono aM.out.size)⟩)
 clear sw
 go_wp2
 go_ret
 exact⟨_,rfl,HE.out⟩
end
end Go.Proofs.YtpkmciohehaboaaGreatDoor
