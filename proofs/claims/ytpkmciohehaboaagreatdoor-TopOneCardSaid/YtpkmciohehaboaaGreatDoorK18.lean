/- Part 18 of the proof. -/
import Derived.Test.YtpkmciohehaboaaGreatDoorK0
import Derived.Test.YtpkmciohehaboaaGreatDoorK17
import Derived.Test.YtpkmciohehaboaaGreatDoorShelf2P
import Derived.Lib.BufferOld
set_option maxRecDepth 100000
set_option maxHeartbeats 100000000
set_option linter.unusedVariables false
set_option linter.unusedSimpArgs false
set_option linter.unusedSectionVars false
set_option linter.unnecessarySimpa false
namespace Go.Proofs.YtpkmciohehaboaaGreatDoor
section
open Go.RowKit Go.Maps
def DN (o:Option Nat):Value:=match o with
 | none=>.nilFunc
 | some n=>.func (.func n) #[] #[]
def SQ:MK Int (Option Nat):={ t:=213,k:=3,e:=188,kv:=fun i=>.int .i64 i,kl:=fun i=>.int .i64 i,rA:=fun i=>(Lit.int .i64 i).wf=true,ev:=DN,el:=fun o=>.int .i64 (EC o),z:=none }
theorem EB:pV SQ where
 ht:=Tryz.underlying213
 keyed:=zn
 key x h:=keyOf_int_mk Tryz.underlying3 h
 CU x y h:=by injection h
 Ih x y h:=by
  have h1:DN x=DN y:=h
  cases x <;> cases y <;> simp[DN] at h1 ⊢
  exact h1
 IL x y h:=by
  have h1:(Lit.int .i64 (EC x)) = .int .i64 (EC y):=h
  injection h1 with h1 h2
  cases x <;> cases y <;> simp only[EC] at h2
  ·rfl
  ·omega
  ·omega
  ·congr 1;omega
 zero w:=by kernel_rfl
theorem bq.CY {κ ε:Type}{M:MK κ ε}{w:World}{mb N n:Nat}{f : κ→Option ε}(ok:pV M) (h:bq M w mb N f n){i : κ}(hi:M.rA i) (hN:N<maxLen) (b : ε) :
 ∃w' f' n',(Instr.mapUpdate M.t (.map (some mb)) (M.kv i) (M.ev b)).run Tryz.prog w = .ok () w'∧bq M w' mb (N+1) f' n'∧w.grownBy w' (some mb)∧f' i=some b∧(∀j,j≠i→f' j=f j)∧n'≤n+1:=by
 obtain⟨w',h1,h2,h3⟩:=bq.put ok h hi hN b
 refine⟨w',_,_,h1,h2,h3,by simp,fun j hj=>by simp[hj],?_⟩
 split <;> omega
def Ja (k:Int):Option Nat:=if k=0 then some 134 else if k=1 then some 135 else if k=3 then some 136 else if k=4 then some 137 else if k=6 then some 138 else if k=8 then some 139 else if k=9 then some 140 else none
theorem ado (k:Nat) (w:World) (hk:k≤255):Calls Tryz.prog 101 #[.int .i64 (k:Int)] w fun e w'=>e = .returned (DN (Ja k))∧Below w.heap.size w w':=by
 have h0:=L9 SQ w
 have hb0:Below w.heap.size w (w.alloc (.map #[] 0)):=(Below.refl _ _).alloc (ah _) _
 obtain⟨B,hB⟩:∃B,w.heap.size=B:=⟨_,rfl⟩
 rw[hB] at h0
 have wf:∀i:Nat,i≤255→SQ.rA (i:Int):=fun i hi=>by
  show (Lit.int .i64 (i:Int)).wf=true
  simp[Lit.wf,IntKind.min,IntKind.max,IntKind.bits,IntKind.signed]
  omega
 obtain⟨W0,hW0⟩:∃W0,w.alloc (.map #[] 0)=W0:=⟨_,rfl⟩
 rw[hW0] at h0 hb0
 obtain⟨W1,f1,n1,p1,h1,g1,e1,o1,-⟩:=bq.CY EB h0 (i:=((0:Nat):Int)) (wf 0 (by omega)) (by unfold maxLen;omega) (some 134)
 have r1:(Instr.mapUpdate 213 (.map (some B)) (.int .i64 0) (.func (.func 134) #[] #[])).run Tryz.prog W0 = .ok () W1:=p1
 obtain⟨W2,f2,n2,p2,h2,g2,e2,o2,-⟩:=bq.CY EB h1 (i:=((1:Nat):Int)) (wf 1 (by omega)) (by unfold maxLen;omega) (some 135)
 have r2:(Instr.mapUpdate 213 (.map (some B)) (.int .i64 1) (.func (.func 135) #[] #[])).run Tryz.prog W1 = .ok () W2:=p2
 obtain⟨W3,f3,n3,p3,h3,g3,e3,o3,-⟩:=bq.CY EB h2 (i:=((3:Nat):Int)) (wf 3 (by omega)) (by unfold maxLen;omega) (some 136)
 have r3:(Instr.mapUpdate 213 (.map (some B)) (.int .i64 3) (.func (.func 136) #[] #[])).run Tryz.prog W2 = .ok () W3:=p3
 obtain⟨W4,f4,n4,p4,h4,g4,e4,o4,-⟩:=bq.CY EB h3 (i:=((4:Nat):Int)) (wf 4 (by omega)) (by unfold maxLen;omega) (some 137)
 have r4:(Instr.mapUpdate 213 (.map (some B)) (.int .i64 4) (.func (.func 137) #[] #[])).run Tryz.prog W3 = .ok () W4:=p4
 obtain⟨W5,f5,n5,p5,h5,g5,e5,o5,-⟩:=bq.CY EB h4 (i:=((6:Nat):Int)) (wf 6 (by omega)) (by unfold maxLen;omega) (some 138)
 have r5:(Instr.mapUpdate 213 (.map (some B)) (.int .i64 6) (.func (.func 138) #[] #[])).run Tryz.prog W4 = .ok () W5:=p5
 obtain⟨W6,f6,n6,p6,h6,g6,e6,o6,-⟩:=bq.CY EB h5 (i:=((8:Nat):Int)) (wf 8 (by omega)) (by unfold maxLen;omega) (some 139)
 have r6:(Instr.mapUpdate 213 (.map (some B)) (.int .i64 8) (.func (.func 139) #[] #[])).run Tryz.prog W5 = .ok () W6:=p6
 obtain⟨W7,f7,n7,p7,h7,g7,e7,o7,-⟩:=bq.CY EB h6 (i:=((9:Nat):Int)) (wf 9 (by omega)) (by unfold maxLen;omega) (some 140)
 have r7:(Instr.mapUpdate 213 (.map (some B)) (.int .i64 9) (.func (.func 140) #[] #[])).run Tryz.prog W6 = .ok () W7:=p7
 have hval:(f7 (k:Int)).getD none=Ja (k:Int):=by
  unfold Ja
  by_cases hk9:k=9
  ·subst hk9;rw[e7];rfl
  ·rw[o7 _ (by omega)]
   by_cases vg:k=8
   ·subst vg;rw[e6];rfl
   ·rw[o6 _ (by omega)]
    by_cases kr:k=6
    ·subst kr;rw[e5];rfl
    ·rw[o5 _ (by omega)]
     by_cases hk4:k=4
     ·subst hk4;rw[e4];rfl
     ·rw[o4 _ (by omega)]
      by_cases hk3:k=3
      ·subst hk3;rw[e3];rfl
      ·rw[o3 _ (by omega)]
       by_cases iO:k=1
       ·subst iO;rw[e2];rfl
       ·rw[o2 _ (by omega)]
        by_cases hk0:k=0
        ·subst hk0;rw[e1];rfl
        ·rw[o1 _ (by omega)]
         have a0:¬((k:Int)=0):=by omega
         have a1:¬((k:Int)=1):=by omega
         have a3:¬((k:Int)=3):=by omega
         have a4:¬((k:Int)=4):=by omega
         have a6:¬((k:Int)=6):=by omega
         have a8:¬((k:Int)=8):=by omega
         have a9:¬((k:Int)=9):=by omega
         simp[hk0,a1,a3,a4,a6,a8,a9]
 have hl:=bq.wM EB h7 (wf k hk)
 have hl2:(Instr.lookup 213 (.map (some B)) (.int .i64 (k:Int)) false).run Tryz.prog W7 = .ok (DN (Ja k)) W7:=by
  rw[←hval]
  exact hl
 have HB:Hid (Below w.heap.size w W7):=af (by
  have hs0:w.heap.size≤W0.heap.size:=hb0.size
  have t1:Below w.heap.size w W1:=hb0.grown g1 hs0 (fun j hj=>by injection hj with hj;omega)
  have t2:Below w.heap.size w W2:=t1.grown g2 t1.size (fun j hj=>by injection hj with hj;omega)
  have t3:Below w.heap.size w W3:=t2.grown g3 t2.size (fun j hj=>by injection hj with hj;omega)
  have t4:Below w.heap.size w W4:=t3.grown g4 t3.size (fun j hj=>by injection hj with hj;omega)
  have t5:Below w.heap.size w W5:=t4.grown g5 t4.size (fun j hj=>by injection hj with hj;omega)
  have t6:Below w.heap.size w W6:=t5.grown g6 t5.size (fun j hj=>by injection hj with hj;omega)
  exact t6.grown g7 t6.size (fun j hj=>by injection hj with hj;omega))
 have fA:=@run_makeMap Tryz.prog
 obtain⟨V,hV⟩:∃V,DN (Ja (k:Int))=V:=⟨_,rfl⟩
 rw[hV] at hl2 ⊢
 have dY:=af hW0
 clear hV hval hl h0 h1 h2 h3 h4 h5 h6 h7 g1 g2 g3 g4 g5 g6 g7 e1 e2 e3 e4 e5 e6 e7 o1 o2 o3 o4 o5 o6 o7 p1 p2 p3 p4 p5 p6 p7 hb0 wf
 go_enter Tryz.func101,Tryz.ntmps101
 go_wp2_with fail
 go_ret
 exact⟨rfl,HB.out⟩
theorem ahB {B p:Nat}{c:Cv}{cs:List dx}(w:World) (h:All B w (aK p c :: cs)) (hd:c.mX=false):Calls Tryz.prog 102 #[.pointer (some ⟨p,0,none⟩)] w fun e w'=>e = .returned (.tuple #[])∧w=w':=by
 have c17:=h.cc 17 (.bool c.mX) rfl
 rw[hd] at c17
 clear h
 go_enter Tryz.func102,Tryz.ntmps102
 go_wp2_with fail
 go_end0
 exact⟨rfl,rfl⟩
def qd (f:Fr):Value:=.agg #[.int .i64 f.ty,.int .i64 f.fl,.int .i64 f.st,.string f.data,.int .i64 f.pad,.slice none 0 0,.int .i64 0,.int .i64 0,.int .i64 0,.int .i64 0,.int .i64 0,.bool false,.bool false,.int .i64 0,.int .i64 0]
theorem Zn {B p:Nat}{c:Cv}{cs:List dx}(w:World) (h:All B w (aK p c :: cs)) (hg:c.gG=false):Calls Tryz.prog 98 #[.pointer (some ⟨p,0,none⟩),qd gI] w fun e w'=>e = .returned (.bool false)∧Below w.heap.size w w':=by
 have c16:∀o1 o2,((w.alloc o1).alloc o2).cell? ⟨p,16,none⟩=some (.bool false):=fun o1 o2=>by
  have h2:=(h.below ((Below.refl _ _).alloc (ah _) o1)).below ((Below.refl _ _).alloc (ah _) o2)
  rw[←hg]
  exact h2.cc 16 (.bool c.gG) rfl
 have hpl:p<w.heap.size:=(Array.getElem?_eq_some_iff.1 h.conn).1
 have c16':w.cell? ⟨p,16,none⟩=some (.bool false):=by rw[←hg];exact h.cc 16 (.bool c.gG) rfl
 unfold qd gI
 clear h c16
 go_enter Tryz.func98,Tryz.ntmps98
 go_wp2_with fail
 go_ret
 exact⟨rfl,((Below.refl _ _).alloc (ah _) _).alloc (by simp) _⟩
theorem ML {B p:Nat}{c:Cv}{cs:List dx}(f:Fr) (w:World) (h:All B w (aK p c :: cs)) (hg:c.gG=true) (ho:c.cu=0) (h9:f.ty≠9):Calls Tryz.prog 98 #[.pointer (some ⟨p,0,none⟩),qd f] w fun e w'=>e = .returned (.bool false)∧Below w.heap.size w w':=by
 have hpl:p<w.heap.size:=(Array.getElem?_eq_some_iff.1 h.conn).1
 have c16:w.cell? ⟨p,16,none⟩=some (.bool true):=by rw[←hg];exact h.cc 16 (.bool c.gG) rfl
 have c14:w.cell? ⟨p,14,none⟩=some (.int .i64 0):=by rw[←ho];exact h.cc 14 (.int .i64 c.cu) rfl
 obtain⟨ty,fl,st,data,pad⟩:=f
 dsimp only at h9
 have e9:((ty:Int)==9)=false:=by simp;omega
 unfold qd
 dsimp only
 clear h
 go_enter Tryz.func98,Tryz.ntmps98
 go_wp2_with fail
 go_ret
 exact⟨rfl,((Below.refl _ _).alloc (ah _) _).alloc (by simp) _⟩
end
section
open Go.RowKit Go.Maps
def SeRel (W:World) (iv:Value) (wr:World):Prop:=iv = .int .i64 0∧wr=W
theorem aaC {B p n:Nat}{c:Cv}{xs:List Value}{cs:List dx}(w:World) (h:All B w (aK p c :: aD 5 1 c.bytes n xs :: cs)) (hn:n≤1000000) :
 Calls Tryz.prog 137 #[.pointer (some ⟨p,0,none⟩),gF gI] w (Left B w fun w'=>∃v n' xs',n'≤n+9∧All B w' (aK p { c with bytes:=v } :: aD 5 1 v n' xs' :: cs)):=by
 have hok:BH ⟨4,1,0,none,0,0,0,0,0⟩ []:=⟨.inr (.inl ⟨rfl,rfl,rfl,rfl⟩),.inr rfl,aL _,aL _,aL _,aL _,aL _,rfl,fun s hs=>by cases hs⟩
 have hrd:∀(w:World) (B:Nat),Rd w B 2 none 0 (rE []):=fun w B=>⟨rfl,fun h=>absurd h (Ce 0)⟩
 have HW:Hid (∀w1,Below w.heap.size w w1→Calls Tryz.prog 49 #[.pointer (some ⟨p,0,none⟩),ou ⟨4,1,0,none,0,0,0,0,0⟩] w1 (Left B w1 fun w'=>∃v n' xs',n'≤n+0+9∧All B w' (aK p { c with bytes:=v } :: aD 5 1 v n' xs' :: cs))):=af (fun w1 hb=>
  Nh (M:=0) ⟨4,1,0,none,0,0,0,0,0⟩ [] w1 (h.below hb) hok (hrd _ _) (by omega) (fun w' _=>ZP ⟨4,1,0,none,0,0,0,0,0⟩ [] w' hok rfl (hrd _ _)) hn)
 have f_:=af h.sz
 unfold gF gI Fr.cells
 dsimp only
 clear h hok hrd
 go_enter Tryz.func137,Tryz.ntmps137
 go_wp2_with fail
 refine bI ?_
 intro W1 hW1
 have hb1:Below w.heap.size w W1:=by rw[hW1];exact (Below.refl _ _).alloc (ah _) _
 have bH:=af hb1
 clear hW1 hb1
 go_loopw [13] (fun iv wr=>SeRel W1 iv wr) (fun _ _=>0)
 case atStart=>exact⟨rfl,rfl⟩
 case round=>
  obtain⟨rfl,rfl⟩:=hrel
  go_wp2_with fail
  refine (HW.out _ bH.out).mono ?_
  rintro e w2 ⟨rfl,hb2,v,n',xs',hn',hA⟩
  have HA:=af hA
  have aI:=af ((bH.out.mono f_.out).trans hb2)
  clear hA hb2
  go_wp2_with fail
  go_end0
  exact⟨rfl,aI.out,v,n',xs',hn',HA.out⟩
end
section
open Go.RowKit
structure sMv where
 state:Int
 skip:Bool
 is:Bool
 code:Int
 whole:Bool
 deriving DecidableEq
def Bu (m:sMv):Value:=.agg #[.int .i64 m.state,.bool m.skip,.bool m.is,.int .i64 m.code,.bool m.whole]
def Ow (kind:Int):Option Nat:=if kind=0 then some 0 else if kind=1 then some 1 else if kind=3 then some 2 else if kind=8 then some 3 else if kind=2 then some 4 else none
def M7:List (List Nat):=[[6,2,6,6,0],[2,3,4,1,1],[5,5,4,1,1],[2,3,4,1,1],[6,6,0,0,0],[0,0,0,0,0],[5,5,0,5,0]]
def wQ (state:Int) (fin:Bool):Int:=if state=0 then (if fin then 2 else 1) else if fin then (if state=1 then 2 else 4) else state
def codeF (state:Int) (how:Nat):Int:=if state=0∨how=3 then 1 else 5
def Be (state:Int) (how:Nat) (fin:Bool):sMv:=
 if (how=3∧fin=true)∨how=2 then ⟨wQ state fin,false,false,0,false⟩
 else if how=4 then ⟨6,false,false,0,false⟩
 else if how=1 then ⟨state,false,false,0,false⟩
 else if how=6 then ⟨state,false,true,codeF state how,true⟩
 else if how=3∨how=5 then ⟨5,false,true,codeF state how,false⟩
 else ⟨state,true,false,0,false⟩
def MJ (state:Int):Bool:=state==1 || state==2 || state==3
theorem kinds (kind:Int):kind=0∨kind=1∨kind=3∨kind=8∨kind=2∨(kind≠0∧kind≠1∧kind≠3∧kind≠8∧kind≠2):=by omega
end
section
open Go.RowKit
theorem aft (state:Int) (w:World):Calls Tryz.prog 99 #[.int .i64 state] w fun e w'=>e = .returned (.bool (MJ state))∧w=w':=by
 by_cases h1:state=1
 ·subst h1;go_enter Tryz.func99,Tryz.ntmps99;go_wp2;go_ret;exact⟨rfl,rfl⟩
 ·by_cases h2:state=2
  ·subst h2;go_enter Tryz.func99,Tryz.ntmps99;go_wp2;go_ret;exact⟨rfl,rfl⟩
  ·have e1:(state==1)=false:=by simpa using h1
   have e2:(state==2)=false:=by simpa using h2
   have hf:MJ state=(state==3):=by unfold MJ;rw[e1,e2];rfl
   rw[hf]
   clear hf h1 h2
   go_enter Tryz.func99,Tryz.ntmps99
   go_wp2;go_ret;exact⟨rfl,rfl⟩
def Jt (kind:Int):Value:=match Ow kind with | none=>.tuple #[.int .i64 0,.bool false] | some c=>.tuple #[.int .i64 (c:Int),.bool true]
theorem adn (kind:Int) (w:World):Calls Tryz.prog 183 #[.int .i64 kind] w fun e w'=>e = .returned (Jt kind)∧w=w':=by
 rcases kinds kind with h | h | h | h | h | ⟨h0,h1,h2,h3,h4⟩
 case inr.inr.inr.inr.inr=>
  have hc:Jt kind = .tuple #[.int .i64 0,.bool false]:=by unfold Jt Ow;rw[aj h0,aj h1,aj h2,aj h3,aj h4]
  rw[hc]
  clear hc
  go_enter Tryz.func183,Tryz.ntmps183;go_wp2;go_ret2;exact⟨rfl,rfl⟩
 all_goals (subst h;go_enter Tryz.func183,Tryz.ntmps183;go_wp2;go_ret2;exact⟨rfl,rfl⟩)
theorem agl (state:Int) (fin:Bool) (w:World):Calls Tryz.prog 185 #[.int .i64 state,.bool fin] w fun e w'=>e = .returned (.int .i64 (wQ state fin))∧w=w':=by
 by_cases h0:state=0
 ·subst h0
  cases fin
  all_goals (go_enter Tryz.func185,Tryz.ntmps185;go_wp2;go_ret;exact⟨rfl,rfl⟩)
 ·by_cases h1:state=1
  ·subst h1
   cases fin
   all_goals (go_enter Tryz.func185,Tryz.ntmps185;go_wp2;go_ret;exact⟨rfl,rfl⟩)
  ·have hf:wQ state false=state:=by unfold wQ;rw[aj h0];rfl
   have ht:wQ state true=4:=by unfold wQ;rw[aj h0,aj h1];rfl
   cases fin
   ·rw[hf];clear hf ht;go_enter Tryz.func185,Tryz.ntmps185;go_wp2;go_ret;exact⟨rfl,rfl⟩
   ·rw[ht];clear hf ht;go_enter Tryz.func185,Tryz.ntmps185;go_wp2;go_ret;exact⟨rfl,rfl⟩
theorem adi (state:Int) (how:Nat) (w:World):Calls Tryz.prog 186 #[.int .i64 state,.int .i64 how] w fun e w'=>e = .returned (.int .i64 (codeF state how))∧w=w':=by
 by_cases h0:state=0
 ·subst h0
  go_enter Tryz.func186,Tryz.ntmps186;go_wp2;go_ret;exact⟨rfl,rfl⟩
 ·by_cases h3:how=3
  ·subst h3
   have hf:codeF state 3=1:=by unfold codeF;rw[ax (.inr rfl)]
   rw[hf];clear hf
   go_enter Tryz.func186,Tryz.ntmps186;go_wp2;go_ret;exact⟨rfl,rfl⟩
  ·have hf:codeF state how=5:=by unfold codeF;rw[aj (by omega)]
   rw[hf];clear hf
   have e1:(state==0)=false:=by simpa using h0
   have e2:((how:Int)==3)=false:=by rw[fO];omega
   clear h0 h3
   go_enter Tryz.func186,Tryz.ntmps186;go_wp2;go_ret;exact⟨rfl,rfl⟩
end
section
open Go.RowKit
def BA:List Value:=M7.flatten.map fun n:Nat=>Value.int .i64 (n:Int)
def G8 (i:Nat):List Value:=(M7.getD i []).map fun n:Nat=>Value.int .i64 (n:Int)
theorem JS (w:World) (o:Obj):(w.alloc o).heap[w.heap.size]?=some o:=by
 show (w.heap.push o)[w.heap.size]?=_
 simp
theorem ahU (w:World):Calls Tryz.prog 184 #[] w fun e w'=>e = .returned (.agg BA.toArray)∧Below w.heap.size w w':=by
 go_enter Tryz.func184,Tryz.ntmps184
 go_step;go_step;go_step
 refine Great.wpList_runTo rfl (some 0) rfl (.pointer (some ⟨w.heap.size,0,none⟩)) (w.alloc (.cells (Array.replicate 35 (.int .i64 0)) 251)) (by kernel_rfl) ?_
 go_step;go_step;go_step;go_step;go_step
 refine Great.wpList_runTo rfl (some 1) rfl (.agg (G8 0).toArray) (w.alloc (.cells (Array.replicate 35 (.int .i64 0)) 251)) (by kernel_rfl) ?_
 refine Great.wpList_runTo rfl (some 2) rfl (.agg (G8 1).toArray) (w.alloc (.cells (Array.replicate 35 (.int .i64 0)) 251)) (by kernel_rfl) ?_
 refine Great.wpList_runTo rfl (some 3) rfl (.agg (G8 2).toArray) (w.alloc (.cells (Array.replicate 35 (.int .i64 0)) 251)) (by kernel_rfl) ?_
 refine Great.wpList_runTo rfl (some 4) rfl (.agg (G8 3).toArray) (w.alloc (.cells (Array.replicate 35 (.int .i64 0)) 251)) (by kernel_rfl) ?_
 refine Great.wpList_runTo rfl (some 5) rfl (.agg (G8 4).toArray) (w.alloc (.cells (Array.replicate 35 (.int .i64 0)) 251)) (by kernel_rfl) ?_
 refine Great.wpList_runTo rfl (some 6) rfl (.agg (G8 5).toArray) (w.alloc (.cells (Array.replicate 35 (.int .i64 0)) 251)) (by kernel_rfl) ?_
 refine Great.wpList_runTo rfl (some 7) rfl (.agg (G8 6).toArray) (w.alloc (.cells (Array.replicate 35 (.int .i64 0)) 251)) (by kernel_rfl) ?_
 refine Great.wpList_runTo rfl (some 8) rfl (.agg BA.toArray) (w.alloc (.cells (Array.replicate 35 (.int .i64 0)) 251)) (by kernel_rfl) ?_
 refine wpList_store_rowTo rfl 251 (.tmp 0) (.tmp 8) rfl rfl w.heap.size BA.toArray (by kernel_rfl) (by kernel_rfl) 251 (Array.replicate 35 (.int .i64 0)) (JS w _) (by kernel_rfl) (by kernel_rfl) (by kernel_rfl) ?_
 go_wp2_with fail
 refine bodyPost_ret (v:=.agg BA.toArray) (results_cell_row rfl _ _ w.heap.size 251 BA.toArray (0,0) _ (by kernel_rfl) (setRow_heap _ _ _ _ _ _ (JS w _)) Tryz.underlying251 rfl (by kernel_rfl)) rfl ?_
 exact⟨rfl,((Below.refl _ _).alloc (ah _) _).trans ⟨rfl,rfl,rfl,by simp,fun k hk=>setRow_other _ _ _ _ (by omega)⟩⟩
end
section
open Go.RowKit
theorem Bo:(Tryz.prog.info? 229).map (·.size)=some 5:=by kernel_rfl
theorem ahT {q c:Nat}(hq:q≤6) (hc:c≤4):BA[q*5+c]?=some (.int .i64 (((M7.getD q []).getD c 0:Nat):Int)):=by
 have hq':q=0∨q=1∨q=2∨q=3∨q=4∨q=5∨q=6:=by omega
 have hc':c=0∨c=1∨c=2∨c=3∨c=4:=by omega
 rcases hq' with rfl | rfl | rfl | rfl | rfl | rfl | rfl <;> rcases hc' with rfl | rfl | rfl | rfl | rfl <;> rfl
theorem Ig (q c h:Nat) (kind:Int) (fin:Bool) (w:World) (hq:q≤6) (hc:c≤4) (Io:Ow kind=some c) (hh:(M7.getD q []).getD c 0=h) (h6:h=0∨h=1∨h=2∨h=3∨h=4∨h=5∨h=6) :
 Calls Tryz.prog 163 #[.int .i64 q,.int .i64 kind,.bool fin] w fun e w'=>e = .returned (Bu (Be q h fin))∧Below w.heap.size w w':=by
 have hcv:Jt kind = .tuple #[.int .i64 (c:Int),.bool true]:=by unfold Jt;rw[Io]
 have hg:=ahT hq hc
 rw[hh] at hg
 have HG:=af hg
 have HC:=af hcv
 clear Io hh hcv hg
 go_enter Tryz.func163,Tryz.ntmps163
 go_wp2_with fail
 refine (adn kind _).mono ?_
 rintro e w1 ⟨rfl,rfl⟩
 rw[HC.out]
 go_wp2_with fail
 refine (ahU _).mono ?_
 rintro e w1 ⟨rfl,hb1⟩
 have hs1:=hb1.size
 simp at hs1
 simp only[]
 go_step
 refine Great.wpList_runTo rfl (some 9) rfl (.pointer (some ⟨w1.heap.size,0,none⟩)) (w1.alloc (.cells (Array.replicate 35 (.int .i64 0)) 251)) (by kernel_rfl) ?_
 refine wpList_store_rowTo rfl 251 (.tmp 9) (.tmp 16) rfl rfl w1.heap.size BA.toArray (by kernel_rfl) (by kernel_rfl) 251 (Array.replicate 35 (.int .i64 0)) (JS w1 _) (by kernel_rfl) (by kernel_rfl) (by kernel_rfl) ?_
 have hcell:((w1.alloc (.cells (Array.replicate 35 (.int .i64 0)) 251)).setRow w1.heap.size BA.toArray).cell? ⟨w1.heap.size,q*5+c,none⟩=some (.int .i64 (h:Int)):=by
  rw[cell_setRow_same _ _ _ _ _ _ _ (JS w1 _)]
  simpa using HG.out
 have hbel:Below (w.heap.size+1) (w.alloc (.cells #[.int .i64 0,.bool false,.bool false,.int .i64 0,.bool false] 229)) ((w1.alloc (.cells (Array.replicate 35 (.int .i64 0)) 251)).setRow w1.heap.size BA.toArray):=
  ((hb1.mono (by simp)).alloc hs1 _).trans ⟨rfl,rfl,rfl,by simp,fun k hk=>setRow_other _ _ _ _ (by omega)⟩
 generalize (w1.alloc (.cells (Array.replicate 35 (.int .i64 0)) 251)).setRow w1.heap.size BA.toArray=w2 at *
 generalize w1.heap.size=g at *
 have hres:w2.heap[w.heap.size]?=some (.cells #[.int .i64 0,.bool false,.bool false,.int .i64 0,.bool false] 229 (0,0)):=(hbel.block _ (by omega)).trans (JS w _)
 have HB:=af ((((Below.refl _ _).alloc (ah _) _).trans (hbel.mono (by omega)):Below w.heap.size w w2))
 have HRES:=af hres
 clear hres hbel hb1
 rcases h6 with rfl | rfl | rfl | rfl | rfl | rfl | rfl
 all_goals
  cases fin
  all_goals
   go_wp2_with (first
    | (go_at_call 185;refine (agl _ _ _).mono ?_;rintro e w3 ⟨rfl,rfl⟩)
    | (go_at_call 186;refine (adi _ _ _).mono ?_;rintro e w3 ⟨rfl,rfl⟩)
    | (refine wpList_store_rowTo rfl 229 (.tmp 6) _ rfl rfl w.heap.size _ rfl rfl 229 _ HRES.out Bo rfl (by simp[Value.oneCell']) ?_))
   refine bodyPost_ret (results_cell_row rfl _ _ w.heap.size 229 _ (0,0) _ rfl (setRow_heap _ _ _ _ _ _ HRES.out) Tryz.underlying229 rfl Bo) rfl ?_
   exact⟨by simp[Bu,Be],HB.out.trans ⟨rfl,rfl,rfl,by simp,fun k hk=>setRow_other _ _ _ _ (by omega)⟩⟩
end
section
open Go.RowKit Go.Maps
def qp (said:Int) (told:Bool) (st:Int):Array Value:=#[.int .i64 0,.int .i64 said,.bool told,.bool false,.slice none 0 0,.bool false,.int .i64 st]
def wT (R:Rq) (v:Value):Array Value:=#[.string R.aW,.string R.iH,.string R.ek,.string R.path,v]
def CL (id:Int) (R:Rq) (v:Value) (fin:Bool):Hp:=⟨1,id,R.aW,R.iH,R.ek,R.path,v,⟨#[]⟩,fin,0⟩
theorem IQ {w:World}{base base':Nat}{e:TypeId}{size:Nat}{v:Value}{n:Nat}{xs:List Value}(h:w.ownsRow base e size v n xs) (hb:base'≤base):w.ownsRow base' e size v n xs:=by
 rcases h with ⟨hl,h0 | ⟨g,cap,cur,hv,hg,h3⟩⟩
 ·exact⟨hl,.inl h0⟩
 ·exact⟨hl,.inr ⟨g,cap,cur,hv,gM hb hg,h3⟩⟩
theorem All.row {B:Nat}{w w':World}{cs:List dx}{t:TypeId}{size:Nat}{v:Value}{n:Nat}{xs:List Value}(h:All B w cs) (hb:Below w.heap.size w w') (ho:w'.ownsRow w.heap.size t size v n xs):All B w' (aD t size v n xs :: cs):=
 h.new hb (IQ ho (aL _)) (fun b hF=>(World.ownsRow.lt ho b hF).1)
theorem All.whole {B:Nat}{w:World}{cs:List dx}{p:Nat}{c:Array Value}{t:TypeId}(h:All B w (bg p c t :: cs)) (c':Array Value) :
 All B (w.setRow p c') (bg p c' t :: cs)∧Below B w (w.setRow p c'):=by
 have hk:Kept (bg p c t).F w (w.setRow p c'):=⟨rfl,rfl,rfl,by simp,fun k hk hF=>setRow_other _ _ _ _ hF⟩
 exact⟨h.step (c':=bg p c' t) hk (fun b hb=>.inl hb) (setRow_heap _ _ _ _ _ _ h.head),h.kept hk⟩
theorem G5 {w:World}{rq:Nat}{R:Rq}{v:Value}(h:(bg rq (wT R v) 60).P w):w.cell? ⟨rq,0,none⟩=some (.string R.aW)∧w.cell? ⟨rq,1,none⟩=some (.string R.iH)∧w.cell? ⟨rq,2,none⟩=some (.string R.ek)∧w.cell? ⟨rq,3,none⟩=some (.string R.path)∧w.cell? ⟨rq,4,none⟩=some v:=by
 have h1:w.heap[rq]?=some (.cells (wT R v) 60 (0,0)):=h
 refine⟨?_,?_,?_,?_,?_⟩ <;> (unfold World.cell?;rw[h1];rfl)
theorem Xq {B p g m nn N k:Nat}{c:Cv}{all first:Int}{L:List (Int×Int)}{f:Int→Option (Option Nat)}{xs:List Value}{cs:List dx}{A:Option Addr}{n cc:Nat}{l:List Fd}(id:Int) (w:World)
 (h:All B w (aK p c :: gB g m all first L :: aH aV c.live N f k :: aD 64 10 c.news nn xs :: aD 26 3 (.slice A n cc) n (fds l) :: cs))
 (hbk:c.book = .pointer (some ⟨g,0,none⟩)) (hd:c.mX=false) (hk:(k:Int)<c.l0)
 (hid:(Lit.int .i64 id).wf=true) (JU : 1≤id) (hL:L.length<100000) (hlk:look L id=none) (hN:N<maxLen) (hnn:nn≤1000000)
 (hn:n≤1048575) (hz:Tx l)
 (ko:∀(w:World) (A:Option Addr) (n c:Nat),Rd w w.heap.size 3 A n (fds (bV (bG jb Gt.none l).1.2))→n≤1048576→Calls Tryz.prog 210 #[.slice A n c] w (fun e w'=>∃v,e = .returned v∧bQ w (jw (bV (bG jb Gt.none l).1.2)) v w'))
 (hR:(aS l).2=0) (hfl:(aS l).1.fields.length≤1048576) (wF:Tx (aS l).1.fields) (qW:c.jI=false∨(gU (dn (aS l).1.fields)).1≤0) :
 Calls Tryz.prog 170 #[.pointer (some ⟨p,0,none⟩),.int .i64 id,.slice A n cc,.bool false] w (Left B w fun w'=>∃v fv s N' f' k',k'≤k+1∧f' id=some (some s) ∧
  All B w' (aK p { c with last:=id,news:=v } :: gB g m all first (sO L id 0) :: aH aV c.live N' f' k' :: aD 64 10 v (nn+1) (xs++(CL id (aS l).1 fv c.jI).l) ::
   aD 26 3 fv (aS l).1.fields.length (fds (aS l).1.fields) :: bg s (qp (gU (dn (aS l).1.fields)).1 (gU (dn (aS l).1.fields)).2.1 (wQ 0 c.jI)) 140 :: aD 26 3 (.slice A n cc) n (fds l) :: cs)):=by
 have HA:=af h
 have HNN:=af hnn
 obtain⟨st,hst⟩:∃st,wQ 0 c.jI=st:=⟨_,rfl⟩
 obtain⟨E,hE⟩:∃E,c.jI=E:=⟨_,rfl⟩
 have xY:w.cell? ⟨p,15,none⟩=some (.bool E):=by rw[←hE];exact h.cc 15 (.bool c.jI) rfl
 have iG:Bu (Be 0 2 c.jI) = .agg #[.int .i64 st,.bool false,.bool false,.int .i64 0,.bool false]:=by
  rw[←hst];rfl
 have HC:Hid (Calls Tryz.prog 163 #[.int .i64 0,.int .i64 1,.bool E] w fun e w'=>e = .returned (Bu (Be 0 2 E))∧Below w.heap.size w w'):=af (Ig 0 1 2 1 E w (by omega) (by omega) rfl rfl (by omega))
 rw[hE] at iG hst
 have HMV:=af iG
 have HE:=af hE
 have HD:=af (And.intro hbk (And.intro hd hk))
 have HI:=af (And.intro hid (And.intro JU (And.intro hL (And.intro hlk hN))))
 have kQ:=af (And.intro hn hz)
 have vN:=af ko
 obtain⟨⟨R,er⟩,kT⟩:∃R,aS l=R:=⟨_,rfl⟩
 rw[kT] at hR hfl wF qW ⊢
 dsimp only at hR hfl wF qW ⊢
 subst hR
 have cz:=af (And.intro kT (And.intro hfl (And.intro wF qW)))
 have HST:=af hst
 clear h hbk hd hk hid JU hL hlk hN hnn hn hz ko kT hfl wF qW hst iG hE
 go_enter Tryz.func170,Tryz.ntmps170
 go_wp2_with fail
 refine HC.out.mono ?_
 rintro e w1 ⟨rfl,hb1⟩
 rw[HMV.out]
 have bM:=af (HA.out.below hb1)
 have bH:=af (hb1.mono HA.out.sz)
 clear hb1 xY
 go_upto_region 1 with (first
  | (refine wpList_store_rowTo rfl 229 (.tmp 8) (.tmp 16) rfl rfl w1.heap.size #[.int .i64 0,.bool false,.bool false,.int .i64 0,.bool false] rfl rfl 229 _ (aZ _ _) Bo rfl (by simp[Value.oneCell']) ?_))
 refine bI ?_
 intro W2 hW2
 have dA:=gV bM.out #[.int .i64 st,.bool false,.bool false,.int .i64 0,.bool false] 229
 rw[←hW2] at dA
 have tY:Below B w W2:=by rw[hW2];exact bH.out.alloc bM.out.sz _
 obtain⟨mv,iG⟩:∃mv,w1.heap.size=mv:=⟨_,rfl⟩
 rw[iG] at dA ⊢
 have bY:=af (dA.pick [_])
 have aI:=af tY
 clear dA tY hW2 iG
 have f12:=bY.out.cf 12
 have GY:=bY.out.cc 12 (.int .i64 c.last) rfl
 go_upto_region 2 with fail
 refine bI ?_
 intro W3 hW3
 obtain⟨gp,gP⟩:=bY.out.set 12 (.int .i64 id)
 rw[←hW3] at gp gP
 have bJ:Hid (All B W3 (aK p { c with last:=id } :: bg mv #[.int .i64 st,.bool false,.bool false,.int .i64 0,.bool false] 229 :: gB g m all first L :: aH aV c.live N f k :: aD 64 10 c.news nn xs :: aD 26 3 (.slice A n cc) n (fds l) :: cs)):=af gp
 have aM:=af (aI.out.trans gP)
 clear gp gP hW3 f12 GY
 have q17:W3.cell? ⟨p,17,none⟩=some (.bool false):=by rw[←HD.out.2.1];exact bJ.out.cc 17 (.bool c.mX) rfl
 have q9:=bJ.out.cc 9 (.map (some c.live)) rfl
 have q0:=bJ.out.cc 0 (.int .i64 c.l0) rfl
 have qm:∀o,W3.cell? ⟨mv,o,none⟩=(#[.int .i64 st,.bool false,.bool false,.int .i64 0,.bool false]:Array Value)[o]?:=fun o=>by
  have h1:=(bJ.out.pick [_]).head
  have h2:W3.heap[mv]?=some (.cells #[.int .i64 st,.bool false,.bool false,.int .i64 0,.bool false] 229 (0,0)):=h1
  unfold World.cell?
  rw[h2]
  rfl
 have qm0:W3.cell? ⟨mv,0,none⟩=some (.int .i64 st):=qm 0
 clear qm
 have hlen:(Builtin.len_ #[93] 3 #[.map (some c.live)]).run Tryz.prog W3.drew = .ok (.int .i64 k) W3.drew:=by
  have h1:bq aV W3 c.live N f k:=(bJ.out.pick [_,_,_]).head
  have h2:bq aV W3.drew c.live N f k:=h1.keep rfl
  exact h2.len qj _
 have hlt:¬(c.l0≤(k:Int)):=by have:=HD.out.2.2;omega
 go_upto_region 4 with fail
 go_region
 go_upto_region 10 with fail
 refine bI ?_
 intro W4 bA
 have dN:=(gV (gV bJ.out (qp 0 false st) 140) eX 60).drew
 have lC:Below B w W4:=by rw[bA];exact (((aM.out.alloc bJ.out.sz _).alloc (by simp;have:=bJ.out.sz;omega) _).trans (by exact⟨rfl,rfl,rfl,ah _,fun _ _=>rfl⟩))
 have xD:W4=((W3.alloc (.cells (qp 0 false st) 140)).alloc (.cells eX 60)).drew:=bA
 rw[←xD] at dN
 obtain⟨sb,mI⟩:∃sb,W3.heap.size=sb:=⟨_,rfl⟩
 obtain⟨rq,GG⟩:∃rq,(W3.alloc (.cells (qp 0 false st) 140)).heap.size=rq:=⟨_,rfl⟩
 have Kc:sb+1=rq:=by rw[←GG,←mI];simp
 rw[mI,GG] at dN
 rw[mI]
 try rw[Kc]
 have aX:=af dN
 have dz:=af lC
 clear dN lC bA xD mI GG Kc hlt hlen q17 q9 q0 qm0
 have hlr:=(aX.out.pick [_,_,_,_,_,_,_]).head
 have hrd:Rd W4 W4.heap.size 3 A n (fds l):=Rd.lJ hlr
 have HRE:=af (aai (c:=cc) W4 hrd kQ.out.1 kQ.out.2 vN.out)
 clear hlr hrd
 go_wp2_with fail
 refine HRE.out.mono ?_
 rw[cz.out.1]
 rintro e w5 ⟨fv,rfl,nR,aT⟩
 obtain⟨A5,c5,rfl,-,-,-,-⟩:=aC nR
 have bT:=af (aX.out.row aT nR)
 have eG:=af (dz.out.trans (aT.mono aX.out.sz))
 clear nR aT
 have Ke:=(bT.out.pick [_]).head
 have HRQ:=af Ke
 clear Ke
 go_upto_region 11 with (first
  | (refine wpList_store_rowTo rfl 60 (.tmp 10) (.tmp 53) rfl rfl rq (wT R (.slice A5 R.fields.length c5)) rfl rfl 60 _ HRQ.out mJ rfl (by simp[Value.oneCell',wT]) ?_))
 refine bI ?_
 intro W6 AO
 obtain⟨iy,iW⟩:=(bT.out.pick [_]).whole (wT R (.slice A5 R.fields.length c5))
 rw[←AO] at iy iW
 have kY:=af iy
 have gK:=af (eG.out.trans iW)
 clear iy iW AO
 have q4:W6.cell? ⟨rq,4,none⟩=some (.slice A5 R.fields.length c5):=by
  have h1:W6.heap[rq]?=some (.cells (wT R (.slice A5 R.fields.length c5)) 60 (0,0)):=kY.out.head
  unfold World.cell?
  rw[h1]
  rfl
 obtain⟨sd,tl,eb,AB⟩:∃sd tl eb,gU (dn R.fields)=(sd,tl,eb):=⟨_,_,_,rfl⟩
 have hfr:Rd W6 W6.heap.size 3 A5 R.fields.length (fds R.fields):=Rd.lJ ((kY.out.pick [_]).head)
 have Co:=SI (c:=c5) W6 hfr cz.out.2.1 cz.out.2.2.1
 have qW:=cz.out.2.2.2
 rw[AB] at Co qW
 rw[HE.out] at qW
 dsimp only at Co qW
 have sW:=af AB
 have gz:=af Co
 have HSD:=af qW
 clear hfr Co qW AB
 go_wp2_with fail
 refine gz.out.mono ?_
 rintro e w7 ⟨rfl,dU⟩
 have eY:=af ((kY.out.below dU).pick [_,_])
 have iZ:=af (gK.out.trans (dU.mono kY.out.sz))
 clear dU q4
 have o8:w7.heap[sb]?=some (.cells (qp 0 false st) 140 (0,0)):=eY.out.head
 have q1:w7.cell? ⟨sb,1,none⟩=some (.int .i64 0):=by unfold World.cell?;rw[o8];rfl
 have q2:w7.cell? ⟨sb,2,none⟩=some (.bool false):=by unfold World.cell?;rw[o8];rfl
 have f1:w7.frozen? ⟨sb,1,none⟩=false:=by unfold World.frozen?;rw[o8];rfl
 have f2:w7.frozen? ⟨sb,2,none⟩=false:=by unfold World.frozen?;rw[o8];rfl
 clear o8
 go_upto_region 12 with fail
 refine bI ?_
 intro W8 wB
 obtain⟨jd,DW⟩:=eY.out.set 1 (.int .i64 sd)
 obtain⟨aU,eu⟩:=jd.set 2 (.bool tl)
 rw[←wB] at aU eu
 have jO:Hid (All B W8 (bg sb (qp sd tl st) 140 :: bg rq (wT R (.slice A5 R.fields.length c5)) 60 :: aD 26 3 (.slice A5 R.fields.length c5) R.fields.length (fds R.fields) :: aK p { c with last:=id } :: bg mv #[.int .i64 st,.bool false,.bool false,.int .i64 0,.bool false] 229 :: gB g m all first L :: aH aV c.live N f k :: aD 64 10 c.news nn xs :: aD 26 3 (.slice A n cc) n (fds l) :: cs)):=af aU
 have ja:=af ((iZ.out.trans DW).trans eu)
 clear jd aU DW eu wB q1 q2 f1 f2
 have jA:All B W8 (aK p { c with last:=id } :: _):=jO.out.pick [_,_,_]
 have xY:W8.cell? ⟨p,15,none⟩=some (.bool E):=by rw[←HE.out];exact jA.cc 15 (.bool c.jI) rfl
 have q9:=jA.cc 9 (.map (some c.live)) rfl
 have q7:W8.cell? ⟨p,7,none⟩=some (.pointer (some ⟨g,0,none⟩)):=by rw[←HD.out.1];exact jA.cc 7 c.book rfl
 have q1:W8.cell? ⟨sb,1,none⟩=some (.int .i64 sd):=by
  have h1:W8.heap[sb]?=some (.cells (qp sd tl st) 140 (0,0)):=jO.out.head
  unfold World.cell?
  rw[h1]
  rfl
 clear jA
 go_cut [85] (fun y wx=>y = .bool false∧wx=W8)
 case first=>
  rcases HSD.out with rfl | h0
  ·go_wp2_with fail
   go_meet
   exact⟨rfl,rfl⟩
  ·have h1:sd=0:=by omega
   subst h1
   cases E
   ·go_wp2_with fail
    go_meet
    exact⟨rfl,rfl⟩
   ·go_wp2_with fail
    go_meet
    exact⟨rfl,rfl⟩
 case rest=>
  obtain⟨rfl,hwc⟩:=hcut
  subst hwc
  have h1:=jO.out.pick [_,_,_,_,_,_]
  have hmp:bq aV wc c.live N f k:=h1.head
  obtain⟨W9,f9,k9,p9,h9,g9,e9,o9,n9⟩:=bq.CY qj hmp (i:=id) HI.out.1 HI.out.2.2.2.2 (some sb)
  have r9:(Instr.mapUpdate 93 (.map (some c.live)) (.int .i64 id) (.pointer (some ⟨sb,0,none⟩))).run Tryz.prog wc = .ok () W9:=p9
  have hk9:Kept (aH aV c.live N f k).F wc W9:=(Kept.refl _ _).grown g9 (fun j hj=>.inl (by injection hj with hj;exact hj.symm))
  have h2:All B W9 (aH aV c.live (N+1) f9 k9 :: _):=h1.step hk9 (fun b hb=>.inl hb) h9
  have iq:=af (ja.out.trans (h1.kept hk9))
  have eF:Hid (All B W9 (gB g m all first L :: _)):=af (h2.pick [_,_,_,_,_,_])
  have H9:=af (And.intro e9 n9)
  clear h1 hmp p9 h9 g9 e9 o9 n9 hk9 h2
  have q7b:W9.cell? ⟨p,7,none⟩=some (.pointer (some ⟨g,0,none⟩)):=by
   have jA:All B W9 (aK p { c with last:=id } :: _):=eF.out.pick [_,_,_,_,_]
   rw[←HD.out.1]
   exact jA.cc 7 c.book rfl
  go_wp2_with fail
  have hop:=ajC id W9 eF.out.head HI.out.1 HI.out.2.1 HI.out.2.2.1
  rw[HI.out.2.2.2.1] at hop
  refine hop.mono ?_
  rintro e ig ⟨rfl,Bn,wD⟩
  have Ph:Kept (gB g m all first L).F W9 ig:=⟨wD.os,wD.tape,wD.output,wD.size,fun j hj hF=>wD.block j hj (fun e=>hF (.inl e)) (fun e=>hF (.inr e))⟩
  have h2:All B ig (gB g m all first (sO L id 0) :: _):=eF.out.step Ph (fun b hb=>.inl hb) Bn
  have oK:=af (iq.out.trans (eF.out.kept Ph))
  have mM:=af h2
  clear hop Bn wD Ph h2 q7b q7 q1 xY q9 r9
  have hh:=mM.out.pick [_,_,_,_,_]
  have hh:=hh.pick [_,_,_,_,_,_,_]
  have HN:Hid (All B ig (aK p { c with last:=id } :: aD 64 10 c.news nn xs :: gB g m all first (sO L id 0) :: aH aV c.live (N+1) f9 k9 :: bg sb (qp sd tl st) 140 :: bg rq (wT R (.slice A5 R.fields.length c5)) 60 :: aD 26 3 (.slice A5 R.fields.length c5) R.fields.length (fds R.fields) :: bg mv #[.int .i64 st,.bool false,.bool false,.int .i64 0,.bool false] 229 :: aD 26 3 (.slice A n cc) n (fds l) :: cs)∧nn≤1000000):=af ⟨hh.pick [_],HNN.out⟩
  clear hh
  go_upto_region 18 with fail
  have xY:ig.cell? ⟨p,15,none⟩=some (.bool E):=by rw[←HE.out];exact HN.out.1.cc 15 (.bool c.jI) rfl
  obtain⟨qq0,qq1,qq2,qq3,qq4⟩:=G5 (HN.out.1.pick [_,_,_,_,_]).head
  --abX
  refine wp_region_held_drew (S:=fun w'=>w'.cell? ⟨p,15,none⟩=some (.bool E)∧w'.cell? ⟨rq,0,none⟩=some (.string R.aW)∧w'.cell? ⟨rq,1,none⟩=some (.string R.iH)∧w'.cell? ⟨rq,2,none⟩=some (.string R.ek)∧w'.cell? ⟨rq,3,none⟩=some (.string R.path)∧w'.cell? ⟨rq,4,none⟩=some (.slice A5 R.fields.length c5)) (by kernel_rfl) (⟨xY,qq0,qq1,qq2,qq3,qq4⟩) (fun hH=>?_)
  refine ag 0 110 hH ?_
  refine ag 1 111 hH ?_
  refine ag 2 112 hH ?_
  refine ag 3 113 hH ?_
  refine ag 4 114 hH ?_
  refine ag 5 115 hH ?_
  refine ag 6 116 hH ?_
  refine ag 7 117 hH ?_
  refine aR 8 (fun K hK=>?_)
  go_simp
  refine (I8 (CL id R (.slice A5 R.fields.length c5) E) _ HN.out.1.drew rfl HN.out.2).mono ?_
  rintro e oJ ⟨rfl,JF,v12,hA12⟩
  have wX:=af hA12
  have zI:=af ((oK.out.trans (by exact⟨rfl,rfl,rfl,ah _,fun _ _=>rfl⟩:Below B ig ig.drew)).trans JF)
  clear hA12 JF
  obtain⟨h2,h3,h4,h5,h6⟩:=G5 (wX.out.pick [_,_,_,_,_]).head
  refine hK.out _ _ (⟨by rw[←HE.out];exact wX.out.cc 15 (.bool c.jI) rfl,h2,h3,h4,h5,h6⟩) (fun hH=>?_)
  clear hK K
  try simp only[Act.put,az,ay,aA]
  refine wpAnyH_done (by kernel_rfl) ?_ _
  go_wp2_with fail
  go_end0
  have jC:=(wX.out.pick [_,_,_,_,_]).tail
  have jC:=(jC.pick [_,_,_,_,_,_]).tail
  have jC:=jC.pick [_,_,_,_,_]
  have jC:=jC.pick [_,_]
  have jC:=jC.pick [_,_,_,_]
  have jC:=jC.pick [_,_,_,_]
  have jC:=jC.pick [_,_,_,_]
  rw[sW.out]
  refine⟨rfl,zI.out,v12,.slice A5 R.fields.length c5,sb,N+1,f9,k9,H9.out.2,H9.out.1,?_⟩
  rw[←HST.out,←HE.out] at jC
  exact jC
end
section
open Go.RowKit Go.Maps
theorem acX (l:List UInt8):Lib.byteCells l=ak l:=rfl
theorem F5 {B b:Nat}{l:List UInt8}(s:ByteArray) (w:World) (h:Lib.IsBuffer 145 5 B b (ak l) w) (hB:B≤w.heap.size) (hl:l.length+s.size≤140737488355328) :
 Calls Tryz.prog 66 #[.pointer (some ⟨b,0,none⟩),.string s] w fun e w'=>e = .returned (.tuple #[.int .i64 s.size,.nilIface])∧Lib.IsBuffer 145 5 B b (ak (l++s.data.toList)) w'∧Below B w w':=by
 have h1:=Any.Buffer_WriteString_kept Tryz.lays178 B b (ak l) s w h hB (Lib.byteCells_one l) (by rw[show (ak l).length=l.length by simp[ak]];exact hl)
 refine h1.mono ?_
 rintro e w' ⟨rfl,h2,h3,-⟩
 refine⟨rfl,?_,h3⟩
 have e2:ak (l++s.data.toList)=ak l++Lib.byteCells s.data.toList:=by rw[acX];simp[ak]
 rw[e2]
 exact h2
theorem XA {B b:Nat}{l:List UInt8}(w:World) (h:Lib.IsBuffer 145 5 B b (ak l) w) :
 Calls Tryz.prog 68 #[.pointer (some ⟨b,0,none⟩)] w fun e w'=>e = .returned (.int .i64 (l.length:Nat))∧∃n,w'=w.drewN n:=by
 have h1:=Any.Buffer_Len Tryz.lays181 B b (ak l) w h
 rw[show (ak l).length=l.length by simp[ak]] at h1
 exact h1
theorem Xz {B b:Nat}{l:List UInt8}(w:World) (h:Lib.IsBuffer 145 5 B b (ak l) w) :
 Calls Tryz.prog 69 #[.pointer (some ⟨b,0,none⟩)] w fun e w'=>∃v,e = .returned v∧w'.ownsRow B 5 1 v l.length (ak l)∧∃n,w'=w.drewN n:=by
 have h1:=Any.Buffer_Bytes Tryz.lays183 B b (ak l) w h
 rw[show (ak l).length=l.length by simp[ak]] at h1
 exact h1
theorem vY {s t u:ByteArray}(hu:s++t=u) (h:s.size+t.size≤100000000):(∀w',(Op.stringOp .add s t).run Tryz.prog w' = .ok (.string u) w')∧u.size=s.size+t.size:=by
 subst hu
 exact⟨fun w'=>run_string_add_sum (P:=Tryz.prog) w' s t (by omega),ByteArray.size_append⟩
theorem M6:(⟨#[32]⟩:ByteArray).size=1:=rfl
theorem aaW:(⟨#[32,72,84,84,80,47,49,46,49,13,10]⟩:ByteArray).size=11:=rfl
theorem M5:(⟨#[58,32]⟩:ByteArray).size=2:=rfl
theorem G9:(⟨#[13,10]⟩:ByteArray).size=2:=rfl
theorem M4:(⟨#[99,111,110,116,101,110,116,45,108,101,110,103,116,104,58,32]⟩:ByteArray).size=16:=rfl
theorem aht {m t u1 u2 u3:ByteArray}{l:List UInt8}(h1:m++⟨#[32]⟩=u1) (h2:u1++t=u2) (h3:u2++⟨#[32,72,84,84,80,47,49,46,49,13,10]⟩=u3) (hl:(m++⟨#[32]⟩ ++ t++⟨#[32,72,84,84,80,47,49,46,49,13,10]⟩:ByteArray).data.toList=l):u3.data.toList=l:=by
 subst h1 h2 h3
 exact hl
theorem aei {n v u1 u2 u3:ByteArray}{l:List UInt8}(h1:n++⟨#[58,32]⟩=u1) (h2:u1++v=u2) (h3:u2++⟨#[13,10]⟩=u3) (hl:(n++⟨#[58,32]⟩ ++ v++⟨#[13,10]⟩:ByteArray).data.toList=l):u3.data.toList=l:=by
 subst h1 h2 h3
 exact hl
theorem adb {d u1 u2:ByteArray}{l:List UInt8}(h1:(⟨#[99,111,110,116,101,110,116,45,108,101,110,103,116,104,58,32]⟩:ByteArray)++d=u1) (h2:u1++⟨#[13,10]⟩=u2) (hl:((⟨#[99,111,110,116,101,110,116,45,108,101,110,103,116,104,58,32]⟩:ByteArray)++d++⟨#[13,10]⟩).data.toList=l):u2.data.toList=l:=by
 subst h1 h2
 exact hl
theorem ahv (a:gW):(a.aW++⟨#[32]⟩ ++ a.tgt++⟨#[32,72,84,84,80,47,49,46,49,13,10]⟩:ByteArray).data.toList=cr (ng a):=by
 simp[cr,ng,zk]
theorem aem (f:Fd):(f.1.1++⟨#[58,32]⟩ ++ f.1.2++⟨#[13,10]⟩:ByteArray).data.toList=cr (fP f):=by
 simp[cr,fP]
theorem adf (n:Nat):((⟨#[99,111,110,116,101,110,116,45,108,101,110,103,116,104,58,32]⟩:ByteArray)++aJ (jH n)++⟨#[13,10]⟩).data.toList=cr (fP (pX n)):=by
 have h:(aJ (jH n)).data.toList=jH n:=l9 _
 simp only[ByteArray.data_append,Array.toList_append,h]
 unfold cr fP pX
 dsimp only
 rw[h]
 simp[bu]
def WL (W:World) (b:Nat) (a:gW) (n:Nat) (iv:Value) (wr:World):Prop:=∃k:Nat,iv = .int .i64 k∧k≤n∧Lib.IsBuffer 145 5 b b (ak (cr (ng a)++((a.fields.take k).map fP).flatMap cr)) wr∧Below b W wr
theorem adD (n:Nat):(jH n).length≤n+1:=by
 induction n using Nat.strongRecOn with
 | ind n ih=>
  by_cases h:n<10
  ·rw[Oz h];simp
  ·rw[Oy h,aN]
   have:=ih (n / 10) (by omega)
   simp only[fe,List.length_nil]
   omega
def zW (w:World) (a:gW) (e:Ending) (w':World):Prop:=
 if 65536<(jB a).length then e = .returned (.tuple #[.slice none 0 0,.int .i64 2])∧Below w.heap.size w w'
 else ∃v,e = .returned (.tuple #[v,.int .i64 0])∧w'.ownsRow w.heap.size 5 1 v (jB a++a.body.data.toList).length (ak (jB a++a.body.data.toList))∧Below w.heap.size w w'
theorem ag7 {A:Option Addr}{n c:Nat}(a:gW) (w:World) (hr:Rd w w.heap.size 3 A n (fds a.fields)) (hn:n≤1000000) (hz:∀f ∈ a.fields,f.1.1.size≤1000000∧f.1.2.size≤1000000) (hm:a.aW.size≤1000000) (ht:a.tgt.size≤1000000) (hb:a.body.size≤1000000) (hmay:qg a=true) :
 Calls Tryz.prog 24 #[mP a (.slice A n c)] w (zW w a):=by
 have bf:a.fields.length=n:=by have:=hr.1;rw[jJ] at this;omega
 have dX:=af bf
 have HR:=af hr
 have HZ:=af hz
 have HMY:=af (fun (w1:World) (h:Below w.heap.size w w1)=>afG (c:=c) a w1 ((hr.below h (ah _)).more h.size) (by omega) (fun f hf=>by have:=hz f hf;exact⟨by omega,by omega⟩) (by omega) (by omega))
 rw[hmay] at HMY
 have HLG:=af (fun w=>afi a (.slice A n c) w)
 have YS:(cr (ng a)).length≤2000100:=by
  have h1:a.aW.data.toList.length=a.aW.size:=nV
  have h2:a.tgt.data.toList.length=a.tgt.size:=nV
  simp only[cr,ng,zk,aN,fe,List.length_nil,h1,h2]
  omega
 have YU:∀k,((((a.fields.take k).map fP).flatMap cr).length≤k*2000100):=by
  intro k
  induction k with
  | zero=>simp
  | succ k ih=>
   rcases vW k a.fields.length with hk | hk
   ·rw[iw,a_ hk,iL,j6,List.flatMap_append,aN]
    have h3:=hz _ (List.getElem_mem hk)
    have h1:a.fields[k].1.1.data.toList.length=a.fields[k].1.1.size:=nV
    have h2:a.fields[k].1.2.data.toList.length=a.fields[k].1.2.size:=nV
    have h4:(([a.fields[k]].map fP).flatMap cr).length≤2000100:=by
     simp only[lV,vU,List.flatMap_cons,List.flatMap_nil,kR,cr,fP,aN,fe,List.length_nil,h1,h2]
     omega
    omega
   ·have e1:a.fields.take (k+1)=a.fields:=cB (by omega)
    have e2:a.fields.take k=a.fields:=cB hk
    rw[e2] at ih
    rw[e1]
    exact gM ih (Cf _ (zU k))
 have gz:=af (And.intro YS YU)
 obtain⟨q,hq⟩:∃q,w.heap.size=q:=⟨_,rfl⟩
 have HQ:=af hq
 clear hr hz hmay bf YS YU
 unfold mP
 obtain⟨W0,hW0⟩:∃W0,w.alloc (.cells #[.string a.aW,.string a.tgt,.slice A n c,.string a.body] 68)=W0:=⟨_,rfl⟩
 have hb0:Below w.heap.size w W0:=by rw[←hW0];exact (Below.refl _ _).alloc (ah _) _
 have hk0:W0.heap[q]?=some (.cells #[.string a.aW,.string a.tgt,.slice A n c,.string a.body] 68 (0,0)):=by
  rw[←hW0,←hq]
  exact aZ _ _
 have hs0:W0.heap.size=q+1:=by rw[←hW0,←hq];simp
 have hcell:∀wr,Below (q+1) W0 wr→wr.cell? ⟨q,0,none⟩=some (.string a.aW)∧wr.cell? ⟨q,1,none⟩=some (.string a.tgt)∧wr.cell? ⟨q,2,none⟩=some (.slice A n c)∧wr.cell? ⟨q,3,none⟩=some (.string a.body):=fun wr hb=>by
  have h:=(hb.block q (by omega)).trans hk0
  refine⟨?_,?_,?_,?_⟩ <;> (unfold World.cell?;rw[h];rfl)
 have HC:=af hcell
 have dY:=af (And.intro hW0 (And.intro hb0 hs0))
 obtain⟨c0,c1,c2,c3⟩:=hcell W0 (Below.refl _ _)
 have iU:=af (HMY.out W0 hb0)
 unfold mP at iU HLG
 clear hW0 hb0 hk0 hcell hs0
 go_enter Tryz.func24,Tryz.ntmps24
 go_upto_region 1 with fail
 try rw[hq]
 rw[dY.out.1]
 clear hq
 go_wp2_with fail
 refine iU.out.mono ?_
 rintro e w1 ⟨rfl,hb1⟩
 have D5:Below (q+1) W0 w1:=by rw[←dY.out.2.2];exact hb1
 have hb1w:=D5.size
 have hs1:q+1≤w1.heap.size:=by have:=dY.out.2.2;omega
 have bH:=af D5
 clear hb1 D5 c0 c1 c2 c3 iU
 go_upto_region 4 with fail
 refine bI ?_
 intro W2 hW2
 obtain⟨b,AU⟩:∃b,w1.heap.size=b:=⟨_,rfl⟩
 have Im:Lib.IsBuffer 145 5 b b (ak []) W2:=by
  rw[hW2,←AU]
  exact Lib.fresh_isBuffer _ _ w1
 have hs2:W2.heap.size=b+1:=by rw[hW2,←AU];simp
 have hb2:Below (q+1) W0 W2:=by rw[hW2];exact bH.out.alloc hs1 _
 rw[AU]
 have Bf:q+1≤b:=by omega
 have aI:=af hb2
 obtain⟨c0,c1,-,-⟩:=HC.out W2 hb2
 obtain⟨U1,vo⟩:∃u,a.aW++⟨#[32]⟩=u:=⟨_,rfl⟩
 obtain⟨Ci,s1⟩:=vY vo (by rw[M6];omega)
 obtain⟨U2,l7⟩:∃u,U1++a.tgt=u:=⟨_,rfl⟩
 obtain⟨z_,s2⟩:=vY l7 (by rw[s1,M6];omega)
 obtain⟨U3,GL⟩:∃u,U2++⟨#[32,72,84,84,80,47,49,46,49,13,10]⟩=u:=⟨_,rfl⟩
 obtain⟨Lv,s3⟩:=vY GL (by rw[s2,s1,M6,aaW];omega)
 have hU:=aht vo l7 GL (ahv a)
 have HW:=af (F5 (l:=[]) U3 W2 Im (by omega) (by rw[s3,s2,s1,M6,aaW];simp only[List.length_nil];omega))
 rw[hU,jQ] at HW
 clear vo l7 GL hU s1 s2 s3
 have HBQ:=af AU
 clear hW2 Im AU
 go_wp2_with fail
 refine HW.out.mono ?_
 rintro e w3 ⟨rfl,Yy,hb3⟩
 have HBU3:=af Yy
 have aM:=af hb3
 have OU:Below (q+1) W0 w3:=hb2.trans (hb3.mono Bf)
 obtain⟨-,-,c2,-⟩:=HC.out w3 OU
 have Hu:=af OU
 clear Yy hb3 OU HW c0 c1 hb2 Ci z_ Lv
 go_wp2_with fail
 clear c2
 go_loopw [21] (fun iv wr=>WL w3 b a n iv wr) (fun iv _=>n-(intOf iv).toNat)
 case atStart=>exact⟨0,rfl,aL _,by simpa using HBU3.out,Below.refl _ _⟩
 case round=>
  obtain⟨k,rfl,hk,Im,hb⟩:=hrel
  have dz:=af hb
  have KW:=af Im
  have OZ:Below (q+1) W0 wr:=Hu.out.trans (hb.mono Bf)
  have HBQ4:=af OZ
  have mI:b<wr.heap.size:=Lib.IsBuffer.lt Im
  have Mg:Below w.heap.size w wr:=dY.out.2.1.trans (OZ.mono (by rw[HQ.out];omega))
  have HBW4:=af Mg
  clear Im hb OZ
  by_cases hlt:k<n
  ·obtain⟨-,x,o,rfl,hbl,hc⟩:=mE (HR.out.below Mg (ah _)) (by omega)
   obtain⟨f,hf⟩:∃f,a.fields[k]?=some f:=⟨_,a_ (by have:=dX.out;omega)⟩
   obtain⟨z0,z1,z2⟩:=hc k f hf
   have n0:(k:Int)<n:=by omega
   have hfz:=HZ.out f (fq hf)
   have hxw:x<wr.heap.size:=by have:=Mg.size;omega
   have yV:cr (ng a)++((a.fields.take k).map fP).flatMap cr++cr (fP f)=cr (ng a)++((a.fields.take (k+1)).map fP).flatMap cr:=by
    rw[iw,hf,iL,j6,List.flatMap_append,jf]
    simp
   have hfs:=aem f
   have iF:=gz.out.2 k
   have Pp:=gz.out.1
   have Hy:=af yV
   clear hc hf yV Mg
   obtain⟨⟨nm,vl⟩,nv⟩:=f
   simp only at z0 z1 z2 hfz Hy
   clear hbl
   go_upto_region 8 with fail
   refine bI ?_
   intro W4 bA
   obtain⟨y,hy⟩:∃y,wr.heap.size=y:=⟨_,rfl⟩
   have hb4:Below wr.heap.size wr W4:=by rw[bA];exact (Below.refl _ _).alloc (ah _) _
   have hk4:W4.heap[y]?=some (.cells #[.string nm,.string vl,.bool nv] 26 (0,0)):=by rw[bA,←hy];exact aZ _ _
   have y0:W4.cell? ⟨y,0,none⟩=some (.string nm):=by unfold World.cell?;rw[hk4];rfl
   have y1:W4.cell? ⟨y,1,none⟩=some (.string vl):=by unfold World.cell?;rw[hk4];rfl
   have gK:=af (hb4)
   rw[hy]
   clear bA hk4 hb4 z0 z1 z2 hy
   obtain⟨U1,vo⟩:∃u,nm++⟨#[58,32]⟩=u:=⟨_,rfl⟩
   obtain⟨Ci,s1⟩:=vY vo (by rw[M5];omega)
   obtain⟨U2,l7⟩:∃u,U1++vl=u:=⟨_,rfl⟩
   obtain⟨z_,s2⟩:=vY l7 (by rw[s1,M5];omega)
   obtain⟨U3,GL⟩:∃u,U2++⟨#[13,10]⟩=u:=⟨_,rfl⟩
   obtain⟨Lv,s3⟩:=vY GL (by rw[s2,s1,M5,G9];omega)
   have hU:=aei vo l7 GL hfs
   obtain⟨ll,hl0⟩:∃ll,cr (ng a)++((a.fields.take k).map fP).flatMap cr=ll:=⟨_,rfl⟩
   have hll0:ll.length≤2000100+k*2000100:=by rw[←hl0,aN];omega
   have hkk:k*2000100≤1000000*2000100:=Cf _ (by omega)
   rw[hl0] at KW Hy
   have HW:=af (F5 (l:=ll) U3 W4 (Lib.IsBuffer.old KW.out gK.out) (by have:=gK.out.size;omega) (by rw[s3,s2,s1,M5,G9];omega))
   rw[hU,Hy.out] at HW
   clear vo l7 GL hU s1 s2 s3 hl0 hll0 hkk hfs iF Pp
   go_wp2_with fail
   refine HW.out.mono ?_
   rintro e w5 ⟨rfl,Yz,aT⟩
   have HN:Hid (WL w3 b a n (.int .i64 (k+1:Nat)) w5):=af ⟨k+1,rfl,hlt,Yz,(dz.out.trans (gK.out.mono (mg mI))).trans aT⟩
   clear Yz aT Ci z_ Lv y0 y1 HW
   go_wp2
   go_roundw
   case rel=>exact HN.out
   case measure=>simp[intOf];omega
  ·have hkn:k=n:=by omega
   have HBU:Hid (Lib.IsBuffer 145 5 b b (ak (cr (ng a)++(a.fields.map fP).flatMap cr)) wr):=af (by
    have h:=KW.out
    rwa [cB (by have:=dX.out;omega)] at h)
   have iF:=gz.out.2 n
   have Pp:=gz.out.1
   rw[cB (by have:=dX.out;omega)] at iF
   obtain⟨ll,hl0⟩:∃ll,cr (ng a)++(a.fields.map fP).flatMap cr=ll:=⟨_,rfl⟩
   have hll0:ll.length≤2000100+1000000*2000100:=by
    have hkk:n*2000100≤1000000*2000100:=Cf _ hn
    rw[←hl0,aN];omega
   rw[hl0] at HBU
   have HL0:=af hl0
   obtain⟨c0,c1,c2,c3⟩:=HC.out wr HBQ4.out
   obtain⟨LB,hLB⟩:∃LB,zo a=LB:=⟨_,rfl⟩
   rw[hLB] at HLG
   have HLB:=af hLB
   clear iF Pp hl0 hLB hkn
   go_wp2_with fail
   refine (HLG.out _).mono ?_
   rintro e w6 ⟨rfl,dO⟩
   have gK:=af (dz.out.trans (dO.mono (mg mI)))
   have HBQ6:=af (Hu.out.trans (gK.out.mono Bf))
   have KX:=af (Lib.IsBuffer.old HBU.out dO)
   have hsb6:b<w6.heap.size:=Lib.IsBuffer.lt KX.out
   clear dO c0 c1 c2 c3 dz KW HBU
   cases LB with
   | true=>
    obtain⟨-,-,-,c3⟩:=HC.out w6 HBQ6.out
    obtain⟨z,hz⟩:∃z,a.body.size=z:=⟨_,rfl⟩
    have HZB:=af hz
    have hzb:z≤1000000:=by omega
    have O9:=adf z
    obtain⟨D,hD⟩:∃D,aJ (jH z)=D:=⟨_,rfl⟩
    have hDs:D.size≤1000001:=by rw[←hD,pz];have:=adD z;omega
    have HDG:=af (fun w=>aga z w (by omega))
    rw[hD] at O9 HDG
    have HHD:Hid (jB a=ll++cr (fP (pX z))++[13,10]):=af (by unfold jB gH;rw[HLB.out,ax rfl,←HL0.out,HZB.out];simp)
    clear hD
    go_wp2_with fail
    refine (HDG.out _).mono ?_
    rintro e w7 ⟨rfl,dU⟩
    have iZ:=af (gK.out.trans (dU.mono (mg hsb6)))
    have HBU7:=af (Lib.IsBuffer.old KX.out dU)
    clear dU c3
    obtain⟨U1,vo⟩:∃u,⟨#[99,111,110,116,101,110,116,45,108,101,110,103,116,104,58,32]⟩ ++ D=u:=⟨_,rfl⟩
    obtain⟨Ci,s1⟩:=vY vo (by rw[M4];omega)
    obtain⟨U2,l7⟩:∃u,U1++⟨#[13,10]⟩=u:=⟨_,rfl⟩
    obtain⟨z_,s2⟩:=vY l7 (by rw[s1,M4,G9];omega)
    have hU:=adb vo l7 O9
    have hU2:(cr (fP (pX z))).length≤1000100:=by
     rw[←hU]
     have e1:U2.data.toList.length=U2.size:=nV
     rw[e1,s2,s1,M4,G9]
     omega
    have HW:=af (F5 (l:=ll) U2 w7 HBU7.out (mg (Lib.IsBuffer.lt HBU7.out)) (by rw[s2,s1,M4,G9];omega))
    rw[hU] at HW
    clear vo l7 hU s1 s2 O9
    go_wp2_with fail
    refine HW.out.mono ?_
    rintro e w7b ⟨rfl,YA,dU⟩
    have HB7b:=af (iZ.out.trans dU)
    have Wp:=af YA
    clear YA dU Ci z_ HW
    have nA:=af (F5 (l:=ll++cr (fP (pX z))) ⟨#[13,10]⟩ w7b Wp.out (mg (Lib.IsBuffer.lt Wp.out)) (by rw[G9];rw[aN];omega))
    rw[show (⟨#[13,10]⟩:ByteArray).data.toList=[13,10] from rfl,←HHD.out] at nA
    go_wp2_with fail
    refine nA.out.mono ?_
    rintro e w8 ⟨rfl,Gm,bF⟩
    have ja:=af (HB7b.out.trans bF)
    have Nu:=af Gm
    have HLEN:=af (XA w8 Gm)
    obtain⟨hl,A_⟩:∃hl,(jB a).length=hl:=⟨_,rfl⟩
    rw[A_] at HLEN
    have Dk:=af A_
    clear Gm bF nA A_
    go_wp2_with fail
    refine HLEN.out.mono ?_
    rintro e w9 ⟨rfl,dd,GQ⟩
    have JM:Lib.IsBuffer 145 5 b b (ak (jB a)) w9:=by rw[GQ];exact Lib.IsBuffer.drewN Nu.out dd
    have dB:Below b w3 w9:=by rw[GQ];exact tN ja.out dd
    have iq:=af dB
    have Jf:=af JM
    have eu:Hid (∀w',Below b w3 w'→Below w.heap.size w w'):=af (fun w' h=>dY.out.2.1.trans ((Hu.out.trans (h.mono Bf)).mono (by rw[HQ.out];omega)))
    clear JM dB GQ HLEN
    by_cases hh : 65536<hl
    ·have t1:((hl:Nat):Int) > 65536:=by omega
     go_wp2
     go_ret2
     show zW w a _ _
     unfold zW
     rw[Dk.out,ax hh]
     exact⟨rfl,eu.out _ iq.out⟩
    ·have t1:¬((hl:Nat):Int) > 65536:=by omega
     obtain⟨-,-,-,c3⟩:=HC.out w9 (Hu.out.trans (iq.out.mono Bf))
     have yA:=af (F5 (l:=jB a) a.body w9 Jf.out (mg (Lib.IsBuffer.lt Jf.out)) (by rw[Dk.out];omega))
     go_wp2_with fail
     refine yA.out.mono ?_
     rintro e Hf ⟨rfl,JL,JE⟩
     have BL:=af (iq.out.trans JE)
     have yt:=af (Xz Hf JL)
     clear JL JE yA c3
     go_wp2_with fail
     refine yt.out.mono ?_
     rintro e ig ⟨v,rfl,hown,d2,Ki⟩
     have qQ:Below b w3 ig:=by rw[Ki];exact tN BL.out d2
     have HE:=af (And.intro (pG hown (show w.heap.size≤b by rw[HQ.out];omega)) (eu.out _ qQ))
     clear hown Ki qQ yt
     go_wp2
     go_ret2
     show zW w a _ _
     unfold zW
     rw[aj (by rw[Dk.out];omega)]
     exact⟨v,rfl,HE.out.1,HE.out.2⟩
   | false=>
    have HHD:Hid (jB a=ll++[13,10]):=af (by unfold jB gH;rw[HLB.out,aj (by simp),←HL0.out];simp)
    have nA:=af (F5 (l:=ll) ⟨#[13,10]⟩ w6 KX.out (mg (Lib.IsBuffer.lt KX.out)) (by rw[G9];omega))
    rw[show (⟨#[13,10]⟩:ByteArray).data.toList=[13,10] from rfl,←HHD.out] at nA
    go_wp2_with fail
    refine nA.out.mono ?_
    rintro e w8 ⟨rfl,Gm,bF⟩
    have ja:=af (gK.out.trans bF)
    have Nu:=af Gm
    have HLEN:=af (XA w8 Gm)
    obtain⟨hl,A_⟩:∃hl,(jB a).length=hl:=⟨_,rfl⟩
    rw[A_] at HLEN
    have Dk:=af A_
    clear Gm bF nA A_
    go_wp2_with fail
    refine HLEN.out.mono ?_
    rintro e w9 ⟨rfl,dd,GQ⟩
    have JM:Lib.IsBuffer 145 5 b b (ak (jB a)) w9:=by rw[GQ];exact Lib.IsBuffer.drewN Nu.out dd
    have dB:Below b w3 w9:=by rw[GQ];exact tN ja.out dd
    have iq:=af dB
    have Jf:=af JM
    have eu:Hid (∀w',Below b w3 w'→Below w.heap.size w w'):=af (fun w' h=>dY.out.2.1.trans ((Hu.out.trans (h.mono Bf)).mono (by rw[HQ.out];omega)))
    clear JM dB GQ HLEN
    by_cases hh : 65536<hl
    ·have t1:((hl:Nat):Int) > 65536:=by omega
     go_wp2
     go_ret2
     show zW w a _ _
     unfold zW
     rw[Dk.out,ax hh]
     exact⟨rfl,eu.out _ iq.out⟩
    ·have t1:¬((hl:Nat):Int) > 65536:=by omega
     obtain⟨-,-,-,c3⟩:=HC.out w9 (Hu.out.trans (iq.out.mono Bf))
     have yA:=af (F5 (l:=jB a) a.body w9 Jf.out (mg (Lib.IsBuffer.lt Jf.out)) (by rw[Dk.out];omega))
     go_wp2_with fail
     refine yA.out.mono ?_
     rintro e Hf ⟨rfl,JL,JE⟩
     have BL:=af (iq.out.trans JE)
     have yt:=af (Xz Hf JL)
     clear JL JE yA c3
     go_wp2_with fail
     refine yt.out.mono ?_
     rintro e ig ⟨v,rfl,hown,d2,Ki⟩
     have qQ:Below b w3 ig:=by rw[Ki];exact tN BL.out d2
     have HE:=af (And.intro (pG hown (show w.heap.size≤b by rw[HQ.out];omega)) (eu.out _ qQ))
     clear hown Ki qQ yt
     go_wp2
     go_ret2
     show zW w a _ _
     unfold zW
     rw[aj (by rw[Dk.out];omega)]
     exact⟨v,rfl,HE.out.1,HE.out.2⟩
end
section
def CZ (n:Nat):Code→Option Code
 | .region k ops d=>if k=n then some (.region k ops d) else none
 | .loop c=>CZ n c
 | .seq a b=>match CZ n a with
  | some c=>some c
  | none=>CZ n b
 | .block _ c=>CZ n c
 | .scope c=>CZ n c
 | .cond _ a b=>match CZ n a with
  | some c=>some c
  | none=>CZ n b
 | _=>none
theorem abw {P:Program}{c c':Code}{Q:Exit→Act→World→Prop}{a:Act}{w:World}(h:c=c') (hw:Code.wp P c Q a w):Code.wp P c' Q a w:=h ▸ hw
end
end Go.Proofs.YtpkmciohehaboaaGreatDoor
