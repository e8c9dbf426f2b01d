/- Part 7 of the proof. -/
import Derived.Test.YtpkmciohehaboaaGreatDoorK0
import Derived.Test.YtpkmciohehaboaaGreatDoorK6
import Derived.Defers
import Derived.Recover
import Derived.RangeFuncNested
import Derived.RangeFuncBound
import Derived.RangeFuncCalls
import Derived.RangeFuncLeaves
import Derived.Shelf.Abstract
import Derived.Shelf.RegionOpen
import Derived.OwnWalkIn
import Derived.TacticsInMore
import Derived.LoopNIn
import Derived.LoopIn
set_option maxRecDepth 100000
set_option maxHeartbeats 100000000
set_option linter.unusedVariables false
set_option linter.unusedSimpArgs false
set_option linter.unusedSectionVars false
set_option linter.unnecessarySimpa false
namespace Go.Proofs.YtpkmciohehaboaaGreatDoor
section
open Go.RowKit
theorem ajH {P:Program}{o0 o1:Oper}{K:Exit→Act→List Frame→World→Prop}{a:Act}{c₀:Frame}{cs:List Frame}{w:World}{v:Value}{older:List PanicEntry}{d0 d1:Nat}
 (h0:o0.op = .call { callee:=.builtin .recover,args:=#[],argTypes:=#[] }) (g0:o0.guard=none) (hd:o0.dst=some d0) (h1:o1.op = .assign (.tmp d0)) (g1:o1.guard=none) (hd1:o1.dst=some d1)
 (hm:c₀.mode = .panicking ({ v:=v,recovered:=false } :: older)) (hsz:d0<a.tmps.size)
 (h:K .normal ((a.put (some d0) v).put (some d1) v) ({ c₀ with mode:=.panicking ({ v:=v,recovered:=true } :: older) } :: cs) w):wpOpsS P #[o0,o1] K (List.range 2) a (c₀ :: cs) w:=by
 have e:List.range 2=[0,1]:=rfl
 rw[e]
 simp[wpOpsS,Region.wanted,g0,g1,execOp,h0,h1,hd,hd1,go_sem,recoverD,hm,hsz]
 exact h
theorem ah9 (v:Value) (w:World):(Instr.typeAssert (.iface 258 v) 20 258 true).run Tryz.prog w = .ok (.tuple #[v,.bool true]) w:=by
 simp[Instr.typeAssert,run_underlying Tryz.underlying258,go_sem,Result.andThen]
theorem abx {P:Program}{c:Code}{Q:Exit→Act→World→Prop}{a a':Act}{w:World}(h:a=a') (h2:c.wp P Q a' w):c.wp P Q a w:=h ▸ h2
structure Cat (w w':World) (d x4 x5:Nat) (mo li:Int) (g z:Nat):Prop where
 dec:w'.heap[d]?=some (F_ mo li g true)
 r4:w'.heap[x4]?=some (.cells #[.slice none 0 0] 22 (0,0))
 r5:w'.heap[x5]?=some (.cells #[.int .i64 (z:Int)] 29 (0,0))
 kept:Kept (fun k=>k=d∨k=x4∨k=x5) w w'
theorem ac9 (x2 x4 x5 d:Nat) (mo li:Int) (g z:Nat) (v4:Value) (v5:Int) (older:List PanicEntry) (w:World)
 (h2:w.heap[x2]?=some (.cells #[.pointer (some ⟨d,0,none⟩)] 95 (0,0))) (h4:w.heap[x4]?=some (.cells #[v4] 22 (0,0))) (h5:w.heap[x5]?=some (.cells #[.int .i64 v5] 29 (0,0)))
 (hd:w.heap[d]?=some (F_ mo li g false)) (n4:d≠x4) (n5:d≠x5) (n6:x4≠x5) :
 CallsD Tryz.prog 190 #[.pointer (some ⟨x2,0,none⟩),.pointer (some ⟨x4,0,none⟩),.pointer (some ⟨x5,0,none⟩)] (.panicking ({ v:=.iface 258 (.agg #[.int .i64 (z:Int)]),recovered:=false } :: older)) w fun e u' w'=>
  e = .returned (.tuple #[])∧u' = .panicking ({ v:=.iface 258 (.agg #[.int .i64 (z:Int)]),recovered:=true } :: older)∧Cat w w' d x4 x5 mo li g z:=by
 refine callsD_of_wpS Tryz.func190 rfl fun c₀ cs hu=>?_
 have c2:w.cell? ⟨x2,0,none⟩=some (.pointer (some ⟨d,0,none⟩)):=by unfold World.cell?;rw[h2];rfl
 have c4:w.cell? ⟨x4,0,none⟩=some v4:=by unfold World.cell?;rw[h4];rfl
 have c5:w.cell? ⟨x5,0,none⟩=some (.int .i64 v5):=by unfold World.cell?;rw[h5];rfl
 have cd:w.cell? ⟨d,3,none⟩=some (.bool false):=by unfold World.cell?;rw[hd];rfl
 have f4:w.frozen? ⟨x4,0,none⟩=false:=by unfold World.frozen?;rw[h4];simp
 have f5:w.frozen? ⟨x5,0,none⟩=false:=by unfold World.frozen?;rw[h5];simp
 have fd:w.frozen? ⟨d,3,none⟩=false:=by unfold World.frozen?;rw[hd];simp[F_]
 refine wpS_seq (wpS_region (ajH rfl rfl rfl rfl rfl rfl hu (by simp[Tryz.ntmps190]) ?_))
 refine wpS_of_wp ?_
 refine Code.wp_mono (Q:=fun e a' w'=>e = .normal∧a'.defers=[]∧Cat w w' d x4 x5 mo li g z) ?_ ?_
 ·rintro e a w' ⟨rfl,had,hc⟩
  exact⟨had,_,rfl,.tuple #[],by simp[results,Tryz.results190,go_sem],rfl,rfl,hc⟩
 rw[Tryz.ntmps190]
 refine abx (a':={ tmps:=#[.pointer (some ⟨x2,0,none⟩),.pointer (some ⟨x4,0,none⟩),.pointer (some ⟨x5,0,none⟩),.iface 258 (.agg #[.int .i64 (z:Int)]),undef,undef,.iface 258 (.agg #[.int .i64 (z:Int)]),undef,undef,undef,undef,undef,undef,undef,undef,undef,undef,undef,undef,undef,undef,undef],defers:=[] }) (by kernel_rfl) ?_
 have hasf:=ah9
 obtain⟨Q,hQ⟩:∃Q:World→Prop,(fun w'=>Cat w w' d x4 x5 mo li g z)=Q:=⟨_,rfl⟩
 have HQ:=af hQ
 have l2:=(Array.getElem?_eq_some_iff.1 h2).1
 have l4:=(Array.getElem?_eq_some_iff.1 h4).1
 have l5:=(Array.getElem?_eq_some_iff.1 h5).1
 have ld:=(Array.getElem?_eq_some_iff.1 hd).1
 have H2:=af h2
 have H4:=af h4
 have H5:=af h5
 have HD:=af hd
 clear hQ h2 h4 h5 hd
 go_wp2
 go_region
 obtain⟨W1,hW1⟩:∃W1,w.setCell ⟨d,3,none⟩ (.bool true)=W1:=⟨_,rfl⟩
 have a1:W1.heap[d]?=some (F_ mo li g true):=by rw[←hW1,zB _ HD.out];rfl
 have o1:∀k,k≠d→W1.heap[k]?=w.heap[k]?:=fun k hk=>by rw[←hW1];exact Below.heap_setCell _ _ _ _ hk
 have k1:Kept (fun k=>k=d∨k=x4∨k=x5) w W1:=by rw[←hW1];exact (Kept.refl (fun k=>k=d∨k=x4∨k=x5) w).setCell (.inl rfl) _ _
 rw[hW1]
 obtain⟨W2,hW2⟩:∃W2,W1.setCell ⟨x4,0,none⟩ (.slice none 0 0)=W2:=⟨_,rfl⟩
 have a2:W2.heap[x4]?=some (.cells #[.slice none 0 0] 22 (0,0)):=by rw[←hW2,zB _ ((o1 x4 (Ne.symm n4)).trans H4.out)];rfl
 have o2:∀k,k≠x4→W2.heap[k]?=W1.heap[k]?:=fun k hk=>by rw[←hW2];exact Below.heap_setCell _ _ _ _ hk
 have k2:Kept (fun k=>k=d∨k=x4∨k=x5) w W2:=by rw[←hW2];exact k1.setCell (.inr (.inl rfl)) _ _
 rw[hW2]
 obtain⟨W3,hW3⟩:∃W3,W2.setCell ⟨x5,0,none⟩ (.int .i64 (z:Int))=W3:=⟨_,rfl⟩
 have a3:W3.heap[x5]?=some (.cells #[.int .i64 (z:Int)] 29 (0,0)):=by rw[←hW3,zB _ (((o2 x5 (Ne.symm n6)).trans (o1 x5 (Ne.symm n5))).trans H5.out)];rfl
 have o3:∀k,k≠x5→W3.heap[k]?=W2.heap[k]?:=fun k hk=>by rw[←hW3];exact Below.heap_setCell _ _ _ _ hk
 have k3:Kept (fun k=>k=d∨k=x4∨k=x5) w W3:=by rw[←hW3];exact k2.setCell (.inr (.inr rfl)) _ _
 rw[hW3]
 have hs:=k3.size
 have hal:∀k (o:Obj),k<W3.heap.size→(W3.alloc o).drew.heap[k]?=W3.heap[k]?:=fun k o hk=>Below.heap_alloc W3 o k hk
 exact⟨rfl,rfl,(hal d _ (by omega)).trans (((o3 d n5).trans (o2 d n4)).trans a1),(hal x4 _ (by omega)).trans ((o3 x4 n6).trans a2),(hal x5 _ (by omega)).trans a3,(k3.alloc _).drew⟩
theorem ajG {P:Program}{o0 o1:Oper}{K:Exit→Act→List Frame→World→Prop}{a:Act}{c₀:Frame}{cs:List Frame}{w:World}{d0 d1:Nat}
 (h0:o0.op = .call { callee:=.builtin .recover,args:=#[],argTypes:=#[] }) (g0:o0.guard=none) (hd:o0.dst=some d0) (h1:o1.op = .assign (.tmp d0)) (g1:o1.guard=none) (hd1:o1.dst=some d1)
 (hm:c₀.mode = .returning) (hsz:d0<a.tmps.size)
 (h:K .normal ((a.put (some d0) .nilIface).put (some d1) .nilIface) (c₀ :: cs) w):wpOpsS P #[o0,o1] K (List.range 2) a (c₀ :: cs) w:=by
 have e:List.range 2=[0,1]:=rfl
 rw[e]
 simp[wpOpsS,Region.wanted,g0,g1,execOp,h0,h1,hd,hd1,go_sem,recoverD,hm,hsz]
 exact h
theorem XE (x2 x4 x5:Nat) (w:World) :
 CallsD Tryz.prog 190 #[.pointer (some ⟨x2,0,none⟩),.pointer (some ⟨x4,0,none⟩),.pointer (some ⟨x5,0,none⟩)] .returning w fun e u' w'=>
  e = .returned (.tuple #[])∧u' = .returning∧w'=w:=by
 refine callsD_of_wpS Tryz.func190 rfl fun c₀ cs hu=>?_
 refine wpS_seq (wpS_region (ajG rfl rfl rfl rfl rfl rfl hu (by simp[Tryz.ntmps190]) ?_))
 refine wpS_of_wp ?_
 refine Code.wp_mono (Q:=fun e a' w'=>e = .normal∧a'.defers=[]∧w'=w) ?_ ?_
 ·rintro e a w' ⟨rfl,had,rfl⟩
  refine⟨had,.returning,by rw[←hu],.tuple #[],by simp[results,Tryz.results190,go_sem],rfl,rfl,rfl⟩
 rw[Tryz.ntmps190]
 refine abx (a':={ tmps:=#[.pointer (some ⟨x2,0,none⟩),.pointer (some ⟨x4,0,none⟩),.pointer (some ⟨x5,0,none⟩),.nilIface,undef,undef,.nilIface,undef,undef,undef,undef,undef,undef,undef,undef,undef,undef,undef,undef,undef,undef,undef],defers:=[] }) (by kernel_rfl) ?_
 go_wp2
def pK (w:World) (d:Nat) (G:Nat→Prop) (N:Nat) (mo li:Int) (T:Tb) (br:Bool):Prop:=
 ∃g F,G=(fun k=>k=d∨F k)∧w.heap[d]?=some (F_ mo li g br)∧TabIs w g F N T∧¬F d
theorem pK.lt {w:World}{d N:Nat}{G:Nat→Prop}{mo li:Int}{T:Tb}{br:Bool}(h:pK w d G N mo li T br):∀k,G k→k<w.heap.size:=by
 obtain⟨g,F,rfl,hd,ht,hF⟩:=h
 rintro k (rfl | hk)
 ·exact (Array.getElem?_eq_some_iff.1 hd).1
 ·exact ht.lt k hk
theorem pK.keep {w w':World}{d N:Nat}{G:Nat→Prop}{mo li:Int}{T:Tb}{br:Bool}(h:pK w d G N mo li T br) (hk:∀k,G k→w'.heap[k]?=w.heap[k]?):pK w' d G N mo li T br:=by
 obtain⟨g,F,rfl,hd,ht,hF⟩:=h
 exact⟨g,F,rfl,(hk d (.inl rfl)).trans hd,ht.keep fun k hf=>hk k (.inr hf),hF⟩
theorem pK.more {w:World}{d N N':Nat}{G:Nat→Prop}{mo li:Int}{T:Tb}{br:Bool}(h:pK w d G N mo li T br) (hn:N≤N') (hN:N'≤1099511627776):pK w d G N' mo li T br:=by
 obtain⟨g,F,hG,hd,ht,hF⟩:=h
 exact⟨g,F,hG,hd,ht.more hn hN,hF⟩
theorem TabIs.tok {w:World}{g N:Nat}{F:Nat→Prop}{T:Tb}(h:TabIs w g F N T):j_ T:=by
 obtain⟨h1,h2,h3,h4,h5,h6,h7⟩:=h.inv
 exact⟨h2,h3,h7,h1⟩
theorem pK.tok {w:World}{d N:Nat}{G:Nat→Prop}{mo li:Int}{T:Tb}{br:Bool}(h:pK w d G N mo li T br):j_ T:=by
 obtain⟨g,F,hG,hd,ht,hF⟩:=h
 exact ht.tok
def DPost (W:World) (d:Nat) (G:Nat→Prop) (N:Nat) (mo li:Int) (out:List Fd×Nat×Option Tb) (e:Ending) (w':World):Prop:=
 ∃A c,e = .returned (.tuple #[.slice A out.1.length c,.int .i64 (out.2.1:Int)])∧w'.ownsRow W.heap.size 26 3 (.slice A out.1.length c) out.1.length (fds out.1) ∧
  ∃G' T',pK w' d G' N mo li T' out.2.2.isNone∧(∀T1,out.2.2=some T1→T'=T1)∧(∀a,A=some a→¬G' a.block)∧Kept G W w'∧kX W G G'
def HDRel (W:World) (p d g N L:Nat) (F:Nat→Prop) (mo li:Int) (x2 x4 x5:Nat) (S0:eZ) (k:Nat) (wr:World):Prop:=
 ∃S N' F' AL cl fv,k=S.left.length∧dh W wr p d g N' F F' mo li S AL cl fv∧jr L S∧lq mo L S0=lq mo S.left.length S∧N'+S.left.length≤N+L ∧
  By wr p F' fv x2 (some (.cells #[.pointer (some ⟨d,0,none⟩)] 95 (0,0)))∧By wr p F' fv x4 (some (.cells #[.slice none 0 0] 22 (0,0)))∧By wr p F' fv x5 (some (.cells #[.int .i64 0] 29 (0,0)))
section
variable {mo li:Int} {T:Tb} {l:List UInt8} {S:eZ} {z:Nat}
theorem agv (h:lq mo l.length ⟨T,l,[],0,0⟩ = .error z):sH mo li T l=([],z,none):=by unfold sH;rw[h]
theorem ZG (h:lq mo l.length ⟨T,l,[],0,0⟩ = .ok S) (h2:li<(S.cost:Int)):sH mo li T l=([],51,some S.T):=by unfold sH;rw[h];exact ax h2
theorem ZH (h:lq mo l.length ⟨T,l,[],0,0⟩ = .ok S) (h2:¬li<(S.cost:Int)):sH mo li T l=(S.fields,0,some S.T):=by unfold sH;rw[h];exact aj h2
end
theorem Kept.but {F:Nat→Prop}{w w1 w2:World}{x4 x5 d:Nat}(h:Kept (fun k=>k=d∨F k) w w1) (h2:Kept (fun k=>k=d∨k=x4∨k=x5) w1 w2) (h4:w.heap.size≤x4) (h5:w.heap.size≤x5):Kept (fun k=>k=d∨F k) w w2:=
 ⟨h2.os.trans h.os,h2.tape.trans h.tape,h2.output.trans h.output,gM h.size h2.size,fun k hk hn=>(h2.block k (fI hk h.size) (fun e=>by
  rcases e with e | e | e
  ·exact hn (.inl e)
  ·omega
  ·omega)).trans (h.block k hk hn)⟩
theorem X5 {d N n cap:Nat}{G:Nat→Prop}{mo li:Int}{T:Tb}{A:Option Addr}{l:List UInt8}(w:World) (h:pK w d G N mo li T false) (hr:Rd w w.heap.size 1 A n (ak l)) (hcap:n≤cap) (hm:cap≤maxLen) (hn:n≤1048576) (hA : 0<n→∀a,A=some a→¬G a.block) (hmo:mo≤65536) (hN:N+n≤1099511627776) :
 Calls Tryz.prog 169 #[.pointer (some ⟨d,0,none⟩),.slice A n cap] w (DPost w d G (N+n) mo li (sH mo li T l)):=by
 have hmf:∀(fn:Fn) (first cap:Array Value) (w:World),(Instr.makeFunc fn first cap).run Tryz.prog w = .ok (.func fn first cap) w:=fun _ _ _ _=>rfl
 obtain⟨g,F,hG,hd,ht,hF⟩:=h
 have iF:=hr.mR
 have Cu:=(Array.getElem?_eq_some_iff.1 hd).1
 have c3:w.cell? ⟨d,3,none⟩=some (.bool false):=by unfold World.cell?;rw[hd];rfl
 obtain⟨W3,hW3⟩:∃W3,((w.alloc (.cells #[.pointer (some ⟨d,0,none⟩)] 95)).alloc (.cells #[.slice none 0 0] 22)).alloc (.cells #[.int .i64 0] 29)=W3:=⟨_,rfl⟩
 have b3:Below w.heap.size w W3:=by rw[←hW3];exact (((Below.refl _ w).alloc (ah _) _).alloc (by simp) _).alloc (by simp;omega) _
 have s3:W3.heap.size=w.heap.size+1+1+1:=by rw[←hW3];simp
 have k3:W3.heap[d]?=some (F_ mo li g false):=(b3.block d Cu).trans hd
 have c3:W3.cell? ⟨d,3,none⟩=some (.bool false):=by unfold World.cell?;rw[k3];rfl
 have e2:W3.heap[w.heap.size]?=some (.cells #[.pointer (some ⟨d,0,none⟩)] 95 (0,0)):=by
  rw[←hW3]
  exact ((Below.heap_alloc _ _ _ (by simp;omega)).trans (Below.heap_alloc _ _ _ (by simp))).trans (aZ _ _)
 have e4:W3.heap[w.heap.size+1]?=some (.cells #[.slice none 0 0] 22 (0,0)):=by
  rw[←hW3]
  exact (Below.heap_alloc _ _ _ (by simp)).trans (O5 _ _ _)
 have e5:W3.heap[w.heap.size+1+1]?=some (.cells #[.int .i64 0] 29 (0,0)):=by
  rw[←hW3]
  have:=aZ ((w.alloc (.cells #[.pointer (some ⟨d,0,none⟩)] 95)).alloc (.cells #[.slice none 0 0] 22)) (.cells #[.int .i64 0] 29)
  simpa using this
 have CE:w.heap.size≤W3.heap.size:=b3.size
 obtain⟨W4,bA⟩:∃W4,W3.alloc (.cells #[.pointer (some ⟨d,0,none⟩),.slice A n cap,.slice none 0 0,.int .i64 0,.int .i64 0] 262)=W4:=⟨_,rfl⟩
 have b4:Below W3.heap.size W3 W4:=by rw[←bA];exact (Below.refl _ _).alloc (ah _) _
 have b34:Below w.heap.size w W4:=b3.trans (b4.mono CE)
 have hr4:=hr.kept (Kept.jk (F:=fun _=>False) b34) (fun _ _ _ h=>h)
 have Iz:dh w W4 W3.heap.size d g N F F mo li ⟨T,l,[],0,0⟩ A cap (.slice none 0 0):=
  {tab:=ht.keep fun k hk=>b34.block k (ht.lt k hk)
   dec:=(b34.block d Cu).trans hd
   vE:=by rw[←bA,iF];exact aZ _ _
   left:=by rw[iF];exact hr4
   nS:=by rw[iF];exact⟨hcap,hm⟩
   lF:=fun h0 a ha=>by
    rw[iF] at h0
    have h1:=hA h0 a ha
    rw[hG] at h1
    obtain⟨b,o,e,hb,-⟩:=hr.2 (by omega)
    rw[e] at ha
    injection ha with ha
    subst ha
    exact⟨fun hf=>h1 (.inr hf),fun hf=>h1 (.inl hf),hb⟩
   nK:=World.ownsRow_nil _ _ _ _
   fF:=fun k hk=>by cases hk
   oz:=kX.refl _ _
   kept:=Kept.jk b34
   dl:=Cu
   dF:=hF
   pl:=CE
   pF:=fun hf=>by have:=ht.lt _ hf;omega }
 have hby:∀b o,w.heap.size≤b→b<W3.heap.size→W3.heap[b]?=o→By W4 W3.heap.size F (.slice none 0 0) b o:=fun b o h1 h2 h3=>
  ⟨fI h2 b4.size,by omega,fun hf=>by have:=ht.lt _ hf;omega,by simp[Value.ownBlock],(b4.block b h2).trans h3⟩
 have sF:=hby _ _ (ah _) (by omega) e2
 have xS:=hby _ _ (by omega) (by omega) e4
 have wK:=hby _ _ (by omega) (by omega) e5
 obtain⟨x2,hx2⟩:∃x,w.heap.size=x:=⟨_,rfl⟩
 have hx2':w.heap.size≤x2:=by omega
 rw[hx2] at e2 sF xS wK
 have q2:W3.cell? ⟨x2,0,none⟩=some (.pointer (some ⟨d,0,none⟩)):=by unfold World.cell?;rw[e2];rfl
 obtain⟨x4,CS⟩:∃x,x2+1=x:=⟨_,rfl⟩
 obtain⟨x5,Et⟩:∃x,x4+1=x:=⟨_,rfl⟩
 rw[CS] at xS wK
 rw[Et] at wK
 obtain⟨p,hp⟩:∃p,W3.heap.size=p:=⟨_,rfl⟩
 rw[hp] at Iz sF xS wK
 have HX:=af (And.intro hx2' (And.intro CS Et))
 have HTOK:=af (pK.tok (d:=d) ⟨g,F,rfl,hd,ht,hF⟩:j_ T)
 have kQ:=af Iz
 have yt:=af (And.intro sF (And.intro xS wK))
 have yA:=af hW3
 have HW4:=af bA
 have xg:=af hx2
 have HX4:=af CS
 have xh:=af Et
 have HP:=af hp
 have HG:=af hG
 have gz:=af iF
 clear hd k3 e2 e4 e5 hW3 b3 hx2 bA b4 b34 hr4 Iz hby sF xS wK CS Et hp CE s3 ht hF hr hA hx2' hG iF
 go_enter_defers Tryz.func169,Tryz.ntmps169
 go_upto_region 1 with fail
 rw[yA.out,xg.out]
 rw[HX4.out]
 rw[xh.out]
 go_wp2_with fail
 rw[HW4.out,HP.out]
 go_loopg [27] n (fun k _ wr=>HDRel w p d g N n F mo li x2 x4 x5 ⟨T,l,[],0,0⟩ k wr)
 case atStart=>
  refine⟨_,N,F,A,cap,_,gz.out.symm,kQ.out,?_,?_,?_,yt.out⟩
  ·rw[←gz.out];exact jr.start HTOK.out l
  ·rw[←gz.out]
  ·rw[gz.out];exact ah _
 case round=>
  obtain⟨S,N',F',AL,cl,fv,hk,hrd,hok,hdec,hNN,sF,xS,wK⟩:=hrel
  obtain⟨Af,cf,rfl,-⟩:=aC hrd.nK
  obtain⟨-,r1,r2,r3,-⟩:=hrd.cells
  have hne:x5≠x4:=by have:=HX.out.2.2;omega
  have JY:x4≠x5:=fun e=>hne e.symm
  obtain⟨-,d1,-,-⟩:=hrd.Ju
  have z2:wr.cell? ⟨x2,0,none⟩=some (.pointer (some ⟨d,0,none⟩)):=by unfold World.cell?;rw[sF.at_];rfl
  have z4:wr.cell? ⟨x4,0,none⟩=some (.slice none 0 0):=by unfold World.cell?;rw[xS.at_];rfl
  have z5:wr.cell? ⟨x5,0,none⟩=some (.int .i64 0):=by unfold World.cell?;rw[wK.at_];rfl
  have fz4:wr.frozen? ⟨x4,0,none⟩=false:=by unfold World.frozen?;rw[xS.at_];simp
  have fz5:wr.frozen? ⟨x5,0,none⟩=false:=by unfold World.frozen?;rw[wK.at_];simp
  rw[←gz.out] at hdec
  have lS:=af hrd
  have HOKW:=af hok
  have NH:=af hdec
  have HY:=af (And.intro sF (And.intro xS wK))
  have hlen:=hok.len
  obtain⟨ln,Cz⟩:∃ln,S.left.length=ln:=⟨_,rfl⟩
  have dX:=af Cz
  rw[Cz] at hk r1 hNN hlen
  have HK:=af hk
  by_cases h0 : 0<ln
  ·have rM:=af (agJ hrd hok hn hmo (by rw[Cz];exact h0) (by omega))
   have n0:(0:Int)<ln:=by omega
   cases GD:jD mo S with
   | error z=>
    have HE:=af (agv (li:=li) (NH.out.trans (adC (by rw[Cz];exact h0) GD)))
    rw[GD] at rM
    clear hrd hok hdec sF xS wK GD Cz hk z4 z5 fz4 fz5
    go_wp2_with fail
    refine rM.out.mono ?_
    rintro e w5 ⟨rfl,S1,F1,qx,qP,Ay,h1,dS⟩
    have H1:=af h1
    have HY2:=af (HY.out.1.mv dS)
    have HY4:=af (HY.out.2.1.mv dS)
    have HY5:=af (HY.out.2.2.mv dS)
    clear h1 dS
    unfold p8
    go_wp2
    refine leaves_cons (f:=190) (args:=#[.pointer (some ⟨x2,0,none⟩),.pointer (some ⟨x4,0,none⟩),.pointer (some ⟨x5,0,none⟩)]) (by simp) (by simp[go_sem]) ?_
    have D7:d≠x4:=by have:=HX.out;omega
    have hd5:d≠x5:=by have:=HX.out;omega
    refine (ac9 x2 x4 x5 d mo li g z (.slice none 0 0) 0 [] w5 HY2.out.at_ HY4.out.at_ HY5.out.at_ H1.out.dec D7 hd5 JY).mono ?_
    rintro e u' w6 ⟨rfl,rfl,yV⟩
    have t4:w6.cell? ⟨x4,0,none⟩=some (.slice none 0 0):=by unfold World.cell?;rw[yV.r4];rfl
    have t5:w6.cell? ⟨x5,0,none⟩=some (.int .i64 (z:Int)):=by unfold World.cell?;rw[yV.r5];rfl
    refine (show Leaves _ _ _ _ [] .returning w6 from ⟨_,(by simp[results,Tryz.results169,go_sem,t4,t5];rfl),?_⟩)
    rw[HE.out]
    have hH:=H1.out
    refine⟨none,0,rfl,World.ownsRow_nil _ _ _ _,fun k=>k=d∨F1 k,S1.T,⟨g,F1,rfl,yV.dec,(hH.tab.keep fun k hk=>yV.kept.block k (hH.tab.lt k hk) (fun e=>?_)).more (by omega) hN,hH.dF⟩,(fun T1 h=>by cases h),(fun a ha=>by cases ha),?_,?_⟩
    ·rcases e with e | e | e
     ·exact hH.dF (e ▸ hk)
     ·exact HY4.out.nF (e ▸ hk)
     ·exact HY5.out.nF (e ▸ hk)
    ·rw[HG.out]
     exact hH.kept.but yV.kept (by have:=HX.out;omega) (by have:=HX.out;omega)
    ·rw[HG.out]
     exact fun k hk=>hk.elim (fun e=>.inl (.inl e)) (fun hf=>(hH.oz k hf).imp .inr id)
   | ok S'=>
    have hnext:=HOKW.out.part hmo GD
    have HST:=af (Jv hmo HOKW.out (by rw[Cz];exact h0) GD)
    have mO:=af hnext
    have hln2:=hnext.2
    rw[Cz] at hln2
    rw[GD] at rM
    clear hrd hok hdec sF xS wK GD Cz hk z4 z5 fz4 fz5 hnext
    go_wp2_with fail
    refine rM.out.mono ?_
    rintro e w5 ⟨rfl,F1,qx,qP,Ay,h1,dS⟩
    have H1:=af h1
    have HY2:=af (HY.out.1.mv dS)
    have HY4:=af (HY.out.2.1.mv dS)
    have HY5:=af (HY.out.2.2.mv dS)
    clear h1 dS
    go_wp2_with fail
    go_roundg S'.left.length
    case measure=>rw[HK.out];exact hln2
    case rel=>exact⟨S',N'+1,F1,qx,qP,Ay,rfl,H1.out,mO.out.1,by rw[←gz.out];exact NH.out.trans HST.out,by omega,HY2.out,HY4.out,HY5.out⟩
  ·have hz:ln=0:=by omega
   subst hz
   have hdn:=NH.out.trans (adB dX.out)
   have HDN:=af hdn
   clear hrd hok hdec sF xS wK Cz hk hdn
   by_cases hc:li<(S.cost:Int)
   ·have HO:=af (ZG HDN.out hc)
    go_wp2
    go_quiet (fail)
    go_wp2
    refine leaves_cons (f:=190) (args:=#[.pointer (some ⟨x2,0,none⟩),.pointer (some ⟨x4,0,none⟩),.pointer (some ⟨x5,0,none⟩)]) (by simp) (by simp[go_sem]) ?_
    refine (XE x2 x4 x5 _).mono ?_
    rintro e u' w6 ⟨rfl,rfl,rfl⟩
    refine (show Leaves _ _ _ _ [] .returning _ from ⟨_,(by simp[results,Tryz.results169,go_sem,z4,z5];rfl),?_⟩)
    obtain⟨w6,xR⟩:∃w6,((wr.drewN nq).setCell ⟨x4,0,none⟩ (.slice none 0 0)).setCell ⟨x5,0,none⟩ (.int .i64 51)=w6:=⟨_,rfl⟩
    have kr:Kept (fun k=>k=d∨k=x4∨k=x5) wr w6:=by rw[←xR];exact (((Kept.refl (fun k=>k=d∨k=x4∨k=x5) wr).drewN nq).setCell (.inr (.inl rfl)) _ _).setCell (.inr (.inr rfl)) _ _
    have hd6:w6.heap[d]?=wr.heap[d]?:=by rw[←xR];exact (Below.heap_setCell _ _ _ _ (by show d≠x5;have:=HX.out;omega)).trans (Below.heap_setCell _ _ _ _ (by show d≠x4;have:=HX.out;omega))
    rw[xR,HO.out]
    clear xR
    have hH:=lS.out
    refine⟨none,0,rfl,World.ownsRow_nil _ _ _ _,fun k=>k=d∨F' k,S.T,⟨g,F',rfl,hd6.trans hH.dec,(hH.tab.keep fun k hk=>kr.block k (hH.tab.lt k hk) (fun e=>?_)).more (by omega) hN,hH.dF⟩,(fun T1 h=>by injection h),(fun a ha=>by cases ha),?_,?_⟩
    ·rcases e with e | e | e
     ·exact hH.dF (e ▸ hk)
     ·exact HY.out.2.1.nF (e ▸ hk)
     ·exact HY.out.2.2.nF (e ▸ hk)
    ·rw[HG.out]
     exact hH.kept.but kr (by have:=HX.out;omega) (by have:=HX.out;omega)
    ·rw[HG.out]
     exact fun k hk=>hk.elim (fun e=>.inl (.inl e)) (fun hf=>(hH.oz k hf).imp .inr id)
   ·have HO:=af (ZH HDN.out hc)
    go_wp2
    go_quiet (fail)
    go_wp2
    refine leaves_cons (f:=190) (args:=#[.pointer (some ⟨x2,0,none⟩),.pointer (some ⟨x4,0,none⟩),.pointer (some ⟨x5,0,none⟩)]) (by simp) (by simp[go_sem]) ?_
    refine (XE x2 x4 x5 _).mono ?_
    rintro e u' w6 ⟨rfl,rfl,rfl⟩
    refine (show Leaves _ _ _ _ [] .returning _ from ⟨_,(by simp[results,Tryz.results169,go_sem,z4,z5];rfl),?_⟩)
    obtain⟨w6,xR⟩:∃w6,((wr.drewN nq).setCell ⟨x4,0,none⟩ (.slice Af S.fields.length cf)).setCell ⟨x5,0,none⟩ (.int .i64 0)=w6:=⟨_,rfl⟩
    have kr:Kept (fun k=>k=d∨k=x4∨k=x5) wr w6:=by rw[←xR];exact (((Kept.refl (fun k=>k=d∨k=x4∨k=x5) wr).drewN nq).setCell (.inr (.inl rfl)) _ _).setCell (.inr (.inr rfl)) _ _
    have hd6:w6.heap[d]?=wr.heap[d]?:=by rw[←xR];exact (Below.heap_setCell _ _ _ _ (by show d≠x5;have:=HX.out;omega)).trans (Below.heap_setCell _ _ _ _ (by show d≠x4;have:=HX.out;omega))
    rw[xR,HO.out]
    clear xR
    have hH:=lS.out
    have hfv:∀a,Af=some a→¬(a.block=x4∨a.block=x5)∧¬F' a.block∧w.heap.size≤a.block:=fun a ha=>by
     have h1:(Value.slice Af S.fields.length cf).ownBlock=some a.block:=by rw[ha];rfl
     refine⟨fun e=>?_,(hH.fF _ h1).1,(hH.nK.lt _ h1).1⟩
     rcases e with e | e
     ·exact HY.out.2.1.nv (by rw[h1,e])
     ·exact HY.out.2.2.nv (by rw[h1,e])
    refine⟨Af,cf,rfl,d_ hH.nK kr (fun q hq e=>?_),fun k=>k=d∨F' k,S.T,⟨g,F',rfl,hd6.trans hH.dec,(hH.tab.keep fun k hk=>kr.block k (hH.tab.lt k hk) (fun e=>?_)).more (by omega) hN,hH.dF⟩,(fun T1 h=>by injection h),(fun a ha e=>?_),?_,?_⟩
    ·have fK:=(hH.nK.lt q hq).1
     rcases e with e | e | e
     ·omega
     ·exact HY.out.2.1.nv (by rw[hq,e])
     ·exact HY.out.2.2.nv (by rw[hq,e])
    ·rcases e with e | e | e
     ·exact hH.dF (e ▸ hk)
     ·exact HY.out.2.1.nF (e ▸ hk)
     ·exact HY.out.2.2.nF (e ▸ hk)
    ·have h1:=hfv a ha
     rcases e with e | e
     ·omega
     ·exact h1.2.1 e
    ·rw[HG.out]
     exact hH.kept.but kr (by have:=HX.out;omega) (by have:=HX.out;omega)
    ·rw[HG.out]
     exact fun k hk=>hk.elim (fun e=>.inl (.inl e)) (fun hf=>(hH.oz k hf).imp .inr id)
end
section
open Go.RowKit

end
section
open Go.RowKit
variable {X:Value×Value×Value}
section
variable {w w':World} {g c:Nat} {A:Option Addr} {most:Int} {rows:List Rw} {F:Nat→Prop}
end
end
section
open Go.RowKit
variable {X:Value×Value×Value}
section
variable {P:Program} {w:World}
end
end
section
open Go.RowKit
variable {X:Value×Value×Value}
end
section
open Go.RowKit
variable {X:Value×Value×Value}
end
section
open Go.RowKit
def abO (mo li:Int) (w:World) (e:Ending) (w':World):Prop:=∃d G,e = .returned (.tuple #[.pointer (some ⟨d,0,none⟩),.int .i64 0])∧pK w' d G 0 mo li ⟨min mo 4096,0,[]⟩ false∧(∀k,G k→w.heap.size≤k)∧Below w.heap.size w w'
theorem af6 (mo li:Int) (w:World) (h0 : 0≤mo) (h1:mo≤65536) (h2 : 0≤li) :
 Calls Tryz.prog 46 #[.int .i64 mo,.int .i64 li] w (abO mo li w):=by
 have HT:=af (aa_ (min mo 4096) w (by omega) (by omega))
 go_enter Tryz.func46,Tryz.ntmps46
 go_wp2_with fail
 refine HT.out.mono ?_
 rintro e w1 ⟨g,F,rfl,ht,hF,hb⟩
 have H1:=af (And.intro ht (And.intro hF hb))
 clear ht hF hb
 go_wp2
 go_ret2
 obtain⟨ht,hF,hb⟩:=H1.out
 refine⟨w1.heap.size,fun k=>k=w1.heap.size∨F k,rfl,⟨g,F,rfl,aZ _ _,ht.keep (fun k hk=>Below.heap_alloc _ _ _ (ht.lt k hk)),fun hf=>Ce _ (ht.lt _ hf)⟩,?_,hb.alloc hb.size _⟩
 rintro k (rfl | hk)
 ·exact hb.size
 ·exact hF k hk
end
section
open Go.RowKit
theorem mE {w:World}{B n:Nat}{A:Option Addr}{l:List Fd}(h:Rd w B 3 A n (fds l)) (hn : 0<n):l.length=n∧∃b o,A=some ⟨b,o,none⟩∧b<B∧∀j f,l[j]?=some f→w.cell? ⟨b,o+j*3,none⟩=some (.string f.1.1)∧w.cell? ⟨b,o+j*3+1,none⟩=some (.string f.1.2)∧w.cell? ⟨b,o+j*3+2,none⟩=some (.bool f.2):=by
 obtain⟨b,o,hA,hb,hc⟩:=h.2 (by omega)
 have hl:=h.1
 rw[jJ] at hl
 refine⟨by omega,b,o,hA,hb,fun j f hj=>?_⟩
 have hjl:=(List.getElem?_eq_some_iff.1 hj).1
 have e:=Yd hj
 exact⟨(hc _ (by omega)).trans e.1,(hc (j*3+1) (by omega)).trans e.2.1,(hc (j*3+2) (by omega)).trans e.2.2⟩
end
section
open Go.RowKit
def wP (l:List Rw) (nm:ByteArray):Nat:=match l.findIdx? (fun r=>r.1=nm) with
 | some i=>i+1
 | none=>0
def qa (l:List Rw) (f:Rw):Int×Bool:=match l.findIdx? (fun r=>r=f) with
 | some i=>(i+1,true)
 | none=>(((wP l f.1:Nat):Int),false)
theorem Yj {l:List Rw}{p:Rw→Bool}{i:Nat}(h:l.findIdx? p=some i):∃r,l[i]?=some r∧p r=true:=by
 obtain⟨hl,hp,-⟩:=List.findIdx?_eq_some_iff_getElem.1 h
 exact⟨_,a_ hl,hp⟩
theorem Xh (rows:List Rw) (i:Nat){r:Rw}(h:(iR++rows.reverse)[i]?=some r):mQ rows (i+1:Int)=some r:=by
 rw[List.getElem?_append] at h
 by_cases hi:i<61
 ·rw[ax (by rw[BC];exact hi)] at h
  obtain⟨r',h1,h2⟩:=Xj rows hi
  rw[h] at h1;injection h1 with h1
  rw[h2,h1]
 ·rw[aj (by rw[BC];exact hi),BC] at h
  have hl:i-61<rows.length:=by have:=(List.getElem?_eq_some_iff.1 h).1;simpa using this
  rw[List.getElem?_reverse hl] at h
  obtain⟨r',h1,h2⟩:=Xi rows (i:=rows.length-1-(i-61)) (by omega)
  rw[h] at h1;injection h1 with h1
  rw[show ((i:Int)+1)=61+rows.length-((rows.length-1-(i-61):Nat):Int) by omega,h2,h1]
theorem Yi (rows:List Rw) (f:Rw):((qa (iR++rows.reverse) f).1=0∧(qa (iR++rows.reverse) f).2=false) ∨
 ∃g:Rw,1≤(qa (iR++rows.reverse) f).1∧mQ rows (qa (iR++rows.reverse) f).1=some g∧g.1=f.1∧decide (g.2=f.2)=(qa (iR++rows.reverse) f).2:=by
 unfold qa
 cases h1:(iR++rows.reverse).findIdx? (fun r=>r=f) with
 | some i=>
  obtain⟨r,hr,hp⟩:=Yj h1
  have hp':r=f:=by simpa using hp
  refine .inr ⟨r,by simp only;omega,Xh rows i hr,by rw[hp'],by rw[hp'];simp⟩
 | none=>
  simp only
  unfold wP
  cases h2:(iR++rows.reverse).findIdx? (fun r=>r.1=f.1) with
  | none=>exact .inl (by simp)
  | some i=>
   obtain⟨r,hr,hp⟩:=Yj h2
   have hp':r.1=f.1:=by simpa using hp
   refine .inr ⟨r,by simp only;omega,?_,hp',?_⟩
   ·simp only;rw[←Xh rows i hr];congr 1
   ·have:=(List.findIdx?_eq_none_iff.1 h1) r (fq hr)
    have hne:r≠f:=by simpa using this
    simp only[decide_eq_false_iff_not]
    exact fun e=>hne (by obtain⟨a,b⟩:=r;obtain⟨c,d⟩:=f;simp at hp' e;rw[hp',e])
end
section
open Go.RowKit
theorem af3 {L:List Rw}{nm:ByteArray}{k:Nat}{r:Rw}(hr:L[k]?=some r):wP (L.take (k+1)) nm=if wP (L.take k) nm=0 then (if r.1=nm then k+1 else 0) else wP (L.take k) nm:=by
 have hk:k<L.length:=(List.getElem?_eq_some_iff.1 hr).1
 unfold wP
 rw[iw,hr]
 simp only[iL,List.findIdx?_append]
 cases hf:(L.take k).findIdx? (fun r=>r.1=nm) with
 | some i=>simp
 | none=>
  simp only[Option.none_or]
  by_cases h:r.1=nm
  ·simp[h,kS];omega
  ·simp[h]
theorem SV (L:List Rw) (nm:ByteArray):wP L nm≤L.length:=by
 unfold wP
 cases hf:L.findIdx? (fun r=>r.1=nm) with
 | some i=>have:=(List.findIdx?_eq_some_iff_getElem.1 hf).1;simp only;omega
 | none=>simp
theorem aee {L:List Rw}{f:Rw}{k:Nat}(hk:L[k]?=some f) (hall:∀j r,j<k→L[j]?=some r→r≠f):qa L f=((k:Int)+1,true):=by
 have hl:k<L.length:=(List.getElem?_eq_some_iff.1 hk).1
 have e:L.findIdx? (fun r=>r=f)=some k:=by
  rw[List.findIdx?_eq_some_iff_getElem]
  refine⟨hl,by have:=(List.getElem?_eq_some_iff.1 hk).2;simp[this],fun j hj=>?_⟩
  have:=hall j (L[j]'(by omega)) hj (a_ (by omega))
  simpa using this
 unfold qa
 rw[e]
theorem aed {L:List Rw}{f:Rw}(hall:∀j r,j<L.length→L[j]?=some r→r≠f):qa L f=(((wP L f.1:Nat):Int),false):=by
 have e:L.findIdx? (fun r=>r=f)=none:=by
  rw[List.findIdx?_eq_none_iff]
  intro r hr
  obtain⟨j,hj,hq⟩:=List.getElem_of_mem hr
  simpa using hall j r hj (by rw[a_ hj,hq])
 unfold qa
 rw[e]
theorem agE (w:World):(w.alloc (.cells Jy.toArray 26)).ownsRow w.heap.size 26 3 (.slice (some ⟨w.heap.size,0,none⟩) 61 61) 61 (p_ iR):=
 ⟨by rw[Yc,BC],.inr ⟨_,61,Jy.toArray,rfl,ah _,aZ _ _,ah _,bn (by omega),by decide +kernel,by rw[show Jy=p_ iR from rfl];exact cB (by rw[Yc,BC];exact ah _)⟩⟩
def abJ (W:World) (L:List Rw) (v:Value) (wx:World):Prop:=∃A c,v = .slice A L.length c∧Rd wx wx.heap.size 3 A L.length (p_ L)∧Below W.heap.size W wx
def abZ (W:World) (L:List Rw) (f:Rw) (nv iv:Value) (wr:World):Prop:=
 ∃k:Nat,iv = .int .i64 k∧nv = .int .i64 (wP (L.take k) f.1:Nat)∧k≤L.length∧(∀j r,j<k→L[j]?=some r→r≠f)∧Below W.heap.size W wr
end
section
open Go.RowKit
def LA:ByteArray:=⟨#[97,117,116,104,111,114,105,122,97,116,105,111,110]⟩
def LP:ByteArray:=⟨#[115,101,116,45,99,111,111,107,105,101]⟩
structure vJ where
 own:Int
 told:Int
 least:Int
 T:Tb
def vz (f:Fd):Bool:=f.2 || decide (f.1.1=LA) || decide (f.1.1=LP)
def yM (T:Tb) (f:Rw):Int×Bool:=qa (iR++T.rows.reverse) f
def ji (T:Tb) (f:Rw):Nat:=(yM T f).1.toNat
def wO (fl F:Nat) (T:Tb) (f:Rw):List UInt8:=eP fl F (ji T f)++(if ji T f=0 then kW f.1.data.toList else [])++kW f.2.data.toList
def jy (T:Tb) (f:Fd):List UInt8×Tb:=
 if vz f then (wO 16 15 T f.1,T)
 else if (yM T f.1).2 then (eP 128 127 (ji T f.1),T)
 else if T.most<(cost f.1:Int) then (wO 0 15 T f.1,T)
 else (wO 64 63 T f.1,T.add f.1)
def eH:Tb→List Fd→List UInt8×Tb
 | T,[]=>([],T)
 | T,f :: l=>((jy T f).1++(eH (jy T f).2 l).1,(eH (jy T f).2 l).2)
def Gb (E:vJ):List UInt8:=
 if E.least<E.told∧E.least<E.T.most then eP 32 31 E.least.toNat++eP 32 31 E.T.most.toNat
 else if E.T.most≠E.told then eP 32 31 E.T.most.toNat else []
def vJ.run (E:vJ) (l:List Fd):List UInt8×vJ:=(Gb E++(eH E.T l).1,⟨E.own,E.T.most,E.T.most,(eH E.T l).2⟩)
def enB (E:vJ) (g:Nat):Obj:=.cells #[.int .i64 E.own,.int .i64 E.told,.int .i64 E.least,.pointer (some ⟨g,0,none⟩)] 170 (0,0)
def pM (w:World) (e:Nat) (G:Nat→Prop) (N:Nat) (E:vJ):Prop:=∃g F,G=(fun k=>k=e∨F k)∧w.heap[e]?=some (enB E g)∧TabIs w g F N E.T∧¬F e
theorem agx {w:World}{v:Value}{base B n:Nat}{e:TypeId}{size:Nat}{xs:List Value}(h:w.ownsRow base e size v n xs) (hB:B≤base):w.ownsRow B e size v n xs:=by
 rcases h with ⟨hl,⟨rfl,h0⟩ | ⟨g,cap,cur,hv,hg,hb,h3⟩⟩
 ·exact⟨hl,.inl ⟨rfl,h0⟩⟩
 ·exact⟨hl,.inr ⟨g,cap,cur,hv,gM hB hg,hb,h3⟩⟩
theorem b_.below {w w':World}{B:Nat}{v:Value}{l:List UInt8}(h:b_ w B v l) (hb:Below w.heap.size w w'):b_ w' B v l:=d_ h (Kept.jk (F:=fun _=>False) hb) (fun _ _ h=>h)
theorem b_.base {w:World}{B B':Nat}{v:Value}{l:List UInt8}(h:b_ w B v l) (hB:B'≤B):b_ w B' v l:=agx h hB
theorem b_.rd {w:World}{B:Nat}{v:Value}{l:List UInt8}(h:b_ w B v l):∃A c,v = .slice A l.length c∧Rd w w.heap.size 1 A l.length (ak l):=by
 obtain⟨A,c,hv,-,-,hr,-⟩:=aC h
 exact⟨A,c,hv,hr⟩
theorem aeo (T:Tb) (f:Rw) : 0≤(yM T f).1∧(yM T f).1≤61+T.rows.length:=by
 have hL:(iR++T.rows.reverse).length=61+T.rows.length:=by simp[BC]
 unfold yM qa
 cases h:(iR++T.rows.reverse).findIdx? (fun r=>r=f) with
 | some i=>
  have:=(List.findIdx?_eq_some_iff_getElem.1 h).1
  simp only;omega
 | none=>
  have:=SV (iR++T.rows.reverse) f.1
  simp only;omega
theorem ahV {T:Tb}(hT:j_ T):T.rows.length≤2048:=by
 have h3:=hT.fits
 have h4:=hT.Br
 have:(T.rows.length:Int)*32≤dV T.rows:=by
  have:∀l:List Rw,(l.length:Int)*32≤dV l:=by
   intro l
   induction l with
   | nil=>exact Int.le_refl _
   | cons r l ih=>rw[I7];simp only[fe];unfold cost;omega
  exact this T.rows
 omega
theorem af_ {T:Tb}(hT:j_ T) (f:Rw):ji T f≤4096∧(yM T f).1=(ji T f:Int):=by
 have h1:=aeo T f
 have h2:=ahV hT
 unfold ji
 omega
theorem EN {s:ByteArray}(h:s.size≤1048576):(kW s.data.toList).length≤1048576+7:=by
 have hs:=gJ s
 by_cases hb:lI s.data.toList<s.data.toList.length
 ·rw[VX hb,aN]
  have h1:=(vD 128 127 (lI s.data.toList)).1
  have h2:=LU s.data.toList
  omega
 ·rw[VY (by omega),aN]
  have h1:=(vD 0 127 s.data.toList.length).1
  omega
end
section
open Go.RowKit
def EPost (W:World) (e:Nat) (G:Nat→Prop) (N:Nat) (E':vJ) (l:List UInt8) (ev:Ending) (w':World):Prop:=
 ∃v,ev = .returned v∧b_ w' W.heap.size v l∧∃G',pM w' e G' N E'∧Kept G W w'∧kX W G G'∧∀k,v.ownBlock=some k→¬G' k
section
variable {w w':World} {e N N':Nat} {G:Nat→Prop} {E:vJ} {l:List UInt8} {ev:Ending}
theorem pM.lt (h:pM w e G N E):∀k,G k→k<w.heap.size:=by
 obtain⟨g,F,rfl,hd,ht,hF⟩:=h
 rintro k (rfl | hk)
 ·exact (Array.getElem?_eq_some_iff.1 hd).1
 ·exact ht.lt k hk
theorem pM.keep (h:pM w e G N E) (hk:∀k,G k→w'.heap[k]?=w.heap[k]?):pM w' e G N E:=by
 obtain⟨g,F,rfl,hd,ht,hF⟩:=h
 exact⟨g,F,rfl,(hk e (.inl rfl)).trans hd,ht.keep fun k hf=>hk k (.inr hf),hF⟩
theorem pM.below (h:pM w e G N E) (hb:Below w.heap.size w w'):pM w' e G N E:=h.keep fun k hk=>hb.block k (h.lt k hk)
theorem pM.more (h:pM w e G N E) (hn:N≤N') (hN:N'≤1099511627776):pM w e G N' E:=by
 obtain⟨g,F,hG,hd,ht,hF⟩:=h
 exact⟨g,F,hG,hd,ht.more hn hN,hF⟩
theorem pM.tok (h:pM w e G N E):j_ E.T:=by
 obtain⟨g,F,hG,hd,ht,hF⟩:=h
 exact ht.tok
theorem pM.ret (h:pM w e G N E) (hr:jV w l ev w'):EPost w e G N E l ev w':=by
 obtain⟨v,he,ho,hb⟩:=hr
 exact⟨v,he,ho,G,h.below hb,Kept.jk hb,kX.refl _ _,fun k hk hg=>by have:=(World.ownsRow.lt ho k hk).1;have:=h.lt k hg;omega⟩
end
end
section
open Go.RowKit

end
section
open Go.RowKit

end
section
open Go.RowKit
theorem b_.none (w:World) (B:Nat):b_ w B (.slice none 0 0) []:=⟨rfl,.inl ⟨rfl,rfl⟩⟩
end
section
open Go.RowKit
def abP (own:Int) (w:World) (ev:Ending) (w':World):Prop:=∃e G,ev = .returned (.tuple #[.pointer (some ⟨e,0,none⟩),.int .i64 0])∧pM w' e G 0 ⟨own,4096,min own 4096,⟨min own 4096,0,[]⟩⟩∧(∀k,G k→w.heap.size≤k)∧Below w.heap.size w w'
theorem af7 (own:Int) (w:World) (h0 : 0≤own) (h1:own≤65536) :
 Calls Tryz.prog 47 #[.int .i64 own] w (abP own w):=by
 have HT:=af (aa_ (min own 4096) w (by omega) (by omega))
 go_enter Tryz.func47,Tryz.ntmps47
 go_wp2_with fail
 refine HT.out.mono ?_
 rintro e w1 ⟨g,F,rfl,ht,hF,hb⟩
 have H1:=af (And.intro ht (And.intro hF hb))
 clear ht hF hb
 go_wp2
 go_ret2
 obtain⟨ht,hF,hb⟩:=H1.out
 refine⟨w1.heap.size,fun k=>k=w1.heap.size∨F k,rfl,⟨g,F,rfl,aZ _ _,ht.keep (fun k hk=>Below.heap_alloc _ _ _ (ht.lt k hk)),fun hf=>Ce _ (ht.lt _ hf)⟩,?_,hb.alloc hb.size _⟩
 rintro k (rfl | hk)
 ·exact hb.size
 ·exact hF k hk
end
section
open Go.RowKit
theorem Xc (T:Tb) (f:Rw):(T.add f).most=T.most:=by unfold Tb.add;split <;> rfl
theorem ad2 (T:Tb) (f:Fd):(jy T f).2.most=T.most:=by
 unfold jy
 repeat' split
 all_goals first | rfl | exact Xc _ _
theorem adZ (T:Tb) (l:List Fd):(eH T l).2.most=T.most:=by
 induction l generalizing T with
 | nil=>rfl
 | cons f l ih=>simp only[eH];rw[ih,ad2]
theorem afU (fl F:Nat) (T:Tb) (f:Rw) (h1:f.1.size≤1048576) (h2:f.2.size≤1048576):(wO fl F T f).length≤2097200:=by
 have h3:=(vD fl F (ji T f)).1
 have h4:=EN h1
 have h5:=EN h2
 unfold wO
 split <;> simp only[aN,List.length_nil] <;> omega
theorem Ya (T:Tb) (f:Fd) (h1:f.1.1.size≤1048576) (h2:f.1.2.size≤1048576):(jy T f).1.length≤2097200:=by
 have h3:=(vD 128 127 (ji T f.1)).1
 unfold jy
 repeat' split
 all_goals first | exact afU _ _ _ _ h1 h2 | (simp only;omega)
theorem adY (T:Tb) (l:List Fd) (h:∀f ∈ l,f.1.1.size≤1048576∧f.1.2.size≤1048576):(eH T l).1.length≤l.length*2097200:=by
 induction l generalizing T with
 | nil=>simp[eH]
 | cons f l ih=>
  have h1:=ih (jy T f).2 (fun g hg=>h g (fH _ hg))
  have h2:=Ya T f (h f (iK ..)).1 (h f (iK ..)).2
  simp only[eH,aN,fe]
  omega
end
section
open Go.RowKit
def dG (f:Fr) (pd:Bool):List UInt8:=(if f.ty≠9∧pd=true then [UInt8.ofNat f.pad] else [])++f.data.data.toList++List.replicate f.pad 0
theorem MO {w:World}{B n:Nat}{v:Value}{l:List UInt8}(h:w.ownsRow B 5 1 v n (ak l)):b_ w B v l:=by
 have h1:=h.1
 rw[tO,Nat.mul_one] at h1
 unfold b_
 rw[h1]
 exact h
theorem agP {ty:Nat}(h:ty≠9) (fl st:Nat) (data:ByteArray) (pad:Nat):dG ⟨ty,fl,st,data,pad⟩ true=[UInt8.ofNat pad]++data.data.toList++List.replicate pad 0:=by simp[dG,h]
theorem agO (ty fl st:Nat) (data:ByteArray) (pad:Nat):dG ⟨ty,fl,st,data,pad⟩ false=[]++data.data.toList++List.replicate pad 0:=by simp[dG]
theorem agN (fl st:Nat) (data:ByteArray) (pd:Bool):dG ⟨9,fl,st,data,0⟩ pd=[]++data.data.toList:=by simp[dG]
theorem bI {P:Program}{c:Code}{Q:Exit→Act→World→Prop}{a:Act}{W:World}(h:∀W3,W3=W→c.wp P Q a W3):c.wp P Q a W:=h W rfl
structure fD (w:World) (x:Nat) (f:Fr):Prop where
 c0:w.cell? ⟨x,0,none⟩=some (.int .i64 f.ty)
 c1:w.cell? ⟨x,1,none⟩=some (.int .i64 f.fl)
 c2:w.cell? ⟨x,2,none⟩=some (.int .i64 f.st)
 c3:w.cell? ⟨x,3,none⟩=some (.string f.data)
 c4:w.cell? ⟨x,4,none⟩=some (.int .i64 f.pad)
 c5:w.cell? ⟨x,5,none⟩=some (.slice none 0 0)
 c6:w.cell? ⟨x,6,none⟩=some (.int .i64 0)
 c7:w.cell? ⟨x,7,none⟩=some (.int .i64 0)
 c8:w.cell? ⟨x,8,none⟩=some (.int .i64 0)
 c9:w.cell? ⟨x,9,none⟩=some (.int .i64 0)
 c10:w.cell? ⟨x,10,none⟩=some (.int .i64 0)
 c11:w.cell? ⟨x,11,none⟩=some (.bool false)
 lt:x<w.heap.size
theorem fD.of {w:World}{x:Nat}{f:Fr}(kx:w.heap[x]?=some (.cells f.cells 52 (0,0))):fD w x f:=by
 refine⟨?_,?_,?_,?_,?_,?_,?_,?_,?_,?_,?_,?_,(Array.getElem?_eq_some_iff.1 kx).1⟩ <;> (unfold World.cell?;rw[kx];rfl)
theorem fD.keep {w w':World}{x:Nat}{f:Fr}(h:fD w x f) (hs:w.heap.size≤w'.heap.size) (hb:w'.heap[x]?=w.heap[x]?):fD w' x f:=by
 have e:∀j,w'.cell? ⟨x,j,none⟩=w.cell? ⟨x,j,none⟩:=fun j=>World.cell?_of_block (a:=⟨x,j,none⟩) hb
 exact⟨(e _).trans h.c0,(e _).trans h.c1,(e _).trans h.c2,(e _).trans h.c3,(e _).trans h.c4,(e _).trans h.c5,(e _).trans h.c6,(e _).trans h.c7,(e _).trans h.c8,(e _).trans h.c9,(e _).trans h.c10,(e _).trans h.c11,fI h.lt hs⟩
theorem fD.below {w w':World}{x:Nat}{f:Fr}(h:fD w x f) (hb:Below w.heap.size w w'):fD w' x f:=h.keep hb.size (hb.block x h.lt)
end
section
open Go.RowKit
def bD (f:Fr) (pd:Bool):List UInt8:=be 3 (dG f pd).length++[UInt8.ofNat f.ty,UInt8.ofNat f.fl]++be 4 f.st++dG f pd
theorem Kv (f:Fr) (pd:Bool):(dG f pd).length≤f.data.size+f.pad+1:=by
 unfold dG
 have hd:f.data.data.toList.length=f.data.size:=by simp
 rw[aN,aN,List.length_replicate,hd]
 split
 ·simp only[fe,List.length_nil];omega
 ·simp only[List.length_nil];omega
theorem XB {a b:Nat}(ha:a<256) (hb:b<256):ak [UInt8.ofNat a,UInt8.ofNat b]=[Value.int .u8 (a:Int),.int .u8 (b:Int)]:=by
 rw[Ak (by omega) (by omega),Ak (by omega) (by omega)];rfl
end
section
open Go.RowKit
def LV (is:Bool) (code st:Int):Value:=.agg #[.bool is,.int .i64 code,.int .i64 st]
theorem Ev:(Tryz.prog.info? 128).map (·.size)=some 3:=by kernel_rfl
theorem afK (ty st:Nat) (w:World) (hty:ty=0∨ty=1∨ty=9) (hst : 0<st) :
 Calls Tryz.prog 157 #[.int .i64 ty,.int .i64 st] w fun e w'=>e = .returned (.bool false)∧w=w':=by
 have h1:((st:Int)==0)=false:=by rw[fO];omega
 rcases hty with rfl | rfl | rfl
 all_goals
  go_enter Tryz.func157,Tryz.ntmps157
  go_wp2
  go_ret
  exact⟨rfl,rfl⟩
theorem ab9 (ty fl:Nat) (pd:Bool) (w:World) (hty:ty=0∨ty=1) (h8:Go.bits .and .i64 (fl:Int) 8=if pd then 8 else 0) (h32:ty=1→Go.bits .and .i64 (fl:Int) 32=0) :
 Calls Tryz.prog 181 #[.int .i64 ty,.int .i64 fl] w fun e w'=>e = .returned (.int .i64 (if pd then 1 else 0))∧w=w':=by
 cases pd
 ·simp only[zD,if_false] at h8 ⊢
  rcases hty with rfl | rfl
  ·clear h32
   go_enter Tryz.func181,Tryz.ntmps181
   go_wp2
   go_ret
   exact⟨rfl,rfl⟩
  ·have Cm:=h32 rfl
   clear h32
   go_enter Tryz.func181,Tryz.ntmps181
   go_wp2
   go_ret
   exact⟨rfl,rfl⟩
 ·simp only[if_true] at h8 ⊢
  rcases hty with rfl | rfl
  ·clear h32
   go_enter Tryz.func181,Tryz.ntmps181
   go_wp2
   go_ret
   exact⟨rfl,rfl⟩
  ·have Cm:=h32 rfl
   clear h32
   go_enter Tryz.func181,Tryz.ntmps181
   go_wp2
   go_ret
   exact⟨rfl,rfl⟩
theorem afN (ty fl n:Nat) (pd:Bool) (w:World) (hty:ty=0∨ty=1∨ty=9) (h8:Go.bits .and .i64 (fl:Int) 8=if pd then 8 else 0) (h32:ty=1→Go.bits .and .i64 (fl:Int) 32=0) (hn:ty≠9→pd=true→1≤n) :
 Calls Tryz.prog 158 #[.int .i64 ty,.int .i64 fl,.int .i64 n] w fun e w'=>e = .returned (.bool false)∧Below w.heap.size w w':=by
 by_cases h9:ty=9
 ·subst h9
  clear h8 h32 hn hty
  go_enter Tryz.func158,Tryz.ntmps158
  go_wp2_with fail
  go_ret
  exact⟨rfl,(Below.refl _ _).alloc (ah _) _⟩
 ·have P6:ty=0∨ty=1:=by omega
  have HA:=af (fun w=>ab9 ty fl pd w P6 h8 h32)
  have hn2:=hn h9
  clear h8 h32 hn hty h9
  cases pd
  ·simp only[zD,if_false] at HA
   clear hn2
   rcases P6 with rfl | rfl
   all_goals
    go_enter Tryz.func158,Tryz.ntmps158
    go_wp2_with fail
    refine (HA.out _).mono ?_
    rintro e w1 ⟨rfl,rfl⟩
    go_wp2_with fail
    go_ret
    exact⟨rfl,(Below.refl _ _).alloc (ah _) _⟩
  ·simp only[if_true] at HA
   have hn3 : 1≤(n:Int):=by have:=hn2 rfl;omega
   clear hn2
   rcases P6 with rfl | rfl
   all_goals
    go_enter Tryz.func158,Tryz.ntmps158
    go_wp2_with fail
    refine (HA.out _).mono ?_
    rintro e w1 ⟨rfl,rfl⟩
    go_wp2_with fail
    go_ret
    refine⟨?_,(Below.refl _ _).alloc (ah _) _⟩
    show Ending.returned (.bool (decide ((n:Int)<1)))=_
    rw[bU (by omega)]
def UnRel (W:World) (iv:Value) (wr:World):Prop:=iv = .int .i64 0∧wr=W
theorem unfit_nil (w:World) :
 Calls Tryz.prog 160 #[.slice none 0 0] w fun e w'=>e = .returned (LV false 0 0)∧Below w.heap.size w w':=by
 go_enter Tryz.func160,Tryz.ntmps160
 go_upto_region 1 with fail
 refine bI ?_
 intro W0 hW0
 have kx:W0.heap[w.heap.size]?=some (.cells #[.bool false,.int .i64 0,.int .i64 0] 128 (0,0)):=by rw[hW0];exact aZ _ _
 have b0:Below w.heap.size w W0:=by rw[hW0];exact (Below.refl _ _).alloc (ah _) _
 have HK:=af (And.intro kx b0)
 clear hW0 kx b0
 go_wp2_with fail
 go_loopw [4,7] (fun _ iv wr=>UnRel W0 iv wr) (fun _ iv _=>0)
 case atStart=>exact⟨rfl,rfl⟩
 case round=>
  obtain⟨rfl,rfl⟩:=hrel
  go_wp2_with (refine wpList_store_rowTo rfl 128 (.tmp 2) (.tmp 45) rfl rfl w.heap.size #[.bool false,.int .i64 0,.int .i64 0] rfl rfl 128 _ HK.out.1 Ev rfl (by simp[Value.oneCell']) ?_)
  refine bodyPost_ret (results_cell_row rfl _ _ w.heap.size 128 _ (0,0) _ rfl (setRow_heap _ _ _ _ _ _ HK.out.1) Tryz.underlying128 rfl Ev) rfl ?_
  exact⟨rfl,HK.out.2.trans ⟨rfl,rfl,rfl,by simp,fun k hk=>setRow_other _ _ _ _ (by omega)⟩⟩
end
section
open Go.RowKit
def Fr.bare (f:Fr):Fr:=⟨f.ty,f.fl,f.st,⟨#[]⟩,0⟩
def FT (w:World) (x:Nat) (f:Fr) (e:Ending) (w':World):Prop:=e = .returned (.bool true)∧w'.heap[x]?=some (.cells f.cells 52 (0,0))∧Kept (fun k=>k=x) w w'
theorem toStr (s:ByteArray):(⟨s.data.toList.toArray⟩:ByteArray)=s:=by cases s;simp
theorem agp {A:Option Addr}{n cap x:Nat}(f:Fr) (pd:Bool) (w:World) (hf:Hq f pd) (h9:f.ty=9) (kx:w.heap[x]?=some (.cells f.bare.cells 52 (0,0))) (hr:Rd w w.heap.size 1 A n (ak (dG f pd))) :
 Calls Tryz.prog 159 #[.pointer (some ⟨x,0,none⟩),.slice A n cap] w (FT w x f):=by
 obtain⟨ty,fl,st,data,pad⟩:=f
 have hp:=hf.c9 h9
 simp only at h9 hp
 subst h9 hp
 rw[agN,jQ] at hr
 have e1:=sJ Tryz.underlying48 Tryz.underlying5 Tryz.underlying9 hr cap
 rw[toStr] at e1
 have HK:=af kx
 obtain⟨c0,c1,c2,c3,c4,c5,c6,c7,c8,c9,c10,c11,hxl⟩:=fD.of kx
 simp only[Fr.bare] at c0 c1 c2 c3 c4
 have fz:w.frozen? ⟨x,3,none⟩=false:=by unfold World.frozen?;rw[kx];rfl
 clear kx hr hf
 go_enter Tryz.func159,Tryz.ntmps159
 go_wp2_with fail
 go_ret
 refine⟨rfl,?_,(Kept.refl (fun k=>k=x) w).setCell (g:=x) rfl 3 _⟩
 rw[oH _ HK.out]
 rfl
theorem agr {A:Option Addr}{n cap x:Nat}(f:Fr) (w:World) (hf:Hq f false) (h9:f.ty=0∨f.ty=1) (kx:w.heap[x]?=some (.cells f.bare.cells 52 (0,0))) (hr:Rd w w.heap.size 1 A n (ak (dG f false))) (hc:n≤cap) (hm:cap≤maxLen) :
 Calls Tryz.prog 159 #[.pointer (some ⟨x,0,none⟩),.slice A n cap] w (FT w x f):=by
 obtain⟨ty,fl,st,data,pad⟩:=f
 have hp:=hf.np rfl
 have h8:=hf.f8
 have h32:=hf.f32
 simp only[zD,if_false] at h9 hp h8 h32
 subst hp
 rw[agO,jQ,List.replicate_zero,kR] at hr
 have e1:=sJ Tryz.underlying48 Tryz.underlying5 Tryz.underlying9 hr cap
 rw[toStr] at e1
 have HK:=af kx
 obtain⟨c0,c1,c2,c3,c4,c5,c6,c7,c8,c9,c10,c11,hxl⟩:=fD.of kx
 simp only[Fr.bare] at c0 c1 c2 c3 c4
 have fz:w.frozen? ⟨x,3,none⟩=false:=by unfold World.frozen?;rw[kx];rfl
 have hcm:cap≤9223372036854775807:=by unfold maxLen at hm;exact hm
 clear kx hr hf hm
 rcases h9 with rfl | rfl
 ·clear h32
  go_enter Tryz.func159,Tryz.ntmps159
  go_wp2_with fail
  go_ret
  refine⟨rfl,?_,(Kept.refl (fun k=>k=x) w).setCell (g:=x) rfl 3 _⟩
  rw[oH _ HK.out]
  rfl
 ·have Cm:=h32 rfl
  clear h32
  go_enter Tryz.func159,Tryz.ntmps159
  go_wp2_with fail
  go_ret
  refine⟨rfl,?_,(Kept.refl (fun k=>k=x) w).setCell (g:=x) rfl 3 _⟩
  rw[oH _ HK.out]
  rfl
theorem agq {A:Option Addr}{n cap x:Nat}(f:Fr) (w:World) (hf:Hq f true) (h1 : 1≤f.pad) (h9:f.ty=0∨f.ty=1) (kx:w.heap[x]?=some (.cells f.bare.cells 52 (0,0))) (hr:Rd w w.heap.size 1 A n (ak (dG f true))) (hc:n≤cap) (hm:cap≤maxLen) (hx:∀a,A=some a→a.block≠x) :
 Calls Tryz.prog 159 #[.pointer (some ⟨x,0,none⟩),.slice A n cap] w (FT w x f):=by
 obtain⟨ty,fl,st,data,pad⟩:=f
 have wI:=hf.pad
 have h8:=hf.f8
 have h32:=hf.f32
 simp only[if_true] at h9 h8 h32 h1 wI
 rw[agP (by omega)] at hr
 have iF:=hr.mR
 have hd:data.data.toList.length=data.size:=by simp
 simp only[aN,fe,List.length_nil,List.length_replicate,hd] at iF
 obtain⟨-,b,o,rfl,hb,hcc⟩:=hr.tL (by omega)
 have dD:b≠x:=hx _ rfl
 have p0:w.cell? ⟨b,o,none⟩=some (.int .u8 pad):=by
  have:=hcc 0 (by omega)
  rw[Nat.add_zero] at this
  rw[this]
  congr 2
  show ((UInt8.ofNat pad).toNat:Int)=pad
  rw[toNat_ofNat (by omega)]
 have hr1:=hr.lh (lo:=1) (hi:=1+data.size) (by omega) (by omega) hc
 rw[aj (by omega),show 1+data.size-1=data.size by omega] at hr1
 have e1:((([UInt8.ofNat pad]++data.data.toList++List.replicate pad 0).drop 1).take data.size)=data.data.toList:=by
  simp only[oM,List.drop_succ_cons,List.drop_zero]
  rw[←hd];exact List.take_left
 rw[e1] at hr1
 have HK:=af kx
 obtain⟨c0,c1,c2,c3,c4,c5,c6,c7,c8,c9,c10,c11,hxl⟩:=fD.of kx
 simp only[Fr.bare] at c0 c1 c2 c3 c4
 have fz:∀o,w.frozen? ⟨x,o,none⟩=false:=fun o=>by unfold World.frozen?;rw[kx];rfl
 have fz4:=fz 4
 have fz3:=fz 3
 have hcm:cap≤9223372036854775807:=by unfold maxLen at hm;exact hm
 have hcv:(convert 48 9 (.slice (some ⟨b,o+1,none⟩) (n-1-pad) (cap-1))).run Tryz.prog (w.setCell ⟨x,4,none⟩ (.int .i64 pad)).drew = .ok (.string data) (w.setCell ⟨x,4,none⟩ (.int .i64 pad)).drew:=by
  have hr2:Rd (w.setCell ⟨x,4,none⟩ (.int .i64 pad)).drew w.heap.size 1 (some ⟨b,o+1,none⟩) (n-1-pad) (ak data.data.toList):=by
   rw[show n-1-pad=data.size by omega]
   refine⟨hr1.1,fun h0=>?_⟩
   obtain⟨b',o',he,hb',hc'⟩:=hr1.2 h0
   simp[Addr.add_lit] at he
   obtain⟨rfl,rfl⟩:=he
   exact⟨_,_,rfl,hb',fun j hj=>(World.cell?_setCell_other w _ ⟨b,o+1+j,none⟩ _ (fun e=>dD (by injection e with e1;exact e1.symm))).trans (hc' j hj)⟩
  have:=sJ Tryz.underlying48 Tryz.underlying5 Tryz.underlying9 hr2 (cap-1)
  rwa [toStr] at this
 clear kx hr hf hm hr1 e1 hd hcc hx fz
 rcases h9 with rfl | rfl
 ·clear h32
  go_enter Tryz.func159,Tryz.ntmps159
  go_upto_region 5 with fail
  go_region
  all_goals
   go_wp2_with fail
   go_ret
   refine⟨rfl,?_,(((Kept.refl (fun k=>k=x) w).setCell (g:=x) rfl 4 _).setCell (g:=x) rfl 3 _).drew⟩
   show ((w.setCell ⟨x,4,none⟩ (.int .i64 pad)).setCell ⟨x,3,none⟩ (.string data)).heap[x]?=_
   rw[oH _ (oH (w:=w) _ HK.out)]
   rfl
 ·have Cm:=h32 rfl
  clear h32
  go_enter Tryz.func159,Tryz.ntmps159
  go_upto_region 5 with fail
  go_region
  all_goals
   go_wp2_with fail
   go_ret
   refine⟨rfl,?_,(((Kept.refl (fun k=>k=x) w).setCell (g:=x) rfl 4 _).setCell (g:=x) rfl 3 _).drew⟩
   show ((w.setCell ⟨x,4,none⟩ (.int .i64 pad)).setCell ⟨x,3,none⟩ (.string data)).heap[x]?=_
   rw[oH _ (oH (w:=w) _ HK.out)]
   rfl
end
section
open Go.RowKit
theorem agm {A:Option Addr}{n cap x:Nat}(f:Fr) (pd:Bool) (w:World) (hf:Hq f pd) (h1:pd=true→1≤f.pad) (kx:w.heap[x]?=some (.cells f.bare.cells 52 (0,0))) (hr:Rd w w.heap.size 1 A n (ak (dG f pd))) (hc:n≤cap) (hm:cap≤maxLen) (hx:∀a,A=some a→a.block≠x) :
 Calls Tryz.prog 159 #[.pointer (some ⟨x,0,none⟩),.slice A n cap] w (FT w x f):=by
 by_cases h9:f.ty=9
 ·exact agp f pd w hf h9 kx hr
 ·have h01:f.ty=0∨f.ty=1:=by have:=hf.ty;omega
  cases pd with
  | false=>exact agr f w hf h01 kx hr hc hm
  | true=>exact agq f w hf (h1 rfl) h01 kx hr hc hm hx
theorem Tm {tmps:Array Value}{w:World}{g h:Nat}{cs cs2:Array Value}(hp:tmps.getD 4 undef = .pointer (some ⟨g,0,none⟩)) (wH:tmps.getD 6 undef = .pointer (some ⟨h,0,none⟩)) (hg:w.heap[g]?=some (.cells cs 52 (0,0))) (hh:w.heap[h]?=some (.cells cs2 128 (0,0))) (hs:cs.size=12) (hs2:cs2.size=3) :
 (results Tryz.f130 tmps).run Tryz.prog w = .ok (.tuple #[.agg cs,tmps.getD 5 undef,.agg cs2]) w:=by
 have h1:=run_loadVar_row (P:=Tryz.prog) w g 52 52 cs (0,0) _ hg Tryz.underlying52 rfl (by rw[IG,hs])
 have h2:=run_loadVar_row (P:=Tryz.prog) w h 128 128 cs2 (0,0) _ hh Tryz.underlying128 rfl (by rw[Ev,hs2])
 have hp':tmps[4]?.getD undef = .pointer (some ⟨g,0,none⟩):=by simpa using hp
 have hp2':tmps[6]?.getD undef = .pointer (some ⟨h,0,none⟩):=by simpa using wH
 simp[results,Tryz.results130,hp',hp2',asAddr,h1,h2]
theorem Dc (w:World) (a b:Obj):((w.alloc a).alloc b).heap[w.heap.size]?=some a:=(Below.heap_alloc _ _ _ (by simp)).trans (aZ _ _)
def yg:Fr:=⟨0,0,0,⟨#[]⟩,0⟩
def Jr (w:World) (f:Fr) (n:Nat) (e:Ending) (w':World):Prop:=e = .returned (.tuple #[gF f,.int .i64 n,LV false 0 0])∧Below w.heap.size w w'
theorem aex {A:Option Addr}{n cap:Nat}(most:Int) (w:World) (hn:n<9) :
 Calls Tryz.prog 130 #[.slice A n cap,.int .i64 most] w (Jr w yg 0):=by
 go_enter Tryz.func130,Tryz.ntmps130
 go_wp2_with fail
 refine bodyPost_ret (Tm rfl rfl (Dc _ _ _) (AV _ _ _) rfl rfl) rfl ?_
 exact⟨rfl,((Below.refl _ _).alloc (ah _) _).alloc (by simp) _⟩
structure Head (l:List UInt8) (f:Fr) (pd:Bool) (m:Nat):Prop where
 ok:Hq f pd
 p1:pd=true→1≤f.pad
 st1 : 0<f.st
 len:(dG f pd).length=m
 sz:oh ((l.drop 0).take 3)=m
 ty:ba l 3=f.ty
 fl:ba l 4=f.fl
 st:oh ((l.drop 5).take 4)=f.st
theorem and31 {st:Nat}(h:st≤2147483647):Go.bits .and .i64 (st:Int) 2147483647=st:=by
 have key:(BitVec.ofInt 64 (st:Int) &&& BitVec.ofInt 64 (2147483647:Int)).toNat=st:=by
  rw[BitVec.toNat_and,BitVec.toNat_ofInt,BitVec.toNat_ofInt]
  rw[show ((st:Int)%((2^64:Nat):Int)).toNat=st by omega,show ((2147483647:Int)%((2^64:Nat):Int)).toNat=2^31-1 by decide,Nat.and_two_pow_sub_one_eq_mod]
  omega
 show IntKind.i64.wrap ((BitVec.ofInt 64 (st:Int) &&& BitVec.ofInt 64 (2147483647:Int)).toNat:Nat)=_
 rw[key]
 exact IntWalk.i64_in _ ⟨by omega,by omega⟩
end
section
open Go.RowKit
theorem acN:∀(k n a:Nat),(be k n).foldl (fun s c=>s*256+c.toNat) a=a*256^k+n%256^k:=by
 intro k
 induction k with
 | zero=>intro n a;simp[be,Nat.mod_one]
 | succ k ih=>
  intro n a
  have hd:(UInt8.ofNat (n / 256^k%256)).toNat=n / 256^k%256:=by
   rw[UInt8.toNat_ofNat'];omega
  simp only[be,nD,hd,ih]
  rw[qH,Nat.mod_mul,Nat.add_mul,Nat.mul_assoc,Nat.mul_comm 256 (256^k),Nat.mul_comm (n / 256^k%256)]
  omega
theorem Xo {k n:Nat}(h:n<256^k):oh (be k n)=n:=by
 unfold oh
 rw[acN,Nat.mod_eq_of_lt h];omega
structure Good (most:Nat) (p:Fr×Bool):Prop where
 ok:Hq p.1 p.2
 p1:p.2=true→1≤p.1.pad
 st1 : 0<p.1.st
 len:(dG p.1 p.2).length≤most
def strm (fs:List (Fr×Bool)):List UInt8:=fs.flatMap fun p=>bD p.1 p.2
theorem KJ (p:Fr×Bool) (fs:List (Fr×Bool)):strm (p :: fs)=bD p.1 p.2++strm fs:=by simp[strm]
theorem aaR (fs gs:List (Fr×Bool)):strm (fs++gs)=strm fs++strm gs:=by simp[strm]
theorem Gc (f:Fr) (pd:Bool):(bD f pd).length=9+(dG f pd).length:=by
 simp[bD,jX];omega
def qR (f:Fr) (pd:Bool):List UInt8:=be 3 (dG f pd).length++[UInt8.ofNat f.ty,UInt8.ofNat f.fl]++be 4 f.st
theorem YH (f:Fr) (pd:Bool):(qR f pd).length=9:=by simp[qR,jX]
theorem OH (f:Fr) (pd:Bool):bD f pd=qR f pd++dG f pd:=by simp[bD,qR]
theorem be3 (n:Nat):be 3 n=[UInt8.ofNat (n / 65536%256),UInt8.ofNat (n / 256%256),UInt8.ofNat (n%256)]:=by simp[be]
theorem be4 (n:Nat):be 4 n=[UInt8.ofNat (n / 16777216%256),UInt8.ofNat (n / 65536%256),UInt8.ofNat (n / 256%256),UInt8.ofNat (n%256)]:=by simp[be]
theorem aeI {most:Nat}{p:Fr×Bool}{t:List UInt8}(hg:Good most p) (hm:most≤16777215):Head (qR p.1 p.2++t) p.1 p.2 (dG p.1 p.2).length:=by
 have hl:=hg.len
 refine⟨hg.ok,hg.p1,hg.st1,rfl,?_,?_,?_,?_⟩
 ·rw[show ((qR p.1 p.2++t).drop 0).take 3=be 3 (dG p.1 p.2).length by simp[qR,be3]]
  exact Xo (by omega)
 ·have h1:=hg.ok.ty
  simp[ba,qR,be3]
  omega
 ·have h1:=hg.ok.fl
  simp[ba,qR,be3]
  omega
 ·rw[show ((qR p.1 p.2++t).drop 5).take 4=be 4 p.1.st by simp[qR,be3,be4]]
  exact Xo (by have:=hg.ok.st;omega)
theorem ag1 {most:Nat}{p:Fr×Bool}{gs:List (Fr×Bool)}{r:List UInt8}(hg:Good most p) (hm:most≤16777215) (hr:r <+: strm (p :: gs)) (h9 : 9≤r.length):Head r p.1 p.2 (dG p.1 p.2).length:=by
 obtain⟨u,hu⟩:=hr
 rw[KJ,OH,jf] at hu
 have h1:r=qR p.1 p.2++r.drop 9:=by
  have h2:(r++u).take 9=(qR p.1 p.2++(dG p.1 p.2++strm gs)).take 9:=by rw[hu]
  rw[List.take_append_of_le_length h9,List.take_left' (YH _ _)] at h2
  rw[←h2,vV]
 rw[h1]
 exact aeI hg hm
theorem Z6 {p:Fr×Bool}{gs:List (Fr×Bool)}{r:List UInt8}(hr:r <+: strm (p :: gs)) (h9 : 9+(dG p.1 p.2).length≤r.length) :
 (r.drop 9).take (dG p.1 p.2).length=dG p.1 p.2∧r=bD p.1 p.2++r.drop (9+(dG p.1 p.2).length)∧r.drop (9+(dG p.1 p.2).length) <+: strm gs:=by
 obtain⟨u,hu⟩:=hr
 rw[KJ] at hu
 have hl:=Gc p.1 p.2
 have h1:r=bD p.1 p.2++r.drop (9+(dG p.1 p.2).length):=by
  have h2:(r++u).take (9+(dG p.1 p.2).length)=(bD p.1 p.2++strm gs).take (9+(dG p.1 p.2).length):=by rw[hu]
  rw[List.take_append_of_le_length h9,List.take_left' hl] at h2
  rw[←h2,vV]
 obtain⟨r2,hr2⟩:∃r2,r.drop (9+(dG p.1 p.2).length)=r2:=⟨_,rfl⟩
 rw[hr2] at h1 ⊢
 subst h1
 refine⟨?_,rfl,⟨u,?_⟩⟩
 ·rw[OH,jf,List.drop_left' (YH _ _),List.take_left]
 ·rw[jf] at hu
  exact List.append_cancel_left hu
end
section
open Go.RowKit
def fdC (most:Int) (v:Value) (ov:Bool):Array Value:=#[.int .i64 most,.int .i64 24,v,.bool ov]
def iJ (w:World) (x:Nat) (most:Int) (v:Value):Prop:=w.heap[x]?=some (.cells (fdC most v false) 163 (0,0))
theorem iJ.c0 {w:World}{x:Nat}{most:Int}{v:Value}(h:iJ w x most v):w.cell? ⟨x,0,none⟩=some (.int .i64 most):=by unfold World.cell?;rw[h];rfl
theorem iJ.c1 {w:World}{x:Nat}{most:Int}{v:Value}(h:iJ w x most v):w.cell? ⟨x,1,none⟩=some (.int .i64 24):=by unfold World.cell?;rw[h];rfl
theorem iJ.c2 {w:World}{x:Nat}{most:Int}{v:Value}(h:iJ w x most v):w.cell? ⟨x,2,none⟩=some v:=by unfold World.cell?;rw[h];rfl
theorem iJ.c3 {w:World}{x:Nat}{most:Int}{v:Value}(h:iJ w x most v):w.cell? ⟨x,3,none⟩=some (.bool false):=by unfold World.cell?;rw[h];rfl
theorem iJ.lt {w:World}{x:Nat}{most:Int}{v:Value}(h:iJ w x most v):x<w.heap.size:=(Array.getElem?_eq_some_iff.1 h).1
theorem iJ.fz {w:World}{x:Nat}{most:Int}{v:Value}(h:iJ w x most v) (o:Nat):w.frozen? ⟨x,o,none⟩=false:=by unfold World.frozen?;rw[h];rfl
theorem iJ.keep {w w':World}{x:Nat}{most:Int}{v:Value}(h:iJ w x most v) (hk:w'.heap[x]?=w.heap[x]?):iJ w' x most v:=hk.trans h
theorem iJ.IY {w:World}{x:Nat}{most:Int}{v:Value}(h:iJ w x most v) (u:Value):iJ (w.setCell ⟨x,2,none⟩ u) x most u:=oH u h
theorem iJ.set3 {w:World}{x:Nat}{most:Int}{v:Value}(h:iJ w x most v):iJ (w.setCell ⟨x,3,none⟩ (.bool false)) x most v:=oH _ h
theorem aeW {p:Option Addr}(w:World) :
 Calls Tryz.prog 96 #[.pointer p] w fun e w'=>e = .returned (.func (.func 129) #[] #[.pointer (some ⟨w.heap.size,0,none⟩)])∧w'=w.alloc (.cells #[.pointer p] 91):=by
 go_enter Tryz.func96,Tryz.ntmps96
 go_wp2
 go_ret
 exact⟨rfl,rfl⟩
end
section
open Go.RowKit
structure ItAt (w:World) (x:Nat) (most:Nat) (S:Nat→Prop) (fs:List (Fr×Bool)) (L:List UInt8) (J:Nat→World→Prop) (k:Nat) (r:List UInt8) (A:Option Addr) (n cap:Nat):Prop where
 feed:iJ w x most (.slice A n cap)
 rd:Rd w w.heap.size 1 A n (ak r)
 blk : 0<n→∀a,A=some a→a.block≠x∧¬S a.block
 nc:n≤cap
 cm:cap≤maxLen
 kl:k≤fs.length
 pre:r <+: strm (fs.drop k)
 all:L=strm (fs.take k)++r
 j:J k w
def NT (x Bb:Nat) (most:Nat) (S:Nat→Prop) (fs:List (Fr×Bool)) (L:List UInt8) (J:Nat→World→Prop) (w:World):Prop:=w.cell? ⟨Bb,0,none⟩=some (.pointer (some ⟨x,0,none⟩))∧Bb<w.heap.size∧∃k r A n cap,ItAt w x most S fs L J k r A n cap
def Lj (x:Nat) (w:World):Nat:=match w.cell? ⟨x,2,none⟩ with
 | some (.slice _ n _)=>n
 | _=>0
def ItEnd (x:Nat) (most:Nat) (S:Nat→Prop) (fs:List (Fr×Bool)) (L:List UInt8) (J:Nat→World→Prop) (e:Ending) (w:World):Prop:=(∃v,e = .returned v)∧∃k r A n cap,ItAt w x most S fs L J k r A n cap∧∀p,fs[k]?=some p→n<9+(dG p.1 p.2).length
theorem aaH (A:Option Addr) (nb cap a:Nat) (ha:a≤nb):∃A',A'=(if cap=a then A else A.map (·.add a))∧∀w,(Instr.slice 48 (.slice A nb cap) (some (.int .i64 (a:Int))) none none).run Tryz.prog w = .ok (.slice A' (nb-a) (cap-a)) w:=by
 refine⟨_,rfl,fun w=>?_⟩
 rw[run_slice_l (P:=Tryz.prog) (w:=w) 48 A nb cap Tryz.underlying48 .i64 (a:Int) (by omega) (by omega)]
 simp only[Cb]
 have hs:∀w,(sizeOf (Tryz.prog.elem 48)).run Tryz.prog w = .ok 1 w:=fun _=>by kernel_rfl
 rw[hs]
 simp[Result.andThen,sliced]
theorem Rd.from7 {w:World}{B nb cap a:Nat}{A A':Option Addr}{b:List UInt8}(h:Rd w B 1 A nb (ak b)) (ha:a≤nb) (hc:nb≤cap) (hA':A'=(if cap=a then A else A.map (·.add a))):Rd w B 1 A' (nb-a) (ak (b.drop a)):=by
 have hb:=h.mR
 have h1:=h.lh (lo:=a) (hi:=nb) ha (ah _) hc
 rw[cB (by simp;omega)] at h1
 rw[hA']
 exact h1
theorem upon_of_wp {P:Program}{o:Oper}{a:Act}{w:World}{K:Act→World→Prop}{Q:Exit→Act→World→Prop}{R:Result Next}(e:(execOp a.eval o).run P w=R) (h:o.wp P a w K Q):o.upon P a K Q R:=by subst e;exact h
theorem ad6 {w:World}{g b o:Nat}{cs:Array Value}(h:b≠g):(w.setRow g cs).cell? ⟨b,o,none⟩=w.cell? ⟨b,o,none⟩:=World.cell?_of_block (a:=⟨b,o,none⟩) (setRow_other _ _ _ _ h)
theorem ad5 {w:World}{b o:Nat}{ob:Obj}(h:b<w.heap.size):(w.alloc ob).cell? ⟨b,o,none⟩=w.cell? ⟨b,o,none⟩:=World.cell?_alloc_lt w ob ⟨b,o,none⟩ h
theorem yI {B:Nat}{w w':World}{g:Nat}{cs:Array Value}(h:Below B w w') (hg:B≤g):Below B w (w'.setRow g cs):=⟨h.os,h.tape,h.output,by have:=h.size;simpa [World.setRow] using this,fun k hk=>(setRow_other _ _ _ _ (by omega)).trans (h.block k hk)⟩
theorem yN {w:World}{x:Nat}{cs:Array Value}{t:TypeId}(h:w.heap[x]?=some (.cells cs t (0,0))) (o:Nat):w.frozen? ⟨x,o,none⟩=false:=by unfold World.frozen?;rw[h];rfl
theorem OG {w:World}{x:Nat}{t:TypeId}(h:w.heap[x]?=some (.cells #[.bool false,.int .i64 0,.int .i64 0] t (0,0))):w.cell? ⟨x,0,none⟩=some (.bool false)∧w.cell? ⟨x,1,none⟩=some (.int .i64 0)∧w.cell? ⟨x,2,none⟩=some (.int .i64 0):=by refine⟨?_,?_,?_⟩ <;> (unfold World.cell?;rw[h];rfl)
end
end Go.Proofs.YtpkmciohehaboaaGreatDoor
