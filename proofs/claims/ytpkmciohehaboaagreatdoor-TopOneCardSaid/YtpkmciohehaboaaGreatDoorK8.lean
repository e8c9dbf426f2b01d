/- Part 8 of the proof. -/
import Derived.Test.YtpkmciohehaboaaGreatDoorK0
import Derived.Test.YtpkmciohehaboaaGreatDoorK7
import Derived.Lib.SlTrimSet
import Derived.Test.YtpkmciohehaboaaGreatDoorShelfP
import Derived.Lib.IndexAny
import Derived.WideShapes
set_option maxRecDepth 100000
set_option maxHeartbeats 100000000
set_option linter.unusedVariables false
set_option linter.unusedSimpArgs false
set_option linter.unusedSectionVars false
set_option linter.unnecessarySimpa false
namespace Go.Proofs.YtpkmciohehaboaaGreatDoor
section
open Go.RowKit
def xZ (fn:FuncId) (tmps:Array Value) (ps:Array Tmp) (assign body:Code) (D:Nat) (st:LoopState) (pe:Option Code):Loop:={ state:=st,pending:=pe,fn:=fn,tmps:=tmps,params:=ps,assign:=assign,body:=body,defers:=D }
def ab0 (Q:Exit→Act→World→Prop) (a:Act) (D:Nat) (rec:LoopState→Option Code→Loop) (e:Ending) (W:World):Prop:=
 (∃v,e = .returned v)∧W.heap[D+1]?=some (.loop (rec .ready none))∧Q .normal { a with defers:={ target:=.collected D,args:=#[] } :: a.defers } (W.putObj (D+1) (.loop (rec .exhausted none)))
theorem ahN {P:Program}{W:World}{l:Nat}{fn:FuncId}{tmps:Array Value}{ps:Array Tmp}{assign body:Code}{D:Nat}(hl:W.heap[l]?=some (.loop (xZ fn tmps ps assign body D .ready none))):(Instr.endLoop l).run P W = .ok none (W.putObj l (.loop (xZ fn tmps ps assign body D .exhausted none))):=run_endLoop (P:=P) hl (by simp[xZ])
theorem ahO {P:Program}{Q:Exit→Act→World→Prop}{a:Act}{W:World}{l:Nat}{fn:FuncId}{tmps:Array Value}{ps:Array Tmp}{assign body:Code}{D:Nat}(v:Value) (hl:W.heap[l]?=some (.loop (xZ fn tmps ps assign body D .ready none))) (hq:Q .normal a (W.putObj l (.loop (xZ fn tmps ps assign body D .exhausted none)))):rangePost Fence.wide 1 P l Q a (.returned v) W:=⟨none,_,ahN hl,hq⟩
theorem ahe {P:Program}{g:Operand}{ps:Array Tmp}{assign body:Code}{Q:Exit→Act→World→Prop}{a:Act}{w:World}{gf:Nat}{lb:Array Value}(hg:a.eval g = .func (.func gf) #[] lb)
 (eg:∀args w,(callFunc gf args).run P w = .ok (.enter gf args) w)
 (h:∀fn rec,rec=xZ fn a.tmps ps assign body w.heap.size→Calls P gf (#[.func (.yield (w.heap.size+1)) #[] #[]]++lb) ((w.alloc (.deferred (some []))).alloc (.loop (rec .ready none))) (ab0 Q a w.heap.size rec)) :
 (Code.rangeFunc g ps assign body).wp P Q a w:=by
 refine (wpIn_wide (n:=1)).1 (wpIn_rangeFunc ?_)
 intro fn _
 obtain⟨W1,hW1⟩:∃W1,(w.alloc (.deferred (some []))).alloc (.loop (xZ fn a.tmps ps assign body w.heap.size .ready none))=W1:=⟨_,rfl⟩
 have h2:=h fn _ rfl
 rw[hW1] at h2
 have e1:(Instr.enterLoop fn a.tmps ps assign body none).run P w = .ok (w.heap.size+1,[{ target:=.collected w.heap.size,args:=#[] }]) W1:=by rw[←hW1];exact run_enterLoop_outer _ _ _ _ _
 have e2:(resolve a.eval (rangeCall g (w.heap.size+1)) 0).run P W1 = .ok { target:=.fn (.func gf) lb,args:=#[.func (.yield (w.heap.size+1)) #[] #[]] } W1:=by
  simp only[resolve,hg]
  simp[go_sem]
 have e3:(invoke (.fn (.func gf) lb) #[.func (.yield (w.heap.size+1)) #[] #[]]).run P W1 = .ok (.enter gf (#[.func (.yield (w.heap.size+1)) #[] #[]]++lb)) W1:=by
  simp[invoke,go_sem,eg]
 have e4:CallsIn Fence.wide (1-1) P gf (#[.func (.yield (w.heap.size+1)) #[] #[]]++lb) W1 (rangePost Fence.wide 1 P (w.heap.size+1) Q { a with defers:=[{ target:=.collected w.heap.size,args:=#[] }]++a.defers }):=by
  refine (callsIn_wide (n:=1-1)).2 (h2.mono ?_)
  rintro e W ⟨⟨v,rfl⟩,hl,hq⟩
  exact ahO v hl hq
 have hro:Fence.wide.round=none:=rfl
 rw[hro]
 refine⟨w.heap.size+1,[{ target:=.collected w.heap.size,args:=#[] }],W1,{ target:=.fn (.func gf) lb,args:=#[.func (.yield (w.heap.size+1)) #[] #[]] },W1,gf,#[.func (.yield (w.heap.size+1)) #[] #[]]++lb,W1,e1,?_⟩
 refine⟨e2,?_⟩
 refine⟨fun f' _=>trivial,?_⟩
 refine⟨e3,?_⟩
 refine⟨fun _=>ah _,?_⟩
 exact e4
def NY (W:World) (l:Nat) (r:Loop):Prop:=W.heap[l]?=some (.loop r)
theorem ajK {P:Program}{l m:Nat}{args:Array Value}{W:World}{R:Ending→World→Prop}{fn:FuncId}{tmps:Array Value}{ps:Array Tmp}{assign body:Code}{D:Nat}(hl:W.heap[l]?=some (.loop (xZ fn tmps ps assign body D .ready none))) (hs:args.size=ps.size)
 (h:assign.wpIn (Fence.wide.inRound l) m P (Exit.then (fun a₁ w₁=>NY w₁ l (xZ fn tmps ps assign body D .ready none)∧body.wpIn (Fence.wide.inRound l) m P (Exit.then (fun _ w₃=>NY w₃ l (xZ fn tmps ps assign body D .busy none)∧R (.returned (.bool true)) (w₃.putObj l (.loop (xZ fn tmps ps assign body D .ready none)))) (fun _ _ _=>False)) a₁ (w₁.putObj l (.loop (xZ fn tmps ps assign body D .busy none)))) (fun _ _ _=>False))
  {tmps:=(ps.zip args).foldl (fun t (p,v)=>t.setIfInBounds p v) tmps,defers:=[] } W):YieldAt Fence.wide m P l args W R:=by
 refine⟨fn,_,assign,body,run_yield hl hs,roundIn_of_wpIn trivial (wpIn_mono h ?_)⟩
 rintro e a1 w1 h1
 cases e with
 | normal=>
  obtain⟨iE,hb⟩:=h1
  refine⟨_,run_beginRound iE rfl,wpIn_mono hb ?_⟩
  rintro e3 a3 w3 h3
  cases e3 with
  | normal=>exact⟨_,_,run_endRound none h3.1,h3.2⟩
  | ret=>exact h3.elim
  | exit id=>exact h3.elim
  | goto t=>exact h3.elim
  | panic c=>exact h3.elim
  | outgrown=>exact h3.elim
 | ret=>exact h1.elim
 | exit id=>exact h1.elim
 | goto t=>exact h1.elim
 | panic c=>exact h1.elim
 | outgrown=>exact h1.elim
end
section
open Go.RowKit
attribute [local go_sem] Oper.semAt_some
def Bp (f:Fr):List Value:=[.int .i64 f.ty,.int .i64 f.fl,.int .i64 f.st,.string f.data,.int .i64 f.pad,.slice none 0 0,.int .i64 0,.int .i64 0,.int .i64 0,.int .i64 0,.int .i64 0,.bool false,.bool false,.int .i64 0,.int .i64 0]
def jN (fs:List (Fr×Bool)):List Value:=fs.flatMap fun p=>Bp p.1
theorem aiW:rR Tryz.prog 125 130 (.agg (Bp yg).toArray) 15 144:=
 ⟨Tryz.underlying125,by kernel_rfl,rfl,by decide⟩
theorem ajD {F:Fence}{n:Nat}{P:Program}{c:Code}{Q:Exit→Act→World→Prop}{a:Act}{W:World}(h:∀W3,W3=W→c.wpIn F n P Q a W3):c.wpIn F n P Q a W:=h W rfl
theorem XF {w:World}{b:Nat}{cs:List Value}{t:TypeId}(h:w.heap[b]?=some (.cells cs.toArray t (0,0))):∀j u,cs[j]?=some u→w.cell? ⟨b,j,none⟩=some u:=by
 intro j u hu
 unfold World.cell?
 rw[h]
 simpa using hu
theorem Kept.put {F:Nat→Prop}{w w':World}(h:Kept F w w'){l:Nat}(hl:F l) (o:Obj):Kept F w (w'.putObj l o):=
 ⟨h.os,h.tape,h.output,by have:=h.size;simpa using this,fun k hk hn=>(World.putObj_heap_other (fun e=>hn (by rw[e];exact hl))).trans (h.block k hk hn)⟩
theorem aeZ {fs:List (Fr×Bool)}{k:Nat}{p:Fr×Bool}(h:fs[k]?=some p):jN (fs.take (k+1))=jN (fs.take k)++Bp p.1:=by
 rw[iw,h]
 simp[jN]
theorem pG {w:World}{B B' n size:Nat}{e:TypeId}{v:Value}{xs:List Value}(h:w.ownsRow B e size v n xs) (hb:B'≤B):w.ownsRow B' e size v n xs:=
 ⟨h.1,h.2.imp id fun ⟨g,cap,cur,h1,h2,h3⟩=>⟨g,cap,cur,h1,gM hb h2,h3⟩⟩
theorem afb {F:Fence}{m:Nat}{P:Program}{fn:Func}{R:Ending→World→Prop}{a:Act}{W:World}{D:Nat}{v:Value}(hd:a.defers=[{ target:=.collected D,args:=#[] }]) (hD:W.heap[D]?=some (.deferred (some []))) (hr:∀W,(results fn a.tmps).run P W = .ok v W)
 (h:R (.returned v) (W.putObj D (.deferred none))):bodyPostM F m P fn R .ret a W:=by
 show LeavesInM F m P fn a.tmps R a.defers .returning W
 rw[hd]
 exact⟨by simp,.inl ⟨D,_,rfl,run_takeDeferred hD,v,hr _,h⟩⟩
def Stop (p:Prop):Prop:=p
theorem dI {p:Prop}(h:Stop p):p:=h
theorem ajE {F:Fence}{m:Nat}{P:Program}{w:World}{ops:Array Oper}{rest:List Oper}{o:Oper}{a:Act}{Q:Exit→Act→World→Prop}(s x:Operand){t e:TypeId}{z:Value}{size bytes:Nat}(hT:rR P t e z size bytes)
 (hgd:o.guard=none) (ho:o.op = .call { callee:=.builtin .append,args:=#[s,x],argTypes:=#[t,t] })
 {base:Nat} {v:Value} {k:Nat} {xs:List Value} (hown:w.ownsRow base e size v k xs) (hs:a.eval s=v)
 {g n c:Nat} {news:List Value} (hb:w.heap[g]?=some (.cells news.toArray e (0,0))) (hx:a.eval x = .slice (some ⟨g,0,none⟩) n c) (hn:news.length=n*size) (h1:∀u ∈ news,u.oneCell'=true)
 (h63:k+n≤maxLen) (hbytes:(k+n)*bytes≤140737488355328) (hbase:base≤w.heap.size)
 (h:∀v' w',w'.ownsRow base e size v' (k+n) (xs++news)→w.grownBy w' v.ownBlock→wpListIn F m P ops Q rest (a.put o.dst v') w'):wpListIn F m P ops Q (o :: rest) a w:=by
 obtain⟨i,hi,e1⟩:=Option.map_eq_some_iff.1 hT.info
 injection e1 with e1 e2
 injection e2 with e2 e3
 exact wpListIn_append_own w hgd s x t ho base e i z size bytes hT.ht hi e1 e2 e3 hT.hz hT.pos v k xs hs hown ⟨g,0,none⟩ n c news hx hn (fun j u hu=>by
  rw[Addr.add_lit,mh]
  exact XF hb j u hu) h1 h63 hbytes hbase (fun v' w' h2 h3 _=>h v' w' h2 h3)
def WY (w:World) (x:Nat) (most:Int) (v:Value) (fs:List (Fr×Bool)) (L:List UInt8) (e:Ending) (w':World):Prop:=
 ∃k r V v',e = .returned V∧k≤fs.length∧L=strm (fs.take k)++r∧r <+: strm (fs.drop k)∧(∀p,fs[k]?=some p→r.length<9+(dG p.1 p.2).length)∧w'.ownsRow w.heap.size 130 15 V k (jN (fs.take k))∧b_ w' w.heap.size v' r∧iJ w' x most v'∧Kept (fun b=>b=x∨v.ownBlock=some b) w w'
structure TkJ (P:Program) (w:World) (x ob:Nat) (own:Nat→Prop) (fs:List (Fr×Bool)) (rec:Loop) (k:Nat) (W:World):Prop where
 lp:W.heap[ob+3]?=some (.loop rec)
 df:W.heap[ob+2]?=some (.deferred (some []))
 row:∃V,W.heap[ob]?=some (.cells #[V] 125 (0,0))∧W.ownsRow (ob+4) 130 15 V k (jN (fs.take k))
 kp:Kept (fun b=>b=x∨own b) w W
theorem TkJ.keep {P:Program}{w W W':World}{x ob:Nat}{own:Nat→Prop}{fs:List (Fr×Bool)}{rec:Loop}{k:Nat}(h:TkJ P w x ob own fs rec k W) (hx:x<ob) (hk:Kept (fun b=>b=x) W W'):TkJ P w x ob own fs rec k W':=by
 have h3:=(Array.getElem?_eq_some_iff.1 h.lp).1
 obtain⟨V,hV,hrow⟩:=h.row
 exact⟨(hk.block _ h3 (by omega)).trans h.lp,(hk.block _ (by omega) (by omega)).trans h.df,⟨V,(hk.block _ (by omega) (by omega)).trans hV,d_ hrow hk (fun q hq e=>by have:=(World.ownsRow.lt hrow q hq).1;omega)⟩,h.kp.same (hk.mono (fun k e=>.inl e))⟩
end
section
open Go.RowKit
def mK (c:UInt8):UInt8:=if 65≤c∧c≤90 then c+32 else c
def aO (l:List UInt8):List UInt8:=l.map mK
def marks:List UInt8:=[33,35,36,37,38,39,42,43,45,46,94,95,96,124,126]
def sM (c:UInt8):Bool:=(decide (48≤c) && decide (c≤57)) || (decide (97≤c) && decide (c≤122)) || (decide (65≤c) && decide (c≤90)) || marks.contains c
def iB (l:List UInt8):Bool:=!l.isEmpty && l.all sM
def di (c:UInt8):Bool:=c==32 || c==9
def jl (l:List UInt8):List UInt8:=Lib.trimS l [32,9]
def ni (c:UInt8):Bool:=!((decide (c<32) && !(c==9)) || c==127)
def iI (l:List UInt8):Bool:=decide ((jl l).length=l.length) && l.all ni
end
section
open Go.RowKit
theorem or32:∀c:Nat,c<256→65≤c→c≤90→Go.bits .or .u8 (c:Int) 32=((c+32:Nat):Int):=by decide +kernel
structure tF (w:World) (g n:Nat) (l:List UInt8):Prop where
 row:∃cur:Array Value,w.heap[g]?=some (.cells cur 5 (cur.size,cur.size+1))∧n≤cur.size∧cur.toList.take n=ak l
 len:l.length=n
section
variable {w w':World} {g n:Nat} {l:List UInt8}
theorem tF.cell (h:tF w g n l){i:Nat}(hi:i<n):w.cell? ⟨g,i,none⟩=some (.int .u8 (ba l i:Int)):=by
 obtain⟨cur,hb,hn,ht⟩:=h.row
 have hl:=h.len
 have e:cur[i]?=(ak l)[i]?:=by
  rw[←ht,List.getElem?_take,ax hi,Array.getElem?_toList]
 unfold World.cell?
 rw[hb]
 show cur[i]?=_
 rw[e,ak,List.getElem?_map,a_ (by omega),kH (by omega)]
 rfl
theorem tF.free (h:tF w g n l){i:Nat}(_hi:i<n):w.frozen? ⟨g,i,none⟩=false:=by
 obtain⟨cur,hb,hn,-⟩:=h.row
 unfold World.frozen?
 rw[hb]
 have:¬cur.size≤i:=by omega
 simp[this]
theorem tF.set (h:tF w g n l){i:Nat}(_hi:i<n){v:Nat}(hv:v<256):tF (w.setCell ⟨g,i,none⟩ (.int .u8 (v:Int))) g n (l.set i (UInt8.ofNat v)):=by
 obtain⟨cur,hb,hn,ht⟩:=h.row
 refine⟨⟨cur.setIfInBounds i (.int .u8 (v:Int)),?_,by simpa using hn,?_⟩,by simpa using h.len⟩
 ·simp only[World.setCell,Array.getElem?_modify,if_true]
  rw[hb]
  simp
 ·rw[Array.toList_setIfInBounds,List.take_set,ht,ak,ak,List.map_set]
  congr 1
  rw[bv]
  congr 1
  rw[UInt8.toNat_ofNat']
  omega
theorem tF.rd (h:tF w g n l):Rd w w.heap.size 1 (some ⟨g,0,none⟩) n (ak l):=by
 obtain⟨cur,hb,hn,ht⟩:=h.row
 refine⟨by rw[tO,h.len];omega,fun _=>⟨g,0,rfl,(Array.getElem?_eq_some_iff.1 hb).1,fun j hj=>?_⟩⟩
 rw[mh,←ht,List.getElem?_take,ax (by omega),Array.getElem?_toList]
 unfold World.cell?
 rw[hb]
 rfl
end
theorem aeL (w:World) (cs:Array Value) (t:TypeId) (m:Nat×Nat):(w.alloc (.cells cs t m)).heap[w.heap.size]?=some (.cells cs t m):=by
 show (w.heap.push (.cells cs t m))[w.heap.size]?=_
 simp
theorem ac3 (s:ByteArray) (c:Nat):∃z:Array Value,bytesRow s c=(ak s.data.toList).toArray++z:=by
 refine⟨Array.replicate (c-s.size) (.int .u8 0),?_⟩
 unfold bytesRow
 congr 1
 apply Array.ext'
 simp[ak,bv]
theorem ac8 {P:Program}{src dst:TypeId}(hs:P.underlying src=some .string) (hd:P.underlying dst=some (.slice 5)) (he:P.underlying 5=some (.int .u8)) (w:World) (s:ByteArray) :
 ∃c w',(convert src dst (.string s)).run P w = .ok (.slice (some ⟨w.heap.size,0,none⟩) s.size c) w'∧Below w.heap.size w w'∧tF w' w.heap.size s.size s.data.toList:=by
 obtain⟨z,hz⟩:=ac3 s (grownCap w s.size 0 5)
 have hl:(ak s.data.toList).length=s.size:=by rw[tO,gJ]
 have hr:=run_bytes_of_string w src dst 5 s hs hd he
 rw[hz] at hr
 refine⟨_,_,hr,((Below.refl _ _).drew).alloc (ah _) _,⟨_,aeL _ _ _ _,?_,?_⟩,gJ s⟩
 ·rw[Array.size_append,List.size_toArray];omega
 ·rw[Array.toList_append,List.toList_toArray,List.take_left' hl]
theorem Zj (c:UInt8):(mK c).toNat=if 65≤c.toNat∧c.toNat≤90 then c.toNat+32 else c.toNat:=by
 unfold mK
 have e1:(65≤c)↔65≤c.toNat:=UInt8.le_iff_toNat_le
 have e2:(c≤90)↔c.toNat≤90:=UInt8.le_iff_toNat_le
 by_cases h : 65≤c.toNat∧c.toNat≤90
 ·rw[ax (show 65≤c∧c≤90 from ⟨e1.2 h.1,e2.2 h.2⟩),ax h,UInt8.toNat_add]
  show (c.toNat+32)%256=_
  omega
 ·rw[aj (show ¬(65≤c∧c≤90) from fun h'=>h ⟨e1.1 h'.1,e2.1 h'.2⟩),aj h]
theorem Bq (l:List UInt8):(aO l).length=l.length:=by simp[aO]
def q8 (l:List UInt8) (k:Nat):List UInt8:=aO (l.take k)++l.drop k
theorem afx {l:List UInt8}{k:Nat}(h:k<l.length):ba (q8 l k) k=ba l k:=by
 have e:(q8 l k)[k]?=l[k]?:=by
  unfold q8
  rw[kF (by rw[Bq,kS];omega),Bq,kS,Nat.min_eq_left (by omega),zV,List.getElem?_drop,Nat.add_zero]
 unfold ba List.getD
 rw[e]
theorem Zk {l:List UInt8}{k:Nat}(h:k<l.length):q8 l (k+1)=(q8 l k).set k (mK (l[k])):=by
 unfold q8
 have hl:(aO (l.take k)).length=k:=by rw[Bq,kS];omega
 rw[List.set_append,aj (by omega),hl,zV,List.drop_eq_getElem_cons h,ay,iw,a_ h,iL]
 unfold aO
 rw[j6,jf]
 rfl
def abM (W:World) (g n:Nat) (l:List UInt8) (iv:Value) (wr:World):Prop:=∃k:Nat,iv = .int .i64 k∧k≤n∧tF wr g n (q8 l k)∧Below W.heap.size W wr
theorem IM (s:ByteArray) (w:World) (hs:s.size≤140737488355328):Calls Tryz.prog 36 #[.string s] w fun e w'=>e = .returned (.string ⟨(aO s.data.toList).toArray⟩)∧Below w.heap.size w w':=by
 obtain⟨c0,w1,hcv,hb1,hrow⟩:=ac8 Tryz.underlying9 Tryz.underlying48 Tryz.underlying5 w s
 have fM:=gJ s
 obtain⟨l,hl⟩:∃l,s.data.toList=l:=⟨_,rfl⟩
 rw[hl] at fM hrow ⊢
 obtain⟨n,hn⟩:∃n,s.size=n:=⟨_,rfl⟩
 rw[hn] at hcv hrow fM hs
 obtain⟨g,hg⟩:∃g,w.heap.size=g:=⟨_,rfl⟩
 have HB:=af hb1
 rw[hg] at hcv hrow
 have H1:=af hrow
 have HL:=af fM
 have HG:=af hg
 obtain⟨R,hR⟩:∃R:ByteArray,⟨(aO l).toArray⟩=R:=⟨_,rfl⟩
 rw[hR]
 have cz:=af hR
 clear hb1 hrow fM hg hl hn hR
 go_enter Tryz.func36,Tryz.ntmps36
 go_wp2_with fail
 go_loopw [10] (fun iv wr=>abM w g n l iv wr) (fun iv _=>n-(intOf iv).toNat)
 case atStart=>exact⟨0,rfl,aL _,H1.out,HB.out⟩
 case round=>
  obtain⟨k,rfl,hk,hrow,hb⟩:=hrel
  have HR:=af (And.intro hrow hb)
  clear hrow hb
  by_cases hlt:k<n
  ·have hkl:k<l.length:=by rw[HL.out];exact hlt
   have z:=HR.out.1.cell hlt
   have fz:=HR.out.1.free hlt
   rw[afx hkl] at z
   have hv:=jg l k
   have hbk:ba l k=(l[k]).toNat:=kH hkl
   have HS:Hid (∀v:Nat,v=(mK (l[k])).toNat→tF (wr.setCell ⟨g,k,none⟩ (.int .u8 (v:Int))) g n (q8 l (k+1))∧Below w.heap.size w (wr.setCell ⟨g,k,none⟩ (.int .u8 (v:Int)))):=af (fun v e=>by
    have h2:=HR.out.1.set hlt (v:=v) (by rw[e];exact (mK (l[k])).toNat_lt)
    rw[e,UInt8.ofNat_toNat,←Zk hkl] at h2
    rw[e]
    exact⟨h2,HR.out.2.setCell (by rw[HG.out];exact ah _) _⟩)
   have gL:Hid (mK (l[k])=l[k]→tF wr g n (q8 l (k+1))):=af (fun e=>by
    have h2:(q8 l k).set k (mK (l[k]))=q8 l k:=by
     rw[e]
     have h3:(q8 l k)[k]?=some (l[k]):=by
      unfold q8
      rw[kF (by rw[Bq,kS];omega),Bq,kS,Nat.min_eq_left (by omega),zV,List.getElem?_drop,Nat.add_zero,a_ hkl]
     obtain⟨hh,he⟩:=List.getElem?_eq_some_iff.1 h3
     rw[←he]
     exact List.set_getElem_self hh
    rw[Zk hkl,h2]
    exact HR.out.1)
   have hlv:=Zj (l[k])
   rw[←hbk] at hlv
   obtain⟨v,hv2⟩:∃v,ba l k=v:=⟨_,rfl⟩
   rw[hv2] at z hv hlv hbk
   have Dm:=af (And.intro hlv hbk)
   have k1:(k:Int)<n:=by omega
   clear hlv hv2 hbk
   by_cases hc : 65≤v∧v≤90
   ·obtain⟨hc1,hc2⟩:=hc
    have ic:=or32 v hv hc1 hc2
    have HE:=af (HS.out (v+32) (by rw[Dm.out.1,ax ⟨hc1,hc2⟩]))
    have c1:(65:Int)≤v:=by omega
    have c2:(v:Int)≤90:=by omega
    clear HS gL
    go_wp2
    go_roundw
    case rel=>exact⟨k+1,by go_num,hlt,HE.out.1,HE.out.2⟩
    case measure=>simp[intOf];omega
   ·have HE:Hid (tF wr g n (q8 l (k+1))):=af (gL.out (by
     apply UInt8.toNat_inj.1
     rw[Dm.out.1,aj hc]
     exact Dm.out.2))
    clear HS gL
    by_cases c1:(65:Int)≤v
    ·have c2:(90:Int)<v:=by omega
     go_wp2
     go_roundw
     case rel=>exact⟨k+1,by go_num,hlt,HE.out,HR.out.2⟩
     case measure=>simp[intOf];omega
    ·go_wp2
     go_roundw
     case rel=>exact⟨k+1,by go_num,hlt,HE.out,HR.out.2⟩
     case measure=>simp[intOf];omega
  ·obtain rfl:k=n:=by omega
   have hrd:=HR.out.1.rd
   have e1:q8 l k=aO l:=by unfold q8;rw[cB (by rw[HL.out];exact ah _),List.drop_of_length_le (by rw[HL.out];exact ah _),kR]
   rw[e1] at hrd
   have hst:=sJ Tryz.underlying48 Tryz.underlying5 Tryz.underlying9 hrd c0
   rw[cz.out] at hst
   clear hrd e1
   go_wp2
   go_ret
   exact⟨rfl,HR.out.2⟩
end
section
open Go.RowKit
theorem afz {a b:List UInt8}(h:aO a=aO b):a.length=b.length:=by
 have:=congrArg List.length h
 rwa [Bq,Bq] at this
def dL (a b:List UInt8):Bool:=decide (aO a=aO b)
theorem XC {a b:List UInt8}:((⟨a.toArray⟩:ByteArray)=⟨b.toArray⟩)↔a=b:=by
 constructor
 ·intro h
  have:=congrArg (fun x:ByteArray=>x.data.toList) h
  simpa using this
 ·intro h;rw[h]
theorem KE (s t:ByteArray) (w:World) (hs:s.size≤140737488355328) (ht:t.size≤140737488355328):Calls Tryz.prog 44 #[.string s,.string t] w fun e w'=>e = .returned (.bool (dL s.data.toList t.data.toList))∧Below w.heap.size w w':=by
 have HA:=af (IM s w hs)
 have HB:=af (fun w=>IM t w ht)
 have ls:=gJ s
 have lt:=gJ t
 obtain⟨a,ha⟩:∃a,s.data.toList=a:=⟨_,rfl⟩
 obtain⟨b,hb⟩:∃b,t.data.toList=b:=⟨_,rfl⟩
 rw[ha] at HA ls ⊢
 rw[hb] at HB lt ⊢
 obtain⟨n,hn⟩:∃n,s.size=n:=⟨_,rfl⟩
 obtain⟨m,hm⟩:∃m,t.size=m:=⟨_,rfl⟩
 rw[hn] at ls hs
 rw[hm] at lt ht
 obtain⟨R,hR⟩:∃R,dL a b=R:=⟨_,rfl⟩
 obtain⟨x,hx⟩:∃x:ByteArray,⟨(aO a).toArray⟩=x:=⟨_,rfl⟩
 obtain⟨y,hy⟩:∃y:ByteArray,⟨(aO b).toArray⟩=y:=⟨_,rfl⟩
 rw[hR]
 rw[hx] at HA
 rw[hy] at HB
 have HX:Hid (x=y↔aO a=aO b):=af (by rw[←hx,←hy];exact XC)
 have cz:=af hR
 have HL:=af (And.intro ls lt)
 clear hR hx hy ha hb ls lt
 go_enter Tryz.func44,Tryz.ntmps44
 by_cases hnm:(n:Int)=m
 ·have e1:((n:Int)==m)=true:=by rw[beq_iff_eq];exact hnm
  have HNM:=af hnm
  clear hnm
  go_wp2_with fail
  refine HA.out.mono ?_
  rintro e w1 ⟨rfl,hb1⟩
  have aI:=af (HB.out w1)
  have H1:=af hb1
  clear hb1 HA HB
  go_wp2_with fail
  refine aI.out.mono ?_
  rintro e w2 ⟨rfl,hb2⟩
  have H2:=af (H1.out.trans (hb2.mono H1.out.size))
  clear hb2 aI
  by_cases hxy:x=y
  ·have hr:R=true:=by rw[←cz.out];exact bP (HX.out.1 hxy)
   subst hr
   subst hxy
   go_wp2
   go_ret
   exact⟨rfl,H2.out⟩
  ·have hr:R=false:=by rw[←cz.out];exact bU (fun h=>hxy (HX.out.2 h))
   subst hr
   have e2:(x.toList==y.toList)=false:=(Lib.bytes_beq_false_iff x y).2 hxy
   go_wp2
   go_ret
   exact⟨rfl,H2.out⟩
 ·have e1:((n:Int)==m)=false:=by rw[fO];exact hnm
  have hr:R=false:=by
   rw[←cz.out]
   refine bU (fun h=>hnm ?_)
   have:=afz h
   have:=HL.out
   omega
  subst hr
  clear hnm
  go_wp2
  go_ret
  exact⟨rfl,Below.refl _ _⟩
theorem afE (c:UInt8) (w:World):Calls Tryz.prog 172 #[.int .u8 (c.toNat:Int)] w fun e w'=>e = .returned (.bool (marks.contains c))∧w=w':=by
 have HI:=af (Any.strings_IndexByte Tryz.lays137 ⟨marks.toArray⟩ (c.toNat:Int) w)
 have hc:((c.toNat:Int)).toNat.toUInt8=c:=by simp
 have hm:=Lib.contains_iff_indexByte marks c
 have hl:(⟨marks.toArray⟩:ByteArray).data.toList=marks:=rfl
 rw[hc,hl] at HI
 have hg:=Lib.indexByte_ge marks c
 obtain⟨i,hi⟩:∃i,Lib.indexByte marks c=i:=⟨_,rfl⟩
 rw[hi] at HI hm hg
 obtain⟨v,hv⟩:∃v,c.toNat=v:=⟨_,rfl⟩
 rw[hv] at HI ⊢
 rw[hm]
 clear hi hm hc hl hv
 unfold marks at HI
 go_enter Tryz.func172,Tryz.ntmps172
 go_wp2_with fail
 refine HI.out.mono ?_
 rintro e w1 ⟨rfl,rfl⟩
 go_wp2
 go_ret
 exact⟨rfl,rfl⟩
theorem abd (c:UInt8):sM c=(decide (48≤c.toNat∧c.toNat≤57) || decide (97≤c.toNat∧c.toNat≤122) || decide (65≤c.toNat∧c.toNat≤90) || marks.contains c):=by
 unfold sM
 simp only[UInt8.le_iff_toNat_le,Bool.decide_and]
 rfl
theorem aje (c:UInt8) (w:World):Calls Tryz.prog 141 #[.int .u8 (c.toNat:Int)] w fun e w'=>e = .returned (.bool (sM c))∧w=w':=by
 have HM:=af (afE c w)
 have ht:=abd c
 have hv:=c.toNat_lt
 obtain⟨m,hm⟩:∃m,marks.contains c=m:=⟨_,rfl⟩
 rw[hm] at HM ht
 obtain⟨v,hvv⟩:∃v,c.toNat=v:=⟨_,rfl⟩
 rw[hvv] at HM ht hv ⊢
 obtain⟨R,hR⟩:∃R,sM c=R:=⟨_,rfl⟩
 rw[hR] at ht ⊢
 have HT:=af ht
 clear hm hvv hR ht
 go_enter Tryz.func141,Tryz.ntmps141
 have yes:(48≤v∧v≤57)∨(97≤v∧v≤122)∨(65≤v∧v≤90)∨((v<48)∨(57<v∧v<65)∨(90<v∧v<97)∨122<v):=by omega
 rcases yes with h | h | h | h
 ·have hr:R=true:=by rw[HT.out,bP h];rfl
  subst hr
  obtain⟨h1,h2⟩:=h
  have e1:(48:Int)≤v:=by omega
  have e2:(v:Int)≤57:=by omega
  go_wp2
  go_ret
  exact⟨rfl,rfl⟩
 ·have hr:R=true:=by rw[HT.out,bP (p:=97≤v∧v≤122) h];simp
  subst hr
  obtain⟨h1,h2⟩:=h
  have e1:(97:Int)≤v:=by omega
  have e2:(v:Int)≤122:=by omega
  have e3:(48:Int)≤v:=by omega
  have e4:(57:Int)<v:=by omega
  go_wp2
  go_ret
  exact⟨rfl,rfl⟩
 ·have hr:R=true:=by rw[HT.out,bP (p:=65≤v∧v≤90) h];simp
  subst hr
  obtain⟨h1,h2⟩:=h
  have e1:(65:Int)≤v:=by omega
  have e2:(v:Int)≤90:=by omega
  have e3:(48:Int)≤v:=by omega
  have e4:(57:Int)<v:=by omega
  have e5:(v:Int)<97:=by omega
  go_wp2
  go_ret
  exact⟨rfl,rfl⟩
 ·have hr:R=m:=by rw[HT.out,bU (p:=48≤v∧v≤57) (by omega),bU (p:=97≤v∧v≤122) (by omega),bU (p:=65≤v∧v≤90) (by omega)];rfl
  subst hr
  rcases h with h | h | h | h
  ·have e1:(v:Int)<48:=by omega
   have e2:(v:Int)<65:=by omega
   have e3:(v:Int)<97:=by omega
   go_wp2_with fail
   refine HM.out.mono ?_
   rintro e w1 ⟨rfl,rfl⟩
   go_wp2
   go_ret
   exact⟨rfl,rfl⟩
  ·obtain⟨h1,h2⟩:=h
   have e1:(57:Int)<v:=by omega
   have e0:(48:Int)≤v:=by omega
   have e2:(v:Int)<65:=by omega
   have e3:(v:Int)<97:=by omega
   go_wp2_with fail
   refine HM.out.mono ?_
   rintro e w1 ⟨rfl,rfl⟩
   go_wp2
   go_ret
   exact⟨rfl,rfl⟩
  ·obtain⟨h1,h2⟩:=h
   have e1:(57:Int)<v:=by omega
   have e0:(48:Int)≤v:=by omega
   have e2:(65:Int)≤v:=by omega
   have e4:(90:Int)<v:=by omega
   have e3:(v:Int)<97:=by omega
   go_wp2_with fail
   refine HM.out.mono ?_
   rintro e w1 ⟨rfl,rfl⟩
   go_wp2
   go_ret
   exact⟨rfl,rfl⟩
  ·have e1:(57:Int)<v:=by omega
   have e0:(48:Int)≤v:=by omega
   have e2:(65:Int)≤v:=by omega
   have e4:(90:Int)<v:=by omega
   have e3:(97:Int)≤v:=by omega
   have e5:(122:Int)<v:=by omega
   go_wp2_with fail
   refine HM.out.mono ?_
   rintro e w1 ⟨rfl,rfl⟩
   go_wp2
   go_ret
   exact⟨rfl,rfl⟩
theorem vG {s:ByteArray}(h:s.data.toList=[]):s=⟨#[]⟩:=Go.WideShapes.bytes_inj h
theorem wU {s:ByteArray}(h:s.data.toList≠[]):(s.toList == [])=false∧s.toList.isEmpty=false∧s.toList≠[]:=by
 have h1:(s.toList==(⟨#[]⟩:ByteArray).toList)=false:=(Lib.bytes_beq_false_iff s ⟨#[]⟩).2 (fun e=>h (by rw[e]))
 have h2:(⟨#[]⟩:ByteArray).toList=[]:=by decide +kernel
 rw[h2] at h1
 refine⟨h1,?_,fun e=>by rw[e] at h1;cases h1⟩
 cases hs:s.toList with
 | nil=>rw[hs] at h1;cases h1
 | cons a t=>rfl
def Lt (l:List UInt8) (n:Nat) (iv:Value):Prop:=∃k:Nat,iv = .int .i64 k∧k≤n∧(l.take k).all sM=true
theorem v_ {f:UInt8→Bool}{l:List UInt8}{k:Nat}(h:(l.take k).all f=true) (hk:k<l.length) (hf:f (l[k])=true):(l.take (k+1)).all f=true:=by
 rw[iw,a_ hk,iL,List.all_append,h]
 simp[hf]
theorem xu {f:UInt8→Bool}{l:List UInt8}{k:Nat}(hk:k<l.length) (hf:f (l[k])=false):l.all f=false:=by
 rw[Bool.eq_false_iff]
 intro h
 have:=List.all_eq_true.1 h (l[k]) (List.getElem_mem hk)
 rw[hf] at this
 cases this
theorem Nb (s:ByteArray) (w:World) (hs:s.size≤140737488355328):Calls Tryz.prog 104 #[.string s] w fun e w'=>e = .returned (.bool (iB s.data.toList))∧w=w':=by
 have aQ:=lX s
 have hlen:=gJ s
 obtain⟨l,hl⟩:∃l,s.data.toList=l:=⟨_,rfl⟩
 rw[hl] at aQ hlen ⊢
 obtain⟨n,hn⟩:∃n,s.size=n:=⟨_,rfl⟩
 have HL:=af (And.intro hlen hl)
 obtain⟨R,hR⟩:∃R,iB l=R:=⟨_,rfl⟩
 rw[hR]
 have HR:=af hR
 have HN:=af hn
 clear hlen hl hR
 rw[hn] at hs
 clear hn
 go_enter Tryz.func104,Tryz.ntmps104
 go_wp2_with fail
 go_loop [6] (fun iv=>Lt l n iv) (fun iv=>n-(intOf iv).toNat)
 case atStart=>exact⟨0,rfl,aL _,rfl⟩
 case round=>
  obtain⟨k,rfl,hk,hall⟩:=hrel
  have dM:=af hall
  clear hall
  by_cases hlt:k<n
  ·have hkl:k<l.length:=by rw[HL.out.1,HN.out];exact hlt
   have k1:(k:Int)<n:=by omega
   have HT:=af (aje (l[k]) w)
   have hb:=kH hkl
   rw[←hb] at HT
   obtain⟨t,ht⟩:∃t,sM (l[k])=t:=⟨_,rfl⟩
   rw[ht] at HT
   have tu:=af ht
   have nu:=HN.out
   have hks:k<s.size:=by omega
   have h_:=aQ k hks
   clear ht hb aQ nu
   have HE:Hid (t=true→Lt l n (.int .i64 (k+1:Nat))):=af (fun e=>⟨k+1,rfl,hlt,v_ dM.out hkl (tu.out.trans e)⟩)
   have HF:Hid (t=false→R=false):=af (fun e=>by rw[←HR.out];unfold iB;rw[xu hkl (tu.out.trans e),De])
   go_wp2_with fail
   refine HT.out.mono ?_
   rintro e w1 ⟨rfl,rfl⟩
   obtain rfl | rfl:t=false∨t=true:=by cases t <;> simp
   ·obtain rfl:=HF.out rfl
    go_wp2
    go_ret
    exact⟨rfl,rfl⟩
   ·have jP:=af (HE.out rfl)
    clear HE HF
    go_wp2
    go_round
    case rel=>exact jP.out
    case measure=>simp[intOf];omega
  ·have hkn:k=s.size:=by have:=HN.out;omega
   have kK:l.all sM=true:=by
    have h1:=dM.out
    rwa [cB (by rw[HL.out.1];omega)] at h1
   have HA:=af kK
   subst hkn
   clear kK
   by_cases he:l=[]
   ·have GI:s=⟨#[]⟩:=vG (HL.out.2.trans he)
    have hr:R=false:=by rw[←HR.out,he];rfl
    subst hr
    subst GI
    clear he
    go_wp2
    go_ret
    exact⟨rfl,rfl⟩
   ·obtain⟨e1,e2,e3⟩:=wU (s:=s) (by rw[HL.out.2];exact he)
    have hr:R=true:=by
     rw[←HR.out]
     unfold iB
     rw[HA.out]
     cases l with
     | nil=>exact absurd rfl he
     | cons a t=>rfl
    subst hr
    clear he
    go_wp2
    go_ret
    exact⟨rfl,rfl⟩
theorem abh (s:ByteArray) (w:World) (hs:s.size≤140737488355328):Calls Tryz.prog 118 #[.string s] w fun e w'=>e = .returned (.string ⟨(jl s.data.toList).toArray⟩)∧Below w.heap.size w w':=by
 have hcon:=Any.strings_Trim_laid Tryz.lays160 (by kernel_rfl) s ⟨#[32,9]⟩ w (by omega) (by decide) (ascii_of_all (by decide))
 have HC:=af hcon
 clear hcon
 obtain⟨R,hR⟩:∃R:ByteArray,⟨(jl s.data.toList).toArray⟩=R:=⟨_,rfl⟩
 have oC:(⟨(Lib.trimS s.data.toList (⟨#[32,9]⟩:ByteArray).data.toList).toArray⟩:ByteArray)=R:=hR
 rw[oC] at HC
 rw[hR]
 clear hR oC
 go_enter Tryz.func118,Tryz.ntmps118
 go_wp2_with fail
 refine HC.out.mono ?_
 rintro e w1 ⟨rfl,hb⟩
 have HB:=af hb
 clear hb
 go_wp2
 go_ret
 exact⟨rfl,HB.out⟩
theorem abk (c:UInt8):ni c = !decide ((c.toNat<32∧c.toNat≠9)∨c.toNat=127):=by
 unfold ni
 have e1:(c==9)=decide (c.toNat=9):=by
  rw[yl]
  simp only[beq_iff_eq,tQ]
  exact⟨fun h=>by rw[h];rfl,fun h=>UInt8.toNat_inj.1 (by rw[h];rfl)⟩
 have e2:(c==127)=decide (c.toNat=127):=by
  rw[yl]
  simp only[beq_iff_eq,tQ]
  exact⟨fun h=>by rw[h];rfl,fun h=>UInt8.toNat_inj.1 (by rw[h];rfl)⟩
 have e3:(decide (c<32))=decide (c.toNat<32):=by
  rw[yl]
  simp only[tQ]
  exact UInt8.lt_iff_toNat_lt
 rw[e1,e2,e3]
 congr 1
 rw[yl]
 simp
theorem abe (l:List UInt8):(jl l).length≤l.length:=by
 unfold jl Lib.trimS Lib.trimLeftS Lib.trimRightS
 refine gM (yB _).length_le ?_
 rw[List.length_reverse]
 refine gM (yB _).length_le ?_
 rw[List.length_reverse]
 exact ah _
def Xb (l:List UInt8) (n:Nat) (iv:Value):Prop:=∃k:Nat,iv = .int .i64 k∧k≤n∧(l.take k).all ni=true
theorem abp (s:ByteArray) (w:World) (hs:s.size≤140737488355328):Calls Tryz.prog 106 #[.string s] w fun e w'=>e = .returned (.bool (iI s.data.toList))∧Below w.heap.size w w':=by
 have aQ:=lX s
 have hlen:=gJ s
 have HT:=af (abh s w hs)
 have htl:=abe s.data.toList
 obtain⟨l,hl⟩:∃l,s.data.toList=l:=⟨_,rfl⟩
 rw[hl] at aQ hlen HT htl ⊢
 obtain⟨x,hx⟩:∃x:ByteArray,⟨(jl l).toArray⟩=x:=⟨_,rfl⟩
 have hxs:x.size=(jl l).length:=by rw[←hx];simp[ByteArray.size]
 rw[hx] at HT
 obtain⟨m,hm⟩:∃m,(jl l).length=m:=⟨_,rfl⟩
 rw[hm] at hxs htl
 have HX:=af hxs
 have HL:=af (And.intro hlen (And.intro hl hm))
 obtain⟨R,hR⟩:∃R,iI l=R:=⟨_,rfl⟩
 rw[hR]
 have HR:=af hR
 have hms:m≤s.size:=by omega
 clear hlen hl hR hx hm htl hxs
 go_enter Tryz.func106,Tryz.ntmps106
 go_wp2_with fail
 refine HT.out.mono ?_
 rintro e w1 ⟨rfl,hb1⟩
 have HB:=af hb1
 have hxm:=HX.out
 clear hb1 HT
 by_cases hne:m=s.size
 ·have e1:((x.size:Int) != (s.size:Int))=false:=by rw[bne_eq_false_iff_eq];omega
  have HNE:=af hne
  clear hne hxm
  go_wp2_with fail
  go_loop [12] (fun iv=>Xb l s.size iv) (fun iv=>s.size-(intOf iv).toNat)
  case atStart=>exact⟨0,rfl,aL _,rfl⟩
  case round=>
   obtain⟨k,rfl,hk,hall⟩:=hrel
   have dM:=af hall
   clear hall
   by_cases hlt:k<s.size
   ·have hkl:k<l.length:=by rw[HL.out.1];exact hlt
    have k1:(k:Int)<s.size:=by omega
    have hb:=kH hkl
    have hv:=jg l k
    have zl:=abk (l[k])
    rw[←hb] at zl
    have h_:=aQ k hlt
    obtain⟨v,hv2⟩:∃v,ba l k=v:=⟨_,rfl⟩
    rw[hv2] at h_ hv zl
    have FD:=af zl
    have HG:Hid (ni (l[k])=true→Xb l s.size (.int .i64 (k+1:Nat))):=af (fun e=>⟨k+1,rfl,hlt,v_ dM.out hkl e⟩)
    have HF:Hid (ni (l[k])=false→R=false):=af (fun e=>by rw[←HR.out];unfold iI;rw[xu hkl e,De])
    clear hv2 zl hb aQ
    by_cases nP:(v<32∧v≠9)∨v=127
    ·obtain rfl:=HF.out (by rw[FD.out,bP nP];rfl)
     rcases nP with ⟨h1,h2⟩ | h1
     ·have e2:(v:Int)<32:=by omega
      have e3:((v:Int) != 9)=true:=by rw[bne_iff_ne];omega
      go_wp2
      go_ret
      exact⟨rfl,HB.out⟩
     ·subst h1
      go_wp2
      go_ret
      exact⟨rfl,HB.out⟩
    ·have HE:=af (HG.out (by rw[FD.out,bU nP];rfl))
     have e7:((v:Int)==127)=false:=by rw[fO];omega
     clear HG HF
     by_cases h9:v=9
     ·subst h9
      clear nP
      go_wp2
      go_round
      case rel=>exact HE.out
      case measure=>simp[intOf];omega
     ·have e2:(32:Int)≤v:=by omega
      clear nP h9
      go_wp2
      go_round
      case rel=>exact HE.out
      case measure=>simp[intOf];omega
   ·have hkn:k=s.size:=by omega
    have hr:R=true:=by
     have h1:=dM.out
     rw[cB (by rw[HL.out.1];omega)] at h1
     rw[←HR.out]
     unfold iI
     rw[h1,HL.out.2.2,HNE.out,HL.out.1]
     simp
    subst hr
    subst hkn
    go_wp2
    go_ret
    exact⟨rfl,HB.out⟩
 ·have e1:((x.size:Int) != (s.size:Int))=true:=by rw[bne_iff_ne];omega
  have hr:R=false:=by
   rw[←HR.out]
   unfold iI
   rw[bU (by rw[HL.out.2.2,HL.out.1];exact hne),Bool.false_and]
  subst hr
  clear hne hxm
  go_wp2
  go_ret
  exact⟨rfl,HB.out⟩
end
section
open Go.RowKit
def lu (c:Nat):Nat:=if 48≤c∧c≤57 then c-48 else if 97≤c∧c≤102 then c-87 else if 65≤c∧c≤70 then c-55 else 16
def tV (c:UInt8):Bool:=decide (48≤c.toNat∧c.toNat≤57)
def mD (l:List UInt8):Nat:=l.foldl (fun n c=>n*10+lu c.toNat) 0
def gD (l:List UInt8):Nat×Nat:=if l=[] then (0,10) else if l.all tV=false then (0,10) else if 1099511627776<mD l then (0,11) else (mD l,0)
theorem adO {c:Nat}:lu c<10↔(48≤c∧c≤57):=by
 unfold lu
 split
 ·omega
 ·split
  ·omega
  ·split <;> omega
theorem X3 {l:List UInt8}{k:Nat}(h:k<l.length):mD (l.take (k+1))=mD (l.take k)*10+lu (l[k]).toNat:=by
 rw[iw,a_ h,iL]
 unfold mD
 rw[og]
 rfl
theorem X0 (l:List UInt8):∀k,mD (l.take k)≤mD l:=by
 intro k
 have h:∀(t:List UInt8) (n:Nat),n≤t.foldl (fun n c=>n*10+lu c.toNat) n:=by
  intro t
  induction t with
  | nil=>intro n;exact ah _
  | cons c t ih=>intro n;exact gM (show n≤n*10+lu c.toNat by omega) (ih _)
 have e:mD l=(l.drop k).foldl (fun n c=>n*10+lu c.toNat) (mD (l.take k)):=by
  unfold mD
  rw[←og,vV]
 rw[e]
 exact h _ _
theorem OA {c:UInt8}:tV c=decide (lu c.toNat<10):=by
 unfold tV
 rw[yl]
 simp only[tQ]
 exact adO.symm
theorem X8 (v:Nat) (w:World) (hv:v<256):Calls Tryz.prog 121 #[.int .u8 (v:Int)] w fun e w'=>e = .returned (.int .i64 (lu v:Nat))∧w=w':=by
 obtain⟨R,hR⟩:∃R,lu v=R:=⟨_,rfl⟩
 have hr:=hR
 rw[hR]
 unfold lu at hr
 have HR:=af hr
 clear hR hr
 go_enter Tryz.func121,Tryz.ntmps121
 have yes:(48≤v∧v≤57)∨(97≤v∧v≤102)∨(65≤v∧v≤70)∨((v<48)∨(57<v∧v<65)∨(70<v∧v<97)∨102<v):=by omega
 rcases yes with h | h | h | h
 ·have hr:R=v-48:=by rw[←HR.out,ax h]
  obtain⟨h1,h2⟩:=h
  have e1:(48:Int)≤v:=by omega
  have e2:(v:Int)≤57:=by omega
  have e3:=af (show (R:Int)=v-48 by omega)
  clear hr
  go_wp2
  go_ret
  exact⟨C8 (show Value.int .i64 ((v:Int)-48) = .int .i64 (R:Int) by rw[e3.out]),rfl⟩
 ·have hr:R=v-87:=by rw[←HR.out,aj (by omega),ax h]
  obtain⟨h1,h2⟩:=h
  have e1:(97:Int)≤v:=by omega
  have e2:(v:Int)≤102:=by omega
  have e4:(57:Int)<v:=by omega
  have e3:=af (show (R:Int)=v-97+10 by omega)
  clear hr
  go_wp2
  go_ret
  exact⟨C8 (show Value.int .i64 ((v:Int)-97+10) = .int .i64 (R:Int) by rw[e3.out]),rfl⟩
 ·have hr:R=v-55:=by rw[←HR.out,aj (by omega),aj (by omega),ax h]
  obtain⟨h1,h2⟩:=h
  have e1:(65:Int)≤v:=by omega
  have e2:(v:Int)≤70:=by omega
  have e4:(57:Int)<v:=by omega
  have e3:=af (show (R:Int)=v-65+10 by omega)
  clear hr
  go_wp2
  go_ret
  exact⟨C8 (show Value.int .i64 ((v:Int)-65+10) = .int .i64 (R:Int) by rw[e3.out]),rfl⟩
 ·have hr:R=16:=by rw[←HR.out,aj (by omega),aj (by omega),aj (by omega)]
  subst hr
  rcases h with h | h | h | h
  ·have e1:(v:Int)<48:=by omega
   go_wp2
   go_ret
   exact⟨rfl,rfl⟩
  ·obtain⟨h1,h2⟩:=h
   have e1:(57:Int)<v:=by omega
   have e2:(v:Int)<65:=by omega
   go_wp2
   go_ret
   exact⟨rfl,rfl⟩
  ·obtain⟨h1,h2⟩:=h
   have e1:(70:Int)<v:=by omega
   have e2:(v:Int)<97:=by omega
   go_wp2
   go_ret
   exact⟨rfl,rfl⟩
  ·have e1:(102:Int)<v:=by omega
   go_wp2
   go_ret
   exact⟨rfl,rfl⟩
def WH (l:List UInt8) (n:Nat) (iv:Value):Prop:=∃k:Nat,iv = .int .i64 k∧k≤n∧(l.take k).all tV=true
def WI (l:List UInt8) (n:Nat) (nv iv:Value):Prop:=∃k m:Nat,iv = .int .i64 k∧nv = .int .i64 m∧k≤n∧m=mD (l.take k)∧m≤1099511627776
theorem agk (s:ByteArray) (w:World) (hs:s.size≤140737488355328):Calls Tryz.prog 83 #[.string s,.int .i64 10] w fun e w'=>e = .returned (.tuple #[.int .i64 (gD s.data.toList).1,.int .i64 (gD s.data.toList).2])∧w=w':=by
 have aQ:=lX s
 have hlen:=gJ s
 obtain⟨l,hl⟩:∃l,s.data.toList=l:=⟨_,rfl⟩
 rw[hl] at aQ hlen ⊢
 obtain⟨V,hV⟩:∃V,(gD l).1=V:=⟨_,rfl⟩
 obtain⟨E,hE⟩:∃E,(gD l).2=E:=⟨_,rfl⟩
 rw[hV,hE]
 have HR:Hid (gD l=(V,E)):=af (by rw[←hV,←hE])
 have HL:=af (And.intro hlen hl)
 clear hV hE hlen hl
 by_cases he:l=[]
 ·have GI:s=⟨#[]⟩:=vG (HL.out.2.trans he)
  have h1:(V,E)=(0,10):=by rw[←HR.out,he];rfl
  injection h1 with h1 h2
  subst h1 h2
  subst GI
  clear he aQ
  go_enter Tryz.func83,Tryz.ntmps83
  go_wp2
  go_ret2
  exact⟨rfl,rfl⟩
 obtain⟨e1,e2,e3⟩:=wU (s:=s) (by rw[HL.out.2];exact he)
 have HE:=af he
 clear he
 go_enter Tryz.func83,Tryz.ntmps83
 go_wp2_with fail
 go_loop [13] (fun iv=>WH l s.size iv) (fun iv=>s.size-(intOf iv).toNat)
 case atStart=>exact⟨0,rfl,aL _,rfl⟩
 case round=>
  obtain⟨k,rfl,hk,hall⟩:=hrel
  have dM:=af hall
  clear hall
  by_cases hlt:k<s.size
  ·have hkl:k<l.length:=by rw[HL.out.1];exact hlt
   have k1:(k:Int)<s.size:=by omega
   have hb:=kH hkl
   have hv:=jg l k
   have h_:=aQ k hlt
   obtain⟨v,hv2⟩:∃v,ba l k=v:=⟨_,rfl⟩
   rw[hv2] at h_ hv hb
   have HT:=af (X8 v w hv)
   have hdb:tV (l[k])=decide (lu v<10):=by rw[hb];exact OA
   obtain⟨d,hd⟩:∃d,lu v=d:=⟨_,rfl⟩
   rw[hd] at HT hdb
   have HDB:=af hdb
   clear hv2 hb hdb hd aQ
   go_wp2_with fail
   refine HT.out.mono ?_
   rintro e w1 ⟨rfl,rfl⟩
   by_cases h10:d<10
   ·have HN:Hid (WH l s.size (.int .i64 (k+1:Nat))):=af ⟨k+1,rfl,hlt,v_ dM.out hkl (HDB.out.trans (bP h10))⟩
    have h11:(d:Int)<10:=by omega
    go_wp2
    go_round
    case rel=>exact HN.out
    case measure=>simp[intOf];omega
   ·have h1:(V,E)=(0,10):=by
     rw[←HR.out]
     unfold gD
     rw[aj HE.out,ax (xu hkl (HDB.out.trans (bU h10)))]
    injection h1 with h1 h2
    subst h1 h2
    have h11:(10:Int)≤d:=by omega
    go_wp2
    go_ret2
    exact⟨rfl,rfl⟩
  ·have hall:l.all tV=true:=by
    have h1:=dM.out
    rwa [cB (by rw[HL.out.1];omega)] at h1
   have HA:=af hall
   have hkn:k=s.size:=by omega
   subst hkn
   clear hall dM
   go_wp2_with fail
   go_loop [7,25] (fun nv iv=>WI l s.size nv iv) (fun _ iv=>s.size-(intOf iv).toNat)
   case atStart=>exact⟨0,0,rfl,rfl,aL _,rfl,by omega⟩
   case round=>
    obtain⟨k,m,rfl,rfl,hk,hm,hm40⟩:=hrel
    have HM:=af hm
    clear hm
    by_cases hlt:k<s.size
    ·have hkl:k<l.length:=by rw[HL.out.1];exact hlt
     have k1:(k:Int)<s.size:=by omega
     have hb:=kH hkl
     have hv:=jg l k
     have h_:=aQ k hlt
     obtain⟨v,hv2⟩:∃v,ba l k=v:=⟨_,rfl⟩
     rw[hv2] at h_ hv hb
     have HT:=af (X8 v w hv)
     have kM:=X3 hkl
     rw[←hb,←HM.out] at kM
     have Ip:lu v<10:=by
      have h1:=List.all_eq_true.1 HA.out (l[k]) (List.getElem_mem hkl)
      rw[OA,←hb] at h1
      simpa using h1
     have hmono:=X0 l (k+1)
     rw[kM] at hmono
     obtain⟨d,hd⟩:∃d,lu v=d:=⟨_,rfl⟩
     rw[hd] at HT kM Ip hmono
     have HS:=af (And.intro kM hmono)
     clear hv2 hb kM hd aQ hmono
     have qR:(d:Int)≤9:=by omega
     go_wp2_with fail
     refine HT.out.mono ?_
     rintro e w1 ⟨rfl,rfl⟩
     by_cases jK:(1099511627776:Int)<m*10+d
     ·have h1:(V,E)=(0,11):=by
       rw[←HR.out]
       unfold gD
       rw[aj HE.out,aj (by rw[HA.out];simp),ax (by have:=HS.out.2;omega)]
      injection h1 with h1 h2
      subst h1 h2
      go_wp2
      go_ret2
      exact⟨rfl,rfl⟩
     ·have HN:Hid (WI l s.size (.int .i64 (m*10+d:Nat)) (.int .i64 (k+1:Nat))):=af ⟨k+1,m*10+d,rfl,rfl,hlt,HS.out.1.symm,by omega⟩
      go_wp2
      go_round
      case rel=>exact HN.out
      case measure=>simp[intOf];omega
    ·have hkn:k=s.size:=by omega
     have h1:(V,E)=(m,0):=by
      have h2:=HM.out
      rw[cB (by rw[HL.out.1];omega)] at h2
      rw[←HR.out]
      unfold gD
      rw[aj HE.out,aj (by rw[HA.out];simp),aj (by omega),h2]
     injection h1 with h1 h2
     subst h1 h2
     go_wp2
     go_ret2
     exact⟨rfl,rfl⟩
end
section
open Go.RowKit
theorem adM (s:ByteArray) (w:World) (hs:s.size≤140737488355328):Calls Tryz.prog 40 #[.string s] w fun e w'=>e = .returned (.tuple #[.int .i64 (gD s.data.toList).1,.int .i64 (gD s.data.toList).2])∧w=w':=by
 have HT:=af (agk s w hs)
 obtain⟨V,hV⟩:∃V,(gD s.data.toList).1=V:=⟨_,rfl⟩
 obtain⟨E,hE⟩:∃E,(gD s.data.toList).2=E:=⟨_,rfl⟩
 rw[hV,hE] at HT ⊢
 clear hV hE
 go_enter Tryz.func40,Tryz.ntmps40
 go_wp2_with fail
 refine HT.out.mono ?_
 rintro e w1 ⟨rfl,rfl⟩
 go_wp2
 go_ret2
 exact⟨rfl,rfl⟩
theorem aag (v:Nat) (w:World) (hv:v<256):Calls Tryz.prog 116 #[.int .u8 (v:Int)] w fun e w'=>e = .returned (.bool (decide (48≤v∧v≤57)))∧w=w':=by
 obtain⟨R,hR⟩:∃R,decide (48≤v∧v≤57)=R:=⟨_,rfl⟩
 have HR:=af hR
 rw[hR]
 clear hR
 go_enter Tryz.func116,Tryz.ntmps116
 by_cases h1:(48:Int)≤v
 ·by_cases h2:(v:Int)≤57
  ·obtain rfl:R=true:=by rw[←HR.out];exact bP (by omega)
   go_wp2
   go_ret
   exact⟨rfl,rfl⟩
  ·obtain rfl:R=false:=by rw[←HR.out];exact bU (by omega)
   go_wp2
   go_ret
   exact⟨rfl,rfl⟩
 ·obtain rfl:R=false:=by rw[←HR.out];exact bU (by omega)
  go_wp2
  go_ret
  exact⟨rfl,rfl⟩
theorem Ic (c:UInt8):di c=decide (c.toNat=32∨c.toNat=9):=by
 unfold di
 have e1:(c==9)=decide (c.toNat=9):=by
  rw[yl]
  simp only[beq_iff_eq,tQ]
  exact⟨fun h=>by rw[h];rfl,fun h=>UInt8.toNat_inj.1 (by rw[h];rfl)⟩
 have e2:(c==32)=decide (c.toNat=32):=by
  rw[yl]
  simp only[beq_iff_eq,tQ]
  exact⟨fun h=>by rw[h];rfl,fun h=>UInt8.toNat_inj.1 (by rw[h];rfl)⟩
 rw[e1,e2,yl]
 simp
theorem Kz (v:Nat) (w:World) (hv:v<256):Calls Tryz.prog 74 #[.int .u8 (v:Int)] w fun e w'=>e = .returned (.bool (decide (v=32∨v=9)))∧w=w':=by
 obtain⟨R,hR⟩:∃R,decide (v=32∨v=9)=R:=⟨_,rfl⟩
 have HR:=af hR
 rw[hR]
 clear hR
 go_enter Tryz.func74,Tryz.ntmps74
 by_cases h1:v=32
 ·obtain rfl:R=true:=by rw[←HR.out];exact bP (.inl h1)
  subst h1
  go_wp2
  go_ret
  exact⟨rfl,rfl⟩
 by_cases h2:v=9
 ·obtain rfl:R=true:=by rw[←HR.out];exact bP (.inr h2)
  subst h2
  go_wp2
  go_ret
  exact⟨rfl,rfl⟩
 ·obtain rfl:R=false:=by rw[←HR.out];exact bU (by omega)
  have e1:((v:Int)==32)=false:=by rw[fO];omega
  have e2:((v:Int)==9)=false:=by rw[fO];omega
  clear h1 h2
  go_wp2
  go_ret
  exact⟨rfl,rfl⟩
theorem afF (c:UInt8):marks.contains c=decide (c.toNat=33∨c.toNat=35∨c.toNat=36∨c.toNat=37∨c.toNat=38∨c.toNat=39∨c.toNat=42∨c.toNat=43∨c.toNat=45∨c.toNat=46∨c.toNat=94∨c.toNat=95∨c.toNat=96∨c.toNat=124∨c.toNat=126):=by
 rw[yl]
 simp only[marks,List.contains_iff_mem,qG,xm,or_false,tQ,←UInt8.toNat_inj]
 rfl
theorem ah6 (c:UInt8) (w:World):Calls Tryz.prog 73 #[.int .u8 (c.toNat:Int)] w fun e w'=>e = .returned (.bool (sM c))∧w=w':=by
 have ht:=abd c
 rw[afF] at ht
 have hv:=c.toNat_lt
 obtain⟨v,hvv⟩:∃v,c.toNat=v:=⟨_,rfl⟩
 rw[hvv] at ht hv ⊢
 have HD:=af (aag v w hv)
 obtain⟨R,hR⟩:∃R,sM c=R:=⟨_,rfl⟩
 rw[hR] at ht ⊢
 have HT:=af ht
 clear hvv hR ht
 by_cases h1 : 48≤v∧v≤57
 ·obtain rfl:R=true:=by rw[HT.out,bP h1];rfl
  rw[bP h1] at HD
  clear h1
  go_enter Tryz.func73,Tryz.ntmps73
  go_wp2_with fail
  refine HD.out.mono ?_
  rintro e w1 ⟨rfl,rfl⟩
  go_wp2
  go_ret
  exact⟨rfl,rfl⟩
 rw[bU h1] at HD
 have HN:=af h1
 clear h1
 by_cases h2 : 97≤v∧v≤122
 ·obtain rfl:R=true:=by rw[HT.out,bP (p:=97≤v∧v≤122) h2];simp
  obtain⟨h1,h2⟩:=h2
  have e1:(97:Int)≤v:=by omega
  have e2:(v:Int)≤122:=by omega
  go_enter Tryz.func73,Tryz.ntmps73
  go_wp2_with fail
  refine HD.out.mono ?_
  rintro e w1 ⟨rfl,rfl⟩
  go_wp2
  go_ret
  exact⟨rfl,rfl⟩
 by_cases h3 : 65≤v∧v≤90
 ·obtain rfl:R=true:=by rw[HT.out,bP (p:=65≤v∧v≤90) h3];simp
  obtain⟨h1,h2⟩:=h3
  have e1:(65:Int)≤v:=by omega
  have e2:(v:Int)≤90:=by omega
  have e3:(v:Int)<97:=by omega
  go_enter Tryz.func73,Tryz.ntmps73
  go_wp2_with fail
  refine HD.out.mono ?_
  rintro e w1 ⟨rfl,rfl⟩
  go_wp2
  go_ret
  exact⟨rfl,rfl⟩
 -- the tests of the letters fall
 have HL:=af (And.intro h2 h3)
 clear h2 h3
 go_enter Tryz.func73,Tryz.ntmps73
 go_upto_region 1 with fail
 go_cut [20] (fun y wx=>y = .bool false∧wx=w)
 case first=>
  obtain⟨h2,h3⟩:=HL.out
  by_cases a1:(97:Int)≤v
  ·have a2:(122:Int)<v:=by omega
   have a3:(65:Int)≤v:=by omega
   have a4:(90:Int)<v:=by omega
   clear h2 h3
   go_wp2_with fail
   refine HD.out.mono ?_
   rintro e w1 ⟨rfl,rfl⟩
   go_wp2
   go_meet
   exact⟨by first | rfl | (congr 1;simp;omega),rfl⟩
  ·by_cases a3:(65:Int)≤v
   ·have a4:(90:Int)<v:=by omega
    clear h2 h3
    go_wp2_with fail
    refine HD.out.mono ?_
    rintro e w1 ⟨rfl,rfl⟩
    go_wp2
    go_meet
    exact⟨by first | rfl | (congr 1;simp;omega),rfl⟩
   ·clear h2 h3
    go_wp2_with fail
    refine HD.out.mono ?_
    rintro e w1 ⟨rfl,rfl⟩
    go_wp2
    go_meet
    exact⟨by first | rfl | (congr 1;simp;omega),rfl⟩
 case rest=>
 obtain⟨rfl,hwc⟩:=hcut
 subst hwc
 by_cases hm:v=33∨v=35∨v=36∨v=37∨v=38∨v=39∨v=42∨v=43∨v=45∨v=46∨v=94∨v=95∨v=96∨v=124∨v=126
 ·obtain rfl:R=true:=by rw[HT.out,bP hm];simp
  rcases hm with rfl | rfl | rfl | rfl | rfl | rfl | rfl | rfl | rfl | rfl | rfl | rfl | rfl | rfl | rfl
  all_goals
   go_wp2
   go_ret
   exact⟨rfl,rfl⟩
 ·obtain rfl:R=false:=by
   obtain⟨h2,h3⟩:=HL.out
   rw[HT.out,bU hm,bU HN.out,bU h2,bU h3]
   rfl
  have e33:((v:Int)==33)=false:=by rw[fO];omega
  have e35:((v:Int)==35)=false:=by rw[fO];omega
  have e36:((v:Int)==36)=false:=by rw[fO];omega
  have e37:((v:Int)==37)=false:=by rw[fO];omega
  have e38:((v:Int)==38)=false:=by rw[fO];omega
  have e39:((v:Int)==39)=false:=by rw[fO];omega
  have e42:((v:Int)==42)=false:=by rw[fO];omega
  have e43:((v:Int)==43)=false:=by rw[fO];omega
  have e45:((v:Int)==45)=false:=by rw[fO];omega
  have e46:((v:Int)==46)=false:=by rw[fO];omega
  have e94:((v:Int)==94)=false:=by rw[fO];omega
  have e95:((v:Int)==95)=false:=by rw[fO];omega
  have e96:((v:Int)==96)=false:=by rw[fO];omega
  have e124:((v:Int)==124)=false:=by rw[fO];omega
  have e126:((v:Int)==126)=false:=by rw[fO];omega
  clear hm
  go_wp2
  go_ret
  exact⟨rfl,rfl⟩
end
section
open Go.RowKit
def aJ (l:List UInt8):ByteArray:=⟨l.toArray⟩
theorem l9 (l:List UInt8):(aJ l).data.toList=l:=by simp[aJ]
theorem EA (s:ByteArray):aJ s.data.toList=s:=by cases s;simp[aJ]
theorem pz (l:List UInt8):(aJ l).size=l.length:=by simp[aJ,ByteArray.size]
theorem Ii (s:ByteArray) (a b:Nat):s.extract a b=aJ ((s.data.toList.take b).drop a):=by
 apply Go.WideShapes.bytes_inj
 rw[l9,ByteArray.data_extract,Array.toList_extract,List.extract_eq_take_drop,List.take_drop]
 rcases Nat.le_total a b with h | h
 ·rw[show a+(b-a)=b by omega]
 ·rw[show a+(b-a)=a by omega,List.drop_of_length_le (List.length_take_le _ _),List.drop_of_length_le (gM (List.length_take_le _ _) h)]
theorem VM (s:ByteArray) (k:Nat) (h:k≤s.size):∀w,(Instr.slice 9 (.string s) (some (.int .i64 (k:Int))) none none).run Tryz.prog w = .ok (.string (aJ (s.data.toList.drop k))) w:=by
 intro w
 rw[run_slice_string_l (P:=Tryz.prog) (w:=w) 9 s Tryz.underlying9 .i64 (k:Int) (by omega) (by omega),Cb,Ii,cB (by rw[gJ];exact ah _)]
theorem VN (s:ByteArray) (k:Nat) (h:k≤s.size):∀w,(Instr.slice 9 (.string s) none (some (.int .i64 (k:Int))) none).run Tryz.prog w = .ok (.string (aJ (s.data.toList.take k))) w:=by
 intro w
 rw[run_slice_string_h (P:=Tryz.prog) (w:=w) 9 s Tryz.underlying9 .i64 (k:Int) (by omega) (by omega),Cb,Ii,List.drop_zero]
theorem MR (s:ByteArray) (w:World) (hs:s.size≤140737488355328):Calls Tryz.prog 31 #[.string s] w fun e w'=>e = .returned (.bool (iB s.data.toList))∧w=w':=by
 have aQ:=lX s
 have hlen:=gJ s
 obtain⟨l,hl⟩:∃l,s.data.toList=l:=⟨_,rfl⟩
 rw[hl] at aQ hlen ⊢
 have HL:=af hlen
 obtain⟨R,hR⟩:∃R,iB l=R:=⟨_,rfl⟩
 rw[hR]
 have HR:=af hR
 clear hlen hl hR
 go_enter Tryz.func31,Tryz.ntmps31
 go_wp2_with fail
 go_loop [3] (fun iv=>Lt l s.size iv) (fun iv=>s.size-(intOf iv).toNat)
 case atStart=>exact⟨0,rfl,aL _,rfl⟩
 case round=>
  obtain⟨k,rfl,hk,hall⟩:=hrel
  have dM:=af hall
  clear hall
  by_cases hlt:k<s.size
  ·have hkl:k<l.length:=by rw[HL.out];exact hlt
   have k1:(k:Int)<s.size:=by omega
   have HT:=af (ah6 (l[k]) w)
   have hb:=kH hkl
   rw[←hb] at HT
   obtain⟨t,ht⟩:∃t,sM (l[k])=t:=⟨_,rfl⟩
   rw[ht] at HT
   have tu:=af ht
   have h_:=aQ k hlt
   clear ht hb aQ
   have HE:Hid (t=true→Lt l s.size (.int .i64 (k+1:Nat))):=af (fun e=>⟨k+1,rfl,hlt,v_ dM.out hkl (tu.out.trans e)⟩)
   have HF:Hid (t=false→R=false):=af (fun e=>by rw[←HR.out];unfold iB;rw[xu hkl (tu.out.trans e),De])
   go_wp2_with fail
   refine HT.out.mono ?_
   rintro e w1 ⟨rfl,rfl⟩
   obtain rfl | rfl:t=false∨t=true:=by cases t <;> simp
   ·obtain rfl:=HF.out rfl
    go_wp2
    go_ret
    exact⟨rfl,rfl⟩
   ·have jP:=af (HE.out rfl)
    clear HE HF
    go_wp2
    go_round
    case rel=>exact jP.out
    case measure=>simp[intOf];omega
  ·have hkn:k=s.size:=by omega
   have kK:l.all sM=true:=by
    have h1:=dM.out
    rwa [cB (by rw[HL.out];omega)] at h1
   by_cases he:l=[]
   ·have hr:R=false:=by rw[←HR.out,he];rfl
    have hz:s.size=0:=by rw[←HL.out,he];rfl
    subst hr
    have hnot:¬(0:Int)<s.size:=by omega
    have hk0:k=0:=by omega
    subst hk0
    clear he hz kK hkn
    go_wp2
    go_ret
    exact⟨rfl,rfl⟩
   ·have hr:R=true:=by
     rw[←HR.out]
     unfold iB
     rw[kK]
     cases l with
     | nil=>exact absurd rfl he
     | cons a t=>rfl
    have hpos : 0<l.length:=List.length_pos_iff.2 he
    have hz : 0<s.size:=by have:=HL.out;omega
    subst hr
    subst hkn
    clear he kK hpos
    go_wp2
    go_ret
    exact⟨rfl,rfl⟩
def rvB (c:UInt8):Bool:=di c || (decide (33≤c.toNat) && decide (c.toNat≠127))
theorem aia (c:UInt8):rvB c=ni c:=by
 unfold rvB
 rw[Ic,abk,yl]
 simp
 omega
theorem aaA (c:UInt8):([32,9]:List UInt8).contains c=di c:=by
 unfold di
 simp[List.contains,List.elem]
 cases (c==32) <;> cases (c==9) <;> rfl
theorem left_eq (l:List UInt8):Lib.trimLeftS l [32,9]=l.dropWhile di:=by
 unfold Lib.trimLeftS
 congr 1
 funext c
 exact aaA c
theorem aan (l:List UInt8):Lib.trimRightS l [32,9]=(l.reverse.dropWhile di).reverse:=by
 unfold Lib.trimRightS
 congr 2
 funext c
 exact aaA c
theorem OB {f:UInt8→Bool}{l:List UInt8}:(l.dropWhile f).length=l.length↔∀c,l.head?=some c→f c=false:=by
 cases l with
 | nil=>simp
 | cons a t=>
  simp only[List.dropWhile_cons,List.head?_cons,Cg]
  cases h:f a with
  | true=>
   simp only[if_true]
   constructor
   ·intro e
    have:=(yB f (l:=t)).length_le
    simp only[fe] at e
    omega
   ·intro e
    have:=e a rfl
    rw[h] at this
    cases this
  | false=>simp[h]
theorem ajl {l:List UInt8}:(jl l).length=l.length↔(∀c,l.head?=some c→di c=false)∧(∀c,l.getLast?=some c→di c=false):=by
 unfold jl Lib.trimS
 rw[left_eq,aan]
 have h1:(l.reverse.dropWhile di).length≤l.length:=by have:=(yB di (l:=l.reverse)).length_le;rwa [List.length_reverse] at this
 have h2:∀t:List UInt8,(t.dropWhile di).length≤t.length:=fun t=>(yB di).length_le
 have hr:(l.reverse.dropWhile di).length=l.length↔∀c,l.getLast?=some c→di c=false:=by
  have:=OB (f:=di) (l:=l.reverse)
  rw[List.length_reverse,List.head?_reverse] at this
  exact this
 constructor
 ·intro h
  have h3:=h2 (l.reverse.dropWhile di).reverse
  rw[List.length_reverse] at h3
  have h4:(l.reverse.dropWhile di).length=l.length:=by omega
  have e:(l.reverse.dropWhile di).reverse=l:=by
   have h5:l.reverse.dropWhile di=l.reverse:=(yB di).eq_of_length (by rw[h4,List.length_reverse])
   rw[h5,List.reverse_reverse]
  rw[e] at h
  exact⟨OB.1 h,hr.1 h4⟩
 ·rintro ⟨ha,hb⟩
  have h4:=hr.2 hb
  have e:(l.reverse.dropWhile di).reverse=l:=by
   have h5:l.reverse.dropWhile di=l.reverse:=(yB di).eq_of_length (by rw[h4,List.length_reverse])
   rw[h5,List.reverse_reverse]
  rw[e]
  exact OB.2 ha
theorem ajo {l:List UInt8}(h:l.all ni=true):iI l=true↔(∀c,(l.head?=some c∨l.getLast?=some c)→di c=false):=by
 unfold iI
 rw[h,Bool.and_true,tQ,ajl]
 constructor
 ·rintro ⟨a,b⟩ c (h | h)
  ·exact a c h
  ·exact b c h
 ·exact fun h=>⟨fun c e=>h c (.inl e),fun c e=>h c (.inr e)⟩
def WR (l:List UInt8) (n:Nat) (iv:Value):Prop:=∃k:Nat,iv = .int .i64 k∧k≤n∧(l.take k).all ni=true
theorem aat (s:ByteArray) (w:World) (hs:s.size≤140737488355328):Calls Tryz.prog 34 #[.string s] w fun e w'=>e = .returned (.bool (iI s.data.toList))∧w=w':=by
 have aQ:=lX s
 have hlen:=gJ s
 obtain⟨l,hl⟩:∃l,s.data.toList=l:=⟨_,rfl⟩
 rw[hl] at aQ hlen ⊢
 have HL:=af hlen
 obtain⟨R,hR⟩:∃R,iI l=R:=⟨_,rfl⟩
 rw[hR]
 have HR:=af hR
 clear hlen hl hR
 go_enter Tryz.func34,Tryz.ntmps34
 go_wp2_with fail
 go_loop [3] (fun iv=>WR l s.size iv) (fun iv=>s.size-(intOf iv).toNat)
 case atStart=>exact⟨0,rfl,aL _,rfl⟩
 case round=>
  obtain⟨k,rfl,hk,hall⟩:=hrel
  have dM:=af hall
  clear hall
  by_cases hlt:k<s.size
  ·have hkl:k<l.length:=by rw[HL.out];exact hlt
   have k1:(k:Int)<s.size:=by omega
   have hb:=kH hkl
   have hv:=jg l k
   have h_:=aQ k hlt
   have zl:=aia (l[k])
   unfold rvB at zl
   rw[Ic,←hb] at zl
   obtain⟨v,hv2⟩:∃v,ba l k=v:=⟨_,rfl⟩
   rw[hv2] at h_ hv zl
   have HB:=af (Kz v w hv)
   obtain⟨t,ht⟩:∃t,decide (v=32∨v=9)=t:=⟨_,rfl⟩
   rw[ht] at HB zl
   have FD:=af zl
   have HE:Hid (ni (l[k])=true→WR l s.size (.int .i64 (k+1:Nat))):=af (fun e=>⟨k+1,rfl,hlt,v_ dM.out hkl e⟩)
   have HF:Hid (ni (l[k])=false→R=false):=af (fun e=>by rw[←HR.out];unfold iI;rw[xu hkl e,De])
   have tu:=af ht
   clear hv2 zl hb aQ ht
   obtain rfl | rfl:t=false∨t=true:=by cases t <;> simp
   ·by_cases Cm:v<33
    ·obtain rfl:=HF.out (by rw[←FD.out];simp;omega)
     have e1:(v:Int)<33:=by omega
     go_wp2_with fail
     refine HB.out.mono ?_
     rintro e w1 ⟨rfl,rfl⟩
     go_wp2
     go_ret
     exact⟨rfl,rfl⟩
    ·by_cases h127:v=127
     ·obtain rfl:=HF.out (by rw[←FD.out];simp;omega)
      subst h127
      go_wp2_with fail
      refine HB.out.mono ?_
      rintro e w1 ⟨rfl,rfl⟩
      go_wp2
      go_ret
      exact⟨rfl,rfl⟩
     ·have jP:=af (HE.out (by rw[←FD.out];simp;omega))
      have e1:(33:Int)≤v:=by omega
      have e2:((v:Int)==127)=false:=by rw[fO];omega
      clear HE HF Cm h127
      go_wp2_with fail
      refine HB.out.mono ?_
      rintro e w1 ⟨rfl,rfl⟩
      go_wp2
      go_round
      case rel=>exact jP.out
      case measure=>simp[intOf];omega
   ·have jP:=af (HE.out (by rw[←FD.out];rfl))
    clear HE HF
    go_wp2_with fail
    refine HB.out.mono ?_
    rintro e w1 ⟨rfl,rfl⟩
    go_wp2
    go_round
    case rel=>exact jP.out
    case measure=>simp[intOf];omega
  ·have hkn:k=s.size:=by omega
   have hall:l.all ni=true:=by
    have h1:=dM.out
    rwa [cB (by rw[HL.out];omega)] at h1
   have hvi:=ajo hall
   rw[HR.out] at hvi
   subst hkn
   by_cases he:s.size=0
   ·have hr:R=true:=by
     have hl0:l=[]:=zR (by rw[HL.out];exact he)
     subst hl0
     refine hvi.2 ?_
     rintro c (h | h) <;> cases h
    subst hr
    have e0:((s.size:Int)==0)=true:=by rw[beq_iff_eq];omega
    clear he hvi hall
    go_wp2
    go_ret
    exact⟨rfl,rfl⟩
   ·have hpos : 0<s.size:=by omega
    have hpl : 0<l.length:=by rw[HL.out];exact hpos
    have bf:l.length-1<l.length:=by omega
    have h0:=aQ 0 hpos
    have h1:=aQ (s.size-1) (by omega)
    have hv0:=jg l 0
    have Bh:=jg l (s.size-1)
    have hb0:=kH hpl
    have hb1:=kH (l:=l) (j:=s.size-1) (by rw[HL.out];omega)
    have xI:l.head?=some (l[0]):=by rw[List.head?_eq_getElem?,a_ hpl]
    have ve:l.getLast?=some (l[s.size-1]'(by rw[HL.out];omega)):=by
     have e:l.getLast?=l[s.size-1]?:=by rw[List.getLast?_eq_getElem?];congr 1;rw[HL.out]
     rw[e,a_]
    have hr:R=(!decide ((ba l 0)=32∨(ba l 0)=9) && !decide ((ba l (s.size-1))=32∨(ba l (s.size-1))=9)):=by
     rw[yl,hvi]
     have p0:di (l[0])=decide ((ba l 0)=32∨(ba l 0)=9):=by rw[Ic,hb0]
     have p1:di (l[s.size-1]'(by rw[HL.out];omega))=decide ((ba l (s.size-1))=32∨(ba l (s.size-1))=9):=by rw[Ic,hb1]
     rw[←p0,←p1]
     simp only[pI,ET]
     constructor
     ·exact fun h=>⟨h _ (.inl xI),h _ (.inr ve)⟩
     ·rintro ⟨a,b⟩ c (h | h)
      ·rw[xI] at h;injection h with h;rw[←h];exact a
      ·rw[ve] at h;injection h with h;rw[←h];exact b
    obtain⟨v0,e0⟩:∃v,ba l 0=v:=⟨_,rfl⟩
    obtain⟨v1,e1⟩:∃v,ba l (s.size-1)=v:=⟨_,rfl⟩
    rw[e0] at h0 hv0 hr
    rw[e1] at h1 Bh hr
    have dW:=af (fun w=>Kz v0 w hv0)
    have bH:=af (fun w=>Kz v1 w Bh)
    obtain⟨t0,qX⟩:∃t,decide (v0=32∨v0=9)=t:=⟨_,rfl⟩
    obtain⟨t1,ht1⟩:∃t,decide (v1=32∨v1=9)=t:=⟨_,rfl⟩
    rw[qX] at dW hr
    rw[ht1] at bH hr
    have cz:=af hr
    have ez:((s.size:Int)==0)=false:=by rw[fO];omega
    have h1':∀(h:s.size-1<s.size),((s[s.size-1]'h).toNat:Int)=(v1:Int):=fun _=>h1
    have HB02:=af (dW.out w)
    have zI:=af (bH.out w)
    clear he hvi hall aQ hb0 hb1 xI ve e0 e1 qX ht1 hr hpl bf dW bH
    have dS:((s.size:Int)-1).toNat=s.size-1:=by omega
    have hm2:(0:Int)≤(s.size:Int)-1:=by omega
    obtain rfl | rfl:t0=false∨t0=true:=by cases t0 <;> simp
    ·go_wp2_with fail
     refine HB02.out.mono ?_
     rintro e w1 ⟨rfl,rfl⟩
     go_wp2_with fail
     refine zI.out.mono ?_
     rintro e w1 ⟨rfl,rfl⟩
     obtain rfl | rfl:t1=false∨t1=true:=by cases t1 <;> simp
     ·obtain rfl:=cz.out
      go_wp2
      go_ret
      exact⟨rfl,rfl⟩
     ·obtain rfl:=cz.out
      go_wp2
      go_ret
      exact⟨rfl,rfl⟩
    ·obtain rfl:=cz.out
     go_wp2_with fail
     refine HB02.out.mono ?_
     rintro e w1 ⟨rfl,rfl⟩
     go_wp2
     go_ret
     exact⟨rfl,rfl⟩
end
end Go.Proofs.YtpkmciohehaboaaGreatDoor
