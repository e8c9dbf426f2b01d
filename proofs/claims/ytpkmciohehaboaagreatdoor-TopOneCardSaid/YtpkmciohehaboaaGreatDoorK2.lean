/- Part 2 of the proof. -/
import Derived.Test.YtpkmciohehaboaaGreatDoorK0
import Derived.Test.YtpkmciohehaboaaGreatDoorK1
import Derived.Maps.OwnSet
import Derived.Maps.Views
import Derived.Maps.OwnOps
import Derived.DeepKeys4
import Derived.MapViews
import Derived.ChangeSame
import Derived.StillTailTactics
import Derived.Deep.LoopGhost
import Derived.Deep.DeepCutAuto
import Derived.Deep.RegionLaw
import Derived.Outline
import Derived.IntWalk
set_option maxRecDepth 100000
set_option maxHeartbeats 100000000
set_option linter.unusedVariables false
set_option linter.unusedSimpArgs false
set_option linter.unusedSectionVars false
set_option linter.unnecessarySimpa false
namespace Go.Proofs.YtpkmciohehaboaaGreatDoor
section
open Go.RowKit
def xV (c:UInt8):Nat:=bW.getD c.toNat 0
def fC (l:List UInt8):Nat:=(l.map xV).sum
def lI (l:List UInt8):Nat:=(fC l+7) / 8
theorem Zw (l k:List UInt8):fC (l++k)=fC l+fC k:=by simp[fC]
theorem Zx {l:List UInt8}{k:Nat}(h:k<l.length):fC (l.take (k+1))=fC (l.take k)+bW.getD (ba l k) 0:=by
 rw[List.take_succ_eq_append_getElem h,Zw,kH h]
 simp[fC,xV]
theorem af1 (l:List UInt8) : 5*l.length≤fC l∧fC l≤30*l.length:=by
 induction l with
 | nil=>simp[fC]
 | cons c t ih=>
  have h1:xV c≤30:=Kl _
  have h2 : 5≤xV c:=afl _ (by have:=c.toNat_lt;omega)
  simp only[fC,lV,List.sum_cons,fe] at ih ⊢
  omega
theorem lX (s:ByteArray):∀(n:Nat) (h:n<s.size),((s[n]'h).toNat:Int)=(ba s.data.toList n:Int):=by
 intro n h
 have hl:n<s.data.toList.length:=by rw[nV];exact h
 rw[kH hl]
 rfl
theorem gJ (s:ByteArray):s.data.toList.length=s.size:=by rw[nV];rfl
end
section
open Go.RowKit
def F8 (c:UInt8):Nat:=nG.getD c.toNat 0
def EP (l:List UInt8):Nat:=l.foldl (fun v c=>v*2^xV c+F8 c) 0
def Au:Nat→Nat→List UInt8
 | 0,_=>[]
 | m+1,x=>Au m (x / 256)++[UInt8.ofNat (x%256)]
def xA (l:List UInt8):List UInt8:=
 if fC l%8=0 then Au (fC l / 8) (EP l) else Au (fC l / 8+1) (EP l*2^(8-fC l%8)+(2^(8-fC l%8)-1))
theorem Jw (m x:Nat):(Au m x).length=m:=by
 induction m generalizing x with
 | zero=>rfl
 | succ m ih=>simp[Au,ih]
theorem LU (l:List UInt8):(xA l).length=lI l:=by
 unfold xA lI
 split
 ·rw[Jw];omega
 ·rw[Jw];omega
theorem ajt {l:List UInt8}{k:Nat}(h:k<l.length):EP (l.take (k+1))=EP (l.take k)*2^bW.getD (ba l k) 0+nG.getD (ba l k) 0:=by
 rw[List.take_succ_eq_append_getElem h,kH h]
 unfold EP
 rw[og,nD,List.foldl_nil,xV,F8]
theorem XM:∀i<257,nG.getD i 0<2^bW.getD i 0:=by decide +kernel
def fill (N T V:Nat):List UInt8:=Au (T / 8) (V / 2^(T%8))++List.replicate (N-T / 8) 0
theorem Yh {N T:Nat}(V:Nat) (h:T / 8≤N):(fill N T V).length=N:=by simp[fill,Jw];omega
theorem aec (N:Nat):fill N 0 0=List.replicate N 0:=by simp[fill,Au]
theorem OE {N T V b:Nat}(hb:b<2) (h:T%8<7):fill N (T+1) (2*V+b)=fill N T V∧(2*V+b)%2^((T+1)%8)=V%2^(T%8)*2+b:=by
 have h1:(T+1)%8=T%8+1:=by omega
 have h2:(T+1) / 8=T / 8:=by omega
 have h3:(2*V+b) / 2^(T%8+1)=V / 2^(T%8):=by
  rw[qH,Nat.mul_comm (2^(T%8)) 2,←Nat.div_div_eq_div_mul,show (2*V+b) / 2=V by omega]
 refine⟨by rw[fill,fill,h1,h2,h3],?_⟩
 rw[h1,qH,Nat.mul_comm (2^(T%8)) 2,Nat.mod_mul]
 rw[show (2*V+b)%2=b by omega,show (2*V+b) / 2=V by omega]
 omega
theorem Yg {N T V b:Nat}(hb:b<2) (h:T%8=7) (hN:T / 8<N) :
 fill N (T+1) (2*V+b)=(fill N T V).set (T / 8) (UInt8.ofNat (V%2^(T%8)*2+b))∧(2*V+b)%2^((T+1)%8)=0∧V%2^(T%8)*2+b<256:=by
 have h1:(T+1)%8=0:=by omega
 have h2:(T+1) / 8=T / 8+1:=by omega
 have h3:(2*V+b) / 256=V / 2^7:=by rw[show (2:Nat)^7=128 from rfl];omega
 have h4:(2*V+b)%256=V%2^7*2+b:=by rw[show (2:Nat)^7=128 from rfl];omega
 refine⟨?_,by rw[h1];exact Nat.mod_one _,by rw[h,show (2:Nat)^7=128 from rfl];omega⟩
 rw[fill,fill,h1,h2,h,Nat.pow_zero,Nat.div_one,Au,h3,h4,rP _ _ (by rw[Jw];exact ah _),Jw,zV]
 obtain⟨d,hd⟩:∃d,N-T / 8=d+1:=⟨N-T / 8-1,by omega⟩
 rw[hd,show N-(T / 8+1)=d by omega,List.replicate_succ,ay,jf]
 rfl
theorem acQ (V n c j:Nat) (hj:j<n) : 2*(V*2^(n-(j+1))+c / 2^(j+1))+c / 2^j%2=V*2^(n-j)+c / 2^j:=by
 have h1:n-j=n-(j+1)+1:=by omega
 have h2:c / 2^(j+1)=c / 2^j / 2:=by rw[qH,Nat.div_div_eq_div_mul]
 rw[h1,h2,qH,←Nat.mul_assoc]
 omega
theorem af2 (l:List UInt8) (k:Nat):fC (l.take k)≤fC l:=by
 have:=Zw (l.take k) (l.drop k)
 rw[vV] at this
 omega
theorem acg (x:Nat) (hx:x<4294967296):Go.bits .and .u32 (x:Int) 1=((x%2:Nat):Int):=by
 rw[show (1:Int)=((1:Nat):Int) from rfl,u32_and_nat _ _ (by omega) (by omega),nat_mask1]
theorem aeb (l:List UInt8) (p:Nat) (hp:(fC l+p)%8=0) (hp8:p<8):fill (lI l) (fC l+p) (EP l*2^p+(2^p-1))=xA l:=by
 unfold xA
 rw[fill,hp,Nat.pow_zero,Nat.div_one]
 have hN:lI l-(fC l+p) / 8=0:=by unfold lI;omega
 rw[hN,List.replicate_zero,kR]
 by_cases h0:fC l%8=0
 ·obtain rfl:p=0:=by omega
  rw[ax h0];simp
 ·rw[aj h0,show (fC l+p) / 8=fC l / 8+1 by omega,show 8-fC l%8=p by omega]
end
section
open Go.RowKit
def Aj (l:List UInt8) (i:Nat):Nat:=ba l (i / 8) / 2^(7-i%8)%2
def qO (l:List UInt8):List Nat:=(List.range (8*l.length)).map (Aj l)
theorem Xt (l:List UInt8):(qO l).length=8*l.length:=by simp[qO]
theorem acT {l:List UInt8}{i:Nat}(h:i<8*l.length):(qO l).drop i=Aj l i :: (qO l).drop (i+1):=by
 rw[List.drop_eq_getElem_cons (by rw[Xt];exact h)]
 simp[qO]
theorem acP (l:List UInt8) (i:Nat):Aj l i<2:=Nat.mod_lt _ (by decide)
def Iu (c n:Nat):Bool:=decide (firstT.getD n 0≤c) && decide (c-firstT.getD n 0<pq.getD n 0)
def M3 (c n:Nat):Nat:=EL.getD (DR.getD n 0+(c-firstT.getD n 0)) 0
def pY (c n:Nat) (ones:Bool) (out:List UInt8):List Nat→Option (List UInt8)
 | []=>if 7<n∨ones=false then none else some out
 | b :: t=>
  if Iu (2*c+b) (n+1) then
   if M3 (2*c+b) (n+1)=256 then none else pY 0 0 true (out++[UInt8.ofNat (M3 (2*c+b) (n+1))]) t
  else pY (2*c+b) (n+1) (ones && (b==1)) out t
def xz (l:List UInt8):Option (List UInt8):=pY 0 0 true [] (qO l)
structure oN (c n:Nat):Prop where
 le:n≤29
 lo:firstT.getD n 0+pq.getD n 0≤c
 hi:c<2^n
theorem aeg:∀n<30,firstT.getD (n+1) 0=2*(firstT.getD n 0+pq.getD n 0):=by decide +kernel
theorem aef:firstT.getD 30 0+pq.getD 30 0=2^30:=by decide +kernel
theorem aes:∀n<31,DR.getD n 0+pq.getD n 0≤257:=by decide +kernel
theorem oN.zero:oN 0 0:=⟨by omega,by decide +kernel,by decide⟩
theorem oN.ge {c n b:Nat}(h:oN c n):firstT.getD (n+1) 0≤2*c+b:=by
 have:=aeg n (by have:=h.le;omega)
 have:=h.lo
 omega
theorem oN.lt {c n b:Nat}(h:oN c n) (hb:b<2) : 2*c+b<2^(n+1):=by
 have:=h.hi
 rw[qH];omega
theorem oN.hit {c n b:Nat}(h:oN c n):Iu (2*c+b) (n+1)=decide (2*c+b-firstT.getD (n+1) 0<pq.getD (n+1) 0):=by
 unfold Iu
 rw[bP (h.ge (b:=b)),zF]
theorem oN.next {c n b:Nat}(h:oN c n) (hb:b<2) (hm:pq.getD (n+1) 0≤2*c+b-firstT.getD (n+1) 0):oN (2*c+b) (n+1):=by
 have hge:=h.ge (b:=b)
 have hlt:=h.lt hb
 refine⟨?_,by omega,hlt⟩
 rcases vW n 29 with h29 | h29
 ·omega
 ·have:n=29:=by have:=h.le;omega
  subst this
  have:firstT.getD (29+1) 0+pq.getD (29+1) 0=2^(29+1):=aef
  omega
theorem oN.pow30 {c n:Nat}(h:oN c n):c<536870912:=fI h.hi (Nat.pow_le_pow_right (by omega) h.le : 2^n≤2^29)
theorem oN.room {c n b:Nat}(h:oN c n) (hm : 2*c+b-firstT.getD (n+1) 0<pq.getD (n+1) 0):DR.getD (n+1) 0+(2*c+b-firstT.getD (n+1) 0)<257:=by
 have:=aes (n+1) (by have:=h.le;omega)
 omega
theorem aiV:∀i,EL.getD i 0≤256:=by
 intro i
 rcases vW i 257 with h | h
 ·have:∀i<257,EL.getD i 0≤256:=by decide +kernel
  exact this i h
 ·rw[List.getD,List.getElem?_eq_none (by rw[bO.2.2.2.2.2];exact h)];decide
theorem agt {c b:Nat}(hc:c<536870912) (hb:b<2):Go.bits .or .u32 ((c:Int)*2) (b:Int)=((2*c+b:Nat):Int):=by
 rw[show ((c:Int)*2)=((2*c:Nat):Int) by omega,u32_or_nat _ _ (by omega) (by omega),nat_join 1 (2*c) b (by omega) (by omega)]
theorem and_one (x:Nat) (hx:x<256):Go.bits .and .u32 (x:Int) 1=((x%2:Nat):Int):=by
 rw[show (1:Int)=((1:Nat):Int) from rfl,u32_and_nat _ _ (by omega) (by omega),nat_mask1]
end
section
open Go.RowKit
def nb:Nat→Nat→List Nat
 | 0,_=>[]
 | n+1,v=>nb n (v / 2)++[v%2]
theorem SS (m v n c:Nat) (hc:c<2^n):nb (m+n) (v*2^n+c)=nb m v++nb n c:=by
 induction n generalizing c with
 | zero=>simp at hc;subst hc;simp[nb]
 | succ n ih=>
  have h1:(v*2^(n+1)+c) / 2=v*2^n+c / 2:=by rw[qH,←Nat.mul_assoc];omega
  have h2:(v*2^(n+1)+c)%2=c%2:=by rw[qH,←Nat.mul_assoc];omega
  rw[←xq,nb,h1,h2,ih (c / 2) (by rw[qH] at hc;omega),nb,jf]
theorem af0 (n:Nat):nb n (2^n-1)=List.replicate n 1:=by
 induction n with
 | zero=>rfl
 | succ n ih=>
  have hp : 0<2^n:=Nat.pow_pos (by decide)
  rw[nb,qH,show (2^n*2-1) / 2=2^n-1 by omega,show (2^n*2-1)%2=1 by omega,ih,List.replicate_succ']
theorem acY:∀c<256,nb 8 c=(List.range 8).map fun i=>c / 2^(7-i)%2:=by decide +kernel
theorem acS (l k:List UInt8):qO (l++k)=qO l++qO k:=by
 unfold qO
 rw[aN,Nat.mul_add,List.range_add,j6,List.map_map]
 congr 1
 ·apply List.map_congr_left
  intro i hi
  rw[List.mem_range] at hi
  unfold Aj ba
  rw[List.getD,List.getD,vT (by omega)]
 ·apply List.map_congr_left
  intro i hi
  show Aj (l++k) (8*l.length+i)=Aj k i
  unfold Aj ba
  rw[show (8*l.length+i) / 8=l.length+i / 8 by omega,show (8*l.length+i)%8=i%8 by omega,List.getD,List.getD,kF (by omega),Nat.add_sub_cancel_left]
theorem acU (c:UInt8):qO [c]=nb 8 c.toNat:=by
 rw[acY _ c.toNat_lt]
 unfold qO
 apply List.map_congr_left
 intro i hi
 rw[List.mem_range] at hi
 simp at hi
 unfold Aj ba
 rw[show i / 8=0 by omega,show i%8=i by omega]
 rfl
theorem Xr (m x:Nat):qO (Au m x)=nb (8*m) x:=by
 induction m generalizing x with
 | zero=>rfl
 | succ m ih=>
  have h:x=(x / 256)*2^8+x%256:=by rw[show (2:Nat)^8=256 from rfl];omega
  rw[Au,acS,ih,acU,toNat_ofNat (by omega),show 8*(m+1)=8*m+8 by omega]
  conv=>rhs;rw[h]
  rw[SS _ _ 8 _ (by rw[show (2:Nat)^8=256 from rfl];omega)]
def DL (l:List UInt8):List Nat:=l.flatMap fun c=>nb (xV c) (F8 c)
theorem adX (l:List UInt8):∀T v,nb (T+fC l) (l.foldl (fun v c=>v*2^xV c+F8 c) v)=nb T v++DL l:=by
 induction l with
 | nil=>intro T v;simp[fC,DL]
 | cons c l ih=>
  intro T v
  have hn:T+fC (c :: l)=(T+xV c)+fC l:=by simp[fC];omega
  rw[hn,nD,ih,SS _ _ _ _ (show F8 c<2^xV c from XM c.toNat (by have:=c.toNat_lt;omega)),jf]
  rfl
theorem X9 (l:List UInt8):nb (fC l) (EP l)=DL l:=by
 have:=adX l 0 0
 rw[mh] at this
 exact this
theorem adW (l:List UInt8):∃p,p<8∧(p=0↔fC l%8=0)∧qO (xA l)=DL l++List.replicate p 1:=by
 unfold xA
 by_cases h:fC l%8=0
 ·refine⟨0,by omega,by simp[h],?_⟩
  rw[ax h,Xr,show 8*(fC l / 8)=fC l by omega,X9,List.replicate_zero,kR]
 ·refine⟨8-fC l%8,by omega,by omega,?_⟩
  rw[aj h,Xr,show 8*(fC l / 8+1)=fC l+(8-fC l%8) by omega,
   SS _ _ _ _ (by have : 0<2^(8-fC l%8):=Nat.pow_pos (by decide);omega),X9,af0]
def Hg (c n:Nat):List Nat→Option Nat
 | []=>none
 | b :: t=>if Iu (2*c+b) (n+1) then (match t with | []=>some (M3 (2*c+b) (n+1)) | _=>none) else Hg (2*c+b) (n+1) t
theorem abr {s:Nat}(hs:s≠256) (out:List UInt8) (rest:List Nat):∀(L:List Nat) (c n:Nat) (ones:Bool),Hg c n L=some s→pY c n ones out (L++rest)=pY 0 0 true (out++[UInt8.ofNat s]) rest
 | [],c,n,ones,h=>by simp[Hg] at h
 | b :: t,c,n,ones,h=>by
  rw[oM,pY]
  by_cases hh:Iu (2*c+b) (n+1)=true
  ·rw[ax hh]
   cases t with
   | nil=>
    simp only[Hg,hh,if_true,Cg] at h
    rw[h,aj hs,jQ]
   | cons=>simp[Hg,hh] at h
  ·rw[aj hh]
   refine abr hs out rest t _ _ _ ?_
   rw[←h]
   cases t <;> simp[Hg,hh]
theorem ajw:∀c<256,Hg 0 0 (nb (bW.getD c 0) (nG.getD c 0))=some c:=by decide +kernel
theorem adG (c:UInt8) (out:List UInt8) (rest:List Nat):pY 0 0 true out (nb (xV c) (F8 c)++rest)=pY 0 0 true (out++[c]) rest:=by
 have h:=ajw c.toNat c.toNat_lt
 have hc:=c.toNat_lt
 have:=abr (s:=c.toNat) (by omega) out rest _ 0 0 true h
 rw[UInt8.ofNat_toNat] at this
 exact this
theorem adL (l:List UInt8):∀(out:List UInt8) (rest:List Nat),pY 0 0 true out (DL l++rest)=pY 0 0 true (out++l) rest:=by
 induction l with
 | nil=>intro out rest;simp[DL]
 | cons c l ih=>
  intro out rest
  rw[show DL (c :: l)=nb (xV c) (F8 c)++DL l from rfl,jf,adG,ih,jf]
  rfl
def MM (c n:Nat):List Nat→Bool
 | []=>true
 | b :: t=>!Iu (2*c+b) (n+1) && MM (2*c+b) (n+1) t
theorem ZA (out:List UInt8):∀(L:List Nat) (c n:Nat) (ones:Bool),MM c n L=true→pY c n ones out L=if 7<n+L.length∨(ones && L.all (· == 1))=false then none else some out
 | [],c,n,ones,_=>by simp[pY]
 | b :: t,c,n,ones,h=>by
  rw[MM,pI,ET] at h
  rw[pY,h.1,aj (by simp),ZA out t _ _ _ h.2,fe,List.all_cons,Bool.and_assoc,show n+1+t.length=n+(t.length+1) by omega]
theorem agj:∀p<16,MM 0 0 (List.replicate p 1)=true:=by decide +kernel
theorem adJ (p:Nat) (hp:p<16) (out:List UInt8):pY 0 0 true out (List.replicate p 1)=if 7<p then none else some out:=by
 rw[ZA out _ 0 0 true (agj p hp)]
 have h:(List.replicate p 1).all (fun x=>x==1)=true:=by rw[List.all_replicate];simp
 simp only[List.length_replicate,mh,h,Bool.and_self,Bool.true_eq_false,or_false]
theorem adH (l:List UInt8):xz (xA l)=some l:=by
 obtain⟨p,hp,-,h⟩:=adW l
 unfold xz
 rw[h,adL,adJ p (by omega),aj (by omega),jQ]
end
section
open Go.RowKit
def kW (l:List UInt8):List UInt8:=if lI l<l.length then eP 128 127 (lI l)++xA l else eP 0 127 l.length++l
theorem VX {l:List UInt8}(h:lI l<l.length):kW l=eP 128 127 (lI l)++xA l:=ax h
theorem VY {l:List UInt8}(h:l.length≤lI l):kW l=eP 0 127 l.length++l:=aj (by omega)
def Kw (l:List UInt8):List UInt8:=(l.drop (bB 127 l).2.1).take (bB 127 l).1
def lQ (l:List UInt8):List UInt8×Nat×Nat:=
 if (bB 127 l).2.2≠0 then ([],0,(bB 127 l).2.2)
 else if 4096<(bB 127 l).1 then ([],0,2)
 else if l.length<(bB 127 l).2.1+(bB 127 l).1 then ([],0,12)
 else if ba l 0<128 then (Kw l,(bB 127 l).2.1+(bB 127 l).1,0)
 else match xz (Kw l) with
  | none=>([],0,10)
  | some t=>if 4096<t.length then ([],0,2) else (t,(bB 127 l).2.1+(bB 127 l).1,0)
def triT (r:List UInt8×Nat×Nat):Value:=.tuple #[.string ⟨r.1.toArray⟩,.int .i64 (r.2.1:Int),.int .i64 (r.2.2:Int)]
theorem aa3:∀(k a n t:Nat) (l:List UInt8),(kD k a n t l).2.2=0→(kD k a n t l).1≤2147483647∧a<(kD k a n t l).2.1∧(kD k a n t l).2.1≤a+l.length∧(kD k a n t l).2.1≤a+k
 | 0,a,n,t,l,h=>by simp[kD] at h
 | k+1,a,n,t,[],h=>by simp[kD] at h
 | k+1,a,n,t,c :: l,h=>by
  by_cases h1:c.toNat<128
  ·by_cases h2 : 2147483647<n+t*(c.toNat%128)
   ·rw[kD,ax h1,ax h2] at h;simp at h
   ·rw[kD,ax h1,aj h2];simp;omega
  ·rw[kD,aj h1] at h ⊢
   have:=aa3 k _ _ _ l h
   simp;omega
theorem EM {F:Nat}(hF:F≤255) (l:List UInt8) (h:(bB F l).2.2=0):(bB F l).1≤2147483647∧1≤(bB F l).2.1∧(bB F l).2.1≤l.length∧(bB F l).2.1≤6:=by
 cases l with
 | nil=>simp[bB] at h
 | cons c t=>
  by_cases h1:c.toNat%(F+1)<F
  ·simp only[bB];rw[ax h1];simp;omega
  ·simp only[bB] at h ⊢;rw[aj h1] at h ⊢
   have:=aa3 _ _ _ _ _ h
   simp;omega
theorem aa4:∀(k a n t:Nat) (l:List UInt8),(kD k a n t l).2.2≤12
 | 0,a,n,t,l=>by simp[kD]
 | k+1,a,n,t,[]=>by simp[kD]
 | k+1,a,n,t,c :: l=>by
  rw[kD]
  split
  ·split <;> simp
  ·exact aa4 k _ _ _ l
theorem aa0 (F:Nat) (l:List UInt8):(bB F l).2.2≤12:=by
 cases l with
 | nil=>simp[bB]
 | cons c t=>
  simp only[bB]
  split
  ·simp
  ·exact aa4 _ _ _ _ _
theorem ai7:∀(k k' a s T x:Nat) (rest:List UInt8),1≤k→k≤k'+1→x<128^k→s+T*x≤2147483647→kD k a s T (sK k' x++rest)=(s+T*x,a+(sK k' x).length,0):=by
 intro k
 induction k with
 | zero=>intro k' a s T x rest h;omega
 | succ k ih=>
  intro k' a s T x rest _ hk hx hs
  by_cases h1:x<128
  ·rw[aaZ _ _ h1]
   simp only[oM,jQ,kD,toNat_ofNat (show x<256 by omega)]
   rw[ax h1,Nat.mod_eq_of_lt h1,aj (by omega)]
   rfl
  ·obtain⟨q,rfl⟩:∃q,k'=q+1:=⟨k'-1,by
    cases k with
    | zero=>simp at hx;omega
    | succ k=>omega⟩
   have iO : 1≤k:=by
    cases k with
    | zero=>simp at hx;omega
    | succ k=>omega
   rw[aaY _ _ (by omega)]
   simp only[oM,kD,toNat_ofNat (show x%128+128<256 by omega)]
   rw[aj (by omega),show (x%128+128)%128=x%128 by omega]
   have e:s+T*(x%128)+T*128*(x / 128)=s+T*x:=by
    rw[Nat.mul_assoc,xq,←Nat.mul_add,Nat.mod_add_div]
   rw[ih q (a+1) _ _ (x / 128) rest iO (by omega) (Nat.div_lt_of_lt_mul (by rw[qH,Nat.mul_comm] at hx;exact hx)) (by rw[e];exact hs),e]
   simp[xq,Nat.add_comm]
section
variable {f F n:Nat} (hF : 1≤F∧F≤255) (hf:f%(F+1)=0) (hfF:f+F<256) (hn:n≤2147483647)
include hF hf hfF hn
theorem M8 (rest:List UInt8):bB F (eP f F n++rest)=(n,(eP f F n).length,0):=by
 unfold eP
 by_cases h:n<F
 ·rw[ax h]
  simp only[oM,jQ,bB,toNat_ofNat (show f+n<256 by omega)]
  have e:(f+n)%(F+1)=n:=by rw[Nat.add_mod,hf,mh,Nat.mod_mod,Nat.mod_eq_of_lt (by omega)]
  rw[e,ax h];rfl
 ·rw[aj h]
  simp only[oM,bB,toNat_ofNat (show f+F<256 by omega)]
  have e:(f+F)%(F+1)=F:=by rw[Nat.add_mod,hf,mh,Nat.mod_mod,Nat.mod_eq_of_lt (by omega)]
  rw[e,aj (by omega),ai7 5 5 1 F 1 (n-F) rest (by omega) (by omega) (by simp;omega) (by omega)]
  simp only[fe]
  congr 1
  ·omega
  ·congr 1;omega
end
section
variable {l:List UInt8} {m a z:Nat} (h:bB 127 l=(m,a,z))
include h
theorem aiZ (hz:z≠0):lQ l=([],0,z):=by unfold lQ;rw[h];exact ax hz
theorem ai0 (hz:z=0) (hm : 4096<m):lQ l=([],0,2):=by unfold lQ;rw[h];simp[hz,hm]
theorem ai1 (hz:z=0) (hm:m≤4096) (hl:l.length<a+m):lQ l=([],0,12):=by
 unfold lQ;rw[h];simp only[hz];rw[aj (by omega),aj (by omega),ax hl]
theorem VU (hz:z=0) (hm:m≤4096) (hl:a+m≤l.length) (hb:ba l 0<128):lQ l=((l.drop a).take m,a+m,0):=by
 unfold lQ Kw;rw[h];simp only[hz];rw[aj (by omega),aj (by omega),aj (by omega),ax hb]
theorem VT (hz:z=0) (hm:m≤4096) (hl:a+m≤l.length) (hb : 128≤ba l 0):lQ l=match xz ((l.drop a).take m) with
 | none=>([],0,10)
 | some t=>if 4096<t.length then ([],0,2) else (t,a+m,0):=by
 unfold lQ Kw;rw[h];simp only[hz];rw[aj (by omega),aj (by omega),aj (by omega),aj (by omega)]
end
end
section
open Go.RowKit Go.Maps
section
variable {α:Type} [DecidableEq α]
def pos:List α→Int→α→Option Int
 | [],_,_=>none
 | a :: l,g,r=>match pos l (g+1) r with
  | some x=>some x
  | none=>if r=a then some (g+1) else none
theorem Ky (a : α) (l:List α) (g:Int) (r : α):pos (a :: l) g r=match pos l (g+1) r with | some x=>some x | none=>if r=a then some (g+1) else none:=rfl
theorem Z0 (l:List α) (a : α) (g:Int) (r : α):pos (l++[a]) g r=if r=a then some (g+l.length+1) else pos l g r:=by
 induction l generalizing g with
 | nil=>simp[pos]
 | cons b l ih=>
  rw[oM,Ky,ih]
  by_cases h:r=a
  ·simp only[h,if_true,fe]
   congr 1
   omega
  ·rw[aj h,aj h];rfl
theorem agY {l:List α}{g:Int}{r : α}{x:Int}(h:pos l g r=some x):g<x∧x≤g+l.length:=by
 induction l generalizing g with
 | nil=>cases h
 | cons b l ih=>
  rw[Ky] at h
  cases hp:pos l (g+1) r with
  | some y=>
   rw[hp] at h
   injection h with h
   subst h
   have:=ih hp
   simp only[fe];omega
  | none=>
   rw[hp] at h
   simp only at h
   split at h
   ·injection h with h;subst h;simp only[fe];omega
   ·cases h
theorem ZW {a r : α}(l:List α) (g:Int) (h:r≠a):pos (a :: l) g r=pos l (g+1) r:=by
 rw[Ky,aj h]
 cases pos l (g+1) r <;> rfl
theorem ZV {a : α}{l:List α}{g x:Int}(h:pos l (g+1) a=some x):pos (a :: l) g a=some x:=by rw[Ky,h]
theorem agX {a : α}{l:List α}{g:Int}(h:pos l (g+1) a=none):pos (a :: l) g a=some (g+1):=by rw[Ky,h];simp
end
def num (x:Int):DataW Unit:=.lit (.int .i64 x)
theorem ZB {x c:Int}(h:num x = .lit (.int .i64 c)):c=x:=by unfold num at h;simp at h;exact h.symm
structure View {α:Type}(κ : α→Lit) (ok : α→Prop) (D:DataW Unit) (f : α→Option Int):Prop where
 has:∀a,ok a→Maps.has D (κ a)=(f a).isSome
 at_:∀a x,ok a→f a=some x→D.atKey (κ a) (num 0)=num x
section
variable {α:Type} [DecidableEq α] {κ : α→Lit} {ok : α→Prop} {D:DataW Unit} {f f' : α→Option Int}
omit [DecidableEq α] in
theorem View.empty (κ : α→Lit) (ok : α→Prop):View κ ok (.map []) (fun _=>none):=⟨fun _ _=>rfl,fun _ _ _ h=>by cases h⟩
omit [DecidableEq α] in
theorem View.congr (h:View κ ok D f) (hf:∀a,ok a→f' a=f a):View κ ok D f':=⟨fun a ha=>by rw[hf a ha];exact h.has a ha,fun a x ha hx=>h.at_ a x ha (by rw[←hf a ha];exact hx)⟩
theorem View.put (h:View κ ok D f) (ht:Tidy D) (hl:∀a,ok a→WideAt.IsKeyLit (κ a)) (hi:∀a b,ok a→ok b→a≠b→κ a≠κ b){a : α}(ha:ok a) (x:Int) :
 View κ ok (D.put (κ a) (num x)) (fun r=>if r=a then some x else f r):=by
 refine⟨fun r hr=>?_,fun r y hr hy=>?_⟩
 ·by_cases e:r=a
  ·subst e;rw[has_put_same ht.isMap (hl _ hr)];simp
  ·rw[has_put_other (hi r a hr ha e),h.has r hr,aj e]
 ·by_cases e:r=a
  ·subst e
   simp only[if_true] at hy
   injection hy with hy
   subst hy
   exact atKey_put_same ht.isMap (hl _ hr) _ _
  ·simp only[aj e] at hy
   rw[atKey_put_other (hi r a hr ha e)]
   exact h.at_ r y hr hy
theorem View.del (h:View κ ok D f) (hi:∀a b,ok a→ok b→a≠b→κ a≠κ b){a : α}(ha:ok a):View κ ok (D.del (κ a)) (fun r=>if r=a then none else f r):=by
 refine⟨fun r hr=>?_,fun r y hr hy=>?_⟩
 ·by_cases e:r=a
  ·subst e;rw[has_del_same];simp
  ·rw[has_del_other (hi r a hr ha e),h.has r hr,aj e]
 ·by_cases e:r=a
  ·subst e;simp at hy
  ·simp only[aj e] at hy
   rw[atKey_del_other (hi r a hr ha e)]
   exact h.at_ r y hr hy
omit [DecidableEq α] in
theorem View.none_ (h:View κ ok D f){a : α}(ha:ok a) (hf:f a=none) (z:DataW Unit):D.atKey (κ a) z=z:=atKey_of_not_has (by rw[h.has a ha,hf];rfl) z
end
abbrev Rw:=ByteArray×ByteArray
def cost (r:Rw):Nat:=r.1.size+r.2.size+32
structure Tb where
 most:Int
 gone:Int
 rows:List Rw
def Tb.size (T:Tb):Nat:=(T.rows.map cost).sum
def iQ (m:Int):Int→List Rw→Int×List Rw
 | g,[]=>(g,[])
 | g,r :: l=>if m<((((r :: l).map cost).sum:Nat):Int) then iQ m (g+1) l else (g,r :: l)
def Tb.shrink (T:Tb) (m:Int):Tb:={ T with gone:=(iQ m T.gone T.rows).1,rows:=(iQ m T.gone T.rows).2 }
def Tb.resize (T:Tb) (m:Int):Tb:={ T with most:=m }.shrink m
def Tb.add (T:Tb) (r:Rw):Tb:=if T.most<cost r then T.shrink 0 else { T.shrink (T.most-cost r) with rows:=(T.shrink (T.most-cost r)).rows++[r] }
theorem aaF (m g:Int):iQ m g []=(g,[]):=rfl
theorem I4 {m g:Int}{r:Rw}{l:List Rw}(h:m<((((r :: l).map cost).sum:Nat):Int)):iQ m g (r :: l)=iQ m (g+1) l:=by rw[iQ,ax h]
theorem G7 {m g:Int}{l:List Rw}(h:(((l.map cost).sum:Nat):Int)≤m):iQ m g l=(g,l):=by
 cases l with
 | nil=>rfl
 | cons r l=>rw[iQ,aj (by omega)]
end
section
open Go.RowKit Go.Maps
theorem ae9:laidOutB Tryz.prog=true:=by kernel_rfl
theorem aap:(276:TypeId)<Tryz.prog.types.size:=of_decide_eq_true (by kernel_rfl)
theorem ajy:(match Tryz.prog.underlying 276 with | some (.array _ _) | some (.struct _)=>true | _=>false)=true:=by kernel_rfl
theorem IJ:Keyed Tryz.prog 276:=Keyed.of_law (deep_law_laid ae9 (m:=3) (by omega) aap (by kernel_rfl) ajy)
theorem IK:Keyed Tryz.prog 9:=string_keyed Tryz.underlying9
theorem abz (w:World):(zeroValue 3).run Tryz.prog w = .ok (.int .i64 0) w:=by kernel_rfl
theorem tRows:rR Tryz.prog 203 276 (.agg #[.string ByteArray.empty,.string ByteArray.empty]) 2 32:=
 ⟨Tryz.underlying203,by kernel_rfl,rfl,by decide⟩
def EH (r:Rw):Value:=.agg #[.string r.1,.string r.2]
def rcs (l:List Rw):List Value:=l.flatMap fun r=>[.string r.1,.string r.2]
theorem ahj (r:Rw) (l:List Rw):rcs (r :: l) = .string r.1 :: .string r.2 :: rcs l:=rfl
theorem aad {l:List Rw}:∀{i:Nat}{r:Rw},l[i]?=some r→(rcs l)[i*2]?=some (.string r.1)∧(rcs l)[i*2+1]?=some (.string r.2):=by
 induction l with
 | nil=>intro i p h;simp at h
 | cons q L ih=>
  intro i p h
  rw[ahj]
  cases i with
  | zero=>simp at h;subst h;exact⟨rfl,rfl⟩
  | succ i=>
   have:=ih (i:=i) (r:=p) (by simpa using h)
   rw[show (i+1)*2=i*2+1+1 by omega]
   simpa using this
theorem ahi (l k:List Rw):rcs (l++k)=rcs l++rcs k:=by simp[rcs,List.flatMap_append]
theorem ahk (r:Rw) (l:List Rw):(rcs (r :: l)).drop 2=rcs l:=rfl
def vC (s:ByteArray):Prop:=s.size≤maxLen
def pE (r:Rw):Prop:=vC r.1∧vC r.2
def EK (s:ByteArray):Lit:=.string s.data.toList
theorem I5 {s:ByteArray}(h:vC s):keyOf Tryz.prog 9 (.string s)=some (EK s):=WideMaps.keyOf_string_mk Tryz.underlying9 h
theorem ae2:Tryz.prog.keyType 276=true:=by kernel_rfl
theorem XG:Tryz.prog.cellsOf 276=2:=by kernel_rfl
theorem ac_:Tryz.prog.cellsOf 9=1:=by kernel_rfl
theorem Y6 (d:Nat){s:ByteArray}(h:vC s):Tryz.prog.keyLits (d+1) 9 [.string s]=some [.string s.data.toList]:=by
 unfold Program.keyLits
 rw[Tryz.underlying9]
 simp only
 exact ax h
theorem ae1 (d:Nat){r:Rw}(h:pE r):Tryz.prog.keyLits (d+2) 276 [.string r.1,.string r.2]=some [.string r.1.data.toList,.string r.2.data.toList]:=by
 have h1:=Y6 d h.1
 have h2:=Y6 d h.2
 unfold Program.keyLits
 rw[Tryz.underlying276]
 simp only
 rw[ax ⟨by rw[XG];rfl,by simp⟩]
 simp[ac_,h1,h2]
theorem ahR {r:Rw}(h:pE r):∃l,keyOf Tryz.prog 276 (EH r)=some l:=by
 obtain⟨d,hd⟩:∃d,Tryz.prog.types.size+1=d+2:=⟨Tryz.prog.types.size-1,by have h:=Nat.lt_of_le_of_lt (aL _) aap;omega⟩
 have hf:(EH r).formed Tryz.prog 276=true:=by
  unfold EH
  simp[Value.formed,Tryz.underlying276,XG]
 refine⟨.string (keyBytes [.string r.1.data.toList,.string r.2.data.toList]),?_⟩
 unfold keyOf
 rw[Tryz.underlying276]
 simp only
 rw[ae2,hf,hd]
 simp only[Bool.and_self,if_true]
 rw[show (EH r).cells.toList=[.string r.1,.string r.2] from rfl,ae1 d h]
 rfl
noncomputable def C9 (r:Rw):Lit:=(keyOf Tryz.prog 276 (EH r)).getD (.bool true)
theorem IV {r:Rw}(h:pE r):keyOf Tryz.prog 276 (EH r)=some (C9 r):=by
 obtain⟨l,hl⟩:=ahR h
 unfold C9
 rw[hl];rfl
theorem aao (a b:Rw) (ha:pE a) (hb:pE b) (h:a≠b):C9 a≠C9 b:=by
 intro e
 have h1:=IV ha
 rw[e] at h1
 have:=Keyed.inj IJ h1 (IV hb)
 obtain⟨a1,a2⟩:=a
 obtain⟨b1,b2⟩:=b
 simp[EH] at this
 exact h (by rw[this.1,this.2])
theorem ahS (a:Rw) (ha:pE a):WideAt.IsKeyLit (C9 a):=Keyed.key IJ (IV ha)
theorem aaP (a b:ByteArray) (ha:vC a) (hb:vC b) (h:a≠b):EK a≠EK b:=by
 intro e
 have h1:=I5 ha
 rw[e] at h1
 have:=Keyed.inj IK h1 (I5 hb)
 simp at this
 exact h this
theorem aiJ (a:ByteArray) (ha:vC a):WideAt.IsKeyLit (EK a):=Keyed.key IK (I5 ha)
def foot (g mb mn:Nat) (A:Option Addr) (k:Nat):Prop:=k=g∨k=mb∨k=mn∨∃a,A=some a∧a.block=k
structure Raw (w:World) (g mb mn:Nat) (A:Option Addr) (c N:Nat) (most size gone:Int) (rows:List Rw) (fb:Rw→Option Int) (fn:ByteArray→Option Int):Prop where
 book:w.heap[g]?=some (.cells #[.int .i64 most,.int .i64 size,.slice A rows.length c,.int .i64 gone,.map (some mb),.map (some mn)] 205 (0,0))
 row:j5 w 276 2 (.slice A rows.length c) rows.length (rcs rows)
 both:∃D:DataW Unit,w.ownsMap Tryz.prog 276 (plainElem Tryz.prog 3) mb N D∧View C9 pE D fb
 name:∃D:DataW Unit,w.ownsMap Tryz.prog 9 (plainElem Tryz.prog 3) mn N D∧View EK vC D fn
 ne:g≠mb∧g≠mn∧mb≠mn
 apart:∀a,A=some a→a.block≠g∧a.block≠mb∧a.block≠mn
section
variable {w w':World} {g mb mn c N:Nat} {A:Option Addr} {most size gone:Int} {rows:List Rw} {fb:Rw→Option Int} {fn:ByteArray→Option Int}
theorem Raw.lt (h:Raw w g mb mn A c N most size gone rows fb fn):∀k,foot g mb mn A k→k<w.heap.size:=by
 rintro k (rfl | rfl | rfl | ⟨a,ha,rfl⟩)
 ·exact (Array.getElem?_eq_some_iff.1 h.book).1
 ·obtain⟨D,hD,_⟩:=h.both;exact hD.lt
 ·obtain⟨D,hD,_⟩:=h.name;exact hD.lt
 ·obtain⟨A',c',hv,_,_,hb⟩:=h.row.form
  injection hv with e1
  subst e1
  exact hb a ha
theorem Raw.keep (h:Raw w g mb mn A c N most size gone rows fb fn) (hk:∀k,foot g mb mn A k→w'.heap[k]?=w.heap[k]?):Raw w' g mb mn A c N most size gone rows fb fn:=by
 obtain⟨D1,⟨e1,l1,a1,b1⟩,v1⟩:=h.both
 obtain⟨D2,⟨e2,l2,a2,b2⟩,v2⟩:=h.name
 refine⟨(hk g (.inl rfl)).trans h.book,h.row.keep fun q hq=>hk q ?_,⟨D1,⟨e1,l1,(hk mb (.inr (.inl rfl))).trans a1,b1⟩,v1⟩,⟨D2,⟨e2,l2,(hk mn (.inr (.inr (.inl rfl)))).trans a2,b2⟩,v2⟩,h.ne,h.apart⟩
 cases A with
 | none=>cases hq
 | some a=>exact .inr (.inr (.inr ⟨a,rfl,by simpa [Value.ownBlock] using hq⟩))
theorem Raw.alloc (h:Raw w g mb mn A c N most size gone rows fb fn) (o:Obj):Raw (w.alloc o) g mb mn A c N most size gone rows fb fn:=h.keep fun k hk=>Below.heap_alloc _ _ _ (h.lt k hk)
theorem Raw.cells (h:Raw w g mb mn A c N most size gone rows fb fn):w.cell? ⟨g,0,none⟩=some (.int .i64 most)∧w.cell? ⟨g,1,none⟩=some (.int .i64 size)∧w.cell? ⟨g,2,none⟩=some (.slice A rows.length c) ∧
 w.cell? ⟨g,3,none⟩=some (.int .i64 gone)∧w.cell? ⟨g,4,none⟩=some (.map (some mb))∧w.cell? ⟨g,5,none⟩=some (.map (some mn)):=by
 refine⟨?_,?_,?_,?_,?_,?_⟩ <;> (unfold World.cell?;rw[h.book];rfl)
theorem Raw.free (h:Raw w g mb mn A c N most size gone rows fb fn) (o:Nat):w.frozen? ⟨g,o,none⟩=false:=by
 unfold World.frozen?;rw[h.book];simp
theorem Raw.at_ (h:Raw w g mb mn A c N most size gone rows fb fn){i:Nat}{r:Rw}(hi:rows[i]?=some r):∃q o,A=some ⟨q,o,none⟩∧q<w.heap.size∧w.cell? ⟨q,o+i*2,none⟩=some (.string r.1)∧w.cell? ⟨q,o+i*2+1,none⟩=some (.string r.2):=by
 have hlt:i<rows.length:=(List.getElem?_eq_some_iff.1 hi).1
 obtain⟨q,o,hA,hq,hc⟩:=(h.row.rd rfl).2 (by omega)
 have e:=aad hi
 exact⟨q,o,hA,hq,(hc _ (by omega)).trans e.1,(hc (i*2+1) (by omega)).trans e.2⟩
end
theorem LQ (r:Rw) (w:World) (h1:r.1.size≤140737488355328) (h2:r.2.size≤140737488355328) :
 Calls Tryz.prog 215 #[.agg #[.string r.1,.string r.2]] w fun e w'=>e = .returned (.int .i64 (cost r:Nat))∧w'=w.alloc (.cells #[.string r.1,.string r.2] 276):=by
 go_enter Tryz.func215,Tryz.ntmps215
 go_wp2
 go_ret
 exact⟨C8 (by unfold cost;congr 1),rfl⟩
structure TM (w:World) (g mb mn:Nat) (A:Option Addr) (c N:Nat) (T:Tb):Prop where
 raw:Raw w g mb mn A c N T.most T.size T.gone T.rows (pos T.rows T.gone) (pos (T.rows.map (·.1)) T.gone)
 ok:∀r ∈ T.rows,pE r
 CW : 0≤T.most
 Br:T.most≤65536
 Ck : 0≤T.gone
 many:T.gone+T.rows.length≤N
 few:N≤1099511627776
 fits:(T.size:Int)≤T.most
def TabIs (w:World) (g:Nat) (F:Nat→Prop) (N:Nat) (T:Tb):Prop:=∃mb mn A c,F=foot g mb mn A∧TM w g mb mn A c N T
def TNew (n:Int) (W:World) (e:Ending) (w':World):Prop:=∃g F,e = .returned (.tuple #[.pointer (some ⟨g,0,none⟩),.int .i64 0])∧TabIs w' g F 0 ⟨n,0,[]⟩∧(∀k,F k→W.heap.size≤k)∧Below W.heap.size W w'
theorem aa_ (n:Int) (w:World) (h0 : 0≤n) (h1:n≤65536):Calls Tryz.prog 85 #[.int .i64 n] w (TNew n w):=by
 have fA:=@run_makeMap Tryz.prog
 go_enter Tryz.func85,Tryz.ntmps85
 go_wp2
 go_ret2
 refine⟨w.heap.size+2,foot (w.heap.size+2) w.heap.size (w.heap.size+1) none,rfl,⟨w.heap.size,w.heap.size+1,none,0,rfl,⟨⟨?_,j5.nil _ _ _,⟨.map [],?_,View.empty _ _⟩,⟨.map [],?_,View.empty _ _⟩,⟨by omega,by omega,by omega⟩,fun a ha=>by cases ha⟩,(fun r hr=>by cases hr),h0,h1,Int.le_refl _,by simp,by omega,h0⟩⟩,?_,(((Below.refl _ _).alloc (ah _) _).alloc (by simp) _).alloc (by simp;omega) _⟩
 ·have:=aZ ((w.alloc (.map #[] 0)).alloc (.map #[] 0)) (.cells #[.int .i64 n,.int .i64 0,.slice none 0 0,.int .i64 0,.map (some w.heap.size),.map (some (w.heap.size+1))] 205)
  rw[show ((w.alloc (.map #[] 0)).alloc (.map #[] 0)).heap.size=w.heap.size+2 by simp] at this
  exact this
 ·exact ((World.ownsMap_made w _ _ _).alloc _).alloc _
 ·have:=(World.ownsMap_made (w.alloc (.map #[] 0)) Tryz.prog 9 (plainElem (H:=Unit) Tryz.prog 3)).alloc (.cells #[.int .i64 n,.int .i64 0,.slice none 0 0,.int .i64 0,.map (some w.heap.size),.map (some (w.heap.size+1))] 205)
  rwa [show (w.alloc (.map #[] 0)).heap.size=w.heap.size+1 by simp] at this
 ·rintro k (rfl | rfl | rfl | ⟨a,ha,_⟩)
  ·omega
  ·omega
  ·omega
  ·cases ha
end
section
open Go.RowKit Go.Maps
section
variable {w w':World} {g mb mn c N:Nat} {A:Option Addr} {most size gone:Int} {rows:List Rw} {fb fb':Rw→Option Int} {fn fn':ByteArray→Option Int}
theorem Raw.congr (h:Raw w g mb mn A c N most size gone rows fb fn) (h1:∀r,pE r→fb' r=fb r) (h2:∀s,vC s→fn' s=fn s):Raw w g mb mn A c N most size gone rows fb' fn':=by
 obtain⟨D1,o1,v1⟩:=h.both
 obtain⟨D2,o2,v2⟩:=h.name
 exact⟨h.book,h.row,⟨D1,o1,v1.congr h1⟩,⟨D2,o2,v2.congr h2⟩,h.ne,h.apart⟩
theorem Raw.more (h:Raw w g mb mn A c N most size gone rows fb fn){N':Nat}(hN:N≤N'):Raw w g mb mn A c N' most size gone rows fb fn:=by
 obtain⟨D1,o1,v1⟩:=h.both
 obtain⟨D2,o2,v2⟩:=h.name
 exact⟨h.book,h.row,⟨D1,o1.mono hN,v1⟩,⟨D2,o2.mono hN,v2⟩,h.ne,h.apart⟩
theorem Raw.put (h:Raw w g mb mn A c N most size gone rows fb fn){o:Nat}{v:Value}{most' size' gone':Int}{A':Option Addr}{c':Nat}{rows':List Rw}
 (hb:(#[Value.int .i64 most,.int .i64 size,.slice A rows.length c,.int .i64 gone,.map (some mb),.map (some mn)]:Array Value).setIfInBounds o v=#[.int .i64 most',.int .i64 size',.slice A' rows'.length c',.int .i64 gone',.map (some mb),.map (some mn)])
 (hr:j5 w 276 2 (.slice A' rows'.length c') rows'.length (rcs rows')) (ha:∀a,A'=some a→a.block≠g∧a.block≠mb∧a.block≠mn) :
 Raw (w.setCell ⟨g,o,none⟩ v) g mb mn A' c' N most' size' gone' rows' fb fn:=by
 have hk:∀k,k≠g→(w.setCell ⟨g,o,none⟩ v).heap[k]?=w.heap[k]?:=fun k hk=>Below.heap_setCell _ _ _ _ (by simpa using hk)
 obtain⟨D1,⟨e1,l1,a1,b1⟩,v1⟩:=h.both
 obtain⟨D2,⟨e2,l2,a2,b2⟩,v2⟩:=h.name
 refine⟨?_,hr.keep fun q hq=>hk q ?_,⟨D1,⟨e1,l1,(hk mb (Ne.symm h.ne.1)).trans a1,b1⟩,v1⟩,⟨D2,⟨e2,l2,(hk mn (Ne.symm h.ne.2.1)).trans a2,b2⟩,v2⟩,h.ne,ha⟩
 ·simp only[World.setCell,Array.getElem?_modify,if_true]
  rw[h.book]
  simp only[Option.map_some]
  rw[←hb]
  rfl
 ·cases A' with
  | none=>cases hq
  | some a=>simp only[Value.ownBlock,Cg] at hq;subst hq;exact (ha a rfl).1
theorem Raw.aio (h:Raw w g mb mn A c N most size gone rows fb fn) (v:Int):Raw (w.setCell ⟨g,0,none⟩ (.int .i64 v)) g mb mn A c N v size gone rows fb fn:=h.put rfl h.row h.apart
theorem Raw.aay (h:Raw w g mb mn A c N most size gone rows fb fn) (v:Int):Raw (w.setCell ⟨g,1,none⟩ (.int .i64 v)) g mb mn A c N most v gone rows fb fn:=h.put rfl h.row h.apart
theorem Raw.ain (h:Raw w g mb mn A c N most size gone rows fb fn) (v:Int):Raw (w.setCell ⟨g,3,none⟩ (.int .i64 v)) g mb mn A c N most size v rows fb fn:=h.put rfl h.row h.apart
theorem Raw.setRows (h:Raw w g mb mn A c N most size gone rows fb fn){A':Option Addr}{c':Nat}{rows':List Rw}(hr:j5 w 276 2 (.slice A' rows'.length c') rows'.length (rcs rows'))
 (ha:∀a,A'=some a→a.block≠g∧a.block≠mb∧a.block≠mn):Raw (w.setCell ⟨g,2,none⟩ (.slice A' rows'.length c')) g mb mn A' c' N most size gone rows' fb fn:=h.put rfl hr ha
def F9 (A:Option Addr) (c:Nat):Option Addr:=if c=1 then A else A.map (·.add 2)
theorem XV {A:Option Addr}{c:Nat}{a:Addr}(h:F9 A c=some a):∃a0,A=some a0∧a0.block=a.block:=by
 unfold F9 at h
 split at h
 ·exact⟨a,h,rfl⟩
 ·cases A with
  | none=>cases h
  | some a0=>simp at h;subst h;exact⟨a0,rfl,rfl⟩
theorem Raw.tail {r:Rw}{l:List Rw}(h:Raw w g mb mn A c N most size gone (r :: l) fb fn):Raw (w.setCell ⟨g,2,none⟩ (.slice (F9 A c) l.length (c-1))) g mb mn (F9 A c) (c-1) N most size gone l fb fn:=by
 refine h.setRows ?_ (fun a ha=>?_)
 ·have:=h.row.tail (by simp) rfl
  simpa [ahk,F9] using this
 ·obtain⟨a0,h0,hb⟩:=XV ha
  rw[←hb];exact h.apart a0 h0
theorem Raw.Zy (h:Raw w g mb mn A c N most size gone rows fb fn){D:DataW Unit}{N':Nat}(hg:w.grownBy w' (some mb)) (ho:w'.ownsMap Tryz.prog 276 (plainElem Tryz.prog 3) mb N' D) (hv:View C9 pE D fb') (hN:N≤N') :
 Raw w' g mb mn A c N' most size gone rows fb' fn:=by
 obtain⟨D2,o2,v2⟩:=h.name
 have hl:=h.lt
 refine⟨(hg.block g (hl g (.inl rfl)) (by simpa using h.ne.1)).trans h.book,h.row.keep fun q hq=>?_,⟨D,ho,hv⟩,⟨D2,(o2.kept hg (by simpa using Ne.symm h.ne.2.2)).mono hN,v2⟩,h.ne,h.apart⟩
 cases A with
 | none=>cases hq
 | some a=>
  simp only[Value.ownBlock,Cg] at hq
  subst hq
  exact hg.block _ (hl _ (.inr (.inr (.inr ⟨a,rfl,rfl⟩)))) (by simpa using (h.apart a rfl).2.1)
theorem Raw.newName (h:Raw w g mb mn A c N most size gone rows fb fn){D:DataW Unit}{N':Nat}(hg:w.grownBy w' (some mn)) (ho:w'.ownsMap Tryz.prog 9 (plainElem Tryz.prog 3) mn N' D) (hv:View EK vC D fn') (hN:N≤N') :
 Raw w' g mb mn A c N' most size gone rows fb fn':=by
 obtain⟨D1,o1,v1⟩:=h.both
 have hl:=h.lt
 refine⟨(hg.block g (hl g (.inl rfl)) (by simpa using h.ne.2.1)).trans h.book,h.row.keep fun q hq=>?_,⟨D1,(o1.kept hg (by simpa using h.ne.2.2)).mono hN,v1⟩,⟨D,ho,hv⟩,h.ne,h.apart⟩
 cases A with
 | none=>cases hq
 | some a=>
  simp only[Value.ownBlock,Cg] at hq
  subst hq
  exact hg.block _ (hl _ (.inr (.inr (.inr ⟨a,rfl,rfl⟩)))) (by simpa using (h.apart a rfl).2.2)
theorem Raw.Zd (h:Raw w g mb mn A c N most size gone rows fb fn){r:Rw}{x:Int}(hr:pE r) (hf:fb r=some x) (k:Nat) :
 (Instr.lookup 202 (.map (some mb)) (EH r) false).run Tryz.prog (w.drewN k) = .ok (.int .i64 x) (w.drewN k):=by
 obtain⟨D,ho,hv⟩:=(h.keep (w':=w.drewN k) (fun _ _=>rfl)).both
 obtain⟨y,hrun,hat,_⟩:=ho.lookup_int IJ Tryz.underlying202 Tryz.underlying3 (abz _) (IV hr)
 have:=(hv.at_ r x hr hf).symm.trans hat
 rw[ZB this] at hrun
 exact hrun
theorem Raw.Ze (h:Raw w g mb mn A c N most size gone rows fb fn){s:ByteArray}{x:Int}(hr:vC s) (hf:fn s=some x) (k:Nat) :
 (Instr.lookup 157 (.map (some mn)) (.string s) false).run Tryz.prog (w.drewN k) = .ok (.int .i64 x) (w.drewN k):=by
 obtain⟨D,ho,hv⟩:=(h.keep (w':=w.drewN k) (fun _ _=>rfl)).name
 obtain⟨y,hrun,hat,_⟩:=ho.lookup_int IK Tryz.underlying157 Tryz.underlying3 (abz _) (I5 hr)
 have:=(hv.at_ s x hr hf).symm.trans hat
 rw[ZB this] at hrun
 exact hrun
end
end
section
open Go.RowKit Go.Maps
def dV (l:List Rw):Int:=((l.map cost).sum:Nat)
theorem I7 (r:Rw) (l:List Rw):dV (r :: l)=(cost r:Int)+dV l:=by unfold dV;simp
theorem KM (l:List Rw) : 0≤dV l:=by unfold dV;omega
def Sub (A' A:Option Addr):Prop:=∀a,A'=some a→∃a0,A=some a0∧a0.block=a.block
theorem Sub.refl (A:Option Addr):Sub A A:=fun a h=>⟨a,h,rfl⟩
theorem Sub.trans {A B C:Option Addr}(h:Sub A B) (h2:Sub B C):Sub A C:=fun a ha=>by
 obtain⟨b,hb,e⟩:=h a ha
 obtain⟨c,hc,e2⟩:=h2 b hb
 exact⟨c,hc,e2.trans e⟩
theorem Sub.foot {A' A:Option Addr}(h:Sub A' A){g mb mn k:Nat}(hk:foot g mb mn A' k):foot g mb mn A k:=by
 rcases hk with h1 | h1 | h1 | ⟨a,ha,h1⟩
 ·exact .inl h1
 ·exact .inr (.inl h1)
 ·exact .inr (.inr (.inl h1))
 ·obtain⟨a0,h0,e⟩:=h a ha
  exact .inr (.inr (.inr ⟨a0,h0,e.trans h1⟩))
def FX (w:World) (g mb mn:Nat) (A:Option Addr) (c N:Nat) (most gone:Int) (rows:List Rw):Prop:=
 Raw w g mb mn A c N most (dV rows) gone rows (pos rows gone) (pos (rows.map (·.1)) gone)∧(∀r ∈ rows,pE r)∧0≤gone∧gone+rows.length≤N∧N≤1099511627776∧dV rows≤4294967296
def ab4 (W:World) (g mb mn:Nat) (A0:Option Addr) (N:Nat) (m most Ck:Int) (MQ:List Rw) (k:Nat) (wr:World):Prop:=
 ∃A c gone rows,FX wr g mb mn A c N most gone rows∧Kept (foot g mb mn A0) W wr∧Sub A A0∧iQ m Ck MQ=iQ m gone rows∧k=rows.length
def Ob (W:World) (g mb mn:Nat) (A0:Option Addr) (N x:Nat) (most gone:Int) (r:Rw) (l:List Rw) (wr:World):Prop:=
 ∃A c,Raw wr g mb mn A c N most (dV l) (gone+1) l (pos (r :: l) gone) (pos ((r :: l).map (·.1)) gone)∧Kept (foot g mb mn A0) W wr∧Sub A A0 ∧
  wr.cell? ⟨x,0,none⟩=some (.string r.1)∧wr.cell? ⟨x,1,none⟩=some (.string r.2)∧x<wr.heap.size∧¬foot g mb mn A0 x
def WT (W:World) (g mb mn:Nat) (A0:Option Addr) (N x:Nat) (most gone:Int) (r:Rw) (l:List Rw) (wr:World):Prop:=
 ∃A c,Raw wr g mb mn A c N most (dV l) (gone+1) l (pos l (gone+1)) (pos ((r :: l).map (·.1)) gone)∧Kept (foot g mb mn A0) W wr∧Sub A A0 ∧
  wr.cell? ⟨x,0,none⟩=some (.string r.1)∧wr.cell? ⟨x,1,none⟩=some (.string r.2)∧x<wr.heap.size∧¬foot g mb mn A0 x
def WS (W:World) (g mb mn:Nat) (A0:Option Addr) (N:Nat) (most gone:Int) (l:List Rw) (wr:World):Prop:=
 ∃A c,Raw wr g mb mn A c N most (dV l) (gone+1) l (pos l (gone+1)) (pos (l.map (·.1)) (gone+1))∧Kept (foot g mb mn A0) W wr∧Sub A A0
section
variable {α:Type} [DecidableEq α]
theorem ZY (a : α) (l:List α) (g:Int):∃y,pos (a :: l) g a=some y∧(y=g+1↔pos l (g+1) a=none):=by
 cases h:pos l (g+1) a with
 | none=>exact⟨g+1,agX h,by simp⟩
 | some y=>exact⟨y,ZV h,by have:=agY h;simp;omega⟩
theorem ZX {a : α}{l:List α}{g:Int}(h:pos l (g+1) a=none) (r : α):pos l (g+1) r=if r=a then none else pos (a :: l) g r:=by
 by_cases e:r=a
 ·subst e;rw[ax rfl,h]
 ·rw[aj e,ZW _ _ e]
theorem Z4 {a : α}{l:List α}{g:Int}(h:pos l (g+1) a≠none) (r : α):pos l (g+1) r=pos (a :: l) g r:=by
 by_cases e:r=a
 ·subst e
  obtain⟨y,hy⟩:=Option.ne_none_iff_exists'.1 h
  rw[hy,ZV hy]
 ·rw[ZW _ _ e]
end
def Ls (W:World) (g mb mn:Nat) (A0:Option Addr) (N:Nat) (m most Ck:Int) (MQ:List Rw) (e:Ending) (w':World):Prop:=
 e = .returned (.tuple #[])∧∃A' c',FX w' g mb mn A' c' N most (iQ m Ck MQ).1 (iQ m Ck MQ).2∧Kept (foot g mb mn A0) W w'∧Sub A' A0
theorem VK {g mb mn c N:Nat}{A:Option Addr}{most gone:Int}{rows:List Rw}(m:Int) (w:World) (h:FX w g mb mn A c N most gone rows) :
 Calls Tryz.prog 200 #[.pointer (some ⟨g,0,none⟩),.int .i64 m] w (Ls w g mb mn A N m most gone rows):=by
 have H:=af h
 clear h
 go_enter Tryz.func200,Tryz.ntmps200
 go_wp2
 go_loopg [4] rows.length (fun k _ wr=>ab4 w g mb mn A N m most gone rows k wr)
 case atStart=>exact⟨A,c,gone,rows,H.out,Kept.refl _ _,Sub.refl _,rfl,rfl⟩
 case round=>
  obtain⟨A1,c1,ow,kP,⟨eO,hok,hg0,CG,Mm,hsm⟩,ku,hsub,hsh,hk⟩:=hrel
  have HR:=af eO
  have jG:=af hok
  have HK:=af ku
  have HS:=af hsub
  have HSH:=af hsh
  have HE:=af hk
  obtain⟨c0,c1',c2,c3,c4,c5⟩:=eO.cells
  have g_:=eO.free 1
  have hf2:=eO.free 2
  have hf3:=eO.free 3
  have hs0:=KM kP
  clear eO hok ku hsub hsh hk
  cases kP with
  | nil=>
   have jC:∀wx:World,wx=wr→Ls w g mb mn A N m most gone rows (.returned (.tuple #[])) wx:=fun wx hw=>by
    subst hw
    refine⟨rfl,A1,c1,?_,HK.out,HS.out⟩
    rw[HSH.out,aaF]
    exact⟨HR.out,jG.out,hg0,CG,Mm,hsm⟩
   have HF:=af jC
   clear jC
   go_wp2
   all_goals (go_end0;exact HF.out _ rfl)
  | cons r l=>
   by_cases hgo:m<dV (r :: l)
   case neg=>
    have HF:Hid (∀wx:World,wx=wr→Ls w g mb mn A N m most gone rows (.returned (.tuple #[])) wx):=af fun wx hw=>by
     subst hw
     refine⟨rfl,A1,c1,?_,HK.out,HS.out⟩
     rw[HSH.out,G7 (show dV (r :: l)≤m by omega)]
     exact⟨HR.out,jG.out,hg0,CG,Mm,hsm⟩
    go_wp2
    all_goals (go_end0;exact HF.out _ rfl)
   have HSC:=af (I7 r l)
   have fM:=KM l
   have YG:r.1.size+r.2.size+32≤4294967296:=by
    have:=HSC.out
    have hc:cost r=r.1.size+r.2.size+32:=rfl
    rw[hc] at this
    omega
   obtain⟨S,hS⟩:∃S,dV (r :: l)=S:=⟨_,rfl⟩
   rw[hS] at c1' hgo hsm hs0
   have xe:=af hS
   clear hS
   obtain⟨q,o,rfl,hq,r0,r1⟩:=HR.out.at_ (i:=0) (r:=r) rfl
   have hgs:=HR.out.lt g (.inl rfl)
   simp only[Nat.zero_mul,Nat.add_zero] at r0 r1
   simp only[fe] at c2 CG
   go_upto_region 4 with fail
   obtain⟨A2,dA⟩:∃A2,(if c1=1 then some (⟨q,o,none⟩:Addr) else some ⟨q,o+2,none⟩)=A2:=⟨_,rfl⟩
   rw[dA]
   have bY:Hid (F9 (some ⟨q,o,none⟩) c1=A2):=af (by rw[←dA];unfold F9;simp[Addr.add_lit])
   clear dA
   go_cut [46] (fun _ wx=>Ob w g mb mn A N wr.heap.size most ow r l wx)
   case first=>
    have jC:IntKind.i64.wrap (S-(cost r:Int))=dV l:=by
     have:=HSC.out
     rw[xe.out] at this
     rw[IntWalk.i64_in _ ⟨by omega,by omega⟩]
     omega
    have jU:=af jC
    clear jC
    have hmid:Hid (Ob w g mb mn A N wr.heap.size most ow r l (((((wr.setCell ⟨g,2,none⟩ (.slice A2 l.length (c1-1))).setCell ⟨g,3,none⟩ (.int .i64 (ow+1))).setCell ⟨g,1,none⟩ (.int .i64 (IntKind.i64.wrap (S-(cost r:Int))))).alloc (.cells #[.string r.1,.string r.2] 276)).alloc (.cells #[.string r.1,.string r.2] 276)).drew):=by
     refine af ?_
     have hnf:¬foot g mb mn A wr.heap.size:=fun hf=>by
      have h1:=H.out.1.lt _ hf
      have h2:=HK.out.size
      omega
     rw[jU.out]
     refine⟨A2,c1-1,?_,?_,?_,?_,?_,?_,hnf⟩
     ·have:=(((HR.out.tail.ain (ow+1)).aay (dV l)).alloc (.cells #[.string r.1,.string r.2] 276)).alloc (.cells #[.string r.1,.string r.2] 276)
      rw[bY.out] at this
      exact this.keep (fun _ _=>rfl)
     ·exact (((((HK.out.setCell (.inl rfl) _ _).setCell (.inl rfl) _ _).setCell (.inl rfl) _ _).alloc _).alloc _).drew
     ·rw[←bY.out]
      exact Sub.trans (fun a ha=>XV ha) HS.out
     ·exact (World.cell?_alloc_lt _ _ _ (by simp[World.setCell])).trans (World.cell?_alloc_at _ _ _ _ (by simp[World.setCell]))
     ·exact (World.cell?_alloc_lt _ _ _ (by simp[World.setCell])).trans (World.cell?_alloc_at _ _ _ _ (by simp[World.setCell]))
     ·simp[World.setCell];omega
    clear HR
    go_region_law (first
     | (go_simp;go_at_call 215;refine (LQ r _ (by omega) (by omega)).mono ?_;rintro e w2 ⟨rfl,rfl⟩))
    all_goals
     go_wp2_with fail
     go_meet
     exact hmid.out
   case rest=>
    obtain⟨A3,xx,eO,ku,hsub,x0,x1,hxl,o_⟩:=hcut
    obtain⟨d0,d1,d2,d3,d4,d5⟩:=eO.cells
    have Gv:=jG.out r (by simp)
    obtain⟨y,hy,hyn⟩:=ZY r l ow
    have hlk:∀k,(Instr.lookup 202 (.map (some mb)) (.agg #[.string r.1,.string r.2]) false).run Tryz.prog (wc.drewN k) = .ok (.int .i64 y) (wc.drewN k):=fun k=>eO.Zd Gv hy k
    have gQ:(Instr.lookup 202 (.map (some mb)) (.agg #[.string r.1,.string r.2]) false).run Tryz.prog wc = .ok (.int .i64 y) wc:=eO.Zd Gv hy 0
    have HM:=af (And.intro eO (And.intro ku (And.intro hsub (And.intro x0 (And.intro x1 (And.intro hxl o_))))))
    have HY:=af (And.intro hy hyn)
    have wZ:=af Gv
    clear eO ku hsub hy hyn HR HK HS c0 c1' c2 c3 c4 c5 g_ hf2 hf3 r0 r1 o_ Gv
    go_wp2
    go_quiet (fail)
    go_upto_if 59 with fail
    rename_i nq
    obtain⟨wd,hwd⟩:∃wd,wc.drewN nq=wd:=⟨_,rfl⟩
    rw[hwd]
    have HN:Hid (Ob w g mb mn A N wr.heap.size most ow r l wd):=af (by
     rw[←hwd]
     exact⟨A3,xx,HM.out.1.keep (fun _ _=>rfl),HM.out.2.1.drewN _,HM.out.2.2⟩)
    clear x0 x1 d0 d1 d2 d3 d4 d5 HM hlk gQ hwd hxl
    go_cut [60] (fun _ wx=>WT w g mb mn A N wr.heap.size most ow r l wx)
    case first=>
     obtain⟨A4,Cj,eO,ku,hsub,x0,x1,hxl,o_⟩:=HN.out
     obtain⟨d0,d1,d2,d3,d4,d5⟩:=eO.cells
     have lS:=af (And.intro eO (And.intro ku (And.intro hsub (And.intro x0 (And.intro x1 (And.intro hxl o_))))))
     obtain⟨D,ho,hv⟩:=eO.both
     have HD:=af ho
     have HV:=af hv
     clear ho hv eO ku hsub o_
     by_cases hb:y=ow+1
     ·have e59:(y==ow+1)=true:=by simpa using hb
      have HB:=af hb
      clear hb
      go_wp2
      go_still_tail 5,(by kernel_rfl)
      change wpList _ _ _ _ _ wd.drew
      go_wp2_with (at_delete;refine wpList_delete_own _ rfl _ _ 202 276 rfl 3 IJ Tryz.underlying202 _ mb _ D rfl HD.out _ (C9 r) rfl (IV wZ.out) ?_;intro w1 hown1 hturn1)
      go_meet
      obtain⟨eO,ku,hsub,x0,x1,hxl,o_⟩:=lS.out
      have hg:=hturn1.grown
      have hr2:=(eO.keep (w':=wd.drew) (fun _ _=>rfl)).Zy hg hown1 (HV.out.del aao wZ.out) (ah _)
      have hxne:wr.heap.size≠mb:=fun e=>o_ (.inr (.inl e))
      have hcx:∀j,w1.cell? ⟨wr.heap.size,j,none⟩=wd.cell? ⟨wr.heap.size,j,none⟩:=fun j=>World.cell?_of_block (hg.block wr.heap.size hxl (by simpa using hxne))
      exact⟨A4,Cj,hr2.congr (fun r' _=>ZX (HY.out.2.1 HB.out) r') (fun _ _=>rfl),ku.drew.grown hg (fun k hk=>by cases hk;exact .inl (.inr (.inl rfl))),hsub,(hcx 0).trans x0,(hcx 1).trans x1,fI hxl hg.size,o_⟩
     ·have e59:(y==ow+1)=false:=by simpa using hb
      have HB:=af hb
      clear hb
      go_wp2
      go_meet
      obtain⟨eO,xP⟩:=lS.out
      exact⟨A4,Cj,eO.congr (fun r' _=>Z4 (fun e=>HB.out (HY.out.2.2 e)) r') (fun _ _=>rfl),xP⟩
    case rest=>
     obtain⟨A5,c5',eO,ku,hsub,x0,x1,hxl,o_⟩:=hcut
     obtain⟨d0,d1,d2,d3,d4,d5⟩:=eO.cells
     obtain⟨y2,sF,hyn2⟩:=ZY r.1 (l.map (·.1)) ow
     have hlk:∀k,(Instr.lookup 157 (.map (some mn)) (.string r.1) false).run Tryz.prog (wc.drewN k) = .ok (.int .i64 y2) (wc.drewN k):=fun k=>eO.Ze wZ.out.1 sF k
     have gQ:(Instr.lookup 157 (.map (some mn)) (.string r.1) false).run Tryz.prog wc = .ok (.int .i64 y2) wc:=eO.Ze wZ.out.1 sF 0
     have HM:=af (And.intro eO (And.intro ku (And.intro hsub (And.intro x0 (And.intro x1 (And.intro hxl o_))))))
     have HY2:=af (And.intro sF hyn2)
     clear eO ku hsub sF hyn2 HN o_
     go_wp2
     go_quiet (fail)
     go_upto_if 76 with fail
     obtain⟨wd2,P9⟩:∃wd2,wc.drewN nq=wd2:=⟨_,rfl⟩
     rw[P9]
     have HN:Hid (WT w g mb mn A N wr.heap.size most ow r l wd2):=af (by
      rw[←P9]
      exact⟨A5,c5',HM.out.1.keep (fun _ _=>rfl),HM.out.2.1.drewN _,HM.out.2.2⟩)
     clear x0 x1 d0 d1 d2 d3 d4 d5 HM hlk gQ P9 hxl
     obtain⟨A4,Cj,eO,ku,hsub,x0,x1,hxl,o_⟩:=HN.out
     obtain⟨d0,d1,d2,d3,d4,d5⟩:=eO.cells
     have lS:=af (And.intro eO (And.intro ku (And.intro hsub (And.intro x0 (And.intro x1 (And.intro hxl o_))))))
     obtain⟨D,ho,hv⟩:=eO.name
     have HD:=af ho
     have HV:=af hv
     clear ho hv eO ku hsub o_
     by_cases hb:y2=ow+1
     ·have e59:(y2==ow+1)=true:=by simpa using hb
      have HB:=af hb
      clear hb
      go_wp2
      go_still_tail 6,(by kernel_rfl)
      change wpList _ _ _ _ _ wd2.drew
      go_wp2_with (at_delete;refine wpList_delete_own _ rfl _ _ 157 9 rfl 3 IK Tryz.underlying157 _ mn _ D rfl HD.out _ (EK r.1) rfl (I5 wZ.out.1) ?_;intro w1 hown1 hturn1)
      have hend:WS w g mb mn A N most ow l w1:=by
       obtain⟨eO,ku,hsub,x0,x1,hxl,o_⟩:=lS.out
       have hg:=hturn1.grown
       have hr2:=(eO.keep (w':=wd2.drew) (fun _ _=>rfl)).newName hg hown1 (HV.out.del aaP wZ.out.1) (ah _)
       exact⟨A4,Cj,hr2.congr (fun _ _=>rfl) (fun r' _=>ZX (HY2.out.2.1 HB.out) r'),ku.drew.grown hg (fun k hk=>by cases hk;exact .inl (.inr (.inr (.inl rfl)))),hsub⟩
      have HM:=af hend
      clear hend
      go_roundg l.length
      case measure=>have:=HE.out;simp at this;omega
      case rel=>
       obtain⟨A6,c6',PS,Pk,PX⟩:=HM.out
       refine⟨A6,c6',ow+1,l,⟨PS,fun r' hr'=>jG.out r' (fH _ hr'),by omega,by omega,Mm,?_⟩,Pk,PX,?_,rfl⟩
       ·have:=HSC.out;rw[xe.out] at this;omega
       ·rw[HSH.out]
        exact I4 (by show m<dV (r :: l);rw[xe.out];exact hgo)
     ·have e59:(y2==ow+1)=false:=by simpa using hb
      have HB:=af hb
      clear hb
      go_wp2
      have hend:WS w g mb mn A N most ow l wd2:=by
       obtain⟨eO,xP⟩:=lS.out
       exact⟨A4,Cj,eO.congr (fun _ _=>rfl) (fun r' _=>Z4 (fun e=>HB.out (HY2.out.2.2 e)) r'),xP.1,xP.2.1⟩
      have HM:=af hend
      clear hend
      go_roundg l.length
      case measure=>have:=HE.out;simp at this;omega
      case rel=>
       obtain⟨A6,c6',PS,Pk,PX⟩:=HM.out
       refine⟨A6,c6',ow+1,l,⟨PS,fun r' hr'=>jG.out r' (fH _ hr'),by omega,by omega,Mm,?_⟩,Pk,PX,?_,rfl⟩
       ·have:=HSC.out;rw[xe.out] at this;omega
       ·rw[HSH.out]
        exact I4 (by show m<dV (r :: l);rw[xe.out];exact hgo)
end
section
open Go.RowKit Go.Maps
theorem I1 {m:Int}(hm : 0≤m):∀(l:List Rw) (g:Int),dV (iQ m g l).2≤m:=by
 intro l
 induction l with
 | nil=>intro g;rw[aaF];exact hm
 | cons r l ih=>
  intro g
  by_cases h:m<dV (r :: l)
  ·rw[I4 h];exact ih _
  ·rw[G7 (show dV (r :: l)≤m by omega)];show dV (r :: l)≤m;omega
section
variable {w w':World} {g mb mn c N:Nat} {A:Option Addr} {T:Tb} {F:Nat→Prop}
theorem TM.tbl (h:TM w g mb mn A c N T):FX w g mb mn A c N T.most T.gone T.rows:=
 ⟨h.raw,h.ok,h.Ck,h.many,h.few,by have h1:=h.fits;have h2:=h.Br;show (T.size:Int)≤_;omega⟩
theorem TM.of {most gone:Int}{rows:List Rw}(h:FX w g mb mn A c N most gone rows) (h0 : 0≤most) (h1:most≤65536) (hf:dV rows≤most):TM w g mb mn A c N ⟨most,gone,rows⟩:=
 ⟨h.1,h.2.1,h0,h1,h.2.2.1,h.2.2.2.1,h.2.2.2.2.1,hf⟩
theorem TM.keep (h:TM w g mb mn A c N T) (hk:∀k,foot g mb mn A k→w'.heap[k]?=w.heap[k]?):TM w' g mb mn A c N T:=⟨h.raw.keep hk,h.ok,h.CW,h.Br,h.Ck,h.many,h.few,h.fits⟩
theorem TabIs.keep (h:TabIs w g F N T) (hk:∀k,F k→w'.heap[k]?=w.heap[k]?):TabIs w' g F N T:=by
 obtain⟨mb,mn,A,c,rfl,ht⟩:=h
 exact⟨mb,mn,A,c,rfl,ht.keep hk⟩
theorem TabIs.lt (h:TabIs w g F N T):∀k,F k→k<w.heap.size:=by
 obtain⟨mb,mn,A,c,rfl,ht⟩:=h
 exact ht.raw.lt
theorem TabIs.alloc (h:TabIs w g F N T) (o:Obj):TabIs (w.alloc o) g F N T:=h.keep fun k hk=>Below.heap_alloc _ _ _ (h.lt k hk)
theorem TabIs.kept {G:Nat→Prop}(h:TabIs w g F N T) (hk:Kept G w w') (hd:∀k,F k→¬G k):TabIs w' g F N T:=h.keep fun k hf=>hk.block k (h.lt k hf) (hd k hf)
theorem TabIs.inv (h:TabIs w g F N T):(∀r ∈ T.rows,pE r)∧0≤T.most∧T.most≤65536∧0≤T.gone∧T.gone+T.rows.length≤N∧N≤1099511627776∧dV T.rows≤T.most:=by
 obtain⟨mb,mn,A,c,rfl,ht⟩:=h
 exact⟨ht.ok,ht.CW,ht.Br,ht.Ck,ht.many,ht.few,ht.fits⟩
end
def Od (W:World) (g:Nat) (F:Nat→Prop) (N:Nat) (T':Tb) (v:Value) (e:Ending) (w':World):Prop:=
 e = .returned v∧∃F',TabIs w' g F' N T'∧Kept F W w'∧kX W F F'
theorem Y9 {g N:Nat}{F:Nat→Prop}{T:Tb}(w:World) (h:TabIs w g F N T):Calls Tryz.prog 225 #[.pointer (some ⟨g,0,none⟩)] w fun e w'=>e = .returned (.int .i64 (T.rows.length:Int))∧w=w':=by
 obtain⟨mb,mn,A,c,rfl,ht⟩:=h
 obtain⟨-,-,c0,-⟩:=ht.raw.cells
 clear ht
 go_enter Tryz.func225,Tryz.ntmps225
 go_wp2;go_ret;exact⟨rfl,rfl⟩
theorem ahx {g N:Nat}{F:Nat→Prop}{T:Tb}(m:Int) (w:World) (h:TabIs w g F N T) (h0 : 0≤m) (h1:m≤65536) :
 Calls Tryz.prog 187 #[.pointer (some ⟨g,0,none⟩),.int .i64 m] w (Od w g F N (T.resize m) (.int .i64 0)):=by
 obtain⟨mb,mn,A,c,rfl,ht⟩:=h
 have htb:=ht.tbl
 obtain⟨c0,-⟩:=ht.raw.cells
 have hf:=ht.raw.free 0
 have hC:=af (VK m (w.setCell ⟨g,0,none⟩ (.int .i64 m)) (most:=m) (show FX (w.setCell ⟨g,0,none⟩ (.int .i64 m)) g mb mn A c N m T.gone T.rows from ⟨htb.1.aio m,htb.2⟩))
 clear ht htb
 go_enter Tryz.func187,Tryz.ntmps187
 go_wp2_with fail
 refine hC.out.mono ?_
 rintro e w' ⟨rfl,A',c',htb,hk,hs⟩
 have H:=af (And.intro htb (And.intro hk hs))
 clear htb hk hs hC
 go_wp2
 go_ret
 exact⟨rfl,foot g mb mn A',⟨mb,mn,A',c',rfl,TM.of H.out.1 h0 h1 (I1 h0 _ _)⟩,((Kept.refl _ _).setCell (.inl rfl) _ _).same H.out.2.1,fun k hf=>.inl (H.out.2.2.foot hf)⟩
end
section
def iR:List Rw:=[
 (⟨#[58,97,117,116,104,111,114,105,116,121]⟩,⟨#[]⟩),
 (⟨#[58,109,101,116,104,111,100]⟩,⟨#[71,69,84]⟩),
 (⟨#[58,109,101,116,104,111,100]⟩,⟨#[80,79,83,84]⟩),
 (⟨#[58,112,97,116,104]⟩,⟨#[47]⟩),
 (⟨#[58,112,97,116,104]⟩,⟨#[47,105,110,100,101,120,46,104,116,109,108]⟩),
 (⟨#[58,115,99,104,101,109,101]⟩,⟨#[104,116,116,112]⟩),
 (⟨#[58,115,99,104,101,109,101]⟩,⟨#[104,116,116,112,115]⟩),
 (⟨#[58,115,116,97,116,117,115]⟩,⟨#[50,48,48]⟩),
 (⟨#[58,115,116,97,116,117,115]⟩,⟨#[50,48,52]⟩),
 (⟨#[58,115,116,97,116,117,115]⟩,⟨#[50,48,54]⟩),
 (⟨#[58,115,116,97,116,117,115]⟩,⟨#[51,48,52]⟩),
 (⟨#[58,115,116,97,116,117,115]⟩,⟨#[52,48,48]⟩),
 (⟨#[58,115,116,97,116,117,115]⟩,⟨#[52,48,52]⟩),
 (⟨#[58,115,116,97,116,117,115]⟩,⟨#[53,48,48]⟩),
 (⟨#[97,99,99,101,112,116,45,99,104,97,114,115,101,116]⟩,⟨#[]⟩),
 (⟨#[97,99,99,101,112,116,45,101,110,99,111,100,105,110,103]⟩,⟨#[103,122,105,112,44,32,100,101,102,108,97,116,101]⟩),
 (⟨#[97,99,99,101,112,116,45,108,97,110,103,117,97,103,101]⟩,⟨#[]⟩),
 (⟨#[97,99,99,101,112,116,45,114,97,110,103,101,115]⟩,⟨#[]⟩),
 (⟨#[97,99,99,101,112,116]⟩,⟨#[]⟩),
 (⟨#[97,99,99,101,115,115,45,99,111,110,116,114,111,108,45,97,108,108,111,119,45,111,114,105,103,105,110]⟩,⟨#[]⟩),
 (⟨#[97,103,101]⟩,⟨#[]⟩),
 (⟨#[97,108,108,111,119]⟩,⟨#[]⟩),
 (⟨#[97,117,116,104,111,114,105,122,97,116,105,111,110]⟩,⟨#[]⟩),
 (⟨#[99,97,99,104,101,45,99,111,110,116,114,111,108]⟩,⟨#[]⟩),
 (⟨#[99,111,110,116,101,110,116,45,100,105,115,112,111,115,105,116,105,111,110]⟩,⟨#[]⟩),
 (⟨#[99,111,110,116,101,110,116,45,101,110,99,111,100,105,110,103]⟩,⟨#[]⟩),
 (⟨#[99,111,110,116,101,110,116,45,108,97,110,103,117,97,103,101]⟩,⟨#[]⟩),
 (⟨#[99,111,110,116,101,110,116,45,108,101,110,103,116,104]⟩,⟨#[]⟩),
 (⟨#[99,111,110,116,101,110,116,45,108,111,99,97,116,105,111,110]⟩,⟨#[]⟩),
 (⟨#[99,111,110,116,101,110,116,45,114,97,110,103,101]⟩,⟨#[]⟩),
 (⟨#[99,111,110,116,101,110,116,45,116,121,112,101]⟩,⟨#[]⟩),
 (⟨#[99,111,111,107,105,101]⟩,⟨#[]⟩),
 (⟨#[100,97,116,101]⟩,⟨#[]⟩),
 (⟨#[101,116,97,103]⟩,⟨#[]⟩),
 (⟨#[101,120,112,101,99,116]⟩,⟨#[]⟩),
 (⟨#[101,120,112,105,114,101,115]⟩,⟨#[]⟩),
 (⟨#[102,114,111,109]⟩,⟨#[]⟩),
 (⟨#[104,111,115,116]⟩,⟨#[]⟩),
 (⟨#[105,102,45,109,97,116,99,104]⟩,⟨#[]⟩),
 (⟨#[105,102,45,109,111,100,105,102,105,101,100,45,115,105,110,99,101]⟩,⟨#[]⟩),
 (⟨#[105,102,45,110,111,110,101,45,109,97,116,99,104]⟩,⟨#[]⟩),
 (⟨#[105,102,45,114,97,110,103,101]⟩,⟨#[]⟩),
 (⟨#[105,102,45,117,110,109,111,100,105,102,105,101,100,45,115,105,110,99,101]⟩,⟨#[]⟩),
 (⟨#[108,97,115,116,45,109,111,100,105,102,105,101,100]⟩,⟨#[]⟩),
 (⟨#[108,105,110,107]⟩,⟨#[]⟩),
 (⟨#[108,111,99,97,116,105,111,110]⟩,⟨#[]⟩),
 (⟨#[109,97,120,45,102,111,114,119,97,114,100,115]⟩,⟨#[]⟩),
 (⟨#[112,114,111,120,121,45,97,117,116,104,101,110,116,105,99,97,116,101]⟩,⟨#[]⟩),
 (⟨#[112,114,111,120,121,45,97,117,116,104,111,114,105,122,97,116,105,111,110]⟩,⟨#[]⟩),
 (⟨#[114,97,110,103,101]⟩,⟨#[]⟩),
 (⟨#[114,101,102,101,114,101,114]⟩,⟨#[]⟩),
 (⟨#[114,101,102,114,101,115,104]⟩,⟨#[]⟩),
 (⟨#[114,101,116,114,121,45,97,102,116,101,114]⟩,⟨#[]⟩),
 (⟨#[115,101,114,118,101,114]⟩,⟨#[]⟩),
 (⟨#[115,101,116,45,99,111,111,107,105,101]⟩,⟨#[]⟩),
 (⟨#[115,116,114,105,99,116,45,116,114,97,110,115,112,111,114,116,45,115,101,99,117,114,105,116,121]⟩,⟨#[]⟩),
 (⟨#[116,114,97,110,115,102,101,114,45,101,110,99,111,100,105,110,103]⟩,⟨#[]⟩),
 (⟨#[117,115,101,114,45,97,103,101,110,116]⟩,⟨#[]⟩),
 (⟨#[118,97,114,121]⟩,⟨#[]⟩),
 (⟨#[118,105,97]⟩,⟨#[]⟩),
 (⟨#[119,119,119,45,97,117,116,104,101,110,116,105,99,97,116,101]⟩,⟨#[]⟩)]
theorem BC:iR.length=61:=rfl
def cK:ByteArray:=⟨#[]⟩
end
end Go.Proofs.YtpkmciohehaboaaGreatDoor
