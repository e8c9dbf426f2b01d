/- Part 9 of the proof. -/
import Derived.Test.YtpkmciohehaboaaGreatDoorK0
import Derived.Test.YtpkmciohehaboaaGreatDoorK8
set_option maxRecDepth 100000
set_option maxHeartbeats 100000000
set_option linter.unusedVariables false
set_option linter.unusedSimpArgs false
set_option linter.unusedSectionVars false
set_option linter.unnecessarySimpa false
namespace Go.Proofs.YtpkmciohehaboaaGreatDoor
section
open Go.RowKit
theorem adQ (f:UInt8→Bool) (l:List UInt8):((l.dropWhile f).reverse.dropWhile f).reverse=((l.reverse.dropWhile f).reverse).dropWhile f:=by
 induction l with
 | nil=>rfl
 | cons a t ih=>
  cases h:f a with
  | true=>
   rw[List.dropWhile_cons_of_pos h,ih,List.reverse_cons,List.dropWhile_append]
   by_cases he:(t.reverse.dropWhile f).isEmpty=true
   ·have:t.reverse.dropWhile f=[]:=by simpa using he
    rw[this]
    simp[h]
   ·have h2:(t.reverse.dropWhile f).isEmpty=false:=by simpa using he
    simp only[h2,zD,if_false]
    rw[List.reverse_append,List.reverse_singleton,List.singleton_append,List.dropWhile_cons_of_pos h]
  | false=>
   rw[List.dropWhile_cons_of_neg (by simp[h]),List.reverse_cons,List.dropWhile_append]
   have hn:∀t:List UInt8,(t++[a]).dropWhile f≠[]→True:=fun _ _=>trivial
   by_cases he:(t.reverse.dropWhile f).isEmpty=true
   ·have h3:t.reverse.dropWhile f=[]:=by simpa using he
    rw[h3]
    simp[h]
   ·have h2:(t.reverse.dropWhile f).isEmpty=false:=by simpa using he
    simp only[h2,zD,if_false]
    rw[List.reverse_append,List.reverse_singleton,List.singleton_append,List.dropWhile_cons_of_neg (by simp[h])]
theorem KO (l:List UInt8):jl l=((l.dropWhile di).reverse.dropWhile di).reverse:=by
 unfold jl Lib.trimS
 rw[left_eq,aan,adQ]
def W_ (G:List UInt8) (v:Value):Prop:=∃x:ByteArray,v = .string x∧x.data.toList.dropWhile di=G∧x.size≤140737488355328
def Xa (G:List UInt8) (v:Value):Prop:=∃x:ByteArray,v = .string x∧(x.data.toList.reverse.dropWhile di).reverse=G∧x.size≤140737488355328
def Ib (v:Value):Nat:=match v with
 | .string x=>x.size
 | _=>0
theorem ah7 (s:ByteArray) (w:World) (hs:s.size≤140737488355328):Calls Tryz.prog 32 #[.string s] w fun e w'=>e = .returned (.string (aJ (jl s.data.toList)))∧w=w':=by
 have ht:=KO s.data.toList
 obtain⟨G,hG⟩:∃G,s.data.toList.dropWhile di=G:=⟨_,rfl⟩
 rw[hG] at ht
 obtain⟨T,hT⟩:∃T,jl s.data.toList=T:=⟨_,rfl⟩
 rw[hT] at ht ⊢
 have HT:=af ht
 have HG:=af hG
 obtain⟨TT,hTT⟩:∃TT,aJ T=TT:=⟨_,rfl⟩
 rw[hTT]
 have tu:=af hTT
 clear ht hG hT hTT
 go_enter Tryz.func32,Tryz.ntmps32
 go_wp2_with fail
 go_loop [0] (fun v=>W_ G v) (fun v=>Ib v)
 case atStart=>exact⟨s,rfl,HG.out,hs⟩
 case round=>
  obtain⟨x,rfl,hx,hxs⟩:=hrel
  have hlx:=gJ x
  have aQ:=lX x
  have fM:=fun h=>VM x 1 h
  obtain⟨t,htl⟩:∃t,x.data.toList=t:=⟨_,rfl⟩
  rw[htl] at hx hlx aQ fM
  obtain⟨bk,hbk⟩:∃bk,(match t with | []=>false | c :: _=>di c)=bk:=⟨_,rfl⟩
  have HX:=af (And.intro hx (And.intro hlx (And.intro htl hbk)))
  have HS:=af fM
  clear hx hlx htl fM hbk
  go_upto_region 1 with fail
  go_cut [10] (fun y wx=>y = .bool bk∧wx=w)
  case first=>
   cases t with
   | nil=>
    have hb:bk=false:=HX.out.2.2.2.symm
    subst hb
    have hx0:x=⟨#[]⟩:=vG HX.out.2.2.1
    subst hx0
    clear aQ
    go_wp2
    go_meet
    exact⟨rfl,rfl⟩
   | cons c r=>
    have hb:di c=bk:=HX.out.2.2.2
    have hpos : 0<x.size:=by have:=HX.out.2.1;simp at this;omega
    have h0:=aQ 0 hpos
    have hb0:ba (c :: r) 0=c.toNat:=rfl
    rw[hb0] at h0
    have HB:=af (Kz c.toNat w c.toNat_lt)
    rw[←Ic,hb] at HB
    obtain⟨v,hv⟩:∃v,c.toNat=v:=⟨_,rfl⟩
    rw[hv] at HB h0
    clear aQ hb hb0 hv
    go_wp2_with fail
    refine HB.out.mono ?_
    rintro e w1 ⟨rfl,rfl⟩
    go_wp2
    go_meet
    exact⟨rfl,rfl⟩
  case rest=>
  obtain⟨rfl,hwc⟩:=hcut
  subst hwc
  cases bk with
  | true=>
   cases t with
   | nil=>exact absurd HX.out.2.2.2 (by simp)
   | cons c r=>
    have hc:di c=true:=HX.out.2.2.2
    have hpos : 1≤x.size:=by have:=HX.out.2.1;simp at this;omega
    have hs1:=HS.out hpos
    have HN:Hid (W_ G (.string (aJ r))∧Ib (.string (aJ r))<Ib (.string x)):=af ⟨⟨aJ r,rfl,by rw[l9,←HX.out.1,List.dropWhile_cons_of_pos hc],by have:=HX.out.2.1;simp at this;rw[pz];omega⟩,by show (aJ r).size<x.size;rw[pz,←HX.out.2.1];simp⟩
    have hex:aJ r=x.extract 1 x.size:=by
     rw[Ii,HX.out.2.2.1,cB (by rw[HX.out.2.1];exact ah _)]
     rfl
    rw[hex] at HN
    clear aQ hex hc hs1
    go_wp2
    go_round
    case rel=>exact HN.out.1
    case measure=>exact HN.out.2
  | false=>
   have hg:t=G:=by
    rw[←HX.out.1]
    cases t with
    | nil=>rfl
    | cons c r=>
     have hc:di c=false:=HX.out.2.2.2
     rw[List.dropWhile_cons_of_neg (by simp[hc])]
   have Du:Hid (x.data.toList=G):=af (HX.out.2.2.1.trans hg)
   clear aQ HS HX hg
   go_wp2_with fail
   go_loop [0] (fun v=>Xa T v) (fun v=>Ib v)
   case atStart=>exact⟨x,rfl,by rw[Du.out,HT.out],hxs⟩
   case round=>
    clear Du hxs
    obtain⟨z,rfl,hz,hzs⟩:=hrel
    have hlz:=gJ z
    have aQ:=lX z
    have fM:=fun (k:Nat) h=>VN z k h
    obtain⟨t,htl⟩:∃t,z.data.toList=t:=⟨_,rfl⟩
    rw[htl] at hz hlz aQ fM
    obtain⟨bk,hbk⟩:∃bk,(match t.reverse with | []=>false | c :: _=>di c)=bk:=⟨_,rfl⟩
    have HZ:=af (And.intro hz (And.intro hlz (And.intro htl hbk)))
    have HS:=af fM
    clear hz hlz htl fM hbk
    go_upto_region 3 with fail
    go_cut [23] (fun y wx=>y = .bool bk∧wx=wc)
    case first=>
     rcases List.eq_nil_or_concat t with rfl | ⟨r,c,rfl⟩
     ·have hb:bk=false:=HZ.out.2.2.2.symm
      subst hb
      have hx0:z=⟨#[]⟩:=vG HZ.out.2.2.1
      subst hx0
      clear aQ
      go_wp2
      go_meet
      exact⟨rfl,rfl⟩
     ·have hb:di c=bk:=by have:=HZ.out.2.2.2;simpa using this
      have hsz:r.length+1=z.size:=by have:=HZ.out.2.1;simpa using this
      have hpos : 0<z.size:=by omega
      have h0:=aQ (z.size-1) (by omega)
      have hb0:ba (r++[c]) (z.size-1)=c.toNat:=by
       rw[kH (by simp;omega)]
       congr 1
       rw[List.getElem_append_right (by omega)]
       simp
      rw[List.concat_eq_append] at h0
      rw[hb0] at h0
      have HB:=af (Kz c.toNat wc c.toNat_lt)
      rw[←Ic,hb] at HB
      obtain⟨v,hv⟩:∃v,c.toNat=v:=⟨_,rfl⟩
      rw[hv] at HB h0
      have h0':∀(h:z.size-1<z.size),((z[z.size-1]'h).toNat:Int)=(v:Int):=fun _=>h0
      have dS:((z.size:Int)-1).toNat=z.size-1:=by omega
      have hm2:(0:Int)≤(z.size:Int)-1:=by omega
      clear aQ hb hb0 hv
      go_wp2_with fail
      refine HB.out.mono ?_
      rintro e w1 ⟨rfl,rfl⟩
      go_wp2
      go_meet
      exact⟨rfl,rfl⟩
    case rest=>
    rename World=>wd
    obtain⟨rfl,hwd⟩:=hcut
    subst hwd
    cases bk with
    | true=>
     rcases List.eq_nil_or_concat t with rfl | ⟨r,c,rfl⟩
     ·exact absurd HZ.out.2.2.2 (by simp)
     ·have hc:di c=true:=by have:=HZ.out.2.2.2;simpa using this
      have hsz:r.length+1=z.size:=by have:=HZ.out.2.1;simpa using this
      have hs1:=HS.out (z.size-1) (by omega)
      rw[List.concat_eq_append,show z.size-1=r.length by omega,List.take_left] at hs1
      have HN:Hid (Xa T (.string (aJ r))∧Ib (.string (aJ r))<Ib (.string z)):=af ⟨⟨aJ r,rfl,by
       have h1:=HZ.out.1
       rw[List.concat_eq_append,List.reverse_append,List.reverse_singleton,List.singleton_append,List.dropWhile_cons_of_pos hc] at h1
       rw[l9]
       exact h1,by rw[pz];omega⟩,by show (aJ r).size<z.size;rw[pz];omega⟩
      have hex:aJ r=z.extract 0 (z.size-1):=by
       rw[Ii,HZ.out.2.2.1,List.concat_eq_append,show z.size-1=r.length by omega,List.take_left,List.drop_zero]
      rw[hex] at HN
      have dS:((z.size:Int)-1).toNat=z.size-1:=by omega
      have hm2:(0:Int)≤(z.size:Int)-1:=by omega
      clear aQ hex hc hs1
      go_wp2
      go_round
      case rel=>exact HN.out.1
      case measure=>exact HN.out.2
    | false=>
     have hzt:z=TT:=by
      rw[←tu.out,←HZ.out.1]
      rcases List.eq_nil_or_concat t with rfl | ⟨r,c,rfl⟩
      ·exact vG HZ.out.2.2.1
      ·have hc:di c=false:=by have:=HZ.out.2.2.2;simpa using this
       rw[List.concat_eq_append,List.reverse_append,List.reverse_singleton,List.singleton_append,List.dropWhile_cons_of_neg (by simp[hc]),List.reverse_cons,List.reverse_reverse,←List.concat_eq_append,←HZ.out.2.2.1,EA]
     subst hzt
     clear aQ
     go_wp2
     go_ret
     exact⟨rfl,rfl⟩
end
section
open Go.RowKit
theorem afB {l:List UInt8}{k:Nat}(h:k<l.length):aO (l.take (k+1))=aO (l.take k)++[mK (l[k])]:=by
 rw[iw,a_ h,iL]
 unfold aO
 rw[j6]
 rfl
theorem agy (w:World) (e:TypeId) (size:Nat):(w.alloc (.cells #[] e)).ownsRow w.heap.size e size (.slice (some ⟨w.heap.size,0,none⟩) 0 0) 0 []:=
 ⟨by simp,.inr ⟨w.heap.size,0,#[],rfl,ah _,aZ _ _,ah _,aL _,by simp,by simp⟩⟩
def WQ (W:World) (l:List UInt8) (n:Nat) (ov iv:Value) (wr:World):Prop:=∃k:Nat,iv = .int .i64 k∧k≤n∧wr.ownsRow W.heap.size 5 1 ov k (ak (aO (l.take k)))∧Below W.heap.size W wr
theorem EG (s:ByteArray) (w:World) (hs:s.size≤140737488351232):Calls Tryz.prog 33 #[.string s] w fun e w'=>e = .returned (.string (aJ (aO s.data.toList)))∧Below w.heap.size w w':=by
 have aQ:=lX s
 have hlen:=gJ s
 obtain⟨l,hl⟩:∃l,s.data.toList=l:=⟨_,rfl⟩
 rw[hl] at aQ hlen ⊢
 have HL:=af hlen
 obtain⟨R,hR⟩:∃R,aJ (aO l)=R:=⟨_,rfl⟩
 rw[hR]
 have HR:=af hR
 clear hlen hl hR
 go_enter Tryz.func33,Tryz.ntmps33
 go_wp2_with fail
 go_loopw [3,4] (fun ov iv wr=>WQ w l s.size ov iv wr) (fun _ iv _=>s.size-(intOf iv).toNat)
 case atStart=>
  refine⟨0,rfl,aL _,?_,(Below.refl _ _).alloc (ah _) _⟩
  exact agy w 5 1
 case round=>
  obtain⟨k,rfl,hk,hown,hb⟩:=hrel
  have HO:=af (And.intro hown hb)
  have dZ:=hb.size
  clear hown hb
  by_cases hlt:k<s.size
  ·have hkl:k<l.length:=by rw[HL.out];exact hlt
   have k1:(k:Int)<s.size:=by omega
   have hbk:=kH hkl
   have hv:=jg l k
   have h_:=aQ k hlt
   have hlv:=Zj (l[k])
   rw[←hbk] at hlv
   obtain⟨v,hv2⟩:∃v,ba l k=v:=⟨_,rfl⟩
   rw[hv2] at h_ hv hlv
   have Dm:=af hlv
   have gL:Hid (∀(u:Nat) (v':Value) (w':World),u=(mK (l[k])).toNat→w'.ownsRow w.heap.size 5 1 v' (k+1) (ak (aO (l.take k))++[.int .u8 (u:Int)])→Below w.heap.size w w'→WQ w l s.size v' (.int .i64 (k+1:Nat)) w'):=af (fun u v' w' e h1 h2=>by
    refine⟨k+1,rfl,hlt,?_,h2⟩
    rw[afB hkl,mU]
    rw[e] at h1
    exact h1)
   have gY:Hid (∀ob,(wr.alloc ob).ownsRow w.heap.size 5 1 u3 k (ak (aO (l.take k)))):=af (fun ob=>d_ HO.out.1 ((Kept.refl (fun _=>False) wr).alloc ob) (fun _ _ h=>h))
   clear hlv hv2 hbk aQ
   by_cases hc : 65≤v∧v≤90
   ·obtain⟨hc1,hc2⟩:=hc
    have HE:=af (show v+32=(mK (l[k])).toNat by rw[Dm.out,ax ⟨hc1,hc2⟩])
    have c1:(65:Int)≤v:=by omega
    have c2:(v:Int)≤90:=by omega
    go_wp2_with (at_builtin;refine dI ?_)
    unfold Stop
    refine dQ (.tmp 24) (.tmp 26) iT rfl rfl (gY.out _) rfl (Rd.one _ _ _) rfl (by simp[Value.oneCell']) (bn (by omega)) (by omega) (by simp;omega) ?_
    intro v6 w6 dK gu _
    obtain⟨A6,c6,rfl,-,-,-,-⟩:=aC dK
    have HN:=af (gL.out (v+32) _ w6 HE.out dK (Below.app (HO.out.2.alloc dZ _) (gY.out _) gu (ah _) (by simp;omega)))
    clear dK gu gL
    go_wp2
    go_roundw
    case rel=>exact HN.out
    case measure=>simp[intOf];omega
   ·have HE:=af (show v=(mK (l[k])).toNat by rw[Dm.out,aj hc])
    have hcc:(v:Int)<65∨(90:Int)<v:=by omega
    rcases hcc with c1 | c1
    all_goals
     go_wp2_with (at_builtin;refine dI ?_)
     unfold Stop
     refine dQ (.tmp 24) (.tmp 26) iT rfl rfl (gY.out _) rfl (Rd.one _ _ _) rfl (by simp[Value.oneCell']) (bn (by omega)) (by omega) (by simp;omega) ?_
     intro v6 w6 dK gu _
     obtain⟨A6,c6,rfl,-,-,-,-⟩:=aC dK
     have HN:=af (gL.out v _ w6 HE.out dK (Below.app (HO.out.2.alloc dZ _) (gY.out _) gu (ah _) (by simp;omega)))
     clear dK gu gL
     go_wp2
     go_roundw
     case rel=>exact HN.out
     case measure=>simp[intOf];omega
  ·have hkn:k=s.size:=by omega
   subst hkn
   obtain⟨A6,c6,rfl,-,-,dH,-⟩:=aC HO.out.1
   rw[cB (by rw[HL.out];omega)] at dH
   have hst:=sJ Tryz.underlying48 Tryz.underlying5 Tryz.underlying9 dH c6
   have hrr:(⟨(aO l).toArray⟩:ByteArray)=R:=HR.out
   rw[hrr] at hst
   clear hrr dH
   go_wp2
   go_ret
   exact⟨rfl,HO.out.2⟩
def Hl (c:Nat):Nat:=if 48≤c∧c≤57 then c-48 else if 97≤c∧c≤102 then c-87 else if 65≤c∧c≤70 then c-55 else 99
theorem aid (v:Nat) (w:World) (hv:v<256):Calls Tryz.prog 122 #[.int .u8 (v:Int)] w fun e w'=>e = .returned (.int .i64 (Hl v:Nat))∧w=w':=by
 have HD:=af (aag v w hv)
 obtain⟨R,hR⟩:∃R,Hl v=R:=⟨_,rfl⟩
 have hr:=hR
 rw[hR]
 unfold Hl at hr
 have HR:=af hr
 clear hR hr
 go_enter Tryz.func122,Tryz.ntmps122
 go_wp2_with fail
 refine HD.out.mono ?_
 rintro e w1 ⟨rfl,rfl⟩
 have yes:(48≤v∧v≤57)∨(97≤v∧v≤102)∨(65≤v∧v≤70)∨((v<48)∨(57<v∧v<65)∨(70<v∧v<97)∨102<v):=by omega
 rcases yes with h | h | h | h
 ·have hr:R=v-48:=by rw[←HR.out,ax h]
  have hd:decide (48≤v∧v≤57)=true:=bP h
  obtain⟨h1,h2⟩:=h
  have e1:(48:Int)≤v:=by omega
  have e3:=af (show (R:Int)=v-48 by omega)
  rw[hd]
  clear hr hd
  go_wp2
  go_ret
  exact⟨C8 (show Value.int .i64 ((v:Int)-48) = .int .i64 (R:Int) by rw[e3.out]),rfl⟩
 ·have hr:R=v-87:=by rw[←HR.out,aj (by omega),ax h]
  have hd:decide (48≤v∧v≤57)=false:=bU (by omega)
  obtain⟨h1,h2⟩:=h
  have e1:(97:Int)≤v:=by omega
  have e2:(v:Int)≤102:=by omega
  have e3:=af (show (R:Int)=v-87 by omega)
  rw[hd]
  clear hr hd
  go_wp2
  go_ret
  exact⟨C8 (show Value.int .i64 ((v:Int)-87) = .int .i64 (R:Int) by rw[e3.out]),rfl⟩
 ·have hr:R=v-55:=by rw[←HR.out,aj (by omega),aj (by omega),ax h]
  have hd:decide (48≤v∧v≤57)=false:=bU (by omega)
  obtain⟨h1,h2⟩:=h
  have e1:(65:Int)≤v:=by omega
  have e2:(v:Int)≤70:=by omega
  have e3:=af (show (R:Int)=v-55 by omega)
  rw[hd]
  clear hr hd
  go_wp2
  go_ret
  exact⟨C8 (show Value.int .i64 ((v:Int)-55) = .int .i64 (R:Int) by rw[e3.out]),rfl⟩
 ·have hr:R=99:=by rw[←HR.out,aj (by omega),aj (by omega),aj (by omega)]
  have hd:decide (48≤v∧v≤57)=false:=bU (by omega)
  subst hr
  rw[hd]
  clear hd
  rcases h with h | h | h | h
  ·have e1:(v:Int)<48:=by omega
   go_wp2
   go_ret
   exact⟨rfl,rfl⟩
  ·obtain⟨h1,h2⟩:=h
   have e1:(57:Int)<v:=by omega
   have e2:(v:Int)<65:=by omega
   go_wp2
   go_ret
   exact⟨rfl,rfl⟩
  ·obtain⟨h1,h2⟩:=h
   have e1:(70:Int)<v:=by omega
   have e2:(v:Int)<97:=by omega
   go_wp2
   go_ret
   exact⟨rfl,rfl⟩
  ·have e1:(102:Int)<v:=by omega
   go_wp2
   go_ret
   exact⟨rfl,rfl⟩
theorem ajJ {c:Nat}:(Hl c<10↔lu c<10)∧(lu c<10→Hl c=lu c):=by
 unfold Hl lu
 constructor
 ·split
  ·omega
  ·split
   ·omega
   ·split <;> omega
 ·split
  ·intro _;rfl
  ·split
   ·omega
   ·split <;> omega
end
section
open Go.RowKit
theorem adF {l:List UInt8}(j k:Nat) (h:j≤k):mD (l.take j)≤mD (l.take k):=by
 have:=X0 (l.take k) j
 rwa [List.take_take,Nat.min_eq_left h] at this
def N9 (l:List UInt8) (n:Nat) (mv iv:Value):Prop:=∃k m:Nat,iv = .int .i64 k∧mv = .int .i64 m∧k≤n∧(l.take k).all tV=true∧m≤10995116277770∧((m≤1099511627776∧m=mD (l.take k))∨(1099511627776<m∧1099511627776<mD (l.take k)))
theorem ahP (s:ByteArray) (w:World) (hs:s.size≤140737488355328):Calls Tryz.prog 84 #[.string s,.int .i64 10] w fun e w'=>e = .returned (.tuple #[.int .i64 (gD s.data.toList).1,.int .i64 (gD s.data.toList).2])∧w=w':=by
 have aQ:=lX s
 have hlen:=gJ s
 obtain⟨l,hl⟩:∃l,s.data.toList=l:=⟨_,rfl⟩
 rw[hl] at aQ hlen ⊢
 obtain⟨V,hV⟩:∃V,(gD l).1=V:=⟨_,rfl⟩
 obtain⟨E,hE⟩:∃E,(gD l).2=E:=⟨_,rfl⟩
 rw[hV,hE]
 have HR:Hid (gD l=(V,E)):=af (by rw[←hV,←hE])
 have HL:=af hlen
 clear hV hE hlen hl
 go_enter Tryz.func84,Tryz.ntmps84
 go_wp2_with fail
 go_loop [6,7] (fun mv iv=>N9 l s.size mv iv) (fun _ iv=>s.size-(intOf iv).toNat)
 case atStart=>exact⟨0,0,rfl,rfl,aL _,rfl,by omega,.inl ⟨by omega,rfl⟩⟩
 case round=>
  obtain⟨k,m,rfl,rfl,hk,hall,hm13,ic⟩:=hrel
  have dM:=af (And.intro hall ic)
  clear hall ic
  by_cases hlt:k<s.size
  ·have hkl:k<l.length:=by rw[HL.out];exact hlt
   have k1:(k:Int)<s.size:=by omega
   have hb:=kH hkl
   have hv:=jg l k
   have h_:=aQ k hlt
   obtain⟨v,hv2⟩:∃v,ba l k=v:=⟨_,rfl⟩
   rw[hv2] at h_ hv hb
   have HT:=af (aid v w hv)
   have hdb:tV (l[k])=decide (lu v<10):=by rw[hb];exact OA
   have hwd:=ajJ (c:=v)
   have kM:=X3 hkl
   rw[←hb] at kM
   have hst:=adF (l:=l) k (k+1) (by omega)
   obtain⟨d,hd⟩:∃d,Hl v=d:=⟨_,rfl⟩
   rw[hd] at HT hwd
   have HH:=af (And.intro hdb (And.intro hwd (And.intro kM hst)))
   clear hv2 hb hdb hwd kM hst hd aQ
   go_wp2_with fail
   refine HT.out.mono ?_
   rintro e w1 ⟨rfl,rfl⟩
   by_cases h10:d<10
   ·have Ip:lu v<10:=HH.out.2.1.1.1 h10
    have hdd:d=lu v:=HH.out.2.1.2 Ip
    have kK:(l.take (k+1)).all tV=true:=v_ dM.out.1 hkl (HH.out.1.trans (bP Ip))
    have hs2:=HH.out.2.2.1
    rw[←hdd] at hs2
    have h11:(d:Int)<10:=by omega
    by_cases hsm:m≤1099511627776
    ·have iG:m=mD (l.take k):=by rcases dM.out.2 with h | h <;> omega
     have HN:Hid (N9 l s.size (.int .i64 (m*10+d:Nat)) (.int .i64 (k+1:Nat))):=af (by
      refine⟨k+1,m*10+d,rfl,rfl,hlt,kK,by omega,?_⟩
      rw[hs2,←iG]
      by_cases hb2:m*10+d≤1099511627776
      ·exact .inl ⟨hb2,rfl⟩
      ·exact .inr ⟨by omega,by omega⟩)
     have hsm2:(m:Int)≤1099511627776:=by omega
     clear hdd hs2 kK iG
     go_wp2
     go_round
     case rel=>exact HN.out
     case measure=>simp[intOf];omega
    ·have HN:Hid (N9 l s.size (.int .i64 m) (.int .i64 (k+1:Nat))):=af (by
      refine⟨k+1,m,rfl,rfl,hlt,kK,by omega,.inr ⟨by omega,?_⟩⟩
      have:=HH.out.2.2.2
      rcases dM.out.2 with h | h <;> omega)
     have hsm2:(1099511627776:Int)<m:=by omega
     clear hdd hs2 kK
     go_wp2
     go_round
     case rel=>exact HN.out
     case measure=>simp[intOf];omega
   ·have h1:(V,E)=(0,10):=by
     rw[←HR.out]
     unfold gD
     have hne:l≠[]:=fun e=>by rw[e] at hkl;simp at hkl
     rw[aj hne,ax (xu hkl (HH.out.1.trans (bU (fun h=>h10 (HH.out.2.1.1.2 h)))))]
    injection h1 with h1 h2
    subst h1 h2
    have h11:(10:Int)≤d:=by omega
    go_wp2
    go_ret2
    exact⟨rfl,rfl⟩
  ·have hkn:k=s.size:=by omega
   have hall:l.all tV=true:=by
    have h1:=dM.out.1
    rwa [cB (by rw[HL.out];omega)] at h1
   have ic:=dM.out.2
   rw[cB (by rw[HL.out];omega)] at ic
   have hr:=HR.out
   unfold gD at hr
   rw[hall] at hr
   subst hkn
   by_cases he:l=[]
   ·have h1:(V,E)=(0,10):=by rw[←hr,ax he]
    injection h1 with h1 h2
    subst h1 h2
    have hz:s.size=0:=by rw[←HL.out,he];rfl
    have e0:((s.size:Int)==0)=true:=by rw[beq_iff_eq];omega
    clear hz he hr ic hall
    go_wp2
    go_ret2
    exact⟨rfl,rfl⟩
   ·rw[aj he,aj (by simp)] at hr
    have hpos : 0<l.length:=List.length_pos_iff.2 he
    have e0:((s.size:Int)==0)=false:=by rw[fO];have:=HL.out;omega
    by_cases jK : 1099511627776<m
    ·have h1:(V,E)=(0,11):=by rw[←hr,ax (by rcases ic with h | h <;> omega)]
     injection h1 with h1 h2
     subst h1 h2
     have hb2:(1099511627776:Int)<m:=by omega
     clear he hr ic hall hpos
     go_wp2
     go_ret2
     exact⟨rfl,rfl⟩
    ·have h1:(V,E)=(m,0):=by
      have iG:m=mD l:=by rcases ic with h | h <;> omega
      rw[←hr,aj (by omega),iG]
     injection h1 with h1 h2
     subst h1 h2
     clear he hr ic hall hpos
     go_wp2
     go_ret2
     exact⟨rfl,rfl⟩
theorem aho (s:ByteArray) (w:World) (hs:s.size≤140737488355328):Calls Tryz.prog 43 #[.string s] w fun e w'=>e = .returned (.tuple #[.int .i64 (gD s.data.toList).1,.int .i64 (gD s.data.toList).2])∧w=w':=by
 have HT:=af (ahP s w hs)
 obtain⟨V,hV⟩:∃V,(gD s.data.toList).1=V:=⟨_,rfl⟩
 obtain⟨E,hE⟩:∃E,(gD s.data.toList).2=E:=⟨_,rfl⟩
 rw[hV,hE] at HT ⊢
 clear hV hE
 go_enter Tryz.func43,Tryz.ntmps43
 go_wp2_with fail
 refine HT.out.mono ?_
 rintro e w1 ⟨rfl,rfl⟩
 go_wp2
 go_ret2
 exact⟨rfl,rfl⟩
end
section
open Go.RowKit
def jH (n:Nat):List UInt8:=if n<10 then [UInt8.ofNat (48+n)] else jH (n / 10)++[UInt8.ofNat (48+n%10)]
termination_by n
decreasing_by omega
theorem Oz {n:Nat}(h:n<10):jH n=[UInt8.ofNat (48+n)]:=by rw[jH,ax h]
theorem Oy {n:Nat}(h:¬n<10):jH n=jH (n / 10)++[UInt8.ofNat (48+n%10)]:=by rw[jH,aj h]
def O7:List UInt8:=[48,49,50,51,52,53,54,55,56,57,97,98,99,100,101,102]
theorem aeM:∀d:Nat,d<10→ba O7 d=48+d:=by decide
theorem aie (g b:Nat) (hb:b<64):∀w,(Instr.sliceAt 199 (.pointer (some ⟨g,0,none⟩)) (some (.int .i64 (b:Int))) none none).run Tryz.prog w = .ok (.slice (some ⟨g,b,none⟩) (64-b) (64-b)) w:=by
 intro w
 have hl:Tryz.prog.arrayLen 199=64:=by kernel_rfl
 have hs:∀w,(sizeOf (Tryz.prog.elem 199)).run Tryz.prog w = .ok 1 w:=fun _=>by kernel_rfl
 rw[run_sliceAt_array_l (P:=Tryz.prog) (w:=w) 199 ⟨g,0,none⟩ (by kernel_rfl) .i64 (b:Int) (by omega) (by rw[hl];omega),hs,hl]
 rw[Cb,Result.andThen_ok]
 unfold slicedAt
 rw[aj (by omega),Nat.mul_one,Addr.add_lit,mh]
def Wj (w:World) (N g:Nat) (nv av:Value) (wr:World):Prop:=∃(a n:Nat) (qo:List UInt8) (cur:Array Value),nv = .int .i64 n∧av = .int .i64 a∧a+qo.length=64∧n*10^qo.length≤N∧(0<n∨qo=[])∧cur.size=64∧(∀i,i<64→∃z:Int,cur[i]?=some (.int .u8 z))∧cur.toList.drop a=ak qo∧jH N=jH n++qo∧wr.heap[g]?=some (.cells cur 199 (0,0))∧Below w.heap.size w wr
theorem adP (N:Nat) (w:World) (hN:N≤1000000):Calls Tryz.prog 75 #[.int .i64 (N:Int),.int .i64 10] w fun e w'=>e = .returned (.string (aJ (jH N)))∧Below w.heap.size w w':=by
 have Pg:=lX (⟨#[48,49,50,51,52,53,54,55,56,57,97,98,99,100,101,102]⟩:ByteArray)
 have A_:(⟨#[48,49,50,51,52,53,54,55,56,57,97,98,99,100,101,102]⟩:ByteArray).data.toList=O7:=rfl
 rw[A_] at Pg
 obtain⟨R,hR⟩:∃R,aJ (jH N)=R:=⟨_,rfl⟩
 rw[hR]
 have HR:=af hR
 obtain⟨g,hg⟩:∃g,w.heap.size=g:=⟨_,rfl⟩
 have HG:=af hg
 clear hR A_ hg
 go_enter Tryz.func75,Tryz.ntmps75
 go_wp2_with fail
 rw[HG.out]
 go_loopw [0,6] (fun nv av wr=>Wj w N g nv av wr) (fun nv _ _=>(intOf nv).toNat)
 case atStart=>
  refine⟨64,N,[],Array.replicate 64 (.int .u8 0),rfl,rfl,rfl,by simp,.inr rfl,by simp,fun i hi=>⟨0,by simp[hi]⟩,by simp[ak],by simp,?_,(Below.refl _ _).alloc (ah _) _⟩
  rw[←HG.out]
  exact aZ _ _
 case round=>
  obtain⟨a,n,qo,cur,rfl,rfl,ha,Pw,hn0,hcs,hci,hdr,hdec,hblk,hbel⟩:=hrel
  have hl6:qo.length≤6:=by
   rcases hn0 with h | h
   ·have h1 : 10^qo.length≤N:=gM (by have:=Cf (10^qo.length) h;omega) Pw
    rcases vW 6 qo.length with h2 | h2
    ·have h3 : 10^7≤10^qo.length:=Nat.pow_le_pow_right (by omega) h2
     omega
    ·exact h2
   ·rw[h];simp
  have hnN:n≤N:=gM (Nat.le_mul_of_pos_right n (Nat.pow_pos (by omega))) Pw
  obtain⟨b,rfl⟩:∃b,a=b+1:=⟨a-1,by omega⟩
  obtain⟨z,hz⟩:=hci b (by omega)
  have zc:wr.cell? ⟨g,b,none⟩=some (.int .u8 z):=by unfold World.cell?;rw[hblk];exact hz
  have hfz:=yN hblk
  obtain⟨d,hd⟩:∃d,n%10=d:=⟨_,rfl⟩
  obtain⟨q,hq⟩:∃q,n / 10=q:=⟨_,rfl⟩
  have Ip:d<10:=by omega
  have hdi:(n:Int)%10=(d:Int):=by omega
  have hqi:(n:Int) / 10=(q:Int):=by omega
  have hhx:=aeM d Ip
  have h_:=Pg d (by show d<16;omega)
  obtain⟨v,hv⟩:∃v,ba O7 d=v:=⟨_,rfl⟩
  rw[hv] at h_ hhx
  have hgk':∀h,(((⟨#[48,49,50,51,52,53,54,55,56,57,97,98,99,100,101,102]⟩:ByteArray)[d]'h).toNat:Int)=(v:Int):=fun _=>h_
  have HN:Hid (∀W',W'=wr.setCell ⟨g,b,none⟩ (.int .u8 (v:Int))→jH n=(if n<10 then [] else jH q)++[UInt8.ofNat v]∧(∀i,i<64→∃z:Int,(cur.setIfInBounds b (.int .u8 (v:Int)))[i]?=some (.int .u8 z))∧(cur.setIfInBounds b (.int .u8 (v:Int))).toList.drop b=ak (UInt8.ofNat v :: qo)∧W'.heap[g]?=some (.cells (cur.setIfInBounds b (.int .u8 (v:Int))) 199 (0,0))∧Below w.heap.size w W'):=af (fun W' AJ=>by
   subst AJ
   refine⟨?_,fun i hi=>?_,?_,oH _ hblk,hbel.setCell (by rw[HG.out];exact ah _) _⟩
   ·by_cases h10:n<10
    ·rw[Oz h10,ax h10,hhx,←hd,Nat.mod_eq_of_lt h10];rfl
    ·rw[Oy h10,aj h10,hq,hhx,←hd]
   ·by_cases hib:i=b
    ·subst hib
     exact⟨v,by rw[Array.getElem?_setIfInBounds_self_of_lt (by omega)]⟩
    ·obtain⟨z2,hz2⟩:=hci i hi
     exact⟨z2,by rw[Array.getElem?_setIfInBounds_ne (by omega)];exact hz2⟩
   ·rw[Array.toList_setIfInBounds,List.drop_set,aj (by omega),zV]
    have hc:cur.toList.drop b=(.int .u8 z) :: cur.toList.drop (b+1):=by
     have hbl:b<cur.toList.length:=by rw[nV];omega
     rw[List.drop_eq_getElem_cons hbl]
     congr 1
     have h1:cur[b]?=some (cur.toList[b]):=by rw[←Array.getElem?_toList,a_ hbl]
     rw[hz] at h1
     injection h1 with h1
     exact h1.symm
    rw[hc,ay,hdr]
    show _=bv (UInt8.ofNat v) :: ak qo
    congr 1
    unfold bv
    rw[UInt8.toNat_ofNat',Nat.mod_eq_of_lt (by omega)])
  have HA:=af (And.intro hcs (And.intro hdec (And.intro hd (And.intro hq (And.intro ha hhx)))))
  have hv2:v<256:=by omega
  clear Pg hhx h_ hv hblk hbel hdr hci hdec hcs hz hn0 hd hq
  by_cases h10:n<10
  ·have Eg:q=0:=by have:=HA.out.2.2.2.1;omega
   subst Eg
   obtain⟨W',AJ⟩:∃W',wr.setCell ⟨g,b,none⟩ (.int .u8 (v:Int))=W':=⟨_,rfl⟩
   obtain⟨h1,h2,h3,h4,h5⟩:=HN.out W' AJ.symm
   have hrd:Rd W' W'.heap.size 1 (some ⟨g,b,none⟩) (64-b) (ak (jH N)):=by
    have e:jH N=UInt8.ofNat v :: qo:=by rw[HA.out.2.1,h1,ax h10];rfl
    have iF:(ak (UInt8.ofNat v :: qo)).length=64-b:=by rw[tO,fe];omega
    rw[e]
    refine⟨by rw[iF];omega,fun _=>⟨g,b,rfl,(Array.getElem?_eq_some_iff.1 h4).1,fun j hj=>?_⟩⟩
    rw[←h3,List.getElem?_drop,Array.getElem?_toList]
    unfold World.cell?
    rw[h4]
    rfl
   have hst:=sJ Tryz.underlying48 Tryz.underlying5 Tryz.underlying9 hrd (64-b)
   have hrr:(⟨(jH N).toArray⟩:ByteArray)=R:=HR.out
   rw[hrr] at hst
   rw[←AJ] at hst
   have eG:Hid (Below w.heap.size w (wr.setCell ⟨g,b,none⟩ (.int .u8 (v:Int)))):=af (by rw[AJ];exact h5)
   have CQ:=aie g b (by omega)
   clear h1 h2 h3 h4 h5 hrd hrr AJ HN
   go_wp2
   go_ret
   exact⟨rfl,eG.out⟩
  ·have fK:((q:Int)==0)=false:=by rw[fO];have:=HA.out.2.2.2.1;omega
   have HE:Hid (Wj w N g (.int .i64 q) (.int .i64 b) (wr.setCell ⟨g,b,none⟩ (.int .u8 (v:Int)))):=af (by
    obtain⟨h1,h2,h3,h4,h5⟩:=HN.out _ rfl
    have hqn:=HA.out.2.2.2.1
    refine⟨b,q,UInt8.ofNat v :: qo,_,rfl,rfl,by rw[fe];omega,?_,.inl (by omega),by rw[Array.size_setIfInBounds];exact HA.out.1,h2,h3,?_,h4,h5⟩
    ·rw[fe,qH,Nat.mul_comm (10^qo.length) 10,←Nat.mul_assoc]
     exact gM (Cf _ (by omega)) Pw
    ·rw[HA.out.2.1,h1,aj h10,jf]
     rfl)
   have HM:Hid (q<n):=af (by have:=HA.out.2.2.2.1;omega)
   clear HN
   go_wp2
   go_roundw
   case rel=>exact HE.out
   case measure=>have:=HM.out;simp[intOf];omega
theorem aga (N:Nat) (w:World) (hN:N≤1000000):Calls Tryz.prog 35 #[.int .i64 (N:Int)] w fun e w'=>e = .returned (.string (aJ (jH N)))∧Below w.heap.size w w':=by
 have HT:=af (adP N w hN)
 obtain⟨R,hR⟩:∃R,aJ (jH N)=R:=⟨_,rfl⟩
 rw[hR] at HT ⊢
 clear hR
 go_enter Tryz.func35,Tryz.ntmps35
 go_wp2_with fail
 refine HT.out.mono ?_
 rintro e w1 ⟨rfl,hb⟩
 have HB:=af hb
 clear hb
 go_wp2
 go_ret
 exact⟨rfl,HB.out⟩
end
section
open Go.RowKit
theorem Xn {f n:Nat}(hf:f+127<256) (rest:List UInt8):ba (eP f 127 n++rest) 0=f+min n 127:=by
 unfold eP
 by_cases h:n<127
 ·rw[ax h,Nat.min_eq_left (by omega)]
  simp only[ba,oM,List.getD_cons_zero,toNat_ofNat (show f+n<256 by omega)]
 ·rw[aj h,Nat.min_eq_right (by omega)]
  simp only[ba,oM,List.getD_cons_zero,toNat_ofNat (show f+127<256 by omega)]
section
variable {f:Nat} {body rest:List UInt8} (hf:f=0∨f=128) (hb:body.length≤4096)
include hf hb
theorem aa1:bB 127 (eP f 127 body.length++body++rest)=(body.length,(eP f 127 body.length).length,0):=by
 rw[jf]
 exact M8 ⟨by omega,by omega⟩ (by omega) (by omega) (by omega) _
end
theorem ZQ (p body rest:List UInt8):((p++body++rest).drop p.length).take body.length=body:=by
 rw[jf,List.drop_left,List.take_left]
theorem acH {l:List UInt8}(h:l.length≤4096) (rest:List UInt8):lQ (kW l++rest)=(l,(kW l).length,0):=by
 by_cases hb:lI l<l.length
 ·rw[VX hb]
  have hE:=LU l
  rw[←hE] at hb ⊢
  have ht:=aa1 (f:=128) (body:=xA l) (rest:=rest) (.inr rfl) (by omega)
  rw[VT ht rfl (by omega) (by simp) (by rw[jf,Xn (by omega)];omega),ZQ,adH]
  simp only
  rw[aj (by omega),aN]
 ·rw[VY (by omega)]
  have ht:=aa1 (f:=0) (body:=l) (rest:=rest) (.inl rfl) h
  rw[VU ht rfl h (by simp) (by rw[jf,Xn (by omega)];omega),ZQ,aN]
end
section
open Go.RowKit
def told (f:Fd):Fd:=(f.1,vz f)
theorem LD {f F n:Nat}(hf:f+F<256) (rest:List UInt8):ba (eP f F n++rest) 0=f+min n F:=by
 unfold eP
 by_cases h:n<F
 ·rw[ax h,Nat.min_eq_left (by omega)]
  simp only[ba,oM,List.getD_cons_zero,toNat_ofNat (show f+n<256 by omega)]
 ·rw[aj h,Nat.min_eq_right (by omega)]
  simp only[ba,oM,List.getD_cons_zero,toNat_ofNat (show f+F<256 by omega)]
theorem aiL (s:ByteArray):(⟨s.data.toList.toArray⟩:ByteArray)=s:=by cases s;simp
theorem VS {s:ByteArray}(h:s.size≤4096) (rest:List UInt8):wV (kW s.data.toList++rest) = .ok (s,rest):=by
 have hl:s.data.toList.length≤4096:=by
  have:s.data.toList.length=s.size:=by simp
  omega
 unfold wV
 rw[acH hl rest]
 simp only[ne_eq,Kt,if_false,List.drop_left,aiL]
theorem afs {T:Tb}(f:Rw) (h1:f.1.size≤4096) (h2:f.2.size≤4096) (rest:List UInt8) :
 wL T (ji T f) ((if ji T f=0 then kW f.1.data.toList else [])++kW f.2.data.toList++rest) = .ok (f,rest):=by
 unfold wL takeN ji yM
 rcases Yi T.rows f with ⟨h0,-⟩ | ⟨g,hg1,hat,hg,-⟩
 ·rw[h0]
  simp only[Int.toNat_zero,if_true,Ce,if_false,jf]
  rw[VS h1]
  simp only
  rw[VS h2]
 ·generalize (qa (iR++T.rows.reverse) f).1=z at hg1 hat ⊢
  have hk:z.toNat≠0:=by omega
  have hz:(z.toNat:Int)=z:=by omega
  simp only[hk,if_false,Nat.pos_of_ne_zero hk,if_true,hz,hat,jQ]
  rw[VS h2,hg]
theorem agK {mo:Int}{T:Tb}{f:Fd}(hT:j_ T) (h1:f.1.1.size≤4096) (h2:f.1.2.size≤4096) (rest:List UInt8) (fs:List Fd) (c ch:Nat) :
 jD mo ⟨T,(jy T f).1++rest,fs,c,ch⟩ = .ok ⟨(jy T f).2,rest,fs++[told f],c+cost f.1,ch⟩:=by
 have hn:=(af_ hT f.1).1
 have Pn:∀(fl F:Nat),fl%(F+1)=0→fl+F<256→1≤F→kU (fl+min (ji T f.1) F)=F→fl+F<128 →
  ∃k,bB (kU (ba (wO fl F T f.1++rest) 0)) (wO fl F T f.1++rest)=(ji T f.1,k,0)∧ba (wO fl F T f.1++rest) 0=fl+min (ji T f.1) F ∧
   wL T (ji T f.1) ((wO fl F T f.1++rest).drop k) = .ok (f.1,rest):=by
  intro fl F hfl hs hF hp _
  have e:wO fl F T f.1++rest=eP fl F (ji T f.1)++((if ji T f.1=0 then kW f.1.1.data.toList else [])++kW f.1.2.data.toList++rest):=by
   unfold wO;simp only[jf]
  refine⟨(eP fl F (ji T f.1)).length,?_,?_,?_⟩
  ·rw[e,LD hs,hp]
   exact M8 ⟨hF,by omega⟩ hfl hs (by omega) _
  ·rw[e,LD hs]
  ·rw[e,List.drop_left]
   exact afs f.1 h1 h2 rest
 unfold jy jD Ae told
 by_cases c1:vz f=true
 ·rw[ax c1,c1]
  simp only
  obtain⟨k,e1,e2,e3⟩:=Pn 16 15 (by omega) (by omega) (by omega) (by unfold kU;rw[aj (by omega),aj (by omega),aj (by omega)]) (by omega)
  rw[e1,e2]
  simp only[ne_eq,Kt,if_false]
  rw[aj (by omega),aj (by omega),aj (by omega),e3]
  simp only[eZ.put]
  rw[bP (show 16≤16+min (ji T f.1) 15 by omega)]
 ·have c1':vz f=false:=by simpa using c1
  rw[aj c1,c1']
  by_cases c2:(yM T f.1).2=true
  ·rw[ax c2]
   simp only
   have hat:mQ T.rows (ji T f.1)=some f.1:=by
    unfold ji
    unfold yM at c2 ⊢
    rcases Yi T.rows f.1 with ⟨-,h0⟩ | ⟨g,hg1,hat,hg,hd⟩
    ·rw[h0] at c2;cases c2
    ·rw[Int.toNat_of_nonneg (by omega),hat]
     rw[c2] at hd
     have:=of_decide_eq_true hd
     obtain⟨a,b⟩:=g
     simp only at hg this
     rw[hg,this]
   have e1:bB 127 (eP 128 127 (ji T f.1)++rest)=(ji T f.1,(eP 128 127 (ji T f.1)).length,0):=M8 ⟨by omega,by omega⟩ (by omega) (by omega) (by omega) _
   rw[LD (by omega),show kU (128+min (ji T f.1) 127)=127 by unfold kU;rw[ax (by omega)],e1]
   simp only[ne_eq,Kt,if_false]
   rw[ax (by omega),hat,List.drop_left]
   rfl
  ·rw[aj c2]
   by_cases c3:T.most<(cost f.1:Int)
   ·rw[ax c3]
    simp only
    obtain⟨k,e1,e2,e3⟩:=Pn 0 15 (by omega) (by omega) (by omega) (by unfold kU;rw[aj (by omega),aj (by omega),aj (by omega)]) (by omega)
    rw[e1,e2]
    simp only[ne_eq,Kt,if_false]
    rw[aj (by omega),aj (by omega),aj (by omega),e3]
    simp only[eZ.put]
    rw[bU (show ¬16≤0+min (ji T f.1) 15 by omega)]
   ·rw[aj c3]
    simp only
    obtain⟨k,e1,e2,e3⟩:=Pn 64 63 (by omega) (by omega) (by omega) (by unfold kU;rw[aj (by omega),ax (by omega)]) (by omega)
    rw[e1,e2]
    simp only[ne_eq,Kt,if_false]
    rw[aj (by omega),ax (by omega),e3]
    rfl
theorem ad3 (T:Tb) (f:Fd) : 1≤(jy T f).1.length:=by
 unfold jy wO
 repeat' split
 all_goals simp only[aN]
 all_goals have h1:=(vD 16 15 (ji T f.1)).2;have h2:=(vD 128 127 (ji T f.1)).2;have h3:=(vD 0 15 (ji T f.1)).2;have h4:=(vD 64 63 (ji T f.1)).2;omega
def jZ (l:List Fd):Nat:=(l.map fun f=>cost f.1).sum
theorem Za {mo:Int}(hmo:mo≤65536):∀(l:List Fd) (L:Nat) (T:Tb) (fs:List Fd) (c ch:Nat),jr L ⟨T,(eH T l).1,fs,c,ch⟩→(∀f ∈ l,f.1.1.size≤4096∧f.1.2.size≤4096) →
 lq mo (eH T l).1.length ⟨T,(eH T l).1,fs,c,ch⟩ = .ok ⟨(eH T l).2,[],fs++l.map told,c+jZ l,ch⟩∧jr L ⟨(eH T l).2,[],fs++l.map told,c+jZ l,ch⟩
 | [],L,T,fs,c,ch,hok,_=>by
  refine⟨?_,?_⟩
  ·simp[eH,lq,jZ]
  ·simpa [eH,jZ] using hok
 | f :: l,L,T,fs,c,ch,hok,hf=>by
  have hb:=hf f (by simp)
  have hp:jD mo ⟨T,(eH T (f :: l)).1,fs,c,ch⟩ = .ok ⟨(jy T f).2,(eH (jy T f).2 l).1,fs++[told f],c+cost f.1,ch⟩:=by
   show jD mo ⟨T,(jy T f).1++(eH (jy T f).2 l).1,fs,c,ch⟩=_
   exact agK hok.tok hb.1 hb.2 _ _ _ _
  have h0 : 0<(eH T (f :: l)).1.length:=by
   show 0<((jy T f).1++(eH (jy T f).2 l).1).length
   have:=ad3 T f
   rw[aN];omega
  have hs:=Jv hmo hok h0 hp
  obtain⟨hok',-⟩:=hok.part hmo hp
  obtain⟨ih,ih2⟩:=Za hmo l L _ _ _ _ hok' fun g hg=>hf g (by simp[hg])
  have e1:(fs++[told f])++l.map told=fs++(f :: l).map told:=by simp
  have e2:c+cost f.1+jZ l=c+jZ (f :: l):=by simp[jZ];omega
  rw[e1,e2] at ih ih2
  exact⟨hs.trans ih,ih2⟩
theorem VL {mo:Int}{T:Tb}{n:Nat}(hn:(n:Int)≤mo) (hmo:mo≤65536) (rest:List UInt8) (c ch:Nat) (hc:ch<2) :
 jD mo ⟨T,eP 32 31 n++rest,[],c,ch⟩ = .ok ⟨T.resize n,rest,[],c,ch+1⟩:=by
 unfold jD Ae
 have e1:bB 31 (eP 32 31 n++rest)=(n,(eP 32 31 n).length,0):=M8 ⟨by omega,by omega⟩ (by omega) (by omega) (by omega) _
 rw[LD (by omega),show kU (32+min n 31)=31 by unfold kU;rw[aj (by omega),aj (by omega),ax (by omega)],e1]
 simp only[ne_eq,Kt,if_false]
 rw[aj (by omega),aj (by omega),ax (by omega),aj (by simp;omega),List.drop_left]
structure FU (E:vJ) (T:Tb):Prop where
 tok:j_ T
 etok:j_ E.T
 tol:T.most=E.told
 l0 : 0≤E.least
 l1:E.least≤E.T.most
 same:(E.T.gone,E.T.rows)=iQ E.least T.gone T.rows
theorem aaG {a b:Int}:∀(l:List Rw) (g:Int),iQ a (iQ b g l).1 (iQ b g l).2=iQ (min a b) g l
 | [],g=>rfl
 | r :: l,g=>by
  by_cases h:b<((((r :: l).map cost).sum:Nat):Int)
  ·rw[I4 h,aaG l (g+1),I4 (m:=min a b) (by omega)]
  ·rw[G7 (m:=b) (by omega)]
   simp only
   by_cases h2:a<((((r :: l).map cost).sum:Nat):Int)
   ·rw[Int.min_eq_left (by omega)]
   ·rw[G7 (m:=a) (by omega),G7 (m:=min a b) (by omega)]
theorem FU.new {own mo:Int}(h0 : 0≤own) (h1:own≤65536) (hmo : 4096≤mo):FU (vJ.mk own 4096 (min own 4096) ⟨min own 4096,0,[]⟩) ⟨min mo 4096,0,[]⟩:=by
 refine⟨⟨by simp only;omega,by simp only;omega,by simp only;show dV []≤_;simp[dV];omega,fun r hr=>by cases hr⟩,⟨by simp only;omega,by simp only;omega,by simp only;show dV []≤_;simp[dV];omega,fun r hr=>by cases hr⟩,by simp only;omega,by simp only;omega,by simp only;omega,rfl⟩
theorem Tb.ext' {T U:Tb}(h1:T.most=U.most) (h2:(T.gone,T.rows)=(U.gone,U.rows)):T=U:=by
 cases T;cases U
 simp at h1 h2
 simp[h1,h2]
theorem j_.still {T:Tb}(h:j_ T){m:Int}(hm:T.most≤m):iQ m T.gone T.rows=(T.gone,T.rows):=G7 (by have:=h.fits;unfold dV at this;omega)
theorem aiy {mo:Int}{E:vJ}{T:Tb}(h:FU E T) (hm:E.T.most≤mo) (hmo:mo≤65536) (rest:List UInt8) :
 ∃ch,ch≤2∧(∀L,jr L ⟨T,Gb E++rest,[],0,0⟩→jr L ⟨E.T,rest,[],0,ch⟩∧lq mo (Gb E++rest).length ⟨T,Gb E++rest,[],0,0⟩=lq mo rest.length ⟨E.T,rest,[],0,ch⟩):=by
 have hs:=h.same
 have e1:E.T.gone=(iQ E.least T.gone T.rows).1:=congrArg Prod.fst hs
 have e2:E.T.rows=(iQ E.least T.gone T.rows).2:=congrArg Prod.snd hs
 have hl0:=h.l0
 have iE:=h.l1
 have htol:=h.tol
 have iP:∀n,0<(eP 32 31 n).length:=fun n=>(vD 32 31 n).2
 unfold Gb
 by_cases c1:E.least<E.told∧E.least<E.T.most
 ·rw[ax c1]
  refine⟨2,by omega,fun L hok=>?_⟩
  simp only[jf] at hok ⊢
  have a1:jD mo ⟨T,eP 32 31 E.least.toNat++(eP 32 31 E.T.most.toNat++rest),[],0,0⟩ = .ok ⟨T.resize E.least.toNat,eP 32 31 E.T.most.toNat++rest,[],0,1⟩:=VL (by omega) hmo _ 0 0 (by omega)
  have a2:jD mo ⟨T.resize E.least.toNat,eP 32 31 E.T.most.toNat++rest,[],0,1⟩ = .ok ⟨(T.resize E.least.toNat).resize E.T.most.toNat,rest,[],0,2⟩:=VL (by omega) hmo _ 0 1 (by omega)
  have eT:(T.resize E.least.toNat).resize E.T.most.toNat=E.T:=by
   refine Tb.ext' ?_ ?_
   ·show (E.T.most.toNat:Int)=E.T.most;omega
   ·show ((iQ (E.T.most.toNat:Int) (iQ (E.least.toNat:Int) T.gone T.rows).1 (iQ (E.least.toNat:Int) T.gone T.rows).2).1,(iQ (E.T.most.toNat:Int) (iQ (E.least.toNat:Int) T.gone T.rows).1 (iQ (E.least.toNat:Int) T.gone T.rows).2).2)=_
    rw[aaG,Int.toNat_of_nonneg (by omega),Int.toNat_of_nonneg (by omega),Int.min_eq_right (by omega),hs]
  rw[eT] at a2
  have s1:=Jv hmo hok (by rw[aN];have:=iP E.least.toNat;omega) a1
  obtain⟨Mx,-⟩:=hok.part hmo a1
  have s2:=Jv hmo Mx (by rw[aN];have:=iP E.T.most.toNat;omega) a2
  obtain⟨Iy,-⟩:=Mx.part hmo a2
  exact⟨Iy,s1.trans s2⟩
 ·rw[aj c1]
  by_cases c2:E.T.most≠E.told
  ·rw[ax c2]
   refine⟨1,by omega,fun L hok=>?_⟩
   have a1:jD mo ⟨T,eP 32 31 E.T.most.toNat++rest,[],0,0⟩ = .ok ⟨T.resize E.T.most.toNat,rest,[],0,1⟩:=VL (by omega) hmo _ 0 0 (by omega)
   have eT:T.resize E.T.most.toNat=E.T:=by
    refine Tb.ext' ?_ ?_
    ·show (E.T.most.toNat:Int)=E.T.most;omega
    ·show ((iQ (E.T.most.toNat:Int) T.gone T.rows).1,(iQ (E.T.most.toNat:Int) T.gone T.rows).2)=_
     rw[Int.toNat_of_nonneg (by omega)]
     by_cases c3:E.least<E.told
     ·rw[show E.T.most=E.least by omega,hs]
     ·rw[h.tok.still (by omega),hs,h.tok.still (by omega)]
   rw[eT] at a1
   have s1:=Jv hmo hok (by rw[aN];have:=iP E.T.most.toNat;omega) a1
   obtain⟨Mx,-⟩:=hok.part hmo a1
   exact⟨Mx,s1⟩
  ·rw[aj c2]
   refine⟨0,by omega,fun L hok=>?_⟩
   have eT:T=E.T:=by
    refine Tb.ext' (by omega) ?_
    rw[hs,h.tok.still (by omega)]
   rw[jQ,←eT]
   rw[jQ] at hok
   exact⟨hok,rfl⟩
theorem acV {mo li:Int}{E:vJ}{T:Tb}(h:FU E T) (hm:E.T.most≤mo) (hmo:mo≤65536){l:List Fd}(hf:∀f ∈ l,f.1.1.size≤4096∧f.1.2.size≤4096) :
 sH mo li T (E.run l).1=(if li<(jZ l:Int) then ([],51,some (E.run l).2.T) else (l.map told,0,some (E.run l).2.T))∧FU (E.run l).2 (E.run l).2.T:=by
 have hok:=jr.start h.tok (E.run l).1
 obtain⟨ch,-,hsz⟩:=aiy (mo:=mo) h hm hmo (eH E.T l).1
 obtain⟨Iy,hd⟩:=hsz _ hok
 obtain⟨hl,Bd⟩:=Za hmo l _ _ _ _ _ Iy hf
 have hd2:lq mo (E.run l).1.length ⟨T,(E.run l).1,[],0,0⟩ = .ok ⟨(eH E.T l).2,[],l.map told,jZ l,ch⟩:=by
  have:=hd.trans hl
  rw[jQ,mh] at this
  exact this
 refine⟨?_,?_⟩
 ·split
  ·rename_i hc;exact ZG hd2 hc
  ·rename_i hc;exact ZH hd2 hc
 ·have htk:j_ (eH E.T l).2:=Bd.tok
  have Ec:=adZ E.T l
  have h0:=h.etok.CW
  refine⟨htk,htk,Ec,h0,by show E.T.most≤(eH E.T l).2.most;rw[Ec];exact Int.le_refl _,?_⟩
  show ((eH E.T l).2.gone,(eH E.T l).2.rows)=iQ E.T.most (eH E.T l).2.gone (eH E.T l).2.rows
  exact (htk.still (by have:(eH E.T l).2.most=E.T.most:=Ec;omega)).symm
end
section
open Go.RowKit
def wm:Nat→List Fd→Nat
 | n,[]=>n
 | n,f :: l=>wm (if n<1073741824 then n+cost f.1 else n) l
def xw (l:List Fd):Nat:=wm 0 l
theorem ac1 (l:List Fd) (f:Fd):∀n,wm n (l++[f])=if wm n l<1073741824 then wm n l+cost f.1 else wm n l:=by
 induction l with
 | nil=>intro n;rfl
 | cons g l ih=>intro n;exact ih _
theorem acZ (l:List Fd):∀n,n≤wm n l:=by
 induction l with
 | nil=>intro n;exact ah _
 | cons g l ih=>intro n;show n≤wm _ l;have:=ih (if n<1073741824 then n+cost g.1 else n);split at this <;> simp only[*,if_true,if_false] <;> omega
theorem ac2 (l:List Fd):∀n,wm n l<1073741824→wm n l=n+jZ l:=by
 induction l with
 | nil=>intro n _;rfl
 | cons g l ih=>
  intro n h
  have h':wm (if n<1073741824 then n+cost g.1 else n) l<1073741824:=h
  have hg:=acZ l (if n<1073741824 then n+cost g.1 else n)
  have e:=ih _ h'
  show wm (if n<1073741824 then n+cost g.1 else n) l=n+((g :: l).map fun f=>cost f.1).sum
  rw[e]
  by_cases hn:n<1073741824
  ·rw[ax hn];simp only[lV,List.sum_cons,jZ];omega
  ·rw[aj hn] at hg h';omega
theorem ac5 {l:List Fd}(h:xw l<1073741824):xw l=jZ l:=by have:=ac2 l 0 h;unfold xw;omega
theorem ac0 (l:List Fd) (hz:∀f ∈ l,f.1.1.size≤140737488351232∧f.1.2.size≤140737488351232):∀n,n≤281476050452000→wm n l≤281476050452000:=by
 induction l with
 | nil=>intro n h;exact h
 | cons g l ih=>
  intro n h
  have hg:=hz g (by simp)
  refine ih (fun f hf=>hz f (by simp[hf])) _ ?_
  have:cost g.1=g.1.1.size+g.1.2.size+32:=rfl
  split <;> omega
theorem ac4 {l:List Fd}(hz:∀f ∈ l,f.1.1.size≤140737488351232∧f.1.2.size≤140737488351232):xw l≤281476050452000:=ac0 l hz 0 (by omega)
def BRel (w:World) (n:Nat) (l:List Fd) (sv jv:Value) (wr:World):Prop:=∃k d:Nat,jv = .int .i64 k∧sv = .int .i64 (xw (l.take k):Nat)∧k≤n∧wr=w.drewN d
theorem ac6 {A:Option Addr}{B n c:Nat}{l:List Fd}(w:World) (hr:Rd w B 3 A n (fds l)) (hn:n≤140737488351232) (hz:∀f ∈ l,f.1.1.size≤140737488351232∧f.1.2.size≤140737488351232) :
 Calls Tryz.prog 6 #[.slice A n c] w fun e w'=>e = .returned (.int .i64 (xw l:Nat))∧∃d,w'=w.drewN d:=by
 have H1:=af hr
 have HZ:=af hz
 clear hr hz
 go_enter Tryz.func6,Tryz.ntmps6
 go_wp2
 go_loopw [3,4] (fun sv jv wr=>BRel w n l sv jv wr) (fun _ jv _=>n-(intOf jv).toNat)
 case atStart=>exact⟨0,0,rfl,rfl,aL _,rfl⟩
 case round=>
  obtain⟨k,d,rfl,rfl,hk,rfl⟩:=hrel
  obtain⟨v,hv⟩:∃v,xw (l.take k)=v:=⟨_,rfl⟩
  have hvle:(v:Int)≤281476050452000:=by
   have:v≤281476050452000:=by { rw[←hv];exact ac4 fun f hf=>HZ.out f (List.mem_of_mem_take hf) }
   omega
  have HV:=af hv
  rw[hv]
  clear hv
  by_cases hlt:k<n
  ·obtain⟨hl,b,o,rfl,hb,hc⟩:=mE H1.out (by omega)
   obtain⟨f,hf⟩:∃f,l[k]?=some f:=⟨_,a_ (by omega)⟩
   obtain⟨q0,q1,q2⟩:=hc k f hf
   have z0:∀d,(w.drewN d).cell? ⟨b,o+k*3,none⟩=some (.string f.1.1):=fun _=>q0
   have z1:∀d,(w.drewN d).cell? ⟨b,o+k*3+1,none⟩=some (.string f.1.2):=fun _=>q1
   obtain⟨s1,s2⟩:=HZ.out f (fq hf)
   have n1:(k:Int)<n:=by omega
   have HS:Hid (xw (l.take (k+1))=if v<1073741824 then v+cost f.1 else v):=af (by rw[iw,hf,iL];unfold xw at HV ⊢;rw[ac1,HV.out])
   clear hc hf hl
   obtain⟨a,ha⟩:∃a,f.1.1.size=a:=⟨_,rfl⟩
   obtain⟨a',ha'⟩:∃a',f.1.2.size=a':=⟨_,rfl⟩
   have HC:Hid (cost f.1=a+a'+32):=af (by rw[←ha,←ha'];rfl)
   by_cases hv30:(v:Int)<1073741824
   ·go_wp2
    go_quiet (fail)
    go_wp2
    go_roundw
    case rel=>exact⟨k+1,_,by go_num,by rw[HS.out,ax (by omega),HC.out];congr 1;omega,by omega,rfl⟩
    case measure=>simp[intOf];omega
   ·go_wp2
    go_roundw
    case rel=>exact⟨k+1,_,by go_num,by rw[HS.out,aj (by omega)],by omega,rfl⟩
    case measure=>simp[intOf];omega
  ·obtain rfl:k=n:=by omega
   have hl:=H1.out.1
   rw[jJ] at hl
   have HT:Hid (l.take k=l):=af (cB (by omega))
   clear hl
   go_wp2
   go_ret
   exact⟨by rw[←HV.out,HT.out];rfl,_,rfl⟩
def Da (l:List Fd):Bool:=l.all fun f=>decide (f.1.1.size≤4096) && decide (f.1.2.size≤4096)
theorem aaE {l:List Fd}(h:Da l=true):∀f ∈ l,f.1.1.size≤4096∧f.1.2.size≤4096:=by
 intro f hf
 have:=List.all_eq_true.1 h f hf
 simpa using this
end
end Go.Proofs.YtpkmciohehaboaaGreatDoor
