/- Part 4 of the proof. -/
import Derived.Test.YtpkmciohehaboaaGreatDoorK0
import Derived.Great.BuildSlice
import Derived.Great.Ranges
import Derived.Test.YtpkmciohehaboaaGreatDoorK2
import Derived.Laws.IdiomStrings
set_option maxRecDepth 100000
set_option maxHeartbeats 100000000
set_option linter.unusedVariables false
set_option linter.unusedSimpArgs false
set_option linter.unusedSectionVars false
set_option linter.unnecessarySimpa false
namespace Go.Proofs.YtpkmciohehaboaaGreatDoor
section
open Go.RowKit
def Oe (F:Nat) (l:List UInt8) (m:Nat) (x i:Value):Prop:=
 ∃k s:Nat,i = .int .i64 k∧x = .int .i64 s∧k≤m∧s≤254+128^k∧bB F l=kD (5-k) (k+1) s (128^k) (l.drop (k+1))
theorem u8_and127' (l:List UInt8) (k:Nat):Go.bits .and .u8 (ba l k:Int) 127=((ba l k%128:Nat):Int):=u8_and127 _
theorem rF {a b c:Int}{r:Nat×Nat×Nat}{x y z:Nat}(h:r=(x,y,z)) (h1:a=x) (h2:b=y) (h3:c=z):Ending.returned (.tuple #[.int .i64 a,.int .i64 b,.int .i64 c]) = .returned (EO r):=by
 subst h h1 h2 h3;rfl
theorem vB {k:IntKind}{a b:Int}(h:a=b):Value.int k a = .int k b:=by rw[h]
theorem ai6 (b o n cap bits F:Nat) (l:List UInt8) (w:World) (hF:Full bits F) (hl : 1<n) (hl5:n<6) (hcap:n≤cap) (FZ:cap≤maxLen) (hn:n=l.length) (hc:∀j,j<n→w.cell? ⟨b,o+j,none⟩=some (.int .u8 (ba l j:Int))) :
 Calls Tryz.prog 217 #[.slice (some ⟨b,o,none⟩) n cap,.int .i64 bits] w fun e w'=>e = .returned (EO (bB F l))∧w=w':=by
 have h1:=hF.lo
 have h8:=hF.hi
 have hF':=hF.le
 have e1:=hF.MV
 have e5:decide ((bits:Int)<1)=false:=by simp;omega
 have e6:decide (8<(bits:Int))=false:=by simp;omega
 have hc0:w.cell? ⟨b,o,none⟩=some (.int .u8 (ba l 0:Int)):=hc 0 (by omega)
 have hb0:=jg l 0
 have e2:=hF.Lx hb0
 obtain⟨r,hr⟩:∃r,r=ba l 0%(F+1):=⟨_,rfl⟩
 rw[←hr] at e2
 have hrF:r≤F:=by rw[hr];have:=Nat.mod_lt (ba l 0) (show 0<F+1 by omega);omega
 have HR:=af hr
 have HN:=af hn
 have HC:=af hc
 clear hr hn hc
 unfold maxLen at FZ
 go_enter Tryz.func217,Tryz.ntmps217
 by_cases hsm:r<F
 ·go_wp2
  go_ret3
  exact⟨by rw[M9 (by have:=HN.out;omega) HR.out hsm];rfl,rfl⟩
 ·go_wp2
  clear e1 e2 e5 e6
  go_loop [8,39] (Oe F l (n-1)) (fun _ i=>6-(intOf i).toNat)
  case atStart=>exact⟨0,r,rfl,rfl,by omega,by omega,KN (by have:=HN.out;omega) HR.out hsm⟩
  case round=>
   obtain⟨k,s,rfl,rfl,hk,hs,ht⟩:=hrel
   have HT:=af ht
   clear ht
   by_cases hlt:k<n-1
   ·have qU:k=0∨k=1∨k=2∨k=3:=by omega
    rcases qU with rfl | rfl | rfl | rfl
    ·have hcell:w.cell? ⟨b,o+1,none⟩=some (.int .u8 (ba l 1:Int)):=HC.out 1 (by omega)
     have hb1:=jg l 1
     have e7:=u8_and127' l 1
     obtain⟨m,hm⟩:∃m,m=ba l 1%128:=⟨_,rfl⟩
     have hst:=vH (T:=1) 1 128 2 HT.out (by omega) rfl rfl rfl (by have:=HN.out;omega) hm
     rw[←hm] at e7
     have wG:m<128:=by omega
     have HM:=af hm
     have HST:=af hst
     clear hm hst
     by_cases hlo:ba l 1<128
     ·have jK:s+1*m≤2147483647:=by omega
      ·go_wp2
       go_ret3
       exact⟨rF (HST.out.2.1 hlo (by omega)) (by omega) (by omega) rfl,rfl⟩
     ·go_wp2
      go_round
      case rel=>exact⟨1,s+1*m,rfl,vB (by omega),by omega,by omega,HST.out.2.2 (by omega)⟩
      case measure=>simp[intOf]
    ·have hcell:w.cell? ⟨b,o+2,none⟩=some (.int .u8 (ba l 2:Int)):=HC.out 2 (by omega)
     have hb1:=jg l 2
     have e7:=u8_and127' l 2
     obtain⟨m,hm⟩:∃m,m=ba l 2%128:=⟨_,rfl⟩
     have hst:=vH (T:=128) 2 16384 3 HT.out (by omega) rfl rfl rfl (by have:=HN.out;omega) hm
     rw[←hm] at e7
     have wG:m<128:=by omega
     have HM:=af hm
     have HST:=af hst
     clear hm hst
     by_cases hlo:ba l 2<128
     ·have jK:s+128*m≤2147483647:=by omega
      ·go_wp2
       go_ret3
       exact⟨rF (HST.out.2.1 hlo (by omega)) (by omega) (by omega) rfl,rfl⟩
     ·go_wp2
      go_round
      case rel=>exact⟨2,s+128*m,rfl,vB (by omega),by omega,by omega,HST.out.2.2 (by omega)⟩
      case measure=>simp[intOf]
    ·have hcell:w.cell? ⟨b,o+3,none⟩=some (.int .u8 (ba l 3:Int)):=HC.out 3 (by omega)
     have hb1:=jg l 3
     have e7:=u8_and127' l 3
     obtain⟨m,hm⟩:∃m,m=ba l 3%128:=⟨_,rfl⟩
     have hst:=vH (T:=16384) 3 2097152 4 HT.out (by omega) rfl rfl rfl (by have:=HN.out;omega) hm
     rw[←hm] at e7
     have wG:m<128:=by omega
     have HM:=af hm
     have HST:=af hst
     clear hm hst
     by_cases hlo:ba l 3<128
     ·have jK:s+16384*m≤2147483647:=by omega
      ·go_wp2
       go_ret3
       exact⟨rF (HST.out.2.1 hlo (by omega)) (by omega) (by omega) rfl,rfl⟩
     ·go_wp2
      go_round
      case rel=>exact⟨3,s+16384*m,rfl,vB (by omega),by omega,by omega,HST.out.2.2 (by omega)⟩
      case measure=>simp[intOf]
    ·have hcell:w.cell? ⟨b,o+4,none⟩=some (.int .u8 (ba l 4:Int)):=HC.out 4 (by omega)
     have hb1:=jg l 4
     have e7:=u8_and127' l 4
     obtain⟨m,hm⟩:∃m,m=ba l 4%128:=⟨_,rfl⟩
     have hst:=vH (T:=2097152) 4 268435456 5 HT.out (by omega) rfl rfl rfl (by have:=HN.out;omega) hm
     rw[←hm] at e7
     have wG:m<128:=by omega
     have HM:=af hm
     have HST:=af hst
     clear hm hst
     by_cases hlo:ba l 4<128
     ·have jK:s+2097152*m≤2147483647:=by omega
      ·go_wp2
       go_ret3
       exact⟨rF (HST.out.2.1 hlo (by omega)) (by omega) (by omega) rfl,rfl⟩
     ·go_wp2
      go_round
      case rel=>exact⟨4,s+2097152*m,rfl,vB (by omega),by omega,by omega,HST.out.2.2 (by omega)⟩
      case measure=>simp[intOf]
   ·go_wp2
    go_ret3
    exact⟨by rw[VW HT.out (by omega) (by have:=HN.out;omega)];rfl,rfl⟩
theorem ai5 (b o n cap bits F:Nat) (l:List UInt8) (w:World) (hF:Full bits F) (hl : 6<n) (hcap:n≤cap) (FZ:cap≤maxLen) (hn:n=l.length) (hc:∀j,j<n→w.cell? ⟨b,o+j,none⟩=some (.int .u8 (ba l j:Int))) :
 Calls Tryz.prog 217 #[.slice (some ⟨b,o,none⟩) n cap,.int .i64 bits] w fun e w'=>e = .returned (EO (bB F l))∧w=w':=by
 have h1:=hF.lo
 have h8:=hF.hi
 have hF':=hF.le
 have e1:=hF.MV
 have e5:decide ((bits:Int)<1)=false:=by simp;omega
 have e6:decide (8<(bits:Int))=false:=by simp;omega
 have hc0:w.cell? ⟨b,o,none⟩=some (.int .u8 (ba l 0:Int)):=hc 0 (by omega)
 have hb0:=jg l 0
 have e2:=hF.Lx hb0
 obtain⟨r,hr⟩:∃r,r=ba l 0%(F+1):=⟨_,rfl⟩
 rw[←hr] at e2
 have hrF:r≤F:=by rw[hr];have:=Nat.mod_lt (ba l 0) (show 0<F+1 by omega);omega
 have HR:=af hr
 have HN:=af hn
 have HC:=af hc
 clear hr hn hc
 unfold maxLen at FZ
 go_enter Tryz.func217,Tryz.ntmps217
 by_cases hsm:r<F
 ·go_wp2
  go_ret3
  exact⟨by rw[M9 (by have:=HN.out;omega) HR.out hsm];rfl,rfl⟩
 ·go_wp2
  clear e1 e2 e5 e6
  go_loop [8,39] (Oe F l (5)) (fun _ i=>6-(intOf i).toNat)
  case atStart=>exact⟨0,r,rfl,rfl,by omega,by omega,KN (by have:=HN.out;omega) HR.out hsm⟩
  case round=>
   obtain⟨k,s,rfl,rfl,hk,hs,ht⟩:=hrel
   have HT:=af ht
   clear ht
   by_cases hlt:k<5
   ·have qU:k=0∨k=1∨k=2∨k=3∨k=4:=by omega
    rcases qU with rfl | rfl | rfl | rfl | rfl
    ·have hcell:w.cell? ⟨b,o+1,none⟩=some (.int .u8 (ba l 1:Int)):=HC.out 1 (by omega)
     have hb1:=jg l 1
     have e7:=u8_and127' l 1
     obtain⟨m,hm⟩:∃m,m=ba l 1%128:=⟨_,rfl⟩
     have hst:=vH (T:=1) 1 128 2 HT.out (by omega) rfl rfl rfl (by have:=HN.out;omega) hm
     rw[←hm] at e7
     have wG:m<128:=by omega
     have HM:=af hm
     have HST:=af hst
     clear hm hst
     by_cases hlo:ba l 1<128
     ·have jK:s+1*m≤2147483647:=by omega
      ·go_wp2
       go_ret3
       exact⟨rF (HST.out.2.1 hlo (by omega)) (by omega) (by omega) rfl,rfl⟩
     ·go_wp2
      go_round
      case rel=>exact⟨1,s+1*m,rfl,vB (by omega),by omega,by omega,HST.out.2.2 (by omega)⟩
      case measure=>simp[intOf]
    ·have hcell:w.cell? ⟨b,o+2,none⟩=some (.int .u8 (ba l 2:Int)):=HC.out 2 (by omega)
     have hb1:=jg l 2
     have e7:=u8_and127' l 2
     obtain⟨m,hm⟩:∃m,m=ba l 2%128:=⟨_,rfl⟩
     have hst:=vH (T:=128) 2 16384 3 HT.out (by omega) rfl rfl rfl (by have:=HN.out;omega) hm
     rw[←hm] at e7
     have wG:m<128:=by omega
     have HM:=af hm
     have HST:=af hst
     clear hm hst
     by_cases hlo:ba l 2<128
     ·have jK:s+128*m≤2147483647:=by omega
      ·go_wp2
       go_ret3
       exact⟨rF (HST.out.2.1 hlo (by omega)) (by omega) (by omega) rfl,rfl⟩
     ·go_wp2
      go_round
      case rel=>exact⟨2,s+128*m,rfl,vB (by omega),by omega,by omega,HST.out.2.2 (by omega)⟩
      case measure=>simp[intOf]
    ·have hcell:w.cell? ⟨b,o+3,none⟩=some (.int .u8 (ba l 3:Int)):=HC.out 3 (by omega)
     have hb1:=jg l 3
     have e7:=u8_and127' l 3
     obtain⟨m,hm⟩:∃m,m=ba l 3%128:=⟨_,rfl⟩
     have hst:=vH (T:=16384) 3 2097152 4 HT.out (by omega) rfl rfl rfl (by have:=HN.out;omega) hm
     rw[←hm] at e7
     have wG:m<128:=by omega
     have HM:=af hm
     have HST:=af hst
     clear hm hst
     by_cases hlo:ba l 3<128
     ·have jK:s+16384*m≤2147483647:=by omega
      ·go_wp2
       go_ret3
       exact⟨rF (HST.out.2.1 hlo (by omega)) (by omega) (by omega) rfl,rfl⟩
     ·go_wp2
      go_round
      case rel=>exact⟨3,s+16384*m,rfl,vB (by omega),by omega,by omega,HST.out.2.2 (by omega)⟩
      case measure=>simp[intOf]
    ·have hcell:w.cell? ⟨b,o+4,none⟩=some (.int .u8 (ba l 4:Int)):=HC.out 4 (by omega)
     have hb1:=jg l 4
     have e7:=u8_and127' l 4
     obtain⟨m,hm⟩:∃m,m=ba l 4%128:=⟨_,rfl⟩
     have hst:=vH (T:=2097152) 4 268435456 5 HT.out (by omega) rfl rfl rfl (by have:=HN.out;omega) hm
     rw[←hm] at e7
     have wG:m<128:=by omega
     have HM:=af hm
     have HST:=af hst
     clear hm hst
     by_cases hlo:ba l 4<128
     ·have jK:s+2097152*m≤2147483647:=by omega
      ·go_wp2
       go_ret3
       exact⟨rF (HST.out.2.1 hlo (by omega)) (by omega) (by omega) rfl,rfl⟩
     ·go_wp2
      go_round
      case rel=>exact⟨4,s+2097152*m,rfl,vB (by omega),by omega,by omega,HST.out.2.2 (by omega)⟩
      case measure=>simp[intOf]
    ·have hcell:w.cell? ⟨b,o+5,none⟩=some (.int .u8 (ba l 5:Int)):=HC.out 5 (by omega)
     have hb1:=jg l 5
     have e7:=u8_and127' l 5
     obtain⟨m,hm⟩:∃m,m=ba l 5%128:=⟨_,rfl⟩
     have hst:=vH (T:=268435456) 5 34359738368 6 HT.out (by omega) rfl rfl rfl (by have:=HN.out;omega) hm
     rw[←hm] at e7
     have wG:m<128:=by omega
     have HM:=af hm
     have HST:=af hst
     clear hm hst
     by_cases hlo:ba l 5<128
     ·by_cases jK : 2147483647<s+268435456*m
      ·go_wp2
       go_ret3
       exact⟨rF (HST.out.1 hlo (by omega)) rfl rfl rfl,rfl⟩
      ·go_wp2
       go_ret3
       exact⟨rF (HST.out.2.1 hlo (by omega)) (by omega) (by omega) rfl,rfl⟩
     ·go_wp2
      go_round
      case rel=>exact⟨5,s+268435456*m,rfl,vB (by omega),by omega,by omega,HST.out.2.2 (by omega)⟩
      case measure=>simp[intOf]
   ·go_wp2
    go_ret3
    obtain rfl:k=5:=by omega
    exact⟨by rw[aa6 HT.out];rfl,rfl⟩
theorem ai4 (b o cap bits F:Nat) (l:List UInt8) (w:World) (hF:Full bits F) (hcap : 6≤cap) (FZ:cap≤maxLen) (hn : 6=l.length) (hc:∀j,j<6→w.cell? ⟨b,o+j,none⟩=some (.int .u8 (ba l j:Int))) :
 Calls Tryz.prog 217 #[.slice (some ⟨b,o,none⟩) 6 cap,.int .i64 bits] w fun e w'=>e = .returned (EO (bB F l))∧w=w':=by
 have h1:=hF.lo
 have h8:=hF.hi
 have hF':=hF.le
 have e1:=hF.MV
 have e5:decide ((bits:Int)<1)=false:=by simp;omega
 have e6:decide (8<(bits:Int))=false:=by simp;omega
 have hc0:w.cell? ⟨b,o,none⟩=some (.int .u8 (ba l 0:Int)):=hc 0 (by omega)
 have hb0:=jg l 0
 have e2:=hF.Lx hb0
 obtain⟨r,hr⟩:∃r,r=ba l 0%(F+1):=⟨_,rfl⟩
 rw[←hr] at e2
 have hrF:r≤F:=by rw[hr];have:=Nat.mod_lt (ba l 0) (show 0<F+1 by omega);omega
 have HR:=af hr
 have HN:=af hn
 have HC:=af hc
 clear hr hn hc
 unfold maxLen at FZ
 go_enter Tryz.func217,Tryz.ntmps217
 by_cases hsm:r<F
 ·go_wp2
  go_ret3
  exact⟨by rw[M9 (by have:=HN.out;omega) HR.out hsm];rfl,rfl⟩
 ·go_wp2
  clear e1 e2 e5 e6
  go_loop [8,39] (Oe F l (5)) (fun _ i=>6-(intOf i).toNat)
  case atStart=>exact⟨0,r,rfl,rfl,by omega,by omega,KN (by have:=HN.out;omega) HR.out hsm⟩
  case round=>
   obtain⟨k,s,rfl,rfl,hk,hs,ht⟩:=hrel
   have HT:=af ht
   clear ht
   by_cases hlt:k<5
   ·have qU:k=0∨k=1∨k=2∨k=3∨k=4:=by omega
    rcases qU with rfl | rfl | rfl | rfl | rfl
    ·have hcell:w.cell? ⟨b,o+1,none⟩=some (.int .u8 (ba l 1:Int)):=HC.out 1 (by omega)
     have hb1:=jg l 1
     have e7:=u8_and127' l 1
     obtain⟨m,hm⟩:∃m,m=ba l 1%128:=⟨_,rfl⟩
     have hst:=vH (T:=1) 1 128 2 HT.out (by omega) rfl rfl rfl (by have:=HN.out;omega) hm
     rw[←hm] at e7
     have wG:m<128:=by omega
     have HM:=af hm
     have HST:=af hst
     clear hm hst
     by_cases hlo:ba l 1<128
     ·have jK:s+1*m≤2147483647:=by omega
      ·go_wp2
       go_ret3
       exact⟨rF (HST.out.2.1 hlo (by omega)) (by omega) (by omega) rfl,rfl⟩
     ·go_wp2
      go_round
      case rel=>exact⟨1,s+1*m,rfl,vB (by omega),by omega,by omega,HST.out.2.2 (by omega)⟩
      case measure=>simp[intOf]
    ·have hcell:w.cell? ⟨b,o+2,none⟩=some (.int .u8 (ba l 2:Int)):=HC.out 2 (by omega)
     have hb1:=jg l 2
     have e7:=u8_and127' l 2
     obtain⟨m,hm⟩:∃m,m=ba l 2%128:=⟨_,rfl⟩
     have hst:=vH (T:=128) 2 16384 3 HT.out (by omega) rfl rfl rfl (by have:=HN.out;omega) hm
     rw[←hm] at e7
     have wG:m<128:=by omega
     have HM:=af hm
     have HST:=af hst
     clear hm hst
     by_cases hlo:ba l 2<128
     ·have jK:s+128*m≤2147483647:=by omega
      ·go_wp2
       go_ret3
       exact⟨rF (HST.out.2.1 hlo (by omega)) (by omega) (by omega) rfl,rfl⟩
     ·go_wp2
      go_round
      case rel=>exact⟨2,s+128*m,rfl,vB (by omega),by omega,by omega,HST.out.2.2 (by omega)⟩
      case measure=>simp[intOf]
    ·have hcell:w.cell? ⟨b,o+3,none⟩=some (.int .u8 (ba l 3:Int)):=HC.out 3 (by omega)
     have hb1:=jg l 3
     have e7:=u8_and127' l 3
     obtain⟨m,hm⟩:∃m,m=ba l 3%128:=⟨_,rfl⟩
     have hst:=vH (T:=16384) 3 2097152 4 HT.out (by omega) rfl rfl rfl (by have:=HN.out;omega) hm
     rw[←hm] at e7
     have wG:m<128:=by omega
     have HM:=af hm
     have HST:=af hst
     clear hm hst
     by_cases hlo:ba l 3<128
     ·have jK:s+16384*m≤2147483647:=by omega
      ·go_wp2
       go_ret3
       exact⟨rF (HST.out.2.1 hlo (by omega)) (by omega) (by omega) rfl,rfl⟩
     ·go_wp2
      go_round
      case rel=>exact⟨3,s+16384*m,rfl,vB (by omega),by omega,by omega,HST.out.2.2 (by omega)⟩
      case measure=>simp[intOf]
    ·have hcell:w.cell? ⟨b,o+4,none⟩=some (.int .u8 (ba l 4:Int)):=HC.out 4 (by omega)
     have hb1:=jg l 4
     have e7:=u8_and127' l 4
     obtain⟨m,hm⟩:∃m,m=ba l 4%128:=⟨_,rfl⟩
     have hst:=vH (T:=2097152) 4 268435456 5 HT.out (by omega) rfl rfl rfl (by have:=HN.out;omega) hm
     rw[←hm] at e7
     have wG:m<128:=by omega
     have HM:=af hm
     have HST:=af hst
     clear hm hst
     by_cases hlo:ba l 4<128
     ·have jK:s+2097152*m≤2147483647:=by omega
      ·go_wp2
       go_ret3
       exact⟨rF (HST.out.2.1 hlo (by omega)) (by omega) (by omega) rfl,rfl⟩
     ·go_wp2
      go_round
      case rel=>exact⟨4,s+2097152*m,rfl,vB (by omega),by omega,by omega,HST.out.2.2 (by omega)⟩
      case measure=>simp[intOf]
    ·have hcell:w.cell? ⟨b,o+5,none⟩=some (.int .u8 (ba l 5:Int)):=HC.out 5 (by omega)
     have hb1:=jg l 5
     have e7:=u8_and127' l 5
     obtain⟨m,hm⟩:∃m,m=ba l 5%128:=⟨_,rfl⟩
     have hst:=vH (T:=268435456) 5 34359738368 6 HT.out (by omega) rfl rfl rfl (by have:=HN.out;omega) hm
     rw[←hm] at e7
     have wG:m<128:=by omega
     have HM:=af hm
     have HST:=af hst
     clear hm hst
     by_cases hlo:ba l 5<128
     ·by_cases jK : 2147483647<s+268435456*m
      ·go_wp2
       go_ret3
       exact⟨rF (HST.out.1 hlo (by omega)) rfl rfl rfl,rfl⟩
      ·go_wp2
       go_ret3
       exact⟨rF (HST.out.2.1 hlo (by omega)) (by omega) (by omega) rfl,rfl⟩
     ·go_wp2
      go_round
      case rel=>exact⟨5,s+268435456*m,rfl,vB (by omega),by omega,by omega,HST.out.2.2 (by omega)⟩
      case measure=>simp[intOf]
   ·go_wp2
    go_ret3
    obtain rfl:k=5:=by omega
    exact⟨by rw[aa6 HT.out];rfl,rfl⟩
theorem ai3 (b o cap bits F:Nat) (l:List UInt8) (w:World) (hF:Full bits F) (hcap : 1≤cap) (FZ:cap≤maxLen) (hn : 1=l.length) (hc:∀j,j<1→w.cell? ⟨b,o+j,none⟩=some (.int .u8 (ba l j:Int))) :
 Calls Tryz.prog 217 #[.slice (some ⟨b,o,none⟩) 1 cap,.int .i64 bits] w fun e w'=>e = .returned (EO (bB F l))∧w=w':=by
 have h1:=hF.lo
 have h8:=hF.hi
 have hF':=hF.le
 have e1:=hF.MV
 have e5:decide ((bits:Int)<1)=false:=by simp;omega
 have e6:decide (8<(bits:Int))=false:=by simp;omega
 have hc0:w.cell? ⟨b,o,none⟩=some (.int .u8 (ba l 0:Int)):=hc 0 (by omega)
 have hb0:=jg l 0
 have e2:=hF.Lx hb0
 obtain⟨r,hr⟩:∃r,r=ba l 0%(F+1):=⟨_,rfl⟩
 rw[←hr] at e2
 have hrF:r≤F:=by rw[hr];have:=Nat.mod_lt (ba l 0) (show 0<F+1 by omega);omega
 have HR:=af hr
 have HN:=af hn
 clear hr hn hc
 unfold maxLen at FZ
 go_enter Tryz.func217,Tryz.ntmps217
 by_cases hsm:r<F
 ·go_wp2
  go_ret3
  exact⟨by rw[M9 (by have:=HN.out;omega) HR.out hsm];rfl,rfl⟩
 ·by_cases hc1:cap=1
  ·subst hc1
   go_wp2
   refine wp_loop_rounds 1 ?_
   rw[rounds_succ]
   go_wp2
   go_ret3
   exact⟨by rw[VW (KN (by have:=HN.out;omega) HR.out hsm) (by omega) (by have:=HN.out;omega)];rfl,rfl⟩
  ·go_wp2
   refine wp_loop_rounds 1 ?_
   rw[rounds_succ]
   go_wp2
   go_ret3
   exact⟨by rw[VW (KN (by have:=HN.out;omega) HR.out hsm) (by omega) (by have:=HN.out;omega)];rfl,rfl⟩
theorem aa5 {A:Option Addr}{B n cap bits F:Nat}{l:List UInt8}{w:World}(hF:Full bits F) (hr:Rd w B 1 A n (ak l)) (hcap:n≤cap) (hm:cap≤maxLen) :
 Calls Tryz.prog 217 #[.slice A n cap,.int .i64 bits] w fun e w'=>e = .returned (EO (bB F l))∧w=w':=by
 rcases zT n with rfl | hn
 ·have hl:=hr.mR
  have hl0:l=[]:=zR hl
  subst hl0
  have h1:=hF.lo
  have h8:=hF.hi
  clear hr hl
  go_enter Tryz.func217,Tryz.ntmps217
  go_wp2
  go_ret3
  exact⟨rfl,rfl⟩
 ·obtain⟨hl,b,o,rfl,-,hc⟩:=hr.tL hn
  rcases Nat.lt_trichotomy n 6 with h6 | h6 | h6
  ·rcases vW 1 n with h1 | h1
   ·exact ai6 b o n cap bits F l w hF h1 h6 hcap hm hl.symm hc
   ·obtain rfl:n=1:=by omega
    exact ai3 b o cap bits F l w hF hcap hm hl.symm hc
  ·subst h6
   exact ai4 b o cap bits F l w hF hcap hm hl.symm hc
  ·exact ai5 b o n cap bits F l w hF h6 hcap hm hl.symm hc
end
section
open Go.RowKit
def KU (kd:IntKind) (bits:Nat) (a i:Value):Prop:=∃k p:Nat,i = .int .i64 k∧a = .int kd p∧k≤bits∧p=2^k∧p≤256
theorem KU.next {bits k p:Nat}(h:p=2^k) (hk:k<bits) (hb:bits≤8):p*2=2^(k+1)∧p≤128:=by
 subst h
 refine⟨by rw[qH],?_⟩
 exact Nat.pow_le_pow_right (by omega) (show k≤7 by omega)
end
section
open Go.RowKit

end
section
open Go.RowKit
def CV:List Value:=bW.map fun n:Nat=>Value.int .u8 (n:Int)
theorem afj:CV=(bW.map fun n:Nat=>(n:Int)).map (Value.int .u8):=by rw[List.map_map];rfl
theorem afk:CV.length=257:=by decide +kernel
theorem Y_ {i:Nat}(hi:i<257):CV[i]?=some (.int .u8 ((bW.getD i 0:Nat):Int)):=by
 have hl:i<bW.length:=by rw[bO.1];exact hi
 simp[CV,List.getD,a_ hl]
theorem afh (w:World):Calls Tryz.prog 229 #[] w fun e w'=>e = .returned (.agg CV.toArray)∧Below w.heap.size w w':=by
 go_enter Tryz.func229,Tryz.ntmps229
 go_step;go_step;go_step
 refine Great.wpList_runTo rfl (some 0) rfl (.pointer (some ⟨w.heap.size,0,none⟩)) (w.alloc (.cells (Array.replicate 257 (.int .u8 0)) 294)) (by kernel_rfl) ?_
 go_step;go_step;go_step;go_step;go_step
 refine wpList_buildFlatArrTo rfl 294 5 257 _ rfl .u8 (bW.map fun n:Nat=>(n:Int)) (some 1) rfl Tryz.underlying294 (by kernel_rfl) (by kernel_rfl) (by kernel_rfl) ?_
 rw[←afj]
 refine wpList_store_rowTo rfl 294 _ _ rfl rfl w.heap.size CV.toArray rfl rfl 294 (Array.replicate 257 (.int .u8 0)) (heap_alloc_new w _) (by kernel_rfl) (by kernel_rfl) (by kernel_rfl) ?_
 go_wp2_with fail
 refine bodyPost_ret (results_cell_row rfl _ _ w.heap.size 294 CV.toArray (0,0) _ rfl (setRow_heap _ _ _ _ _ _ (heap_alloc_new w _)) Tryz.underlying294 rfl (by kernel_rfl)) rfl ?_
 exact⟨rfl,((Below.refl _ _).alloc (ah _) _).trans ⟨rfl,rfl,rfl,by simp,fun k hk=>setRow_other _ _ _ _ (by omega)⟩⟩
section
variable {P:Program}
theorem ah_ {t e:TypeId}{n:Nat}{k ki:IntKind}(ht:P.underlying t=some (.array n e)) (he:P.underlying e=some (.int k)) (hsz:(P.info? e).map (·.size)=some 1)
 {cs:List Value} {i:Nat} {v:Value} (w:World) (hi:i<n) (hv:cs[i]?=some v):(Instr.index t (.agg cs.toArray) (.int ki (i:Int))).run P w = .ok v w:=by
 cases hq:P.info? e with
 | none=>simp[hq] at hsz
 | some ie=>
  have hs:ie.size=1:=by simpa [hq] using hsz
  have hag:(isAgg e).run P w = .ok false w:=by
   unfold isAgg
   rw[Sem.run_bind,run_underlying he w]
   rfl
  simp[Instr.index,asIntOf,run_underlying ht,sizeOf,typeInfo,hq,hs,part,hag,hi,hv]
theorem ajF {ops:Array Oper}{rest:List Oper}{o:Oper}{a:Act}{w:World}{Q:Exit→Act→World→Prop}(ty:TypeId) (x:Operand) (hgd:o.guard=none) (ho:o.op = .load ty x)
 (g off:Nat) (cs:List Value) (d:TypeDesc) (hx:a.eval x = .pointer (some ⟨g,off,none⟩)) (hc:∀j v,cs[j]?=some v→w.cell? ⟨g,off+j,none⟩=some v)
 (hu:P.underlying ty=some d) (hd:(match d with | .struct _ | .array _ _=>true | _=>false)=true) (hi:(P.info? ty).map (·.size)=some cs.length)
 (h:wpList P ops Q rest (a.put o.dst (.agg cs.toArray)) w):wpList P ops Q (o :: rest) a w:=by
 refine wpList_plain hgd fun _ hK=>?_
 have hl:(loadCells ⟨g,off,none⟩ cs.length).run P w = .ok cs.toArray w:=
  run_loadCells_list (P:=P) w ⟨g,off,none⟩ cs (fun j v hv=>by rw[Addr.add_lit];exact hc j v hv)
 have hrun:(loadVar ty ⟨g,off,none⟩).run P w = .ok (.agg cs.toArray) w:=by
  cases hq:P.info? ty with
  | none=>simp[hq] at hi
  | some i=>
   have hs:i.size=cs.length:=by simpa [hq] using hi
   have hagg:(isAgg ty).run P w = .ok true w:=by
    unfold isAgg
    rw[Sem.run_bind,run_underlying hu w]
    cases d <;> simp_all
   simp[loadVar,Sem.run_bind,hagg,sizeOf,typeInfo,hq,hs,hl]
 unfold Oper.wp execOp
 simp only[ho,hx,Instr.loadAt,Instr.sureAddr,Sem.run_bind,Sem.run_pure,Result.andThen_ok,hrun]
 exact hK _ _ h
end
end
section
open Go.RowKit
def jE (w:World) (B:Nat) (m:List Nat) (st:aB):Prop:=w.heap[B]?=some (.cells (blk m st).toArray 300 (0,0))
theorem jE.cell {w:World}{B:Nat}{m:List Nat}{st:aB}(h:jE w B m st) (i:Nat):w.cell? ⟨B,i,none⟩=(blk m st)[i]?:=by
 rw[cell_of_row w B i _ _ (0,0) h];simp
theorem jE.frozen {w:World}{B:Nat}{m:List Nat}{st:aB}(h:jE w B m st) (i:Nat):w.frozen? ⟨B,i,none⟩=false:=frozen_of_row w B i _ _ h
theorem jE.lt {w:World}{B:Nat}{m:List Nat}{st:aB}(h:jE w B m st):B<w.heap.size:=(Array.getElem?_eq_some_iff.1 h).1
theorem jE.IZ {w:World}{B:Nat}{m m':List Nat}{st st':aB}(h:jE w B m st) (i:Nat) (v:Value) (hs:(blk m st).set i v=blk m' st'):jE (w.setCell ⟨B,i,none⟩ v) B m' st':=by
 have:=heap_setCell_same w B i _ _ v h
 unfold jE
 rw[this,←hs]
 simp
theorem jE.IY {w:World}{B:Nat}{m m':List Nat}{st st':aB}(h:jE w B m st) (i j:Nat) (u v:Value) (hs:((blk m st).set i u).set j v=blk m' st') :
 jE ((w.setCell ⟨B,i,none⟩ u).setCell ⟨B,j,none⟩ v) B m' st':=by
 have h1:=heap_setCell_same w B i _ _ u h
 have h2:=heap_setCell_same _ B j _ _ v h1
 unfold jE
 rw[h2,←hs]
 simp
def abK (W:World) (B:Nat) (p c i:Value) (w:World):Prop:=
 ∃n:Nat,i = .int .i64 n∧n≤31∧p = .int .i64 ((aB.at_ n).pos:Int)∧c = .int .u32 ((aB.at_ n).code:Int)∧jE w B pq (aB.at_ n)∧Below W.heap.size W w
def ab6 (W:World) (B n:Nat) (p c i:Value) (w:World):Prop:=
 ∃s:Nat,i = .int .i64 s∧s≤257∧p = .int .i64 ((aB.inner n s (aB.begin n (aB.at_ n))).pos:Int)∧c = .int .u32 ((aB.inner n s (aB.begin n (aB.at_ n))).code:Int) ∧
  jE w B pq (aB.inner n s (aB.begin n (aB.at_ n)))∧Below W.heap.size W w
def abG (W:World) (B:Nat) (i:Value) (w:World):Prop:=∃k:Nat,i = .int .i64 k∧k≤257∧jE w B (wo k) aB.zero∧Below W.heap.size W w
theorem ZE (w:World):Calls Tryz.prog 228 #[] w fun e w'=>∃B,e = .returned (.pointer (some ⟨B,0,none⟩))∧jE w' B pq (aB.at_ 31)∧w.heap.size≤B∧Below w.heap.size w w':=by
 have hidx:∀(i:Nat) (w:World),i<257→(Instr.index 294 (.agg CV.toArray) (.int .i64 (i:Int))).run Tryz.prog w = .ok (.int .u8 ((bW.getD i 0:Nat):Int)) w:=
  fun i w hi=>ah_ Tryz.underlying294 Tryz.underlying5 (by kernel_rfl) w hi (Y_ hi)
 have HIDX:=af hidx
 clear hidx
 go_enter Tryz.func228,Tryz.ntmps228
 go_wp2_with fail
 refine (afh w).mono ?_
 rintro e w1 ⟨rfl,hb1⟩
 simp only[]
 go_step
 refine wpList_buildTo rfl 300 _ rfl (some 9) rfl (blk (List.replicate 31 0) aB.zero).toArray (by kernel_rfl) ?_
 refine Great.wpList_boxTo rfl 300 _ rfl (some 10) rfl w1.heap.size rfl (blk (List.replicate 31 0) aB.zero).toArray rfl ?_
 have hbk:jE (w1.alloc (.cells (blk (List.replicate 31 0) aB.zero).toArray 300)) w1.heap.size (wo 0) aB.zero:=heap_alloc_new w1 _
 have hbel:=hb1.alloc hb1.size (.cells (blk (List.replicate 31 0) aB.zero).toArray 300)
 generalize w1.alloc (.cells (blk (List.replicate 31 0) aB.zero).toArray 300)=w2 at hbk hbel ⊢
 have hB:=hb1.size
 generalize w1.heap.size=B at hbk hB ⊢
 have jF:=af hbk
 clear hbk hb1
 generalize (blk (List.replicate 31 0) aB.zero).toArray=arr0
 go_wp2_with (first | (with_reducible refine ajF 294 (.tmp 13) rfl rfl B 0 CV _ rfl ?_ Tryz.underlying294 rfl (by kernel_rfl) ?_))
 ·intro j v hj
  have hj':j<257:=by rw[←afk];exact (List.getElem?_eq_some_iff.1 hj).1
  rw[mh,jF.out.cell,Ou hj',←Y_ hj']
  exact hj
 go_loopw [15] (abG w B) (fun i _=>257-(intOf i).toNat)
 case atStart=>exact⟨0,rfl,by omega,jF.out,hbel⟩
 case round=>
  obtain⟨k,rfl,hk,hbk,JI⟩:=hrel
  have hBw:=hbk.lt
  by_cases hlt:k<257
  ·have hi:=HIDX.out k wr hlt
   have hn:=Kl k
   have hcell:=hbk.cell (545+bW.getD k 0)
   rw[Xx (XK k) aB.Wf.zero (show bW.getD k 0<31 by omega)] at hcell
   have Mo:=hbk.frozen (545+bW.getD k 0)
   have hnext:=XL hlt
   have hset:=aiu (XK k) aB.Wf.zero (show bW.getD k 0<31 by omega) ((wo k).getD (bW.getD k 0) 0+1)
   rw[←Ie,←hnext] at hset
   have hc:=adh k (bW.getD k 0) (by omega)
   generalize bW.getD k 0=n at *
   generalize (wo k).getD n 0=c at *
   have jF:=af hbk
   have HS:=af hset
   clear hbk hset hnext
   have hn31:(n:Int)<31:=by omega
   go_wp2
   go_region
   go_wp2
   go_roundw
   case rel=>exact⟨k+1,by go_num,by omega,jF.out.IZ _ _ HS.out,(JI.setCell (p:=⟨B,_,none⟩) hB _).drew⟩
   case measure=>simp[intOf];omega
  ·obtain rfl:k=257:=by omega
   rw[adg] at hbk
   have jF:=af hbk
   clear hbk
   have CG:pq.length=31:=bO.2.2.2.1
   go_wp2
   go_loopw [4,5,29] (abK w B) (fun _ _ i _=>31-(intOf i).toNat)
   case atStart=>exact⟨0,rfl,by omega,rfl,rfl,jF.out,JI⟩
   case round=>
    obtain⟨n,rfl,hn,rfl,rfl,hbk,JI⟩:=hrel
    have hBw:=hbk.lt
    by_cases hlt:n<31
    ·have YE:=hbk.cell (514+n)
     rw[Xv (aB.Wf.at_ n) hlt] at YE
     have JQ:=hbk.cell (576+n)
     rw[Xw CG (aB.Wf.at_ n) hlt] at JQ
     have hfro1:=hbk.frozen (514+n)
     have hfro2:=hbk.frozen (576+n)
     have hset:=aip CG (aB.Wf.at_ n) hlt
     have O1:=(aB.Wf.at_ n).code
     have hpos:=YY n
     have Ea:(aB.inner n 0 (aB.begin n (aB.at_ n)))=aB.begin n (aB.at_ n):=rfl
     have CK:(aB.begin n (aB.at_ n)).pos=(aB.at_ n).pos:=rfl
     have hc0:(aB.begin n (aB.at_ n)).code=(aB.at_ n).code*2%4294967296:=rfl
     generalize (aB.at_ n).pos=p at *
     generalize (aB.at_ n).code=c at *
     have jF:=af hbk
     have HS:=af hset
     have HI:=af (And.intro Ea (And.intro CK hc0))
     clear hbk hset Ea CK hc0
     have hn31:(n:Int)<31:=by omega
     go_wp2
     go_region
     go_wp2
     go_loopw [4,5,46] (ab6 w B n) (fun _ _ i _=>257-(intOf i).toNat)
     case atStart=>
      refine⟨0,rfl,by omega,?_,?_,?_,?_⟩
      ·rw[HI.out.1,HI.out.2.1]
      ·rw[HI.out.1,HI.out.2.2];congr 1
      ·rw[HI.out.1]
       exact jF.out.IY _ _ _ _ HS.out
      ·exact ((JI.setCell (p:=⟨B,_,none⟩) hB _).setCell (p:=⟨B,_,none⟩) hB _).drew
     case round=>
      clear YE JQ hfro1 hfro2
      obtain⟨s,rfl,hs,rfl,rfl,hbk,OW⟩:=hrel
      have hBw:=hbk.lt
      have hwf:(aB.inner n s (aB.begin n (aB.at_ n))).Wf:=((aB.Wf.at_ n).begin n).inner hs
      have O1:=hwf.code
      have hposs:=ZZ hs (n:=n) (aB.begin n (aB.at_ n))
      rw[HI.out.2.1] at hposs
      by_cases hlt:s<257
      ·have hnext:=Kk n (aB.begin n (aB.at_ n)) hlt
       have hcell:=hbk.cell s
       rw[Ou hlt] at hcell
       by_cases heq:bW.getD s 0=n
       ·have hroom:=agZ (by omega) hlt heq
        have hset:=aiv CG hwf hlt hroom heq
        rw[←hnext] at hset
        have YF:=hbk.cell (607+(aB.inner n s (aB.begin n (aB.at_ n))).pos)
        rw[Xy CG hwf hroom] at YF
        have hfro3:=hbk.frozen (607+(aB.inner n s (aB.begin n (aB.at_ n))).pos)
        have aeF:=hbk.cell (257+s)
        rw[Xu hwf hlt] at aeF
        have hfro4:=hbk.frozen (257+s)
        have iP:(aB.inner n (s+1) (aB.begin n (aB.at_ n))).pos=(aB.inner n s (aB.begin n (aB.at_ n))).pos+1:=by rw[hnext,aB.l_,ax heq]
        have hc1:(aB.inner n (s+1) (aB.begin n (aB.at_ n))).code=((aB.inner n s (aB.begin n (aB.at_ n))).code+1)%4294967296:=by rw[hnext,aB.l_,ax heq]
        generalize (aB.inner n s (aB.begin n (aB.at_ n))).pos=p1 at *
        generalize (aB.inner n s (aB.begin n (aB.at_ n))).code=c1 at *
        have jF:=af hbk
        have HS:=af hset
        have HI:=af (And.intro iP hc1)
        rw[heq] at hcell
        clear hbk hset iP hc1 hnext heq
        have hs257:(s:Int)<257:=by omega
        have hp257:(p1:Int)<257:=by omega
        go_wp2
        go_region
        go_wp2
        refine⟨⟨s+1,by go_num,by omega,?_,?_,jF.out.IY _ _ _ _ HS.out,((OW.setCell (p:=⟨B,_,none⟩) hB _).setCell (p:=⟨B,_,none⟩) hB _).drew⟩,by simp[intOf];omega⟩
        ·rw[HI.out.1];go_num
        ·rw[HI.out.2];go_num
       ·have YV:aB.inner n (s+1) (aB.begin n (aB.at_ n))=aB.inner n s (aB.begin n (aB.at_ n)):=by rw[hnext,aB.l_,aj heq]
        have heqb:(((bW.getD s 0:Nat):Int)==(n:Int))=false:=by rw[fO];omega
        have hls:=Kl s
        generalize bW.getD s 0=ls at *
        generalize iP:(aB.inner n s (aB.begin n (aB.at_ n))).pos=p1 at *
        generalize hc1:(aB.inner n s (aB.begin n (aB.at_ n))).code=c1 at *
        have jF:=af hbk
        have HI:=af (And.intro iP hc1)
        have HN:=af YV
        clear hbk iP hc1 hnext heq YV
        go_wp2
        refine⟨⟨s+1,by go_num,by omega,?_,?_,by rw[HN.out];exact jF.out,OW⟩,by simp[intOf];omega⟩
        ·rw[HN.out,HI.out.1]
        ·rw[HN.out,HI.out.2]
      ·obtain rfl:s=257:=by omega
       rw[←at_next] at *
       have wH:=YY (n+1)
       generalize iP:(aB.at_ (n+1)).pos=p1 at *
       generalize hc1:(aB.at_ (n+1)).code=c1 at *
       have jF:=af hbk
       have HI:=af (And.intro iP hc1)
       clear hbk iP hc1
       go_wp2
       refine⟨⟨n+1,by go_num,by omega,?_,?_,jF.out,OW⟩,by simp[intOf];omega⟩
       ·rw[HI.out.1]
       ·rw[HI.out.2]
    ·obtain rfl:n=31:=by omega
     have jF:=af hbk
     clear hbk
     go_wp2
     go_ret
     exact⟨B,rfl,jF.out,hB,JI⟩
end
section
open Go.RowKit
structure bC where
 code:Nat
 last:Nat
 out:List Nat
 deriving DecidableEq
def bC.zero:bC:=⟨0,5,List.replicate 257 0⟩
def bC.up (n:Nat) (st:bC):Nat:=st.code*2^(n-st.last)%4294967296
def bC.l_ (n:Nat) (st:bC) (x:Nat×Nat):bC:=if x.1=n then ⟨(st.up n+1)%4294967296,n,st.out.set x.2 (st.up n)⟩ else st
def bC.inner (n s:Nat) (st:bC):bC:=(bW.zipIdx.take s).foldl (bC.l_ n) st
def bC.at_ (d:Nat):bC:=(List.range d).foldl (fun st k=>bC.inner (k+5) 257 st) bC.zero
theorem adl:(bC.at_ 26).out=nG:=by decide +kernel
theorem XH (n:Nat) (st:bC){s:Nat}(h:s<257):bC.inner n (s+1) st=bC.l_ n (bC.inner n s st) (bW.getD s 0,s):=by
 have hl:s<bW.zipIdx.length:=by rw[List.length_zipIdx,bO.1];exact h
 unfold bC.inner
 rw[List.take_succ_eq_append_getElem hl,og]
 have hl':s<bW.length:=by rw[bO.1];exact h
 simp[List.getD,a_ hl']
theorem XD (d:Nat):bC.at_ (d+1)=bC.inner (d+5) 257 (bC.at_ d):=by
 unfold bC.at_
 rw[List.range_succ,og,nD,List.foldl_nil]
structure bC.Wf (n:Nat) (st:bC):Prop where
 out:st.out.length=257
 code:st.code<4294967296
 last:st.last≤n
 lo : 5≤st.last
theorem bC.Wf.l_ {n:Nat}{st:bC}(h:st.Wf n) (h5 : 5≤n) (x:Nat×Nat):(bC.l_ n st x).Wf n:=by
 unfold bC.l_
 split
 ·exact⟨by simp[h.out],Nat.mod_lt _ (by decide),ah _,h5⟩
 ·exact h
theorem bC.Wf.inner {n:Nat}{st:bC}(h:st.Wf n) (h5 : 5≤n):∀{s:Nat},s≤257→(bC.inner n s st).Wf n:=by
 intro s
 induction s with
 | zero=>intro _;exact h
 | succ s ih=>intro hs;rw[XH n st (by omega)];exact (ih (by omega)).l_ h5 _
theorem bC.Wf.up {n:Nat}{st:bC}(h:st.Wf n):st.Wf (n+1):=⟨h.out,h.code,by have:=h.last;omega,h.lo⟩
theorem bC.Wf.at_ (d:Nat):(bC.at_ d).Wf (d+5):=by
 induction d with
 | zero=>exact⟨by decide +kernel,by decide,by decide,by decide⟩
 | succ d ih=>rw[XD];exact (ih.inner (by omega) (ah _)).up
theorem up_step (c j:Nat):c*2^j%4294967296*2%4294967296=c*2^(j+1)%4294967296:=by
 rw[qH,←Nat.mul_assoc,Nat.mod_mul_mod]
def u32s (l:List Nat):List Value:=l.map fun n:Nat=>Value.int .u32 (n:Int)
def MG (l:List Nat):List Value:=l.map fun n:Nat=>Value.int .i64 (n:Int)
theorem u32s_get {l:List Nat}{i:Nat}(h:i<l.length):(u32s l)[i]?=some (.int .u32 ((l.getD i 0:Nat):Int)):=by simp[u32s,List.getD,a_ h]
theorem Qi {l:List Nat}{i:Nat}(h:i<l.length):(MG l)[i]?=some (.int .i64 ((l.getD i 0:Nat):Int)):=by simp[MG,List.getD,a_ h]
theorem u32s_set (l:List Nat) (i x:Nat):(u32s l).set i (.int .u32 (x:Int))=u32s (l.set i x):=by simp[u32s,List.map_set]
end
section
open Go.RowKit
theorem tInts:rR Tryz.prog 98 3 (.int .i64 0) 1 8:=⟨Tryz.underlying98,by kernel_rfl,rfl,by omega⟩
theorem tU32s:rR Tryz.prog 207 115 (.int .u32 0) 1 4:=⟨Tryz.underlying207,by kernel_rfl,rfl,by omega⟩
theorem Tq (w:World):Calls Tryz.prog 127 #[] w fun e w'=>∃g,e = .returned (.slice (some ⟨g,0,none⟩) 257 257)∧w'.ownsRow w.heap.size 3 1 (.slice (some ⟨g,0,none⟩) 257 257) 257 (MG bW)∧Below w.heap.size w w':=by
 go_enter Tryz.func127,Tryz.ntmps127
 go_step;go_step;go_step;go_step;go_step;go_step;go_step;go_step;go_step
 go_step;go_step
 refine wpList_buildFlat rfl 98 3 257 _ rfl .i64 (bW.map fun n:Nat=>(n:Int)) Tryz.underlying98 (by kernel_rfl) (by kernel_rfl) (by decide +kernel) (by omega) (by omega) (by kernel_rfl) ?_
 rw[show (bW.map fun n:Nat=>(n:Int)).map (Value.int .i64)=MG bW by rw[List.map_map];rfl]
 go_wp2_with fail
 go_ret
 exact⟨_,rfl,World.ownsRow_lit w _ 257 (ah _) (by unfold maxLen;omega) (by decide +kernel),(Below.refl _ _).alloc (ah _) _⟩
def LC (w:World) (gl:Nat):Prop:=∀i,i<257→w.cell? ⟨gl,i,none⟩=some (.int .i64 ((bW.getD i 0:Nat):Int))
theorem LC.IZ {w:World}{gl g:Nat}(h:LC w gl) (hne:gl≠g) (j:Nat) (v:Value):LC (w.setCell ⟨g,j,none⟩ v) gl:=
 fun i hi=>(World.cell?_setCell_other w ⟨g,j,none⟩ ⟨gl,i,none⟩ v (fun e=>by injection e with e;exact hne e.symm)).trans (h i hi)
def abE (W:World) (gl g:Nat) (c l n:Value) (w:World):Prop:=
 ∃d:Nat,n = .int .i64 ((d:Int)+5)∧d≤26∧c = .int .u32 ((bC.at_ d).code:Int)∧l = .int .i64 ((bC.at_ d).last:Int) ∧
  w.ownsRow W.heap.size 115 1 (.slice (some ⟨g,0,none⟩) 257 257) 257 (u32s (bC.at_ d).out)∧LC w gl∧Below W.heap.size W w
def abF (W:World) (gl g d:Nat) (c l i:Value) (w:World):Prop:=
 ∃s:Nat,i = .int .i64 s∧s≤257∧c = .int .u32 ((bC.inner (d+5) s (bC.at_ d)).code:Int)∧l = .int .i64 ((bC.inner (d+5) s (bC.at_ d)).last:Int) ∧
  w.ownsRow W.heap.size 115 1 (.slice (some ⟨g,0,none⟩) 257 257) 257 (u32s (bC.inner (d+5) s (bC.at_ d)).out)∧LC w gl∧Below W.heap.size W w
def DblUp (code last n:Nat) (c l:Value):Prop:=∃j x:Nat,l = .int .i64 ((last:Int)+j)∧last+j≤n∧c = .int .u32 x∧x=code*2^j%4294967296∧x<4294967296
theorem ahh (w:World):Calls Tryz.prog 128 #[] w fun e w'=>∃g,e = .returned (.slice (some ⟨g,0,none⟩) 257 257)∧w'.ownsRow w.heap.size 115 1 (.slice (some ⟨g,0,none⟩) 257 257) 257 (u32s nG)∧Below w.heap.size w w':=by
 obtain⟨i0,Ea,hz0,hz1,hz2⟩:=info_parts tU32s.info
 go_enter Tryz.func128,Tryz.ntmps128
 go_wp2_with fail
 refine (Tq w).mono ?_
 rintro e w1 ⟨gl,rfl,Gx,hb1⟩
 have hglt:=(Gx.lt gl rfl).2
 have hlc:LC w1 gl:=fun i hi=>by
  rw[World.ownsRow.cellAt Gx i (by omega),Qi (by rw[bO.1];exact hi)]
 have vP:=af hlc
 have hs1:=hb1.size
 clear hlc Gx
 go_wp2_with (at_make;refine wpList_make_full _ rfl _ _ 207 rfl w.heap.size 115 i0 (.int .u32 0) 1 Tryz.underlying207 Ea hz0 hz1 _ _ _ _ 257 rfl rfl rfl rfl (by rw[hz2];omega) (by unfold maxLen;omega) hs1 ?_;intro w2 hown2 hg2)
 have hb2:Below w.heap.size w w2:=hb1.grown hg2 hs1 (fun k hk=>by cases hk)
 have hcl:LC w2 gl:=fun i hi=>hg2.cell (vP.out i hi) (by simp)
 have hne:gl≠w1.heap.size:=by omega
 have hge:w.heap.size≤w1.heap.size:=hs1
 generalize w1.heap.size=g at *
 have hz:(madeCells (Value.int .u32 0).cells (257*1)).toList=u32s bC.zero.out:=by
  rw[show (Value.int .u32 0).cells=#[Value.int .u32 0] from rfl,toList_madeCells_one];kernel_rfl
 rw[hz] at hown2
 have nX:=af hown2
 have jT:=af hcl
 clear hz hown2 hg2 hcl vP Ea hz0 hz1 hz2
 go_loopw [3,4,5] (abE w gl g) (fun _ _ i _=>31-(intOf i).toNat)
 case atStart=>exact⟨0,rfl,by omega,rfl,rfl,nX.out,jT.out,hb2⟩
 case round=>
  obtain⟨d,rfl,hd,rfl,rfl,hown,hlc,hbel⟩:=hrel
  have hwf:=bC.Wf.at_ d
  by_cases hlt:d<26
  ·have nX:=af hown
   have vP:=af hlc
   clear hown hlc
   generalize hc0:(bC.at_ d).code=c0 at *
   generalize hl0:(bC.at_ d).last=l0 at *
   have jT:=af (And.intro hc0 hl0)
   clear hc0 hl0
   go_wp2
   go_loopw [3,4,6] (abF w gl g d) (fun _ _ i _=>257-(intOf i).toNat)
   case atStart=>exact⟨0,rfl,by omega,by rw[←jT.out.1];rfl,by rw[←jT.out.2];rfl,nX.out,vP.out,hbel⟩
   case round=>
    obtain⟨s,rfl,hs,rfl,rfl,hown,hlc,hbel⟩:=hrel
    have P_:=hwf.inner (by omega) hs
    by_cases hlt:s<257
    ·have hnext:=XH (d+5) (bC.at_ d) hlt
     have hcell:=hlc s hlt
     by_cases heq:bW.getD s 0=d+5
     ·rw[bC.l_,ax heq] at hnext
      have aeG:=World.ownsRow.cellAt hown s (by omega)
      rw[u32s_get (by rw[P_.out];exact hlt)] at aeG
      have hfrog:=World.ownsRow.frozenAt hown s
      have hst:=World.ownsRow.stored hown s (.int .u32 ((bC.up (d+5) (bC.inner (d+5) s (bC.at_ d)):Nat):Int))
      rw[u32s_set] at hst
      have hup:bC.up (d+5) (bC.inner (d+5) s (bC.at_ d))=(bC.inner (d+5) s (bC.at_ d)).code*2^(d+5-(bC.inner (d+5) s (bC.at_ d)).last)%4294967296:=rfl
      have hcs:=P_.code
      have hls:=P_.last
      rw[heq] at hcell
      generalize bC.up (d+5) (bC.inner (d+5) s (bC.at_ d))=up at *
      generalize (bC.inner (d+5) s (bC.at_ d)).code=c1 at *
      generalize (bC.inner (d+5) s (bC.at_ d)).last=l1 at *
      have HN:=af hnext
      have HST:=af hst
      have HUP:=af hup
      have vP:=af hlc
      clear hnext hst hup hown hlc heq
      go_wp2
      go_loop [3,4] (DblUp c1 l1 (d+5)) (fun _ l=>d+5-(intOf l).toNat)
      case atStart=>exact⟨0,c1,by simp,by omega,rfl,by simp;omega,by omega⟩
      case round=>
       obtain⟨j,x,rfl,hj,rfl,hx,hx32⟩:=hrel
       have HX:=af hx
       clear hx
       by_cases hjn:l1+j<d+5
       ·go_wp2
        go_round
        case rel=>exact⟨j+1,x*2%4294967296,by congr 1,by omega,by congr 1,by rw[HX.out,up_step],by omega⟩
        case measure=>simp[intOf] <;> omega
       ·have hxu:x=up:=by rw[HX.out,HUP.out,show d+5-l1=j by omega]
        subst hxu
        go_wp2
        refine⟨⟨_,_,_,⟨s+1,rfl,by omega,?_,?_,?_,vP.out.IZ hne _ _,hbel.setCell (p:=⟨g,_,none⟩) hge _⟩,rfl,rfl,by go_num⟩,by simp[intOf];omega⟩
        ·rw[HN.out];go_num
        ·rw[HN.out];show _=Value.int .i64 ((d+5:Nat):Int);congr 1;omega
        ·rw[HN.out];exact HST.out.1
     ·rw[bC.l_,aj heq] at hnext
      have heqb:(((bW.getD s 0:Nat):Int) != (d:Int)+5)=true:=by rw[bne_iff_ne];omega
      generalize bW.getD s 0=ls at *
      generalize hc1:(bC.inner (d+5) s (bC.at_ d)).code=c1 at *
      generalize iE:(bC.inner (d+5) s (bC.at_ d)).last=l1 at *
      have HN:=af hnext
      have HI:=af (And.intro hc1 iE)
      have nX:=af hown
      have vP:=af hlc
      clear hnext hown hlc hc1 iE heq
      go_wp2
      refine⟨⟨s+1,by go_num,by omega,?_,?_,by rw[HN.out];exact nX.out,vP.out,hbel⟩,by simp[intOf];omega⟩
      ·rw[HN.out,HI.out.1]
      ·rw[HN.out,HI.out.2]
    ·obtain rfl:s=257:=by omega
     rw[←XD] at *
     have nX:=af hown
     have vP:=af hlc
     clear hown hlc
     generalize hc1:(bC.at_ (d+1)).code=c1 at *
     generalize iE:(bC.at_ (d+1)).last=l1 at *
     have HI:=af (And.intro hc1 iE)
     clear hc1 iE
     go_wp2
     refine⟨⟨d+1,by go_num,by omega,?_,?_,nX.out,vP.out,hbel⟩,by simp[intOf];omega⟩
     ·rw[HI.out.1]
     ·rw[HI.out.2]
  ·obtain rfl:d=26:=by omega
   rw[adl] at hown
   have nX:=af hown
   clear hown hlc
   go_wp2
   go_ret
   exact⟨g,rfl,nX.out,hbel⟩
end
section
open Go.RowKit
def Bk (w:World) (B:Nat):Prop:=jE w B pq (aB.at_ 31)
section
variable {w:World} {B:Nat} (h:Bk w B)
include h
theorem Bk.size {i:Nat}(hi:i<257):w.cell? ⟨B,i,none⟩=some (.int .u8 ((bW.getD i 0:Nat):Int)):=by rw[jE.cell h,Ou hi]
theorem Bk.code {i:Nat}(hi:i<257):w.cell? ⟨B,257+i,none⟩=some (.int .u32 ((nG.getD i 0:Nat):Int)):=by rw[jE.cell h,Xu (aB.Wf.at_ 31) hi,Ku]
theorem Bk.first {i:Nat}(hi:i<31):w.cell? ⟨B,514+i,none⟩=some (.int .u32 ((firstT.getD i 0:Nat):Int)):=by rw[jE.cell h,Xv (aB.Wf.at_ 31) hi,Ku]
theorem Bk.many {i:Nat}(hi:i<31):w.cell? ⟨B,545+i,none⟩=some (.int .i64 ((pq.getD i 0:Nat):Int)):=by rw[jE.cell h,Xx bO.2.2.2.1 (aB.Wf.at_ 31) hi]
theorem Bk.from_ {i:Nat}(hi:i<31):w.cell? ⟨B,576+i,none⟩=some (.int .i64 ((DR.getD i 0:Nat):Int)):=by rw[jE.cell h,Xw bO.2.2.2.1 (aB.Wf.at_ 31) hi,Ku]
theorem Bk.sym {i:Nat}(hi:i<257):w.cell? ⟨B,607+i,none⟩=some (.int .i64 ((EL.getD i 0:Nat):Int)):=by rw[jE.cell h,Xy bO.2.2.2.1 (aB.Wf.at_ 31) hi,Ku]
end
theorem Bk.below {w w':World}{B B0:Nat}(h:Bk w B) (hb:Below B0 w w') (hB:B<B0):Bk w' B:=(hb.block B hB).trans h
theorem Bk.grown {w w':World}{B:Nat}{row:Option Nat}(h:Bk w B) (hg:w.grownBy w' row) (hne:some B≠row):Bk w' B:=(hg.block B (jE.lt h) hne).trans h
theorem Bk.drewN {w:World}{B:Nat}(h:Bk w B) (n:Nat):Bk (w.drewN n) B:=h
theorem Bk.alloc {w:World}{B:Nat}(h:Bk w B) (o:Obj):Bk (w.alloc o) B:=(Below.heap_alloc w o B (jE.lt h)).trans h
theorem _root_.Go.RowKit.Below.drewN {B:Nat}{a w:World}(h:Below B a w) (n:Nat):Below B a (w.drewN n):=⟨h.os,h.tape,h.output,h.size,h.block⟩
theorem adj:∀i,nG.getD i 0<1073741824:=by
 intro i
 rcases vW i 257 with h | h
 ·have:∀i<257,nG.getD i 0<1073741824:=by decide +kernel
  exact this i h
 ·rw[List.getD,List.getElem?_eq_none (by rw[bO.2.1];exact h)];decide
def XN:Bool:=(nG.zip (bW.zip (List.range 257))).all fun x=>(nG.zip (bW.zip (List.range 257))).all fun y=>x.2.2==y.2.2 || decide (y.2.1<x.2.1) || (y.1 / 2^(y.2.1-x.2.1) != x.1)
theorem adk:XN=true:=by decide +kernel
theorem apart {i j:Nat}(hi:i<257) (hj:j<257) (hne:i≠j) (hle:bW.getD i 0≤bW.getD j 0):nG.getD j 0 / 2^(bW.getD j 0-bW.getD i 0)≠nG.getD i 0:=by
 have aQ:∀k,k<257→(nG.getD k 0,(bW.getD k 0,k)) ∈ nG.zip (bW.zip (List.range 257)):=by
  intro k hk
  have h1:k<nG.length:=by rw[bO.2.1];exact hk
  have h2:k<bW.length:=by rw[bO.1];exact hk
  rw[List.mem_iff_getElem]
  refine⟨k,by simp[bO.1,bO.2.1];exact hk,?_⟩
  simp[List.getD,a_ h1,a_ h2]
 have h:=adk
 unfold XN at h
 rw[tC] at h
 have h1:=h _ (aQ i hi)
 rw[tC] at h1
 have h2:=h1 _ (aQ j hj)
 simp only[Bool.or_eq_true,beq_iff_eq,tQ,bne_iff_ne] at h2
 rcases h2 with (h2 | h2) | h2
 ·exact absurd h2 hne
 ·omega
 ·exact h2
end
section
open Go.RowKit
section
variable {P:Program} {w:World}
end
theorem agB {w:World}{base base':Nat}{e:TypeId}{size:Nat}{v:Value}{n:Nat}{xs:List Value}(h:w.ownsRow base e size v n xs) (hb:base'≤base):w.ownsRow base' e size v n xs:=by
 refine⟨h.1,?_⟩
 rcases h.2 with h2 | ⟨g,cap,cur,hv,hg,r⟩
 ·exact .inl h2
 ·exact .inr ⟨g,cap,cur,hv,by omega,r⟩
end
section
open Go.RowKit
def ab5 (l:List UInt8) (v i:Value):Prop:=∃k t:Nat,i = .int .i64 k∧v = .int .i64 t∧k≤l.length∧t=fC (l.take k)∧t≤30*k
def UpRel (t:Nat) (v:Value):Prop:=∃x:Nat,v = .int .i64 x∧t≤x∧(x-1) / 8≤(t-1) / 8∧x≤t+7∧(t+7) / 8=(x+7) / 8
end
section
open Go.RowKit
theorem acW (l:List UInt8) (j:Nat) (c:UInt8):(ak l).set j (bv c)=ak (l.set j c):=by simp[ak,List.map_set]
def CC (w:World) (gc:Nat):Prop:=∀i,i<257→w.cell? ⟨gc,i,none⟩=some (.int .u32 ((nG.getD i 0:Nat):Int))
theorem CC.IZ {w:World}{gc g:Nat}(h:CC w gc) (hne:gc≠g) (j:Nat) (v:Value):CC (w.setCell ⟨g,j,none⟩ v) gc:=
 fun i hi=>(World.cell?_setCell_other w ⟨g,j,none⟩ ⟨gc,i,none⟩ v (fun e=>by injection e with e;exact hne e.symm)).trans (h i hi)
structure Row (W w:World) (gl gc g N T V:Nat):Prop where
 own:w.ownsRow W.heap.size 5 1 (.slice (some ⟨g,0,none⟩) N N) N (ak (fill N T V))
 lc:LC w gl
 cc:CC w gc
 bel:Below W.heap.size W w
theorem Row.bit {W w:World}{gl gc g N T V b:Nat}(h:Row W w gl gc g N T V) (hb:b<2) (hr:T%8<7):Row W w gl gc g N (T+1) (2*V+b):=
 ⟨by rw[(OE hb hr).1];exact h.own,h.lc,h.cc,h.bel⟩
theorem Row.byte {W w:World}{gl gc g N T V b:Nat}(h:Row W w gl gc g N T V) (hb:b<2) (hr:T%8=7) (hN:T / 8<N) (h1:gl≠g) (h2:gc≠g) (hg:W.heap.size≤g) :
 Row W (w.setCell ⟨g,T / 8,none⟩ (.int .u8 ((V%2^(T%8)*2+b:Nat):Int))) gl gc g N (T+1) (2*V+b):=by
 obtain⟨f1,-,f3⟩:=Yg (N:=N) (V:=V) hb hr hN
 have hst:=(World.ownsRow.stored h.own (T / 8) (bv (UInt8.ofNat (V%2^(T%8)*2+b)))).1
 rw[acW,←f1] at hst
 rw[bv,toNat_ofNat f3] at hst
 exact⟨hst,h.lc.IZ h1 _ _,h.cc.IZ h2 _ _,h.bel.setCell (p:=⟨g,_,none⟩) hg _⟩
theorem Row.cell {W w:World}{gl gc g N T V:Nat}(h:Row W w gl gc g N T V){j:Nat}(hj:j<N) (hT:T / 8≤N):∃x:Nat,w.cell? ⟨g,j,none⟩=some (.int .u8 (x:Int)):=by
 refine⟨ba (fill N T V) j,?_⟩
 rw[World.ownsRow.cellAt h.own j (by omega),ak,List.getElem?_map,a_ (by rw[Yh V hT];exact hj)]
 simp[bv,ba,List.getD,a_ (show j<(fill N T V).length by rw[Yh V hT];exact hj)]
theorem Row.frozen {W w:World}{gl gc g N T V:Nat}(h:Row W w gl gc g N T V) (j:Nat):w.frozen? ⟨g,j,none⟩=false:=World.ownsRow.frozenAt h.own j
def abY (W:World) (gl gc g N:Nat) (l:List UInt8) (av pv iv:Value) (w:World):Prop:=
 ∃k T V p:Nat,iv = .int .i64 k∧k≤l.length∧av = .int .i64 T∧pv = .int .u8 p∧T=fC (l.take k)∧V=EP (l.take k)∧p=V%2^(T%8)∧Row W w gl gc g N T V
def abD (W:World) (gl gc g N T0 V0 n c:Nat) (av pv jv:Value) (w:World):Prop:=
 ∃j T V p:Nat,jv = .int .i64 ((j:Int)-1)∧j≤n∧av = .int .i64 T∧pv = .int .u8 p∧T=T0+(n-j)∧V=V0*2^(n-j)+c / 2^j∧p=V%2^(T%8)∧Row W w gl gc g N T V
def abU (W:World) (gl gc g N T0 V0:Nat) (av pv:Value) (w:World):Prop:=
 ∃q T V p:Nat,av = .int .i64 T∧pv = .int .u8 p∧T=T0+q∧V=V0*2^q+(2^q-1)∧T≤8*N∧(T%8=0∨p=V%2^(T%8))∧Row W w gl gc g N T V
end
section
open Go.RowKit
theorem _root_.Go.RowKit.Below.tr2 {w w1 w2:World}(h:Below w.heap.size w w1) (h2:Below w1.heap.size w1 w2):Below w.heap.size w w2:=h.trans (h2.mono h.size)
theorem Jz:Full 7 127:=⟨by omega,by omega,rfl⟩
section
variable {w w':World}
theorem ZJ {B0 B1:Nat}{v:Value}{l k:List UInt8}(h:w.ownsRow B1 5 1 v (l.length+k.length) (ak l++ak k)) (hb:B0≤B1):b_ w B0 v (l++k):=by
 unfold b_
 rw[aN,mU]
 exact agB h hb
end
theorem aeV:(Tryz.prog.info? 5).map (fun i=>(i.zero,i.size,i.bytes))=some (some (.int .u8 0),1,1):=by kernel_rfl
end
section
open Go.RowKit

end
section
open Go.RowKit

end
section
open Go.RowKit
abbrev Node:=Nat×Nat×Int
def CX:Node:=(0,0,-1)
def nxt (x:Node) (b:Nat):Nat:=if b=0 then x.1 else x.2.1
def aax (x:Node) (b v:Nat):Node:=if b=0 then (v,x.2) else (x.1,v,x.2.2)
def MZ (st:List Node×Nat) (b:Nat):List Node×Nat:=
 if nxt (st.1.getD st.2 CX) b=0 then ((st.1++[CX]).set st.2 (aax (st.1.getD st.2 CX) b st.1.length),st.1.length) else (st.1,nxt (st.1.getD st.2 CX) b)
def WfT (T:List Node):Prop:=∀i,(T.getD i CX).1<T.length∧(T.getD i CX).2.1<T.length
structure WfS (st:List Node×Nat):Prop where
 wf:WfT st.1
 pos:st.2<st.1.length
theorem WfS.nxt {st:List Node×Nat}(h:WfS st) (b:Nat):nxt (st.1.getD st.2 CX) b<st.1.length:=by
 unfold Go.Proofs.YtpkmciohehaboaaGreatDoor.nxt
 split
 ·exact (h.wf _).1
 ·exact (h.wf _).2
theorem WfS.step {st:List Node×Nat}(h:WfS st) (b:Nat):WfS (MZ st b)∧(MZ st b).1.length≤st.1.length+1∧st.1.length≤(MZ st b).1.length:=by
 unfold MZ
 split
 ·refine⟨⟨?_,?_⟩,by simp,by simp⟩
  ·intro i
   simp only[List.length_set,aN,List.length_singleton]
   have hw:=h.wf i
   have hp:=h.wf st.2
   have h0:=h.pos
   rw[List.getD,List.getElem?_set]
   by_cases hi:st.2=i
   ·rw[ax hi,ax (by simp;omega)]
    unfold aax
    simp only[Option.getD_some]
    split <;> refine⟨?_,?_⟩ <;> (dsimp only;omega)
   ·rw[aj hi]
    rcases vW i st.1.length with hl | hl
    ·rw[vT hl]
     rw[List.getD] at hw
     exact⟨by omega,by omega⟩
    ·rw[kF hl]
     rcases Nat.eq_or_lt_of_le hl with he | hlt
     ·rw[←he,zV];simp[CX]
     ·rw[List.getElem?_eq_none (by simp;omega)];simp[CX]
  ·simp
 ·exact⟨⟨h.wf,h.nxt b⟩,by simp,by simp⟩
end
section
open Go.RowKit
def tr0:List (Nat×Nat×Nat):=[
 (0,0,0)]
def tr2:List (Nat×Nat×Nat):=[
 (0,1,0),(0,2,0),(0,3,0),(0,4,0),(0,5,0),(0,6,0),(0,7,0),(0,8,0),(0,9,0),(0,10,0),(11,14,0),(12,0,0),
 (13,0,0),(0,0,1),(0,15,0),(0,16,0),(0,17,0),(0,18,0),(0,19,0),(0,20,0),(21,27,0),(0,22,0),(0,23,0),(24,0,0),
 (25,0,0),(26,0,0),(0,0,2),(0,28,0),(50,29,0),(0,30,0),(0,31,0),(0,32,0),(33,55,0),(34,46,0),(35,39,0),(0,36,0),
 (37,38,0),(0,0,3),(0,0,4),(40,43,0),(41,42,0),(0,0,5),(0,0,6),(44,45,0),(0,0,7),(0,0,8),(47,67,0),(48,63,0),
 (49,62,0),(0,0,9),(0,51,0),(52,0,0),(0,53,0),(54,0,0),(0,0,10),(74,56,0),(91,57,0),(0,58,0),(0,59,0),(60,81,0),
 (61,65,0),(0,0,11),(0,0,12),(64,66,0),(0,0,13),(0,0,14),(0,0,15),(68,71,0),(69,70,0),(0,0,16),(0,0,17),(72,73,0),
 (0,0,18),(0,0,19),(75,84,0),(76,79,0),(77,78,0),(0,0,20),(0,0,21),(80,83,0),(0,0,22),(82,0,0),(0,0,23),(0,0,24),
 (85,88,0),(86,87,0),(0,0,25),(0,0,26),(89,90,0),(0,0,27),(0,0,28),(92,95,0),(93,94,0),(0,0,29),(0,0,30),(96,97,0),
 (0,0,31),(0,0,32)]
end
section
open Go.RowKit

end
section
open Go.RowKit

end
section
open Go.RowKit
def Ga:Option (List UInt8)→Value
 | none=>.tuple #[.string ByteArray.empty,.int .i64 10]
 | some l=>.tuple #[.string ⟨l.toArray⟩,.int .i64 0]
def abH (W:World) (B:Nat) (l:List UInt8) (cv nv ov iv v:Value) (w:World):Prop:=
 ∃i c n:Nat,∃ones:Bool,∃out:List UInt8,iv = .int .i64 i∧i≤8*l.length∧cv = .int .u32 c∧nv = .int .i64 n∧ov = .bool ones∧oN c n∧out.length+n≤i ∧
  xz l=pY c n ones out ((qO l).drop i)∧w.ownsRow (B+1) 5 1 v out.length (ak out)∧Bk w B∧Below W.heap.size W w
theorem adK (b o n cap:Nat) (l:List UInt8) (w:World) (hn0 : 0<n) (hn16:n≤1048576) (hn:n=l.length) (hb:b<w.heap.size) (hc:∀j,j<n→w.cell? ⟨b,o+j,none⟩=some (.int .u8 (ba l j:Int))) :
 Calls Tryz.prog 227 #[.slice (some ⟨b,o,none⟩) n cap] w fun e w'=>e = .returned (Ga (xz l))∧Below w.heap.size w w':=by
 have HN:=af hn
 have HC:=af hc
 clear hn hc
 go_enter Tryz.func227,Tryz.ntmps227
 go_wp2_with fail
 refine (ZE w).mono ?_
 rintro e w1 ⟨B,rfl,hbk,hB,hb1⟩
 have jF:=af (show Bk w1 B from hbk)
 have hBlt:=jE.lt hbk
 clear hbk
 go_wp2
 go_loopw [6,7,8,16,5] (abH w B l) (fun _ _ _ i _ _=>8*n-(intOf i).toNat)
 case atStart=>exact⟨0,0,0,true,[],rfl,by omega,rfl,rfl,rfl,oN.zero,by simp,rfl,World.ownsRow_nil _ _ _ _,jF.out,hb1⟩
 case round=>
  obtain⟨i,c,d,ones,out,rfl,hi,rfl,rfl,rfl,hmid,hol,hdec,hown,hbk,hbel⟩:=hrel
  have hi':i≤8*n:=by have:=HN.out;omega
  clear hi
  by_cases hlt:i<8*n
  ·obtain⟨q,hq⟩:∃q,q=i / 8:=⟨_,rfl⟩
   obtain⟨r,hr⟩:∃r,r=i%8:=⟨_,rfl⟩
   have eq1:(i:Int) / 8=(q:Int):=by omega
   have er1:(i:Int)%8=(r:Int):=by omega
   have hqn:q<n:=by omega
   have ze:r<8:=by omega
   have hcell:wr.cell? ⟨b,o+q,none⟩=some (.int .u8 (ba l q:Int)):=by rw[(bcell hbel).1 b _ hb];exact HC.out q hqn
   have hx:=jg l q
   have hc30:=hmid.pow30
   have hd:=hmid.le
   obtain⟨y,hy⟩:∃y,y=ba l q / 2^(7-r):=⟨_,rfl⟩
   have ey:(ba l q:Int) / 2^(7-r)=(y:Int):=by rw[hy];simp
   have hy256:y<256:=by rw[hy];exact Nat.lt_of_le_of_lt (Nat.div_le_self _ _) hx
   obtain⟨bt,Cs⟩:∃bt,bt=Aj l i:=⟨_,rfl⟩
   have O0:bt<2:=by rw[Cs];exact acP l i
   have hbty:y%2=bt:=by rw[Cs,hy,Aj,hq,hr]
   have eb:=and_one y hy256
   rw[hbty] at eb
   have eo:=agt hc30 O0
   have hlt30:=hmid.lt O0
   have hge:=hmid.ge (b:=bt)
   have hc2 : 2*c+bt<1073741824:=by omega
   have hstep:=hdec
   rw[acT (by have:=HN.out;omega),←Cs,pY,hmid.hit] at hstep
   have hcf:=Bk.first hbk (i:=d+1) (by omega)
   have hcm:=Bk.many hbk (i:=d+1) (by omega)
   have sj:=hmid.next O0
   have hroom:=hmid.room (b:=bt)
   have CQ:M3 (2*c+bt) (d+1)=EL.getD (DR.getD (d+1) 0+(2*c+bt-firstT.getD (d+1) 0)) 0:=rfl
   generalize hd1:d+1=d1 at *
   have ed:(d:Int)+1=(d1:Int):=by omega
   have hd31:(d1:Int)<31:=by omega
   generalize firstT.getD d1 0=f at *
   generalize pq.getD d1 0=m at *
   generalize 2*c+bt=c2 at *
   have HD:=af hstep
   have mO:=af sj
   have jF:=af hbk
   have nX:=af hown
   generalize hx:c2-f=x at *
   have ew1:IntKind.u32.wrap ((c2:Int)-(f:Int))=(x:Int):=by rw[IntWalk.u32_in _ ⟨by omega,by omega⟩];omega
   have ew2:IntKind.i64.wrap (x:Int)=(x:Int):=IntWalk.i64_in _ ⟨by omega,by omega⟩
   have e6:decide (c2<f)=false:=by simp;omega
   have hcfr:=Bk.from_ jF.out (i:=d1) (by omega)
   generalize DR.getD d1 0=fr at *
   have hbi:((bt:Int)==1)=(bt==1):=by rw[yl,beq_iff_eq,beq_iff_eq];omega
   have HBI:=af hbi
   clear hdec hstep hmid hbk hown hq hr hy Cs hbty sj hlt30 hd1 hx hbi
   by_cases hhit:x<m
   ·have e7:decide (m≤x)=false:=by simp;omega
    have hp:=hroom hhit
    have ew3:IntKind.i64.wrap ((fr:Int)+(x:Int))=((fr+x:Nat):Int):=by rw[IntWalk.i64_in _ ⟨by omega,by omega⟩];omega
    have hcs:=Bk.sym jF.out hp
    have hsv:=aiV (fr+x)
    have hst:=HD.out
    rw[ax (bP hhit),CQ] at hst
    generalize EL.getD (fr+x) 0=sv at *
    generalize fr+x=p at *
    have hp257:(p:Int)<257:=by omega
    have HST:=af hst
    clear hst CQ hroom
    by_cases hs:sv=256
    ·subst hs
     have hnone:xz l=none:=by rw[HST.out,ax rfl]
     have HNO:=af hnone
     clear hnone
     cases ones <;>
     ·go_wp2
      go_quiet (fail)
      go_wp2
      go_quiet (fail)
      go_wp2
      go_ret2
      exact⟨by rw[HNO.out];rfl,hbel.drewN _⟩
    ·have e8:((sv:Int)==256)=false:=by rw[fO];omega
     have hs256:sv<256:=by omega
     rw[aj hs] at HST
     clear hs
     cases ones <;>
     ·go_wp2
      go_quiet (fail)
      go_wp2
      go_quiet (fail)
      clear ew1 ew2 ew3
      go_wp2_with (at_builtin;refine dQ (.tmp 90) (.tmp 93) iT rfl rfl (World.ownsRow.alloc nX.out _) rfl (Rd.one _ _ _) rfl (Ta _ _) (bn (by omega)) (by omega) (by have:=jE.lt jF.out;simp;omega) ?_;intro v3 w3 eB hg3 _)
      refine⟨⟨i+1,0,0,true,out++[UInt8.ofNat sv],by go_num,by have:=HN.out;omega,rfl,rfl,rfl,oN.zero,by simp;omega,HST.out,?_,?_,?_⟩,by simp[intOf];omega⟩
      ·exact b_.snoc eB (by rw[bv,toNat_ofNat hs256])
      ·exact Bk.grown (Bk.alloc (Bk.drewN jF.out _) _) hg3 (fun e=>by have:=(World.ownsRow.lt nX.out B e.symm).1;omega)
      ·exact Below.app ((hbel.drewN _).alloc hbel.size _) (World.ownsRow.alloc nX.out _) hg3 (by omega) (by have:=hbel.size;simp;omega)
   ·have e7:decide (m≤x)=true:=by simp;omega
    have hst:=HD.out
    rw[aj (by simp;omega)] at hst
    have HST:=af hst
    clear hst CQ hroom
    cases ones
    ·go_wp2
     go_quiet (fail)
     go_wp2
     exact⟨⟨i+1,c2,d1,false,out,by go_num,by have:=HN.out;omega,rfl,rfl,rfl,mO.out (by omega),by omega,HST.out,nX.out,jF.out,hbel.drewN _⟩,by simp[intOf];omega⟩
    ·go_wp2
     go_quiet (fail)
     go_wp2
     exact⟨⟨i+1,c2,d1,bt==1,out,by go_num,by have:=HN.out;omega,rfl,rfl,by rw[HBI.out],mO.out (by omega),by omega,HST.out,nX.out,jF.out,hbel.drewN _⟩,by simp[intOf];omega⟩
  ·obtain rfl:i=8*n:=by omega
   have hnil:(qO l).drop (8*n)=[]:=List.drop_eq_nil_of_le (by rw[Xt,HN.out];exact ah _)
   rw[hnil,pY] at hdec
   have hlen:(8*(n:Int))=((8*n:Nat):Int):=by omega
   obtain⟨A,cc,rfl,-,-,hrd,-⟩:=aC hown
   have zi:=sJ Tryz.underlying48 Tryz.underlying5 Tryz.underlying9 hrd cc
   by_cases h7 : 7<d
   ·rw[ax (Or.inl h7)] at hdec
    have HD:=af hdec
    clear hdec hnil hown hrd zi hmid hbk hlen
    cases ones <;>
    ·go_wp2
     go_ret2
     exact⟨by rw[HD.out];rfl,hbel⟩
   ·cases ones
    ·rw[ax (Or.inr rfl)] at hdec
     have HD:=af hdec
     clear hdec hnil hown hrd zi hmid hbk hlen
     go_wp2
     go_ret2
     exact⟨by rw[HD.out];rfl,hbel⟩
    ·rw[aj (by simp;omega)] at hdec
     have HD:=af hdec
     clear hdec hnil hown hrd hmid hbk hlen
     go_wp2
     go_ret2
     exact⟨by rw[HD.out];rfl,hbel⟩
theorem adI (A:Option Addr) (cap:Nat) (w:World):Calls Tryz.prog 227 #[.slice A 0 cap] w fun e w'=>e = .returned (Ga (xz []))∧Below w.heap.size w w':=by
 have hd:xz []=some []:=by decide +kernel
 have HD:=af hd
 clear hd
 go_enter Tryz.func227,Tryz.ntmps227
 go_wp2_with fail
 refine (ZE w).mono ?_
 rintro e w1 ⟨B,rfl,hbk,hB,hb1⟩
 have zi:=sJ (P:=Tryz.prog) (w:=w1) Tryz.underlying48 Tryz.underlying5 Tryz.underlying9 (show Rd w1 0 1 none 0 (ak []) from Rd.none_ w1 0 1 none) 0
 clear hbk
 go_wp2
 refine wp_loop_rounds 1 ?_
 rw[rounds_succ]
 go_wp2
 go_ret2
 exact⟨by rw[HD.out];rfl,hb1⟩
theorem X4 {A:Option Addr}{n cap:Nat}{l:List UInt8}{w:World}(hr:Rd w w.heap.size 1 A n (ak l)) (hn:n≤1048576) :
 Calls Tryz.prog 227 #[.slice A n cap] w fun e w'=>e = .returned (Ga (xz l))∧Below w.heap.size w w':=by
 rcases zT n with rfl | hn0
 ·have hl0:l=[]:=zR hr.mR
  subst hl0
  exact adI A cap w
 ·obtain⟨hl,b,o,rfl,hb,hc⟩:=hr.tL hn0
  exact adK b o n cap l w hn0 hn hl.symm hb hc
end
section
open Go.RowKit
theorem _root_.Go.RowKit.Below.tr {w w1 w2:World}(h:Below w.heap.size w w1) (h2:Below w1.heap.size w1 w2):Below w.heap.size w w2:=h.trans (h2.mono h.size)
end
section
open Go.RowKit

end
section
open Go.RowKit

end
section
open Go.RowKit

end
section
open Go.RowKit

end
end Go.Proofs.YtpkmciohehaboaaGreatDoor
