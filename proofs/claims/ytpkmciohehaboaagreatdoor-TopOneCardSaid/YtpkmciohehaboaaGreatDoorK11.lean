/- Part 11 of the proof. -/
import Derived.Test.YtpkmciohehaboaaGreatDoorK0
import Derived.Test.YtpkmciohehaboaaGreatDoorK10
import Derived.Deep.WholeRow
set_option maxRecDepth 100000
set_option maxHeartbeats 100000000
set_option linter.unusedVariables false
set_option linter.unusedSimpArgs false
set_option linter.unusedSectionVars false
set_option linter.unnecessarySimpa false
namespace Go.Proofs.YtpkmciohehaboaaGreatDoor
section
open Go.RowKit
def lg:ByteArray:=⟨#[99,111,110,110,101,99,116,105,111,110]⟩
def DI:ByteArray:=⟨#[112,114,111,120,121,45,99,111,110,110,101,99,116,105,111,110]⟩
def DJ:ByteArray:=⟨#[107,101,101,112,45,97,108,105,118,101]⟩
def oq:ByteArray:=⟨#[116,114,97,110,115,102,101,114,45,101,110,99,111,100,105,110,103]⟩
def DK:ByteArray:=⟨#[117,112,103,114,97,100,101]⟩
def nH (s:ByteArray):Bool:=decide (s=lg∨s=DI∨s=DJ∨s=oq∨s=DK)
theorem pg {s c:ByteArray}{l:List UInt8}(hl:c.toList=l):(s.toList==l)=decide (s=c):=by
 subst hl
 by_cases h:s=c
 ·rw[bP h,h];simp
 ·rw[bU h];exact (Lib.bytes_beq_false_iff s c).2 h
theorem sG {s c:ByteArray}(h:¬s=c):(s.toList==c.toList)=false:=(Lib.bytes_beq_false_iff s c).2 h
theorem agc (s:ByteArray) (w:World):Calls Tryz.prog 120 #[.string s] w fun e w'=>e = .returned (.bool (nH s))∧w=w':=by
 have l1:lg.toList=[99,111,110,110,101,99,116,105,111,110]:=by decide +kernel
 have l2:DI.toList=[112,114,111,120,121,45,99,111,110,110,101,99,116,105,111,110]:=by decide +kernel
 have l3:DJ.toList=[107,101,101,112,45,97,108,105,118,101]:=by decide +kernel
 have l4:oq.toList=[116,114,97,110,115,102,101,114,45,101,110,99,111,100,105,110,103]:=by decide +kernel
 have l5:DK.toList=[117,112,103,114,97,100,101]:=by decide +kernel
 obtain⟨R,hR⟩:∃R,nH s=R:=⟨_,rfl⟩
 rw[hR]
 have HR:=af hR
 clear hR
 by_cases h1:s=lg
 ·have hr:R=true:=by rw[←HR.out];exact bP (.inl h1)
  subst hr
  clear HR
  have e1:(s.toList == [99,111,110,110,101,99,116,105,111,110])=true:=by rw[h1,l1];rfl
  clear h1 l1 l2 l3 l4 l5
  go_enter Tryz.func120,Tryz.ntmps120
  go_wp2
  go_ret
  exact⟨rfl,rfl⟩
 have e1:(s.toList == [99,111,110,110,101,99,116,105,111,110])=false:=by rw[←l1];exact sG h1
 by_cases h2:s=DI
 ·have hr:R=true:=by rw[←HR.out];exact bP (.inr (.inl h2))
  subst hr
  clear HR
  have e2:(s.toList == [112,114,111,120,121,45,99,111,110,110,101,99,116,105,111,110])=true:=by rw[h2,l2];rfl
  clear h1 h2 l1 l2 l3 l4 l5
  go_enter Tryz.func120,Tryz.ntmps120
  go_wp2
  go_ret
  exact⟨rfl,rfl⟩
 have e2:(s.toList == [112,114,111,120,121,45,99,111,110,110,101,99,116,105,111,110])=false:=by rw[←l2];exact sG h2
 by_cases h3:s=DJ
 ·have hr:R=true:=by rw[←HR.out];exact bP (.inr (.inr (.inl h3)))
  subst hr
  clear HR
  have e3:(s.toList == [107,101,101,112,45,97,108,105,118,101])=true:=by rw[h3,l3];rfl
  clear h1 h2 h3 l1 l2 l3 l4 l5
  go_enter Tryz.func120,Tryz.ntmps120
  go_wp2
  go_ret
  exact⟨rfl,rfl⟩
 have e3:(s.toList == [107,101,101,112,45,97,108,105,118,101])=false:=by rw[←l3];exact sG h3
 by_cases h4:s=oq
 ·have hr:R=true:=by rw[←HR.out];exact bP (.inr (.inr (.inr (.inl h4))))
  subst hr
  clear HR
  have e4:(s.toList == [116,114,97,110,115,102,101,114,45,101,110,99,111,100,105,110,103])=true:=by rw[h4,l4];rfl
  clear h1 h2 h3 h4 l1 l2 l3 l4 l5
  go_enter Tryz.func120,Tryz.ntmps120
  go_wp2
  go_ret
  exact⟨rfl,rfl⟩
 have e4:(s.toList == [116,114,97,110,115,102,101,114,45,101,110,99,111,100,105,110,103])=false:=by rw[←l4];exact sG h4
 by_cases h5:s=DK
 ·have hr:R=true:=by rw[←HR.out];exact bP (.inr (.inr (.inr (.inr h5))))
  subst hr
  clear HR
  have e5:(s.toList == [117,112,103,114,97,100,101])=true:=by rw[h5,l5];rfl
  clear h1 h2 h3 h4 h5 l1 l2 l3 l4 l5
  go_enter Tryz.func120,Tryz.ntmps120
  go_wp2
  go_ret
  exact⟨rfl,rfl⟩
 have e5:(s.toList == [117,112,103,114,97,100,101])=false:=by rw[←l5];exact sG h5
 have hr:R=false:=by rw[←HR.out];exact bU (by rintro (h | h | h | h | h) <;> contradiction)
 subst hr
 clear HR
 clear h1 h2 h3 h4 h5 l1 l2 l3 l4 l5
 go_enter Tryz.func120,Tryz.ntmps120
 go_wp2
 go_ret
 exact⟨rfl,rfl⟩
def xB (f:Fd):Value:=.agg #[.string f.1.1,.string f.1.2,.bool f.2]
def gy (s:ByteArray):Bool:=Lib.hasPrefix s.data.toList [58]
theorem ag5 (f:Fd) (w:World):Calls Tryz.prog 81 #[xB f] w fun e w'=>e = .returned (.bool (gy f.1.1))∧Below w.heap.size w w':=by
 obtain⟨⟨n,v⟩,nv⟩:=f
 have HP:=af (fun w=>Any.strings_HasPrefix Tryz.lays99 n ⟨#[58]⟩ w)
 obtain⟨R,hR⟩:∃R,Lib.hasPrefix n.data.toList [58]=R:=⟨_,rfl⟩
 have hl:(⟨#[58]⟩:ByteArray).data.toList=[58]:=rfl
 rw[hl,hR] at HP
 unfold gy xB
 rw[hR]
 clear hR hl
 go_enter Tryz.func81,Tryz.ntmps81
 go_wp2_with fail
 refine (HP.out _).mono ?_
 rintro e w1 ⟨rfl,rfl⟩
 go_wp2
 go_ret
 exact⟨rfl,(Below.refl _ _).alloc (ah _) _⟩
def wW:ByteArray:=⟨#[116,101]⟩
def He:ByteArray:=⟨#[116,114,97,105,108,101,114,115]⟩
def xX (f:Fd):Bool:=iB f.1.1.data.toList && decide (aO f.1.1.data.toList=f.1.1.data.toList) && iI f.1.2.data.toList && !nH f.1.1 && (decide (f.1.1≠wW) || decide (f.1.2=He))
theorem agV (f:Fd) (w:World) (h1:f.1.1.size≤140737488351232) (h2:f.1.2.size≤140737488351232):Calls Tryz.prog 82 #[xB f] w fun e w'=>e = .returned (.bool (xX f))∧Below w.heap.size w w':=by
 obtain⟨⟨n,v⟩,nv⟩:=f
 dsimp only at h1 h2
 have HT:=af (fun w=>Nb n w (by omega))
 have HL:=af (fun w=>IM n w (by omega))
 have HV:=af (fun w=>abp v w (by omega))
 have HC:=af (fun w=>agc n w)
 have HW:=af ((Below.refl w.heap.size w).alloc (ah _) (.cells #[.string n,.string v,.bool nv] 26))
 unfold xB xX
 dsimp only
 obtain⟨T,hT⟩:∃T,iB n.data.toList=T:=⟨_,rfl⟩
 obtain⟨V,hV⟩:∃V,iI v.data.toList=V:=⟨_,rfl⟩
 obtain⟨C,hC⟩:∃C,nH n=C:=⟨_,rfl⟩
 obtain⟨L,hL⟩:∃L:ByteArray,⟨(aO n.data.toList).toArray⟩=L:=⟨_,rfl⟩
 have hLn:decide (aO n.data.toList=n.data.toList)=decide (L=n):=by
  rw[←hL]
  exact decide_eq_decide.2 ⟨fun h=>by rw[h],fun h=>by have:=congrArg (fun x:ByteArray=>x.data.toList) h;simpa using this⟩
 rw[hLn]
 rw[hT] at HT ⊢
 rw[hL] at HL
 rw[hV] at HV ⊢
 rw[hC] at HC ⊢
 clear hLn hT hV hC hL
 obtain⟨R,hR⟩:∃R,(T && decide (L=n) && V && !C && (decide (n≠wW) || decide (v=He)))=R:=⟨_,rfl⟩
 rw[hR]
 have HR:=af hR
 clear hR
 have BZ:=af (And.intro h1 h2)
 clear h1 h2
 have e1:(n.toList == [116,101])=decide (n=wW):=pg (by decide +kernel)
 have e2:(v.toList == [116,114,97,105,108,101,114,115])=decide (v=He):=pg (by decide +kernel)
 have e3:(L.toList==n.toList)=decide (L=n):=pg rfl
 have hn:decide (n≠wW) = !decide (n=wW):=by simp
 rw[hn] at HR
 clear hn
 obtain⟨X,hX⟩:∃X,decide (n=wW)=X:=⟨_,rfl⟩
 obtain⟨Y,hY⟩:∃Y,decide (v=He)=Y:=⟨_,rfl⟩
 obtain⟨Z,hZ⟩:∃Z,decide (L=n)=Z:=⟨_,rfl⟩
 rw[hX] at e1 HR
 rw[hY] at e2 HR
 rw[hZ] at e3 HR
 clear hX hY hZ
 go_enter Tryz.func82,Tryz.ntmps82
 go_wp2_with fail
 have hblk:=heap_alloc_new w (.cells #[.string n,.string v,.bool nv] 26)
 have zb:w.heap.size<(w.alloc (.cells #[.string n,.string v,.bool nv] 26)).heap.size:=by rw[World.alloc,Array.size_push];exact rQ _
 have hblk:=heap_alloc_new w (.cells #[.string n,.string v,.bool nv] 26)
 have zb:w.heap.size<(w.alloc (.cells #[.string n,.string v,.bool nv] 26)).heap.size:=by rw[World.alloc,Array.size_push];exact rQ _
 have hblk:=heap_alloc_new w (.cells #[.string n,.string v,.bool nv] 26)
 have zb:w.heap.size<(w.alloc (.cells #[.string n,.string v,.bool nv] 26)).heap.size:=by rw[World.alloc,Array.size_push];exact rQ _
 generalize hq:w.heap.size=q at *
 generalize Bl:w.alloc (.cells #[.string n,.string v,.bool nv] 26)=wa at *
 have c0:wa.cell? ⟨q,0,none⟩=some (.string n):=by unfold World.cell?;rw[hblk];rfl
 have c1:wa.cell? ⟨q,1,none⟩=some (.string v):=by unfold World.cell?;rw[hblk];rfl
 have HQ:Hid (q<wa.heap.size):=af zb
 have HN:=af c0
 have n_:=af c1
 have Fx:=af hq
 clear hblk zb Bl hq
 cases T with
 | false=>
  have hr:R=false:=by rw[←HR.out];rfl
  subst hr
  clear HR
  refine wp_region_held_drew (S:=fun w'=>w'.cell? ⟨q,0,none⟩=some (.string n)∧w'.cell? ⟨q,1,none⟩=some (.string v)) (by kernel_rfl) ⟨HN.out,n_.out⟩ (fun hH=>?_)
  refine ag 0 3 hH ?_
  refine ag 1 4 hH ?_
  refine aR 2 (fun K hK=>?_)
  go_simp
  refine (HT.out _).mono ?_
  rintro e w1 ⟨rfl,rfl⟩
  refine hK.out _ _ ⟨hH.1,hH.2⟩ (fun hH=>?_)
  clear hK K
  try simp only[Act.put,az,ay,aA]
  refine ag 3 6 hH ?_
  refine ai 4 7 hH ?_
  refine ai 5 8 hH ?_
  refine ai 7 10 hH ?_
  refine ai 8 11 hH ?_
  refine aR 6 (fun K hK=>?_)
  go_simp
  refine hK.out _ _ hH (fun hH=>?_)
  clear hK K
  try simp only[Act.put,az,ay,aA]
  refine ai 9 12 hH ?_
  refine ag 10 13 hH ?_
  refine ag 11 14 hH ?_
  refine ai 12 15 hH ?_
  refine ai 13 16 hH ?_
  refine aR 14 (fun K hK=>?_)
  go_simp
  refine hK.out _ _ hH (fun hH=>?_)
  clear hK K
  try simp only[Act.put,az,ay,aA]
  refine ag 15 18 hH ?_
  refine ag 16 19 hH ?_
  refine ai 17 20 hH ?_
  refine ai 18 21 hH ?_
  refine aR 19 (fun K hK=>?_)
  go_simp
  refine hK.out _ _ hH (fun hH=>?_)
  clear hK K
  try simp only[Act.put,az,ay,aA]
  refine ai 20 23 hH ?_
  refine ag 21 24 hH ?_
  refine ag 22 25 hH ?_
  refine ai 23 26 hH ?_
  refine ai 24 27 hH ?_
  refine ai 25 28 hH ?_
  refine ai 26 29 hH ?_
  refine ai 27 30 hH ?_
  refine ai 28 31 hH ?_
  refine ai 29 32 hH ?_
  refine ai 30 33 hH ?_
  refine ag 31 34 hH ?_
  refine ag 32 2 hH ?_
  refine wpAnyH_done (by kernel_rfl) ?_ _
  go_wp2
  go_ret
  exact⟨rfl,by rw[Fx.out];exact⟨HW.out.os,HW.out.tape,HW.out.output,HW.out.size,HW.out.block⟩⟩
 | true=>
  cases Z with
  | false=>
   have hr:R=false:=by rw[←HR.out];rfl
   subst hr
   clear HR
   refine wp_region_held_drew (S:=fun w'=>w'.cell? ⟨q,0,none⟩=some (.string n)∧w'.cell? ⟨q,1,none⟩=some (.string v)) (by kernel_rfl) ⟨HN.out,n_.out⟩ (fun hH=>?_)
   refine ag 0 3 hH ?_
   refine ag 1 4 hH ?_
   refine aR 2 (fun K hK=>?_)
   go_simp
   refine (HT.out _).mono ?_
   rintro e w1 ⟨rfl,rfl⟩
   refine hK.out _ _ ⟨hH.1,hH.2⟩ (fun hH=>?_)
   clear hK K
   try simp only[Act.put,az,ay,aA]
   refine ag 3 6 hH ?_
   refine ag 4 7 hH ?_
   refine ag 5 8 hH ?_
   refine ag 7 10 hH ?_
   refine ag 8 11 hH ?_
   refine aR 6 (fun K hK=>?_)
   go_simp
   refine (HL.out _).mono ?_
   rintro e w3 ⟨rfl,hb3⟩
   have k0:=(hb3.cell (p:=⟨q,0,none⟩) HQ.out).trans HN.out
   have k1:=(hb3.cell (p:=⟨q,1,none⟩) HQ.out).trans n_.out
   have H3:Hid (Below q w w3):=af (Below.trans (by exact⟨HW.out.os,HW.out.tape,HW.out.output,HW.out.size,HW.out.block⟩) (hb3.mono (mg HQ.out)))
   have Q3:Hid (q<w3.heap.size):=af (fI HQ.out hb3.size)
   clear hb3
   refine hK.out _ _ ⟨k0,k1⟩ (fun hH=>?_)
   clear hK K
   try simp only[Act.put,az,ay,aA]
   refine ag 9 12 hH ?_
   refine ag 10 13 hH ?_
   refine ag 11 14 hH ?_
   refine ai 12 15 hH ?_
   refine ai 13 16 hH ?_
   refine aR 14 (fun K hK=>?_)
   go_simp
   refine hK.out _ _ hH (fun hH=>?_)
   clear hK K
   try simp only[Act.put,az,ay,aA]
   refine ag 15 18 hH ?_
   refine ag 16 19 hH ?_
   refine ai 17 20 hH ?_
   refine ai 18 21 hH ?_
   refine aR 19 (fun K hK=>?_)
   go_simp
   refine hK.out _ _ hH (fun hH=>?_)
   clear hK K
   try simp only[Act.put,az,ay,aA]
   refine ai 20 23 hH ?_
   refine ag 21 24 hH ?_
   refine ag 22 25 hH ?_
   refine ai 23 26 hH ?_
   refine ai 24 27 hH ?_
   refine ai 25 28 hH ?_
   refine ai 26 29 hH ?_
   refine ai 27 30 hH ?_
   refine ai 28 31 hH ?_
   refine ai 29 32 hH ?_
   refine ai 30 33 hH ?_
   refine ag 31 34 hH ?_
   refine ag 32 2 hH ?_
   refine wpAnyH_done (by kernel_rfl) ?_ _
   go_wp2
   go_ret
   exact⟨rfl,by rw[Fx.out];exact⟨H3.out.os,H3.out.tape,H3.out.output,H3.out.size,H3.out.block⟩⟩
  | true=>
   cases V with
   | false=>
    have hr:R=false:=by rw[←HR.out];rfl
    subst hr
    clear HR
    refine wp_region_held_drew (S:=fun w'=>w'.cell? ⟨q,0,none⟩=some (.string n)∧w'.cell? ⟨q,1,none⟩=some (.string v)) (by kernel_rfl) ⟨HN.out,n_.out⟩ (fun hH=>?_)
    refine ag 0 3 hH ?_
    refine ag 1 4 hH ?_
    refine aR 2 (fun K hK=>?_)
    go_simp
    refine (HT.out _).mono ?_
    rintro e w1 ⟨rfl,rfl⟩
    refine hK.out _ _ ⟨hH.1,hH.2⟩ (fun hH=>?_)
    clear hK K
    try simp only[Act.put,az,ay,aA]
    refine ag 3 6 hH ?_
    refine ag 4 7 hH ?_
    refine ag 5 8 hH ?_
    refine ag 7 10 hH ?_
    refine ag 8 11 hH ?_
    refine aR 6 (fun K hK=>?_)
    go_simp
    refine (HL.out _).mono ?_
    rintro e w3 ⟨rfl,hb3⟩
    have k0:=(hb3.cell (p:=⟨q,0,none⟩) HQ.out).trans HN.out
    have k1:=(hb3.cell (p:=⟨q,1,none⟩) HQ.out).trans n_.out
    have H3:Hid (Below q w w3):=af (Below.trans (by exact⟨HW.out.os,HW.out.tape,HW.out.output,HW.out.size,HW.out.block⟩) (hb3.mono (mg HQ.out)))
    have Q3:Hid (q<w3.heap.size):=af (fI HQ.out hb3.size)
    clear hb3
    refine hK.out _ _ ⟨k0,k1⟩ (fun hH=>?_)
    clear hK K
    try simp only[Act.put,az,ay,aA]
    refine ag 9 12 hH ?_
    refine ag 10 13 hH ?_
    refine ag 11 14 hH ?_
    refine ag 12 15 hH ?_
    refine ag 13 16 hH ?_
    refine aR 14 (fun K hK=>?_)
    go_simp
    refine (HV.out _).mono ?_
    rintro e w4 ⟨rfl,hb4⟩
    have j0:=(hb4.cell (p:=⟨q,0,none⟩) Q3.out).trans hH.1
    have j1:=(hb4.cell (p:=⟨q,1,none⟩) Q3.out).trans hH.2
    have H4:Hid (Below q w w4):=af (Below.trans (by exact⟨H3.out.os,H3.out.tape,H3.out.output,H3.out.size,H3.out.block⟩) (hb4.mono (mg Q3.out)))
    clear hb4
    refine hK.out _ _ ⟨j0,j1⟩ (fun hH=>?_)
    clear hK K
    try simp only[Act.put,az,ay,aA]
    refine ag 15 18 hH ?_
    refine ag 16 19 hH ?_
    refine ai 17 20 hH ?_
    refine ai 18 21 hH ?_
    refine aR 19 (fun K hK=>?_)
    go_simp
    refine hK.out _ _ hH (fun hH=>?_)
    clear hK K
    try simp only[Act.put,az,ay,aA]
    refine ai 20 23 hH ?_
    refine ag 21 24 hH ?_
    refine ag 22 25 hH ?_
    refine ai 23 26 hH ?_
    refine ai 24 27 hH ?_
    refine ai 25 28 hH ?_
    refine ai 26 29 hH ?_
    refine ai 27 30 hH ?_
    refine ai 28 31 hH ?_
    refine ai 29 32 hH ?_
    refine ai 30 33 hH ?_
    refine ag 31 34 hH ?_
    refine ag 32 2 hH ?_
    refine wpAnyH_done (by kernel_rfl) ?_ _
    go_wp2
    go_ret
    exact⟨rfl,by rw[Fx.out];exact⟨H4.out.os,H4.out.tape,H4.out.output,H4.out.size,H4.out.block⟩⟩
   | true=>
    cases C with
    | true=>
     have hr:R=false:=by rw[←HR.out];rfl
     subst hr
     clear HR
     refine wp_region_held_drew (S:=fun w'=>w'.cell? ⟨q,0,none⟩=some (.string n)∧w'.cell? ⟨q,1,none⟩=some (.string v)) (by kernel_rfl) ⟨HN.out,n_.out⟩ (fun hH=>?_)
     refine ag 0 3 hH ?_
     refine ag 1 4 hH ?_
     refine aR 2 (fun K hK=>?_)
     go_simp
     refine (HT.out _).mono ?_
     rintro e w1 ⟨rfl,rfl⟩
     refine hK.out _ _ ⟨hH.1,hH.2⟩ (fun hH=>?_)
     clear hK K
     try simp only[Act.put,az,ay,aA]
     refine ag 3 6 hH ?_
     refine ag 4 7 hH ?_
     refine ag 5 8 hH ?_
     refine ag 7 10 hH ?_
     refine ag 8 11 hH ?_
     refine aR 6 (fun K hK=>?_)
     go_simp
     refine (HL.out _).mono ?_
     rintro e w3 ⟨rfl,hb3⟩
     have k0:=(hb3.cell (p:=⟨q,0,none⟩) HQ.out).trans HN.out
     have k1:=(hb3.cell (p:=⟨q,1,none⟩) HQ.out).trans n_.out
     have H3:Hid (Below q w w3):=af (Below.trans (by exact⟨HW.out.os,HW.out.tape,HW.out.output,HW.out.size,HW.out.block⟩) (hb3.mono (mg HQ.out)))
     have Q3:Hid (q<w3.heap.size):=af (fI HQ.out hb3.size)
     clear hb3
     refine hK.out _ _ ⟨k0,k1⟩ (fun hH=>?_)
     clear hK K
     try simp only[Act.put,az,ay,aA]
     refine ag 9 12 hH ?_
     refine ag 10 13 hH ?_
     refine ag 11 14 hH ?_
     refine ag 12 15 hH ?_
     refine ag 13 16 hH ?_
     refine aR 14 (fun K hK=>?_)
     go_simp
     refine (HV.out _).mono ?_
     rintro e w4 ⟨rfl,hb4⟩
     have j0:=(hb4.cell (p:=⟨q,0,none⟩) Q3.out).trans hH.1
     have j1:=(hb4.cell (p:=⟨q,1,none⟩) Q3.out).trans hH.2
     have H4:Hid (Below q w w4):=af (Below.trans (by exact⟨H3.out.os,H3.out.tape,H3.out.output,H3.out.size,H3.out.block⟩) (hb4.mono (mg Q3.out)))
     clear hb4
     refine hK.out _ _ ⟨j0,j1⟩ (fun hH=>?_)
     clear hK K
     try simp only[Act.put,az,ay,aA]
     refine ag 15 18 hH ?_
     refine ag 16 19 hH ?_
     refine ag 17 20 hH ?_
     refine ag 18 21 hH ?_
     refine aR 19 (fun K hK=>?_)
     go_simp
     refine (HC.out _).mono ?_
     rintro e w5 ⟨rfl,rfl⟩
     refine hK.out _ _ ⟨hH.1,hH.2⟩ (fun hH=>?_)
     clear hK K
     try simp only[Act.put,az,ay,aA]
     refine ag 20 23 hH ?_
     refine ag 21 24 hH ?_
     refine ag 22 25 hH ?_
     refine ai 23 26 hH ?_
     refine ai 24 27 hH ?_
     refine ai 25 28 hH ?_
     refine ai 26 29 hH ?_
     refine ai 27 30 hH ?_
     refine ai 28 31 hH ?_
     refine ai 29 32 hH ?_
     refine ai 30 33 hH ?_
     refine ag 31 34 hH ?_
     refine ag 32 2 hH ?_
     refine wpAnyH_done (by kernel_rfl) ?_ _
     go_wp2
     go_ret
     exact⟨rfl,by rw[Fx.out];exact⟨H4.out.os,H4.out.tape,H4.out.output,H4.out.size,H4.out.block⟩⟩
    | false=>
     cases X with
     | false=>
      have hr:R=true:=by rw[←HR.out];rfl
      subst hr
      clear HR
      refine wp_region_held_drew (S:=fun w'=>w'.cell? ⟨q,0,none⟩=some (.string n)∧w'.cell? ⟨q,1,none⟩=some (.string v)) (by kernel_rfl) ⟨HN.out,n_.out⟩ (fun hH=>?_)
      refine ag 0 3 hH ?_
      refine ag 1 4 hH ?_
      refine aR 2 (fun K hK=>?_)
      go_simp
      refine (HT.out _).mono ?_
      rintro e w1 ⟨rfl,rfl⟩
      refine hK.out _ _ ⟨hH.1,hH.2⟩ (fun hH=>?_)
      clear hK K
      try simp only[Act.put,az,ay,aA]
      refine ag 3 6 hH ?_
      refine ag 4 7 hH ?_
      refine ag 5 8 hH ?_
      refine ag 7 10 hH ?_
      refine ag 8 11 hH ?_
      refine aR 6 (fun K hK=>?_)
      go_simp
      refine (HL.out _).mono ?_
      rintro e w3 ⟨rfl,hb3⟩
      have k0:=(hb3.cell (p:=⟨q,0,none⟩) HQ.out).trans HN.out
      have k1:=(hb3.cell (p:=⟨q,1,none⟩) HQ.out).trans n_.out
      have H3:Hid (Below q w w3):=af (Below.trans (by exact⟨HW.out.os,HW.out.tape,HW.out.output,HW.out.size,HW.out.block⟩) (hb3.mono (mg HQ.out)))
      have Q3:Hid (q<w3.heap.size):=af (fI HQ.out hb3.size)
      clear hb3
      refine hK.out _ _ ⟨k0,k1⟩ (fun hH=>?_)
      clear hK K
      try simp only[Act.put,az,ay,aA]
      refine ag 9 12 hH ?_
      refine ag 10 13 hH ?_
      refine ag 11 14 hH ?_
      refine ag 12 15 hH ?_
      refine ag 13 16 hH ?_
      refine aR 14 (fun K hK=>?_)
      go_simp
      refine (HV.out _).mono ?_
      rintro e w4 ⟨rfl,hb4⟩
      have j0:=(hb4.cell (p:=⟨q,0,none⟩) Q3.out).trans hH.1
      have j1:=(hb4.cell (p:=⟨q,1,none⟩) Q3.out).trans hH.2
      have H4:Hid (Below q w w4):=af (Below.trans (by exact⟨H3.out.os,H3.out.tape,H3.out.output,H3.out.size,H3.out.block⟩) (hb4.mono (mg Q3.out)))
      clear hb4
      refine hK.out _ _ ⟨j0,j1⟩ (fun hH=>?_)
      clear hK K
      try simp only[Act.put,az,ay,aA]
      refine ag 15 18 hH ?_
      refine ag 16 19 hH ?_
      refine ag 17 20 hH ?_
      refine ag 18 21 hH ?_
      refine aR 19 (fun K hK=>?_)
      go_simp
      refine (HC.out _).mono ?_
      rintro e w5 ⟨rfl,rfl⟩
      refine hK.out _ _ ⟨hH.1,hH.2⟩ (fun hH=>?_)
      clear hK K
      try simp only[Act.put,az,ay,aA]
      refine ag 20 23 hH ?_
      refine ag 21 24 hH ?_
      refine ag 22 25 hH ?_
      refine ag 23 26 hH ?_
      refine ag 24 27 hH ?_
      refine ag 25 28 hH ?_
      refine ag 26 29 hH ?_
      refine ai 27 30 hH ?_
      refine ai 28 31 hH ?_
      refine ai 29 32 hH ?_
      refine ag 30 33 hH ?_
      refine ag 31 34 hH ?_
      refine ag 32 2 hH ?_
      refine wpAnyH_done (by kernel_rfl) ?_ _
      go_wp2
      go_ret
      exact⟨rfl,by rw[Fx.out];exact⟨H4.out.os,H4.out.tape,H4.out.output,H4.out.size,H4.out.block⟩⟩
     | true=>
      cases Y with
      | false=>
       have hr:R=false:=by rw[←HR.out];rfl
       subst hr
       clear HR
       refine wp_region_held_drew (S:=fun w'=>w'.cell? ⟨q,0,none⟩=some (.string n)∧w'.cell? ⟨q,1,none⟩=some (.string v)) (by kernel_rfl) ⟨HN.out,n_.out⟩ (fun hH=>?_)
       refine ag 0 3 hH ?_
       refine ag 1 4 hH ?_
       refine aR 2 (fun K hK=>?_)
       go_simp
       refine (HT.out _).mono ?_
       rintro e w1 ⟨rfl,rfl⟩
       refine hK.out _ _ ⟨hH.1,hH.2⟩ (fun hH=>?_)
       clear hK K
       try simp only[Act.put,az,ay,aA]
       refine ag 3 6 hH ?_
       refine ag 4 7 hH ?_
       refine ag 5 8 hH ?_
       refine ag 7 10 hH ?_
       refine ag 8 11 hH ?_
       refine aR 6 (fun K hK=>?_)
       go_simp
       refine (HL.out _).mono ?_
       rintro e w3 ⟨rfl,hb3⟩
       have k0:=(hb3.cell (p:=⟨q,0,none⟩) HQ.out).trans HN.out
       have k1:=(hb3.cell (p:=⟨q,1,none⟩) HQ.out).trans n_.out
       have H3:Hid (Below q w w3):=af (Below.trans (by exact⟨HW.out.os,HW.out.tape,HW.out.output,HW.out.size,HW.out.block⟩) (hb3.mono (mg HQ.out)))
       have Q3:Hid (q<w3.heap.size):=af (fI HQ.out hb3.size)
       clear hb3
       refine hK.out _ _ ⟨k0,k1⟩ (fun hH=>?_)
       clear hK K
       try simp only[Act.put,az,ay,aA]
       refine ag 9 12 hH ?_
       refine ag 10 13 hH ?_
       refine ag 11 14 hH ?_
       refine ag 12 15 hH ?_
       refine ag 13 16 hH ?_
       refine aR 14 (fun K hK=>?_)
       go_simp
       refine (HV.out _).mono ?_
       rintro e w4 ⟨rfl,hb4⟩
       have j0:=(hb4.cell (p:=⟨q,0,none⟩) Q3.out).trans hH.1
       have j1:=(hb4.cell (p:=⟨q,1,none⟩) Q3.out).trans hH.2
       have H4:Hid (Below q w w4):=af (Below.trans (by exact⟨H3.out.os,H3.out.tape,H3.out.output,H3.out.size,H3.out.block⟩) (hb4.mono (mg Q3.out)))
       clear hb4
       refine hK.out _ _ ⟨j0,j1⟩ (fun hH=>?_)
       clear hK K
       try simp only[Act.put,az,ay,aA]
       refine ag 15 18 hH ?_
       refine ag 16 19 hH ?_
       refine ag 17 20 hH ?_
       refine ag 18 21 hH ?_
       refine aR 19 (fun K hK=>?_)
       go_simp
       refine (HC.out _).mono ?_
       rintro e w5 ⟨rfl,rfl⟩
       refine hK.out _ _ ⟨hH.1,hH.2⟩ (fun hH=>?_)
       clear hK K
       try simp only[Act.put,az,ay,aA]
       refine ag 20 23 hH ?_
       refine ag 21 24 hH ?_
       refine ag 22 25 hH ?_
       refine ag 23 26 hH ?_
       refine ag 24 27 hH ?_
       refine ag 25 28 hH ?_
       refine ag 26 29 hH ?_
       refine ag 27 30 hH ?_
       refine ag 28 31 hH ?_
       refine ag 29 32 hH ?_
       refine ag 30 33 hH ?_
       refine ag 31 34 hH ?_
       refine ag 32 2 hH ?_
       refine wpAnyH_done (by kernel_rfl) ?_ _
       go_wp2
       go_ret
       exact⟨rfl,by rw[Fx.out];exact⟨H4.out.os,H4.out.tape,H4.out.output,H4.out.size,H4.out.block⟩⟩
      | true=>
       have hr:R=true:=by rw[←HR.out];rfl
       subst hr
       clear HR
       refine wp_region_held_drew (S:=fun w'=>w'.cell? ⟨q,0,none⟩=some (.string n)∧w'.cell? ⟨q,1,none⟩=some (.string v)) (by kernel_rfl) ⟨HN.out,n_.out⟩ (fun hH=>?_)
       refine ag 0 3 hH ?_
       refine ag 1 4 hH ?_
       refine aR 2 (fun K hK=>?_)
       go_simp
       refine (HT.out _).mono ?_
       rintro e w1 ⟨rfl,rfl⟩
       refine hK.out _ _ ⟨hH.1,hH.2⟩ (fun hH=>?_)
       clear hK K
       try simp only[Act.put,az,ay,aA]
       refine ag 3 6 hH ?_
       refine ag 4 7 hH ?_
       refine ag 5 8 hH ?_
       refine ag 7 10 hH ?_
       refine ag 8 11 hH ?_
       refine aR 6 (fun K hK=>?_)
       go_simp
       refine (HL.out _).mono ?_
       rintro e w3 ⟨rfl,hb3⟩
       have k0:=(hb3.cell (p:=⟨q,0,none⟩) HQ.out).trans HN.out
       have k1:=(hb3.cell (p:=⟨q,1,none⟩) HQ.out).trans n_.out
       have H3:Hid (Below q w w3):=af (Below.trans (by exact⟨HW.out.os,HW.out.tape,HW.out.output,HW.out.size,HW.out.block⟩) (hb3.mono (mg HQ.out)))
       have Q3:Hid (q<w3.heap.size):=af (fI HQ.out hb3.size)
       clear hb3
       refine hK.out _ _ ⟨k0,k1⟩ (fun hH=>?_)
       clear hK K
       try simp only[Act.put,az,ay,aA]
       refine ag 9 12 hH ?_
       refine ag 10 13 hH ?_
       refine ag 11 14 hH ?_
       refine ag 12 15 hH ?_
       refine ag 13 16 hH ?_
       refine aR 14 (fun K hK=>?_)
       go_simp
       refine (HV.out _).mono ?_
       rintro e w4 ⟨rfl,hb4⟩
       have j0:=(hb4.cell (p:=⟨q,0,none⟩) Q3.out).trans hH.1
       have j1:=(hb4.cell (p:=⟨q,1,none⟩) Q3.out).trans hH.2
       have H4:Hid (Below q w w4):=af (Below.trans (by exact⟨H3.out.os,H3.out.tape,H3.out.output,H3.out.size,H3.out.block⟩) (hb4.mono (mg Q3.out)))
       clear hb4
       refine hK.out _ _ ⟨j0,j1⟩ (fun hH=>?_)
       clear hK K
       try simp only[Act.put,az,ay,aA]
       refine ag 15 18 hH ?_
       refine ag 16 19 hH ?_
       refine ag 17 20 hH ?_
       refine ag 18 21 hH ?_
       refine aR 19 (fun K hK=>?_)
       go_simp
       refine (HC.out _).mono ?_
       rintro e w5 ⟨rfl,rfl⟩
       refine hK.out _ _ ⟨hH.1,hH.2⟩ (fun hH=>?_)
       clear hK K
       try simp only[Act.put,az,ay,aA]
       refine ag 20 23 hH ?_
       refine ag 21 24 hH ?_
       refine ag 22 25 hH ?_
       refine ag 23 26 hH ?_
       refine ag 24 27 hH ?_
       refine ag 25 28 hH ?_
       refine ag 26 29 hH ?_
       refine ag 27 30 hH ?_
       refine ag 28 31 hH ?_
       refine ag 29 32 hH ?_
       refine ag 30 33 hH ?_
       refine ag 31 34 hH ?_
       refine ag 32 2 hH ?_
       refine wpAnyH_done (by kernel_rfl) ?_ _
       go_wp2
       go_ret
       exact⟨rfl,by rw[Fx.out];exact⟨H4.out.os,H4.out.tape,H4.out.output,H4.out.size,H4.out.block⟩⟩
end
section
open Go.RowKit Go.Maps
def xU (names:List ByteArray) (f:ByteArray→Option ByteArray) (s:ByteArray):Bool:=names.any (fun t=>decide (t=s)) && !(f s).isSome
theorem ae7 {names:List ByteArray}{f:ByteArray→Option ByteArray}{s:ByteArray}(h:s ∈ names):xU names f s = !(f s).isSome:=by
 unfold xU
 rw[List.any_eq_true.2 ⟨s,h,by simp⟩,zF]
theorem ae8 {names:List ByteArray}{f:ByteArray→Option ByteArray}{s:ByteArray}(h:s ∉ names):xU names f s=false:=by
 unfold xU
 rw[List.any_eq_false.2 fun x hx=>by simp;rintro rfl;exact h hx,Bool.false_and]
theorem ae6 {A:Option Addr}{n c b1 b2 mb N k:Nat}{names:List ByteArray}{f:ByteArray→Option ByteArray}(s:ByteArray) (w:World)
 (hr:Rd w w.heap.size 1 A n (strs names)) (hn:n≤1048576)
 (h1:w.cell? ⟨b1,0,none⟩=some (.slice A n c)) (h2:w.cell? ⟨b2,0,none⟩=some (.map (some mb)))
 (hm:bq Ex w mb N f k) (hs:s.size≤maxLen) :
 Calls Tryz.prog 79 #[.string s,.pointer (some ⟨b1,0,none⟩),.pointer (some ⟨b2,0,none⟩)] w fun e w'=>e = .returned (.bool (xU names f s))∧Below w.heap.size w w':=by
 have HL:=af (hm.look IP (i:=s) hs)
 have HR:=af hr
 obtain⟨R,hR⟩:∃R,xU names f s=R:=⟨_,rfl⟩
 rw[hR]
 have cz:=af hR
 clear hr hm hR
 go_enter Tryz.func79,Tryz.ntmps79
 go_wp2_with fail
 go_loopw [11] (fun iv wr=>wr=w∧∃j:Nat,iv = .int .i64 j∧j≤n∧s ∉ names.take j) (fun iv _=>n-(intOf iv).toNat)
 case atStart=>exact⟨rfl,0,rfl,aL _,by simp⟩
 case round=>
  obtain⟨rfl,j,rfl,hj,hnot⟩:=hrel
  have HN:=af hnot
  clear hnot
  have HK:Hid (∀t,names[j]?=some t→names.take (j+1)=names.take j++[t]):=af (fun t ht=>by rw[iw,ht,iL])
  by_cases hlt:j<n
  ·obtain⟨hl,b,o,rfl,hbl,hc⟩:=BF HR.out (by omega)
   obtain⟨t,ht⟩:∃t,names[j]?=some t:=⟨_,a_ (by omega)⟩
   have hcell:=hc j t ht
   have HT:=af ht
   have Dk:=af hl
   clear hc ht hl
   have e0:((j:Int)<n):=by omega
   by_cases hst:t=s
   ·have e1:(t.toList==s.toList)=true:=by rw[hst];simp
    have HM:Hid (s ∈ names):=af (by rw[←hst];exact fq HT.out)
    clear hst
    obtain⟨F,hF⟩:∃F,f s=F:=⟨_,rfl⟩
    have HF:=af hF
    have hr:R = !F.isSome:=by rw[←cz.out,ae7 HM.out,hF]
    have hlk:(Instr.lookup 83 (.map (some mb)) (.string s) true).run Tryz.prog wr = .ok (.tuple #[.agg #[.string (F.getD ⟨#[]⟩)],.bool F.isSome]) wr:=by
     have:=HL.out
     rw[hF] at this
     exact this
    obtain⟨x,hx⟩:∃x:ByteArray,F.getD ⟨#[]⟩=x:=⟨_,rfl⟩
    obtain⟨y,hy⟩:∃y,F.isSome=y:=⟨_,rfl⟩
    rw[hx,hy] at hlk
    rw[hy] at hr
    subst hr
    clear hF hx hy
    go_wp2
    go_ret
    exact⟨rfl,(Below.refl _ _).alloc (ah _) _⟩
   ·have e1:(t.toList==s.toList)=false:=(Lib.bytes_beq_false_iff t s).2 hst
    have HM:Hid (s ∉ names.take (j+1)):=af (by rw[HK.out t HT.out];simp[HN.out];exact fun h=>hst h.symm)
    clear hst
    go_wp2
    go_roundw
    case rel=>exact⟨trivial,j+1,by go_num,by omega,HM.out⟩
    case measure=>simp[intOf];omega
  ·have hr:R=false:=by
    rw[←cz.out]
    refine ae8 ?_
    have:=HN.out
    rwa [cB (by have:=HR.out.1;rw[KL] at this;omega)] at this
   subst hr
   go_wp2
   go_ret
   exact⟨rfl,Below.refl _ _⟩
end
section
open Go.RowKit Go.Maps
abbrev Gt:=(ByteArray→Option ByteArray)×List Fd
def Gt.none:Gt:=(fun _=>.none,[])
open Classical in
noncomputable def gN (names:List ByteArray) (G:Gt) (f:Fd):Gt×Nat:=
 if gy f.1.1 then
  if !G.2.isEmpty || !xU names G.1 f.1.1 then (G,100) else ((fun j=>if j=f.1.1 then some f.1.2 else G.1 j,G.2),0)
 else if xX f then ((G.1,G.2++[f]),0) else (G,101)
structure qz (B:Nat) (A:Option Addr) (n c:Nat) (names:List ByteArray) (v:Value) (N k:Nat) (G:Gt) (w:World):Prop where
 sz:B+5≤w.heap.size
 rd:Rd w B 1 A n (strs names)
 cn:w.heap[B]?=some (.cells #[.slice A n c] 80 (0,0))
 mp:bq Ex w (B+1) N G.1 k
 cs:w.heap[B+2]?=some (.cells #[.map (some (B+1))] 83 (0,0))
 cr:w.heap[B+3]?=some (.cells #[v] 22 (0,0))
 ck:w.heap[B+4]?=some (.cells #[.func (.func 79) #[] #[.pointer (some ⟨B,0,none⟩),.pointer (some ⟨B+2,0,none⟩)]] 77 (0,0))
 row:w.ownsRow (B+5) 26 3 v G.2.length (fds G.2)
variable {B n c N k:Nat} {A:Option Addr} {names:List ByteArray} {v:Value} {G:Gt} {w w':World}
theorem qz.below (h:qz B A n c names v N k G w) (hb:Below w.heap.size w w'):qz B A n c names v N k G w' where
 sz:=gM h.sz hb.size
 rd:=h.rd.below hb (by have:=h.sz;omega)
 cn:=(hb.block _ (by have:=h.sz;omega)).trans h.cn
 mp:=h.mp.below hb (by have:=h.sz;omega)
 cs:=(hb.block _ (by have:=h.sz;omega)).trans h.cs
 cr:=(hb.block _ (by have:=h.sz;omega)).trans h.cr
 ck:=(hb.block _ (by have:=h.sz;omega)).trans h.ck
 row:=by
  obtain⟨h1,h2⟩:=h.row
  refine⟨h1,?_⟩
  rcases h2 with h2 | ⟨g,cap,cur,e1,e2,e3,e4⟩
  ·exact .inl h2
  ·exact .inr ⟨g,cap,cur,e1,e2,(hb.block g (Array.getElem?_eq_some_iff.1 e3).1).trans e3,e4⟩
end
section
open Go.RowKit Go.Maps
def abC (w:World) (B:Nat) (A:Option Addr) (n c:Nat) (names:List ByteArray) (N k:Nat) (R:Gt×Nat) (e:Ending) (w':World):Prop:=
 e = .returned (.int .i64 (R.2:Int))∧(∃v k',k'≤k+1∧qz B A n c names v (N+1) k' R.1 w')∧Below B w w'
theorem qz.more {B n c N N' k:Nat}{A:Option Addr}{names:List ByteArray}{v:Value}{G:Gt}{w:World}(h:qz B A n c names v N k G w) (hN:N≤N'):qz B A n c names v N' k G w:=⟨h.sz,h.rd,h.cn,h.mp.more hN,h.cs,h.cr,h.ck,h.row⟩
theorem qz.grow {B n c N N' k k':Nat}{A:Option Addr}{names:List ByteArray}{v:Value}{G:Gt}{w w':World}{f:ByteArray→Option ByteArray}(h:qz B A n c names v N k G w) (hm:bq Ex w' (B+1) N' f k') (hg:w.grownBy w' (some (B+1))):qz B A n c names v N' k' (f,G.2) w':=by
 have hs:=h.sz
 have hk:∀j,j<w.heap.size→j≠B+1→w'.heap[j]?=w.heap[j]?:=fun j hj hne=>hg.block j hj (fun e=>by injection e with e;omega)
 refine⟨gM hs hg.size,h.rd.keep fun b o hb=>World.cell?_of_block (a:=⟨b,o,none⟩) (hk b (by omega) (by omega)),(hk _ (by omega) (by omega)).trans h.cn,hm,(hk _ (by omega) (by omega)).trans h.cs,(hk _ (by omega) (by omega)).trans h.cr,(hk _ (by omega) (by omega)).trans h.ck,?_⟩
 obtain⟨h1,h2⟩:=h.row
 refine⟨h1,?_⟩
 rcases h2 with h2 | ⟨g,cap,cur,e1,e2,e3,e4⟩
 ·exact .inl h2
 ·exact .inr ⟨g,cap,cur,e1,e2,(hk g (Array.getElem?_eq_some_iff.1 e3).1 (by omega)).trans e3,e4⟩
theorem qz.app {B n c N k:Nat}{A:Option Addr}{names:List ByteArray}{v v3:Value}{G:Gt}{w w3:World}{o:Obj}(fd:Fd) (h:qz B A n c names v N k G w)
 (hown:w3.ownsRow (B+5) 26 3 v3 (G.2.length+1) (fds G.2++[.string fd.1.1,.string fd.1.2,.bool fd.2])) (hg:(w.alloc o).grownBy w3 v.ownBlock) :
 qz B A n c names v3 N k (G.1,G.2++[fd]) (w3.setCell ⟨B+3,0,none⟩ v3)∧Below B w (w3.setCell ⟨B+3,0,none⟩ v3):=by
 have hs:=h.sz
 have hb3:Below (B+5) w w3:=Below.app ((Below.refl _ _).alloc hs _) (d_ h.row ((Kept.refl (fun _=>False) w).alloc o) (fun _ _ h=>h)) hg (ah _) (by simp;omega)
 have hk:∀j,j<B+5→j≠B+3→(w3.setCell ⟨B+3,0,none⟩ v3).heap[j]?=w.heap[j]?:=fun j hj hne=>(Below.heap_setCell _ _ _ _ hne).trans (hb3.block j hj)
 refine⟨⟨?_,h.rd.keep fun b o hb=>World.cell?_of_block (a:=⟨b,o,none⟩) (hk b (by omega) (by omega)),(hk _ (by omega) (by omega)).trans h.cn,h.mp.keep (hk _ (by omega) (by omega)),(hk _ (by omega) (by omega)).trans h.cs,?_,(hk _ (by omega) (by omega)).trans h.ck,?_⟩,?_⟩
 ·have:=hb3.size;simp[World.setCell];omega
 ·have h3:w3.heap[B+3]?=some (.cells #[v] 22 (0,0)):=(hb3.block _ (by omega)).trans h.cr
  rw[zB _ h3];rfl
 ·rw[aN,oP]
  exact d_ hown ((Kept.refl (fun k=>k=B+3) w3).setCell rfl 0 v3) (fun q hq e=>by have:=(World.ownsRow.lt hown q hq).1;omega)
 ·exact (hb3.mono (by omega)).setCell (by show B≤B+3;omega) _
theorem acp {B n c N k:Nat}{A:Option Addr}{names:List ByteArray}{v:Value}{G:Gt}(fd:Fd) (w:World) (hg:qz B A n c names v N k G w)
 (hn:n≤1048576) (hN:N<1048576) (hl:G.2.length<1048576) (h1:fd.1.1.size≤140737488351232) (h2:fd.1.2.size≤140737488351232) :
 Calls Tryz.prog 80 #[xB fd,.pointer (some ⟨B+3,0,none⟩),.pointer (some ⟨B+4,0,none⟩),.pointer (some ⟨B+2,0,none⟩)] w (abC w B A n c names N k (gN names G fd)):=by
 obtain⟨R,hR⟩:∃R,gN names G fd=R:=⟨_,rfl⟩
 rw[hR]
 have HR:=af hR
 have HG:=af hg
 have HP:=af (fun w=>ag5 fd w)
 have qD:=af (fun w=>agV fd w h1 h2)
 clear hR hg
 obtain⟨⟨nm,vl⟩,nv⟩:=fd
 unfold xB at HP qD ⊢
 dsimp only at HP qD h1 h2 ⊢
 have hblk:=heap_alloc_new w (.cells #[.string nm,.string vl,.bool nv] 26)
 have zb:w.heap.size<(w.alloc (.cells #[.string nm,.string vl,.bool nv] 26)).heap.size:=by rw[World.alloc,Array.size_push];exact rQ _
 have HW:=af ((Below.refl w.heap.size w).alloc (ah _) (.cells #[.string nm,.string vl,.bool nv] 26))
 go_enter Tryz.func80,Tryz.ntmps80
 go_wp2_with fail
 generalize hq:w.heap.size=q at *
 generalize Bl:w.alloc (.cells #[.string nm,.string vl,.bool nv] 26)=wa at *
 have c0:wa.cell? ⟨q,0,none⟩=some (.string nm):=by unfold World.cell?;rw[hblk];rfl
 have c1:wa.cell? ⟨q,1,none⟩=some (.string vl):=by unfold World.cell?;rw[hblk];rfl
 refine (HP.out wa).mono ?_
 rintro e w1 ⟨rfl,hb1⟩
 have C0:=af ((hb1.cell (p:=⟨q,0,none⟩) zb).trans c0)
 have C1:=af ((hb1.cell (p:=⟨q,1,none⟩) zb).trans c1)
 have CH:=af ((hb1.block q zb).trans hblk)
 have HB:=af (HW.out.trans (hb1.mono (mg zb)))
 have sU:=af (HG.out.below (by rw[hq];exact HB.out))
 have pO:=af (HB.out.mono (B':=B) (by have:=HG.out.sz;omega))
 have HQ:=af (And.intro hq (fI zb hb1.size))
 clear hb1 c0 c1 hblk zb hq Bl HP HG HW
 obtain⟨a,cap,hv⟩:∃a cap,v = .slice a G.2.length cap:=by
  rcases sU.out.row.2 with ⟨e1,e2⟩ | ⟨g,cap,cur,e1,_⟩
  ·exact⟨none,0,by rw[e1,e2]⟩
  ·exact⟨_,_,e1⟩
 have cr:w1.cell? ⟨B+3,0,none⟩=some (.slice a G.2.length cap):=by rw[←hv];unfold World.cell?;rw[sU.out.cr];rfl
 have ck:w1.cell? ⟨B+4,0,none⟩=some (.func (.func 79) #[] #[.pointer (some ⟨B,0,none⟩),.pointer (some ⟨B+2,0,none⟩)]):=by unfold World.cell?;rw[sU.out.ck];rfl
 have cs:w1.cell? ⟨B+2,0,none⟩=some (.map (some (B+1))):=by unfold World.cell?;rw[sU.out.cs];rfl
 have cn:w1.cell? ⟨B,0,none⟩=some (.slice A n c):=by unfold World.cell?;rw[sU.out.cn];rfl
 have HKN:=af (ae6 nm w1 ⟨sU.out.rd.1,fun h=>by obtain⟨b,o,e1,e2,e3⟩:=sU.out.rd.2 h;exact⟨b,o,e1,by have:=sU.out.sz;omega,e3⟩⟩ hn cn cs sU.out.mp (by unfold maxLen;omega))
 obtain⟨L,hL⟩:∃L,G.2.length=L:=⟨_,rfl⟩
 have HV:=af hv
 have dX:=af hL
 rw[hL] at cr
 clear hv hL cn
 have c0:=C0.out
 have c1:=C1.out
 obtain⟨P,hP⟩:∃P,gy nm=P:=⟨_,rfl⟩
 have Fq:=af hP
 rw[hP]
 clear hP
 cases P with
 | true=>
  by_cases hz : 0<L
  ·have hr:R=(G,100):=by
    rw[←HR.out]
    unfold gN
    have hne:G.2.isEmpty=false:=by
     cases hG:G.2 with
     | nil=>have:=dX.out;rw[hG] at this;simp at this;omega
     | cons x y=>rfl
    simp[Fq.out,hne]
   have cz:=af hr
   clear hr
   have e0:((L:Int) > 0):=by omega
   go_wp2_with fail
   go_ret
   rw[cz.out]
   exact⟨rfl,⟨v,k,by omega,sU.out.more (by omega)⟩,pO.out⟩
  ·have e0:¬((L:Int) > 0):=by omega
   go_wp2_with fail
   refine HKN.out.mono ?_
   rintro e w2 ⟨rfl,hb2⟩
   have sV:=af (sU.out.below hb2)
   have aI:=af (pO.out.trans (hb2.mono (by have:=sU.out.sz;omega)))
   have C02:=af ((hb2.cell (p:=⟨q,0,none⟩) HQ.out.2).trans C0.out)
   have C12:=af ((hb2.cell (p:=⟨q,1,none⟩) HQ.out.2).trans C1.out)
   obtain⟨KB,hkb⟩:∃KB,xU names G.1 nm=KB:=⟨_,rfl⟩
   have HKB:=af hkb
   rw[hkb]
   have hL0:G.2.isEmpty=true:=by
    have:=dX.out
    rw[List.isEmpty_iff,←List.length_eq_zero_iff];omega
   have HL0:=af hL0
   clear hkb hb2 hL0 c0 c1 cr ck cs
   cases KB with
   | false=>
    have hr:R=(G,100):=by
     rw[←HR.out]
     unfold gN
     simp[Fq.out,HKB.out]
    have cz:=af hr
    clear hr
    go_wp2_with fail
    go_ret
    rw[cz.out]
    exact⟨rfl,⟨v,k,by omega,sV.out.more (by omega)⟩,aI.out⟩
   | true=>
    have c0:=C02.out
    have c1:=C12.out
    have cs:w2.cell? ⟨B+2,0,none⟩=some (.map (some (B+1))):=by unfold World.cell?;rw[sV.out.cs];rfl
    obtain⟨w3,hput,hmp,hgr⟩:=sV.out.mp.put IP (i:=nm) (by show nm.size≤maxLen;unfold maxLen;omega) (by unfold maxLen;omega) vl
    have YZ:(Instr.mapUpdate 83 (.map (some (B+1))) (.string nm) (.agg #[.string vl])).run Tryz.prog w2 = .ok () w3:=hput
    have hmp2:=hmp.congr (f':=fun j=>if j=nm then some vl else G.1 j) (fun i _=>by by_cases h:i=nm <;> simp[h])
    have HM:=af (And.intro hmp2 hgr)
    clear hput hmp hmp2 hgr
    have hr:R=((fun j=>if j=nm then some vl else G.1 j,G.2),0):=by
     rw[←HR.out]
     unfold gN
     simp[Fq.out,HKB.out,HL0.out]
    have cz:=af hr
    clear hr
    go_wp2_with fail
    go_ret
    rw[cz.out]
    refine⟨rfl,⟨v,_,?_,sV.out.grow HM.out.1 HM.out.2⟩,aI.out.grown HM.out.2 (by have:=sV.out.sz;omega) (fun j hj=>by injection hj with hj;omega)⟩
    split <;> omega
 | false=>
  have c2:w1.cell? ⟨q,2,none⟩=some (.bool nv):=by unfold World.cell?;rw[CH.out];rfl
  go_wp2_with fail
  refine (qD.out w1).mono ?_
  rintro e w2 ⟨rfl,hb2⟩
  have sV:=af (sU.out.below hb2)
  have aI:=af (pO.out.trans (hb2.mono (by have:=sU.out.sz;omega)))
  have CH2:=af ((hb2.block q HQ.out.2).trans CH.out)
  obtain⟨PB,Gy⟩:∃PB,xX ((nm,vl),nv)=PB:=⟨_,rfl⟩
  have HPP:=af Gy
  rw[Gy]
  clear Gy hb2 c0 c1 c2 cr ck cs
  cases PB with
  | false=>
   have hr:R=(G,101):=by
    rw[←HR.out]
    unfold gN
    simp[Fq.out,HPP.out]
   have cz:=af hr
   clear hr
   go_wp2_with fail
   go_ret
   rw[cz.out]
   exact⟨rfl,⟨v,k,by omega,sV.out.more (by omega)⟩,aI.out⟩
  | true=>
   have c0:w2.cell? ⟨q,0,none⟩=some (.string nm):=by unfold World.cell?;rw[CH2.out];rfl
   have c1:w2.cell? ⟨q,1,none⟩=some (.string vl):=by unfold World.cell?;rw[CH2.out];rfl
   have c2:w2.cell? ⟨q,2,none⟩=some (.bool nv):=by unfold World.cell?;rw[CH2.out];rfl
   have cr:w2.cell? ⟨B+3,0,none⟩=some v:=by unfold World.cell?;rw[sV.out.cr];rfl
   have lS:=af sV.out.row
   have hr:R=((G.1,G.2++[((nm,vl),nv)]),0):=by
    rw[←HR.out]
    unfold gN
    simp[Fq.out,HPP.out]
   have cz:=af hr
   clear hr
   go_wp2_with (at_builtin;refine dI ?_)
   unfold Stop
   refine dQ (.tmp 27) (.tmp 29) j3 rfl rfl (d_ lS.out ((Kept.refl (fun _=>False) w2).alloc _) (fun _ _ h=>h)) rfl (Rd.rC _ _ _ _ _) rfl (by simp[Value.oneCell']) (bn (by omega)) (by omega) (by simp;have:=sV.out.sz;omega) ?_
   intro v3 w3 hown hg3 _
   have jU:=af (sV.out.app ((nm,vl),nv) hown hg3)
   have h3:w3.frozen? ⟨B+3,0,none⟩=false∧(w3.cell? ⟨B+3,0,none⟩)=some v:=by
    have hs:=sV.out.sz
    have hb3:Below (B+5) w2 w3:=Below.app ((Below.refl _ _).alloc hs _) (d_ lS.out ((Kept.refl (fun _=>False) w2).alloc _) (fun _ _ h=>h)) hg3 (ah _) (by simp;omega)
    have h3:w3.heap[B+3]?=some (.cells #[v] 22 (0,0)):=(hb3.block _ (by omega)).trans sV.out.cr
    constructor
    ·unfold World.frozen?;rw[h3];rfl
    ·unfold World.cell?;rw[h3];rfl
   obtain⟨hfz,hcl⟩:=h3
   obtain⟨A3,c3,hv3,-,-,-,-⟩:=aC hown
   subst hv3
   clear hown hg3 c0 c1 c2 cr
   go_wp2_with fail
   go_ret
   rw[cz.out]
   exact⟨rfl,⟨_,k,by omega,jU.out.1.more (by omega)⟩,aI.out.trans jU.out.2⟩
end
section
open Go.RowKit
def yK (l:List UInt8):Nat:=(l.takeWhile fun c=>decide (c≠58)).length
def Km (l:List UInt8):Fd×Bool:=
 if yK l=l.length∨iB (l.take (yK l))=false then (((aJ [],aJ []),false),false)
 else (((aJ (aO (l.take (yK l))),aJ (jl (l.drop (yK l+1)))),false),iI (jl (l.drop (yK l+1))))
structure gX where
 from_:Nat
 q:Bool
 t:Bool
 out:List ByteArray
def gX.put (v:List UInt8) (s:gX) (k:Nat):gX:=
 {s with from_:=k+1,out:=if jl ((v.take k).drop s.from_)=[] then s.out else s.out++[aJ (jl ((v.take k).drop s.from_))] }
def gX.step (v:List UInt8) (s:gX) (k:Nat):gX:=
 if s.t then { s with t:=false }
 else if s.q && decide (ba v k=92) then { s with t:=true }
 else if ba v k=34 then { s with q:=!s.q }
 else if decide (ba v k=44) && !s.q then s.put v k
 else s
def gX.run (v:List UInt8):Nat→gX
 | 0=>⟨0,false,false,[]⟩
 | k+1=>(gX.run v k).step v k
def elems (v:List UInt8):List ByteArray:=((gX.run v v.length).put v v.length).out
def oG (l:List Fd) (name:ByteArray):List ByteArray:=(l.filter fun f=>dL f.1.1.data.toList name.data.toList).map fun f=>f.1.2
def rU (l:List Fd) (name:ByteArray):List ByteArray:=(oG l name).flatMap fun v=>elems v.data.toList
def dJ (l:List Fd) (names:List ByteArray):List Fd:=l.filter fun f=>!(names.any fun n=>dL n.data.toList f.1.1.data.toList)
def con6:ByteArray:=⟨#[116,114,97,105,108,101,114]⟩
def con7:ByteArray:=⟨#[112,114,111,120,121,45,97,117,116,104,101,110,116,105,99,97,116,101]⟩
def con8:ByteArray:=⟨#[112,114,111,120,121,45,97,117,116,104,111,114,105,122,97,116,105,111,110]⟩
def nine:List ByteArray:=[lg,DI,DJ,oq,DK,wW,con6,con7,con8]
def fG (l:List Fd):List Fd:=dJ l (nine++rU l lg)
def rG:ByteArray:=⟨#[118,105,97]⟩
noncomputable def bG (names:List ByteArray):Gt→List Fd→Gt×Nat
 | G,[]=>(G,0)
 | G,f :: r=>if (gN names G f).2=0 then bG names (gN names G f).1 r else gN names G f
theorem F6 {p:UInt8→Prop}(h:∀n:Nat,n<256→p (UInt8.ofNat n)) (c:UInt8):p c:=by
 have:=h c.toNat (UInt8.toNat_lt c)
 rwa [UInt8.ofNat_toNat] at this
theorem afw:∀c,mK (mK c)=mK c:=F6 (p:=fun c=>mK (mK c)=mK c) (by decide +kernel)
theorem afy (l:List UInt8):aO (aO l)=aO l:=by simp[aO,afw,Function.comp_def]
theorem KI {l:List Fd}{f:Fd}(h:f ∈ fG l):f ∈ l∧∀n ∈ nine++rU l lg,dL n.data.toList f.1.1.data.toList=false:=by
 unfold fG dJ at h
 obtain⟨h1,h2⟩:=List.mem_filter.1 h
 refine⟨h1,fun n hn=>?_⟩
 rw[ET,List.any_eq_false] at h2
 have:=h2 n hn
 simpa using this
theorem aih (l:List UInt8):dL l l=true:=by simp[dL]
end
section
open Go.RowKit Go.Maps
def Nr (w:World) (n:Nat) (R:Gt×Nat) (e:Ending) (w':World):Prop:=
 (∃mv rv,e = .returned (.tuple #[mv,rv,.int .i64 (R.2:Int)]) ∧
  (R.2=0→∃mb k,mv = .map (some mb)∧w.heap.size≤mb∧bq Ex w' mb n R.1.1 k∧w'.ownsRow w.heap.size 26 3 rv R.1.2.length (fds R.1.2)) ∧
  (R.2≠0→mv = .map none∧rv = .slice none 0 0))∧Below w.heap.size w w'
theorem acs {names:List ByteArray}{G:Gt}{f:Fd}(h:(gN names G f).2≠0):(gN names G f).1=G:=by
 unfold gN at h ⊢
 split
 ·split
  ·rfl
  ·rename_i h1 h2;simp[h1,h2] at h
 ·split
  ·rename_i h1 h2;simp[h1,h2] at h
  ·rfl
theorem OL {names:List ByteArray}:∀(l:List Fd) (r:List Fd) (G:Gt),(bG names G l).2=0→bG names G (l++r)=bG names (bG names G l).1 r
 | [],r,G,_=>by simp[bG]
 | f :: l,r,G,h=>by
  rw[oM,bG,bG]
  rw[bG] at h
  by_cases e:(gN names G f).2=0
  ·rw[ax e] at h
   rw[ax e,ax e]
   exact OL l r _ h
  ·rw[aj e] at h
   exact absurd h e
theorem Yp {names:List ByteArray}{l:List Fd}{k:Nat}{f:Fd}{G0 G:Gt}(hf:l[k]?=some f) (h:bG names G0 (l.take k)=(G,0)):bG names G0 (l.take (k+1))=gN names G f:=by
 rw[iw,hf,iL,OL _ _ _ (by rw[h]),h,bG,bG]
 by_cases e:(gN names G f).2=0
 ·rw[ax e];exact Prod.ext rfl e.symm
 ·rw[aj e]
theorem L8 {names:List ByteArray}:∀(l:List Fd) (G0:Gt) (k:Nat),(bG names G0 (l.take k)).2≠0→bG names G0 l=bG names G0 (l.take k)
 | [],G0,k,h=>by simp
 | f :: l,G0,0,h=>by simp[bG] at h
 | f :: l,G0,k+1,h=>by
  rw[List.take_succ_cons,bG] at h ⊢
  rw[bG]
  by_cases e:(gN names G0 f).2=0
  ·rw[ax e] at h
   rw[ax e,ax e]
   exact L8 l _ k h
  ·rw[aj e,aj e]
def GaRel (w:World) (A:Option Addr) (n1 c1 n:Nat) (names:List ByteArray) (l:List Fd) (iv:Value) (wr:World):Prop:=
 ∃k G v m,iv = .int .i64 (k:Nat)∧k≤n∧m≤k∧bG names Gt.none (l.take k)=(G,0)∧qz w.heap.size A n1 c1 names v k m G wr∧Below w.heap.size w wr∧G.2.length≤k
theorem Xg {names:List ByteArray}{G:Gt}{f:Fd}:(gN names G f).1.2.length≤G.2.length+1:=by
 unfold gN
 repeat' split
 all_goals simp
def knV (B:Nat):Value:=.func (.func 79) #[] #[.pointer (some ⟨B,0,none⟩),.pointer (some ⟨B+2,0,none⟩)]
def oQ (A:Option Addr) (n c:Nat) (w:World):World:=(((w.alloc (.cells #[.slice A n c] 80)).alloc (.map #[] 0)).alloc (.cells #[.map (some (w.heap.size+1))] 83)).alloc (.cells #[.slice none 0 0] 22)
theorem JA (A:Option Addr) (n c:Nat) (w:World):(oQ A n c w).heap.size=w.heap.size+4:=by simp[oQ]
theorem aey {A:Option Addr}{n c:Nat}{names:List ByteArray}(w:World) (hr:Rd w w.heap.size 1 A n (strs names)) :
 qz w.heap.size A n c names (.slice none 0 0) 0 0 Gt.none ((oQ A n c w).alloc (.cells #[knV w.heap.size] 77))∧Below w.heap.size w ((oQ A n c w).alloc (.cells #[knV w.heap.size] 77)):=by
 have hb:Below w.heap.size w ((oQ A n c w).alloc (.cells #[knV w.heap.size] 77)):=by
  unfold oQ
  exact (((((Below.refl _ _).alloc (ah _) _).alloc (by simp) _).alloc (by simp;omega) _).alloc (by simp;omega) _).alloc (by simp;omega) _
 have e0:∀o,((oQ A n c w).alloc o).heap[w.heap.size]?=some (.cells #[.slice A n c] 80 (0,0)):=fun o=>by
  unfold oQ World.alloc
  simp only[Array.getElem?_push,Array.size_push]
  repeat (first | rw[ax (by omega)] | rw[aj (by omega)] | rw[ax trivial])
 have e1:∀o,((oQ A n c w).alloc o).heap[w.heap.size+1]?=some (.map #[] 0):=fun o=>by
  unfold oQ World.alloc
  simp only[Array.getElem?_push,Array.size_push]
  repeat (first | rw[ax (by omega)] | rw[aj (by omega)] | rw[ax trivial])
 have e2:∀o,((oQ A n c w).alloc o).heap[w.heap.size+2]?=some (.cells #[.map (some (w.heap.size+1))] 83 (0,0)):=fun o=>by
  unfold oQ World.alloc
  simp only[Array.getElem?_push,Array.size_push]
  repeat (first | rw[ax (by omega)] | rw[aj (by omega)] | rw[ax trivial])
 have e3:∀o,((oQ A n c w).alloc o).heap[w.heap.size+3]?=some (.cells #[.slice none 0 0] 22 (0,0)):=fun o=>by
  unfold oQ World.alloc
  simp only[Array.getElem?_push,Array.size_push]
  repeat (first | rw[ax (by omega)] | rw[aj (by omega)] | rw[ax trivial])
 have e4:∀o,((oQ A n c w).alloc o).heap[w.heap.size+4]?=some o:=fun o=>by
  rw[←JA A n c w];exact heap_alloc_new _ _
 refine⟨⟨?_,hr.below hb (ah _),e0 _,?_,e2 _,e3 _,e4 _,World.ownsRow_nil _ _ _ _⟩,hb⟩
 ·rw[World.alloc,Array.size_push,JA]
  omega
 ·have h0:=L9 Ex (w.alloc (.cells #[.slice A n c] 80))
  have hs:(w.alloc (.cells #[.slice A n c] 80)).heap.size=w.heap.size+1:=by simp
  rw[hs] at h0
  refine h0.keep ?_
  rw[e1,←hs]
  exact (heap_alloc_new _ _).symm
theorem aez {A A1:Option Addr}{n c n1 c1:Nat}{l:List Fd}{names:List ByteArray}(w:World) (hl:Rd w w.heap.size 3 A n (fds l)) (hn:n≤1048575) (hz:Tx l)
 (hr:Rd w w.heap.size 1 A1 n1 (strs names)) (xL:n1≤1048576) :
 Calls Tryz.prog 39 #[.slice A n c,.slice A1 n1 c1] w (Nr w n (bG names Gt.none l)):=by
 have HL:=af hl
 have HR:=af hr
 have HZ:=af hz
 obtain⟨R,hR⟩:∃R,bG names Gt.none l=R:=⟨_,rfl⟩
 rw[hR]
 have cz:=af hR
 clear hl hr hR hz
 have fA:=@run_makeMap Tryz.prog
 have hmf:∀fn first cap w,(Instr.makeFunc fn first cap).run Tryz.prog w = .ok (.func fn first cap) w:=fun _ _ _ _=>rfl
 go_enter Tryz.func39,Tryz.ntmps39
 go_wp2_with (refine wpList_store_oneTo rfl 77 (.tmp 9) (.tmp 15) rfl rfl (w.heap.size+4) (knV w.heap.size) rfl rfl rfl 77 .nilFunc (by rw[←JA A1 n1 c1 w];exact heap_alloc_new (oQ A1 n1 c1 w) _) (by kernel_rfl) ?_)
 rw[show ∀o,((((w.alloc (.cells #[.slice A1 n1 c1] 80)).alloc (.map #[] 0)).alloc (.cells #[.map (some (w.heap.size+1))] 83)).alloc (.cells #[.slice none 0 0] 22)).alloc o=(oQ A1 n1 c1 w).alloc o from fun _=>rfl]
 rw[←JA A1 n1 c1 w,World.setRow_alloc_new]
 have HG0:=af (aey (c:=c1) w HR.out)
 generalize ((oQ A1 n1 c1 w).alloc (.cells #[knV w.heap.size] 77))=W0 at *
 rw[JA]
 go_loopw [19] (fun iv wr=>GaRel w A1 n1 c1 n names l iv wr) (fun iv _=>n-(intOf iv).toNat)
 case atStart=>exact⟨0,Gt.none,_,0,rfl,aL _,ah _,by simp[bG],HG0.out.1,HG0.out.2,ah _⟩
 case round=>
  obtain⟨k,G,v,m,rfl,hk,hm,hga,hg,hb,ve⟩:=hrel
  have HG:=af hg
  have HB:=af hb
  have HGA:=af hga
  have HGL:=af ve
  have dZ:=hb.size
  clear hg hb hga ve
  by_cases hlt:k<n
  ·obtain⟨bf,b,o,rfl,hbl,hc⟩:=mE (HL.out.below HB.out (ah _)) (by omega)
   obtain⟨f,hf⟩:∃f,l[k]?=some f:=⟨_,a_ (by omega)⟩
   obtain⟨z0,z1,z2⟩:=hc k f hf
   have n0:(k:Int)<n:=by omega
   have HF:=af hf
   have aY:b<wr.heap.size:=by omega
   have hsz:=HG.out.sz
   clear hc hf bf
   obtain⟨⟨nm,vl⟩,nv⟩:=f
   simp only at z0 z1 z2
   have hask:=acp ((nm,vl),nv) (wr.alloc (.cells #[.string nm,.string vl,.bool nv] 26)) (HG.out.below ((Below.refl _ _).alloc (ah _) _)) xL (by omega) (by have:=HGL.out;omega) ((HZ.out _ (fq HF.out)).1) ((HZ.out _ (fq HF.out)).2)
   have EX:=af hask
   clear hask
   go_wp2_with fail
   refine EX.out.mono ?_
   rintro e w2 ⟨rfl,⟨v2,k2,hk2,hg2⟩,hb2⟩
   have kM:=Yp HF.out HGA.out
   have iF:=Xg (names:=names) (G:=G) (f:=((nm,vl),nv))
   have O6:=acs (names:=names) (G:=G) (f:=((nm,vl),nv))
   obtain⟨⟨G2,e2⟩,oC⟩:∃R2,gN names G ((nm,vl),nv)=R2:=⟨_,rfl⟩
   rw[oC] at kM hg2 iF O6
   rw[oC]
   have aI:Hid (Below w.heap.size w w2):=af ((HB.out.alloc (by omega) _).trans hb2)
   have HH:=af (And.intro kM (And.intro hg2 (And.intro hk2 (And.intro iF O6))))
   clear kM hg2 hk2 iF O6 oC hb2 EX
   by_cases h0:e2=0
   ·subst h0
    have hn0:(((0:Nat):Int)==0)=true:=rfl
    go_wp2_with fail
    go_roundw
    case rel=>
     obtain⟨h1,h2,h3,h4,h5⟩:=HH.out
     exact⟨k+1,G2,v2,k2,by go_num,by omega,by omega,h1,h2,aI.out,by have:=HGL.out;omega⟩
    case measure=>simp[intOf];omega
   ·have hn0:((e2:Int)==0)=false:=by simp;omega
    have fU:Hid (R=(G2,e2)):=af (by
     obtain⟨h1,h2,h3,h4,h5⟩:=HH.out
     rw[←cz.out,L8 l Gt.none (k+1) (by rw[h1];exact h0),h1])
    go_wp2_with fail
    have HE:Nr w n R (.returned (.tuple #[.map none,.slice none 0 0,.int .i64 (e2:Int)])) w2:=by
     rw[fU.out]
     exact⟨⟨_,_,rfl,fun h=>absurd h h0,fun _=>⟨rfl,rfl⟩⟩,aI.out⟩
    exact bodyPost_ret (v:=.tuple #[.map none,.slice none 0 0,.int .i64 (e2:Int)]) (by simp[results,Tryz.results39,go_sem]) rfl HE
  ·have hkn:k=n:=by omega
   have bf:l.length=n:=by have:=HL.out.1;rw[jJ] at this;omega
   have fU:Hid (R=(G,0)):=af (by
    have:=HGA.out
    rwa [cB (by omega),cz.out] at this)
   obtain⟨a,cap,hv⟩:∃a cap,v = .slice a G.2.length cap:=by
    rcases HG.out.row.2 with ⟨e1,e2⟩ | ⟨g,cap,cur,e1,_⟩
    ·exact⟨none,0,by rw[e1,e2]⟩
    ·exact⟨_,_,e1⟩
   have cs:wr.cell? ⟨w.heap.size+1+1,0,none⟩=some (.map (some (w.heap.size+1))):=by unfold World.cell?;rw[show w.heap.size+1+1=w.heap.size+2 from rfl,HG.out.cs];rfl
   have cr:wr.cell? ⟨w.heap.size+1+1+1,0,none⟩=some v:=by unfold World.cell?;rw[show w.heap.size+1+1+1=w.heap.size+3 from rfl,HG.out.cr];rfl
   have HE:Hid (Nr w n R (.returned (.tuple #[.map (some (w.heap.size+1)),v,.int .i64 0])) wr.drew):=af (by
    rw[fU.out]
    refine⟨⟨_,_,rfl,fun _=>⟨_,m,rfl,by omega,(HG.out.mp.more (by omega)).keep rfl,?_⟩,fun h=>absurd rfl h⟩,HB.out.trans (by exact⟨rfl,rfl,rfl,ah _,fun _ _=>rfl⟩)⟩
    exact pG HG.out.row (by omega))
   rw[hv] at HE cr
   clear hv bf
   go_wp2_with fail
   go_region
   go_wp2
   exact bodyPost_ret (v:=.tuple #[.map (some (w.heap.size+1)),.slice a G.2.length cap,.int .i64 0]) (by simp[results,Tryz.results39,go_sem]) rfl HE.out
end
section
open Go.RowKit Go.Maps
def bQ (w:World) (l:List Fd) (v:Value) (w':World):Prop:=w'.ownsRow w.heap.size 26 3 v l.length (fds l)∧Below w.heap.size w w'
theorem ED (w w1:World) (f:Fd) (hb:Below w.heap.size w w1):bQ w [f] (.slice (some ⟨w1.heap.size,0,none⟩) 1 1) (w1.alloc (.cells #[.string f.1.1,.string f.1.2,.bool f.2] 26)):=
 ⟨agD w1 w.heap.size _ _ _ _ hb.size,hb.alloc hb.size _⟩
theorem bQ.app {w wr w2 w3:World}{l:List Fd}{v v3:Value}(f:Fd) (h:bQ w l v wr) (h2:Below wr.heap.size wr w2) (o:Obj) (hown:w3.ownsRow w.heap.size 26 3 v3 (l.length+1) (fds l++[.string f.1.1,.string f.1.2,.bool f.2])) (hg:(w2.alloc o).grownBy w3 v.ownBlock) :
 bQ w (l++[f]) v3 w3:=by
 have hs:=h.2.size
 have hs2:=h2.size
 refine⟨?_,Below.app ((h.2.trans (h2.mono hs)).alloc (by omega) o) (d_ h.1 (((Kept.jk h2).alloc o).mono (G:=fun _=>False) (fun _ h=>h)) (fun _ _ h=>h)) hg (ah _) (by simp;omega)⟩
 rw[aN,oP]
 exact hown
theorem EE {w wr w2:World}{l:List Fd}{v:Value}(h:bQ w l v wr) (h2:Below wr.heap.size wr w2) (o:Obj):(w2.alloc o).ownsRow w.heap.size 26 3 v l.length (fds l):=
 d_ h.1 ((Kept.jk h2).alloc o) (fun _ _ h=>h)
end
section
open Go.RowKit Go.Maps
theorem aij {l:List Fd}{k:Nat}{f:Fd}(h:l[k]?=some f) (name:ByteArray):oG (l.take (k+1)) name=oG (l.take k) name++(if dL f.1.1.data.toList name.data.toList=true then [f.1.2] else []):=by
 rw[iw,h,iL]
 unfold oG
 rw[List.filter_append,j6]
 congr 1
 by_cases hn:dL f.1.1.data.toList name.data.toList <;> simp[hn]
theorem aaw (l:List Fd) (name:ByteArray):(oG l name).length≤l.length:=by
 unfold oG
 rw[List.length_map]
 exact List.length_filter_le _ _
theorem aii {l:List Fd}{name s:ByteArray}(h:s ∈ oG l name):∃f ∈ l,f.1.2=s:=by
 unfold oG at h
 obtain⟨f,hf,rfl⟩:=List.mem_map.1 h
 exact⟨f,(List.mem_filter.1 hf).1,rfl⟩
def Oc (w:World) (n:Nat) (l:List Fd) (name:ByteArray) (ov iv:Value) (wr:World):Prop:=∃k:Nat,iv = .int .i64 k∧k≤n∧wr.ownsRow w.heap.size 9 1 ov (oG (l.take k) name).length (strs (oG (l.take k) name))∧Below w.heap.size w wr
theorem ajs {A:Option Addr}{n c:Nat}{l:List Fd}(name:ByteArray) (w:World) (hr:Rd w w.heap.size 3 A n (fds l)) (hn:n≤1048576) (hz:Tx l) (hnm:name.size≤140737488355328) :
 Calls Tryz.prog 76 #[.slice A n c,.string name] w (Dx w (oG l name)):=by
 have H1:=af hr
 have HZ:=af hz
 clear hr hz
 go_enter Tryz.func76,Tryz.ntmps76
 go_wp2_with fail
 go_loopw [5,10] (fun ov iv wr=>Oc w n l name ov iv wr) (fun _ iv _=>n-(intOf iv).toNat)
 case atStart=>exact⟨0,rfl,aL _,World.ownsRow_nil _ _ _ _,Below.refl _ _⟩
 case round=>
  obtain⟨k,rfl,hk,hown,hb⟩:=hrel
  have HO:=af (And.intro hown hb)
  have dZ:=hb.size
  clear hown hb
  by_cases hlt:k<n
  ·obtain⟨hl,b,o,rfl,hbl,hc⟩:=mE (H1.out.below HO.out.2 (ah _)) (by omega)
   obtain⟨f,hf⟩:∃f,l[k]?=some f:=⟨_,a_ (by omega)⟩
   obtain⟨z0,z1,z2⟩:=hc k f hf
   have n1:(k:Int)<n:=by omega
   have kM:=aij hf name
   have hvl:=aaw (l.take k) name
   rw[kS] at hvl
   have HS:=af kM
   have aY:b<wr.heap.size:=by omega
   have pQ:=af (fun w=>KE f.1.1 name w (by have:=(HZ.out f (fq hf)).1;omega) hnm)
   clear hc kM hf
   obtain⟨⟨nm,vl⟩,nv⟩:=f
   simp only at z0 z1 z2 pQ HS
   go_wp2_with fail
   refine (pQ.out _).mono ?_
   rintro e w2 ⟨rfl,hb2⟩
   have xO:(wr.alloc (.cells #[.string nm,.string vl,.bool nv] 26)).heap.size=wr.heap.size+1:=by simp
   have hq:=(hb2.block wr.heap.size (by omega)).trans (heap_alloc_new wr _)
   have hb3:Below wr.heap.size wr w2:=((Below.refl _ _).alloc (ah _) _).trans (hb2.mono (by omega))
   have c1:w2.cell? ⟨wr.heap.size,1,none⟩=some (.string vl):=by unfold World.cell?;rw[hq];rfl
   have aM:=af hb3
   have PY:=hb3.size
   have gY:Hid (∀ob,(w2.alloc ob).ownsRow w.heap.size 9 1 u5 (oG (l.take k) name).length (strs (oG (l.take k) name))):=af (fun ob=>d_ HO.out.1 ((Kept.jk (F:=fun _=>False) hb3).alloc ob) (fun _ _ h=>h))
   have iD:Hid (Below w.heap.size w w2):=af (HO.out.2.trans (hb3.mono dZ))
   clear hq hb2 hb3 pQ
   obtain⟨S,hS⟩:∃S,dL nm.data.toList name.data.toList=S:=⟨_,rfl⟩
   rw[hS] at HS ⊢
   clear hS
   cases S with
   | true=>
    go_wp2_with (at_builtin;refine dI ?_)
    unfold Stop
    refine dQ (.tmp 18) (.tmp 21) Db rfl rfl (gY.out _) rfl (Rd.one _ _ _) rfl (by simp[Value.oneCell']) (bn (by omega)) (by omega) (by simp;omega) ?_
    intro v6 w6 dK gu _
    obtain⟨A6,c6,kN,-,-,-,-⟩:=aC dK
    have HN:Hid (Oc w n l name v6 (.int .i64 (k+1:Nat)) w6):=af (by
     refine⟨k+1,rfl,hlt,?_,Below.app (iD.out.alloc (by omega) _) (gY.out _) gu (ah _) (by simp;omega)⟩
     rw[HS.out]
     simp only[if_true]
     rw[aN,I6]
     exact dK)
    rw[kN] at HN ⊢
    clear dK gu kN c1
    go_wp2
    go_roundw
    case rel=>exact HN.out
    case measure=>simp[intOf];omega
   | false=>
    have HN:Hid (Oc w n l name u5 (.int .i64 (k+1:Nat)) w2):=af (by
     refine⟨k+1,rfl,hlt,?_,iD.out⟩
     rw[HS.out,aj (by simp),kR]
     exact d_ HO.out.1 (Kept.jk (F:=fun _=>False) aM.out) (fun _ _ h=>h))
    clear c1
    go_wp2
    go_roundw
    case rel=>exact HN.out
    case measure=>simp[intOf];omega
  ·have hkn:k=n:=by omega
   have bf:l.length=n:=by have:=H1.out.1;rw[jJ] at this;omega
   have HE:Hid (Dx w (oG l name) (.returned u5) wr):=af (by
    have h1:=HO.out.1
    rw[cB (by omega)] at h1
    exact⟨_,rfl,h1,HO.out.2⟩)
   subst hkn
   clear bf
   go_wp2
   go_ret
   exact HE.out
end
end Go.Proofs.YtpkmciohehaboaaGreatDoor
