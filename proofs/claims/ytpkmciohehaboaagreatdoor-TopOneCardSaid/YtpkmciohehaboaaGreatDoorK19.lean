/- Part 19 of the proof. -/
import Derived.Test.YtpkmciohehaboaaGreatDoorK0
import Derived.Test.YtpkmciohehaboaaGreatDoorK18
set_option maxRecDepth 100000
set_option maxHeartbeats 100000000
set_option linter.unusedVariables false
set_option linter.unusedSimpArgs false
set_option linter.unusedSectionVars false
set_option linter.unnecessarySimpa false
namespace Go.Proofs.YtpkmciohehaboaaGreatDoor
section
open Go.RowKit Go.Maps
noncomputable def aab:Code:=((Tryz.f21.body.bind (CZ 8)).getD .skip)
theorem ahb {w5:World}{G:Gt}{Am As Ap:Option Addr}{nm cm ns cs np cp:Nat}{BD:Bool}{k0 k1 k2 k3 k4 k5 k9 bS bN k12 k13 k14 k15 k16 k17 k18 k19 k20 k21 k22 k23 k24 k25 k26 k27 k28 k29 k30 k31 k32 k33 k34 k35 k36 k37 k38 k39 k40 k41 k42 k43 k44 k45 k46 k47 k48 k49 k50 k51 k52 k53 k54 k55 k56 k57 k58 k59 k60 k61 k62 k63 k64 k65 k66 k67 k68 k69 k70 k71 k72 k73 k74 k75 k76 k77 k78 k79 k80 k81 k82 k83 k84 k85 k86 k87 k88 k89 k90 k91 k92 k93 k94 k95 k96 k97 k98 k99 Qj Qk Ql Qm Qn Qo Qp Qq Qr Qs Qt Qu Qv Qw Qx Qy Qz QA QB QC QD QE QF QG QH QI QJ QK QL QM QN QO QS QT QU QV QW QX QY QZ Q0 Q4 Q5 Q6 Q7 Q8 Q9 Q_ Ra Rb Rc Re Rf Rh Ri Rj Rk Rl Rm Rn Ro Rp Rs Rt Ru Rv Rx Ry Rz RA RB RD RF RG RH RJ RL RN RO RP RS RU RV RX RY RZ R4 R5 R6 R7 R8 R9 R_ Sa Sb Sc Sd Sg Si Sj Sk Sl Sm Sn Sq Sr Su Sv Sw Sy Sz SA SB SC SE SF:Value}(Hw:Hid ((nm=0∨ns=0∨np=0)→Hid (Value.bool true = .bool BD))) (KY:Hid (∀m s p,G.1 kz=some m→G.1 kV=some s→G.1 kC=some p→pW m s p=BD)) (iU:Hid (0<nm→∃m b k,Am=some ⟨b,k,none⟩∧nm=1∧G.1 kz=some m∧w5.cell? ⟨b,k,none⟩=some (.string m))) (fV:Hid (0<ns→∃m b k,As=some ⟨b,k,none⟩∧ns=1∧G.1 kV=some m∧w5.cell? ⟨b,k,none⟩=some (.string m))) (qC:Hid (0<np→∃m b k,Ap=some ⟨b,k,none⟩∧np=1∧G.1 kC=some m∧w5.cell? ⟨b,k,none⟩=some (.string m))) (f_:Hid (∀s,(G.1 kz=some s∨G.1 kC=some s)→s.size≤10000)) (K0 K1:Act→World→Prop) (R0:Ending→World→Prop)
 (hq:∀{s17 s18 s19 s20 s21 s22 s23 s24 s25 s26 s27 s28 s29 s30 s31 s32 s33 s34 s35 s36 s37 s38 s39 s40 s41 s42 s43 s44 s45 s46 s47 s48 s49 s50 s51 s52 s53 s54 s55 s56 s57 s58 s59 s60 s61 s62 s63 s64 s65 s66 s67 s68 s69 s70 s71 s72 s73 s74 s75 s76 s77 s78 s79 s80 s81 s82 s83 s84 s85 s86 s87 s88 s89 s90 s91 s92 s93 s94 s95 s96 s97 s98 s99 Tz TA TB TC TD TE TF TG TH TI TJ TL TN TP TQ TR TS TU TV TW TY TZ T9 MU T_ Ua Ub Uc Ud Ue Uf Ug Uh Ui Uj Uk Ul Um Un Uo Uq Ur Us Ut Uu Uv Uw Ux Uy Uz UA UB UC UD UE UF UG UH UI UJ UK UL UM UN UO UQ UR UT UU UW UX UY UZ U0 U4 U5 U6 U7 U8 U9 U_ Va Vb Vd Ve Vf Vg Vh Vi Vj Vk Vl Vm Vn Vo Vp Vq Vr Vs Vt Vu Vv Vw Vx Vy Vz VA VB VC VD VE VF VG VH VI VJ:Value},s78 = .bool BD→Exit.then K0 (Exit.then K1 (bodyPost Tryz.prog Tryz.f21 R0)) .normal ⟨#[k0,k1,k2,k3,k4,k5,.slice Am nm cm,.slice As ns cs,.slice Ap np cp,k9,bS,bN,k12,k13,k14,k15,k16,s17,s18,s19,s20,s21,s22,s23,s24,s25,s26,s27,s28,s29,s30,s31,s32,s33,s34,s35,s36,s37,s38,s39,s40,s41,s42,s43,s44,s45,s46,s47,s48,s49,s50,s51,s52,s53,s54,s55,s56,s57,s58,s59,s60,s61,s62,s63,s64,s65,s66,s67,s68,s69,s70,s71,s72,s73,s74,s75,s76,s77,s78,s79,s80,s81,s82,s83,s84,s85,s86,s87,s88,s89,s90,s91,s92,s93,s94,s95,s96,s97,s98,s99,Tz,TA,TB,TC,TD,TE,TF,TG,TH,TI,TJ,TL,TN,TP,TQ,TR,TS,TU,TV,TW,TY,TZ,T9,MU,T_,Ua,Ub,Uc,Ud,Ue,Uf,Ug,Uh,Ui,Uj,Uk,Ul,Um,Un,Uo,Uq,Ur,Us,Ut,Uu,Uv,Uw,Ux,Uy,Uz,UA,UB,UC,UD,UE,UF,UG,UH,UI,UJ,UK,UL,UM,UN,UO,UQ,UR,UT,UU,UW,UX,UY,UZ,U0,U4,U5,U6,U7,U8,U9,U_,Va,Vb,Vd,Ve,Vf,Vg,Vh,Vi,Vj,Vk,Vl,Vm,Vn,Vo,Vp,Vq,Vr,Vs,Vt,Vu,Vv,Vw,Vx,Vy,Vz,VA,VB,VC,VD,VE,VF,VG,VH,VI,VJ],[]⟩ w5.drew) :
 Code.wp Tryz.prog aab (Exit.then K0 (Exit.then K1 (bodyPost Tryz.prog Tryz.f21 R0))) ⟨#[k0,k1,k2,k3,k4,k5,.slice Am nm cm,.slice As ns cs,.slice Ap np cp,k9,bS,bN,k12,k13,k14,k15,k16,k17,k18,k19,k20,k21,k22,k23,k24,k25,k26,k27,k28,k29,k30,k31,k32,k33,k34,k35,k36,k37,k38,k39,k40,k41,k42,k43,k44,k45,k46,k47,k48,k49,k50,k51,k52,k53,k54,k55,k56,k57,k58,k59,k60,k61,k62,k63,k64,k65,k66,k67,k68,k69,k70,k71,k72,k73,k74,k75,k76,k77,k78,k79,k80,k81,k82,k83,k84,k85,k86,k87,k88,k89,k90,k91,k92,k93,k94,k95,k96,k97,k98,k99,Qj,Qk,Ql,Qm,Qn,Qo,Qp,Qq,Qr,Qs,Qt,Qu,Qv,Qw,Qx,Qy,Qz,QA,QB,QC,QD,QE,QF,QG,QH,QI,QJ,QK,QL,QM,QN,QO,QS,QT,QU,QV,QW,QX,QY,QZ,Q0,Q4,Q5,Q6,Q7,Q8,Q9,Q_,Ra,Rb,Rc,Re,Rf,Rh,Ri,Rj,Rk,Rl,Rm,Rn,Ro,Rp,Rs,Rt,Ru,Rv,Rx,Ry,Rz,RA,RB,RD,RF,RG,RH,RJ,RL,RN,RO,RP,RS,RU,RV,RX,RY,RZ,R4,R5,R6,R7,R8,R9,R_,Sa,Sb,Sc,Sd,Sg,Si,Sj,Sk,Sl,Sm,Sn,Sq,Sr,Su,Sv,Sw,Sy,Sz,SA,SB,SC,SE,SF],[]⟩ w5:=by
 conv=>arg 2;whnf
 rcases zT nm with hm0 | hm0
 ·subst hm0
  have jS:=Hw.out (.inl rfl)
  refine wp_region_held_drew (S:=fun w'=>True) (by kernel_rfl) (trivial) (fun hH=>?_)
  refine ag 0 31 hH ?_
  refine ag 1 32 hH ?_
  refine ag 2 33 hH ?_
  refine ag 3 34 hH ?_
  refine ai 4 35 hH ?_
  refine ai 5 36 hH ?_
  refine ai 6 37 hH ?_
  refine ag 7 38 hH ?_
  refine ag 8 39 hH ?_
  refine ai 9 40 hH ?_
  refine ai 10 41 hH ?_
  refine ai 11 42 hH ?_
  refine ag 12 43 hH ?_
  refine ag 13 44 hH ?_
  refine ai 14 45 hH ?_
  refine ai 15 46 hH ?_
  refine ai 16 47 hH ?_
  refine ai 17 48 hH ?_
  refine ai 18 49 hH ?_
  refine ag 19 50 hH ?_
  refine ag 20 51 hH ?_
  refine ai 21 52 hH ?_
  refine ai 22 53 hH ?_
  refine ai 23 54 hH ?_
  refine ai 24 55 hH ?_
  refine ag 25 56 hH ?_
  refine ag 26 57 hH ?_
  refine ai 27 58 hH ?_
  refine ai 28 59 hH ?_
  refine ai 29 60 hH ?_
  refine ai 30 61 hH ?_
  refine ai 31 62 hH ?_
  refine ai 32 63 hH ?_
  refine ai 33 64 hH ?_
  refine ai 34 65 hH ?_
  refine ai 35 66 hH ?_
  refine ai 36 67 hH ?_
  refine ag 37 68 hH ?_
  refine ag 38 69 hH ?_
  refine ai 39 70 hH ?_
  refine ai 40 71 hH ?_
  refine ai 41 72 hH ?_
  refine ai 42 73 hH ?_
  refine ai 43 74 hH ?_
  refine ai 44 75 hH ?_
  refine ai 45 76 hH ?_
  refine ai 46 77 hH ?_
  refine ag 47 78 hH ?_
  refine wpAnyH_done (by kernel_rfl) ?_ _
  exact hq jS.out
 obtain⟨m,bm,om,rfl,rfl,iG,zm⟩:=iU.out hm0
 rcases zT ns with hs0 | hs0
 ·subst hs0
  have jS:=Hw.out (.inr (.inl rfl))
  refine wp_region_held_drew (S:=fun w'=>w'.cell? ⟨bm,om,none⟩=some (.string m)) (by kernel_rfl) (zm) (fun hH=>?_)
  refine ag 0 31 hH ?_
  refine ag 1 32 hH ?_
  refine ag 2 33 hH ?_
  refine ag 3 34 hH ?_
  refine ag 4 35 hH ?_
  refine ag 5 36 hH ?_
  refine ag 6 37 hH ?_
  refine ag 7 38 hH ?_
  refine ag 8 39 hH ?_
  refine ai 9 40 hH ?_
  refine ai 10 41 hH ?_
  refine ai 11 42 hH ?_
  refine ag 12 43 hH ?_
  refine ag 13 44 hH ?_
  refine ai 14 45 hH ?_
  refine ai 15 46 hH ?_
  refine ai 16 47 hH ?_
  refine ai 17 48 hH ?_
  refine ai 18 49 hH ?_
  refine ag 19 50 hH ?_
  refine ag 20 51 hH ?_
  refine ai 21 52 hH ?_
  refine ai 22 53 hH ?_
  refine ai 23 54 hH ?_
  refine ai 24 55 hH ?_
  refine ag 25 56 hH ?_
  refine ag 26 57 hH ?_
  refine ai 27 58 hH ?_
  refine ai 28 59 hH ?_
  refine ai 29 60 hH ?_
  refine ai 30 61 hH ?_
  refine ai 31 62 hH ?_
  refine ai 32 63 hH ?_
  refine ai 33 64 hH ?_
  refine ai 34 65 hH ?_
  refine ai 35 66 hH ?_
  refine ai 36 67 hH ?_
  refine ag 37 68 hH ?_
  refine ag 38 69 hH ?_
  refine ai 39 70 hH ?_
  refine ai 40 71 hH ?_
  refine ai 41 72 hH ?_
  refine ai 42 73 hH ?_
  refine ai 43 74 hH ?_
  refine ai 44 75 hH ?_
  refine ai 45 76 hH ?_
  refine ai 46 77 hH ?_
  refine ag 47 78 hH ?_
  refine wpAnyH_done (by kernel_rfl) ?_ _
  exact hq jS.out
 obtain⟨sc,bs,os,rfl,rfl,hsv,zs⟩:=fV.out hs0
 rcases zT np with CK | CK
 ·subst CK
  have jS:=Hw.out (.inr (.inr rfl))
  refine wp_region_held_drew (S:=fun w'=>w'.cell? ⟨bm,om,none⟩=some (.string m)∧w'.cell? ⟨bs,os,none⟩=some (.string sc)) (by kernel_rfl) (⟨zm,zs⟩) (fun hH=>?_)
  refine ag 0 31 hH ?_
  refine ag 1 32 hH ?_
  refine ag 2 33 hH ?_
  refine ag 3 34 hH ?_
  refine ag 4 35 hH ?_
  refine ag 5 36 hH ?_
  refine ag 6 37 hH ?_
  refine ag 7 38 hH ?_
  refine ag 8 39 hH ?_
  refine ag 9 40 hH ?_
  refine ag 10 41 hH ?_
  refine ag 11 42 hH ?_
  refine ag 12 43 hH ?_
  refine ag 13 44 hH ?_
  refine ai 14 45 hH ?_
  refine ai 15 46 hH ?_
  refine ai 16 47 hH ?_
  refine ai 17 48 hH ?_
  refine ai 18 49 hH ?_
  refine ag 19 50 hH ?_
  refine ag 20 51 hH ?_
  refine ai 21 52 hH ?_
  refine ai 22 53 hH ?_
  refine ai 23 54 hH ?_
  refine ai 24 55 hH ?_
  refine ag 25 56 hH ?_
  refine ag 26 57 hH ?_
  refine ai 27 58 hH ?_
  refine ai 28 59 hH ?_
  refine ai 29 60 hH ?_
  refine ai 30 61 hH ?_
  refine ai 31 62 hH ?_
  refine ai 32 63 hH ?_
  refine ai 33 64 hH ?_
  refine ai 34 65 hH ?_
  refine ai 35 66 hH ?_
  refine ai 36 67 hH ?_
  refine ag 37 68 hH ?_
  refine ag 38 69 hH ?_
  refine ai 39 70 hH ?_
  refine ai 40 71 hH ?_
  refine ai 41 72 hH ?_
  refine ai 42 73 hH ?_
  refine ai 43 74 hH ?_
  refine ai 44 75 hH ?_
  refine ai 45 76 hH ?_
  refine ai 46 77 hH ?_
  refine ag 47 78 hH ?_
  refine wpAnyH_done (by kernel_rfl) ?_ _
  exact hq jS.out
 obtain⟨pt,bp,op,rfl,rfl,hpv,zp⟩:=qC.out CK
 have gm:=af (fun w=>MR m w (by have:=f_.out m (.inl iG);omega))
 have qE:=af (fun w=>ahW pt m w (by have:=f_.out pt (.inr hpv);omega))
 have xE:=KY.out m sc pt iG hsv hpv
 obtain⟨PH,hPH⟩:∃PH,wR pt m=PH:=⟨_,rfl⟩
 obtain⟨TK,hTK⟩:∃TK,iB m.data.toList=TK:=⟨_,rfl⟩
 rw[hPH] at qE
 rw[hTK] at gm
 unfold pW at xE
 rw[hPH,hTK] at xE
 clear hPH hTK
 have c1:=Ew (m:=m) (c:=LM) (l:=[67,79,78,78,69,67,84]) (by decide +kernel)
 have c2:=Ew (m:=sc) (c:=Kg) (l:=[104,116,116,112]) (by decide +kernel)
 have c3:=Ew (m:=sc) (c:=Kh) (l:=[104,116,116,112,115]) (by decide +kernel)
 cases TK with
 | false=>
  have jS:Hid (Value.bool true = .bool BD):=af (by rw[←xE];rfl)
  clear c1 c2 c3 xE
  refine wp_region_held_drew (S:=fun w'=>w'.cell? ⟨bm,om,none⟩=some (.string m)∧w'.cell? ⟨bs,os,none⟩=some (.string sc)∧w'.cell? ⟨bp,op,none⟩=some (.string pt)) (by kernel_rfl) (⟨zm,zs,zp⟩) (fun hH=>?_)
  refine ag 0 31 hH ?_
  refine ag 1 32 hH ?_
  refine ag 2 33 hH ?_
  refine ag 3 34 hH ?_
  refine ag 4 35 hH ?_
  refine ag 5 36 hH ?_
  refine ag 6 37 hH ?_
  refine ag 7 38 hH ?_
  refine ag 8 39 hH ?_
  refine ag 9 40 hH ?_
  refine ag 10 41 hH ?_
  refine ag 11 42 hH ?_
  refine ag 12 43 hH ?_
  refine ag 13 44 hH ?_
  refine ag 14 45 hH ?_
  refine ag 15 46 hH ?_
  refine ag 16 47 hH ?_
  refine aR 17 (fun K hK=>?_)
  go_simp
  refine (gm.out _).mono ?_
  rintro e3 w3 ⟨rfl,rfl⟩
  refine hK.out _ _ (hH) (fun hH=>?_)
  clear hK K
  try simp only[Act.put,az,ay,aA]
  refine ag 18 49 hH ?_
  refine ag 19 50 hH ?_
  refine ag 20 51 hH ?_
  refine ai 21 52 hH ?_
  refine ai 22 53 hH ?_
  refine ai 23 54 hH ?_
  refine ai 24 55 hH ?_
  refine ag 25 56 hH ?_
  refine ag 26 57 hH ?_
  refine ai 27 58 hH ?_
  refine ai 28 59 hH ?_
  refine ai 29 60 hH ?_
  refine ai 30 61 hH ?_
  refine ai 31 62 hH ?_
  refine ai 32 63 hH ?_
  refine ai 33 64 hH ?_
  refine ai 34 65 hH ?_
  refine ai 35 66 hH ?_
  refine ai 36 67 hH ?_
  refine ag 37 68 hH ?_
  refine ag 38 69 hH ?_
  refine ai 39 70 hH ?_
  refine ai 40 71 hH ?_
  refine ai 41 72 hH ?_
  refine ai 42 73 hH ?_
  refine ai 43 74 hH ?_
  refine ai 44 75 hH ?_
  refine ai 45 76 hH ?_
  refine ai 46 77 hH ?_
  refine ag 47 78 hH ?_
  refine wpAnyH_done (by kernel_rfl) ?_ _
  exact hq jS.out
 | true=>
  rcases c1 with ⟨k1,e1⟩ | ⟨k1,e1⟩
  ·have jS:Hid (Value.bool true = .bool BD):=af (by rw[←xE,bP k1];rfl)
   clear c2 c3 xE k1
   refine wp_region_held_drew (S:=fun w'=>w'.cell? ⟨bm,om,none⟩=some (.string m)∧w'.cell? ⟨bs,os,none⟩=some (.string sc)∧w'.cell? ⟨bp,op,none⟩=some (.string pt)) (by kernel_rfl) (⟨zm,zs,zp⟩) (fun hH=>?_)
   refine ag 0 31 hH ?_
   refine ag 1 32 hH ?_
   refine ag 2 33 hH ?_
   refine ag 3 34 hH ?_
   refine ag 4 35 hH ?_
   refine ag 5 36 hH ?_
   refine ag 6 37 hH ?_
   refine ag 7 38 hH ?_
   refine ag 8 39 hH ?_
   refine ag 9 40 hH ?_
   refine ag 10 41 hH ?_
   refine ag 11 42 hH ?_
   refine ag 12 43 hH ?_
   refine ag 13 44 hH ?_
   refine ag 14 45 hH ?_
   refine ag 15 46 hH ?_
   refine ag 16 47 hH ?_
   refine aR 17 (fun K hK=>?_)
   go_simp
   refine (gm.out _).mono ?_
   rintro e3 w3 ⟨rfl,rfl⟩
   refine hK.out _ _ (hH) (fun hH=>?_)
   clear hK K
   try simp only[Act.put,az,ay,aA]
   refine ag 18 49 hH ?_
   refine ag 19 50 hH ?_
   refine ag 20 51 hH ?_
   refine ag 21 52 hH ?_
   refine ag 22 53 hH ?_
   refine ag 23 54 hH ?_
   refine ag 24 55 hH ?_
   refine ag 25 56 hH ?_
   refine ag 26 57 hH ?_
   refine ai 27 58 hH ?_
   refine ai 28 59 hH ?_
   refine ai 29 60 hH ?_
   refine ai 30 61 hH ?_
   refine ai 31 62 hH ?_
   refine ai 32 63 hH ?_
   refine ai 33 64 hH ?_
   refine ai 34 65 hH ?_
   refine ai 35 66 hH ?_
   refine ai 36 67 hH ?_
   refine ag 37 68 hH ?_
   refine ag 38 69 hH ?_
   refine ai 39 70 hH ?_
   refine ai 40 71 hH ?_
   refine ai 41 72 hH ?_
   refine ai 42 73 hH ?_
   refine ai 43 74 hH ?_
   refine ai 44 75 hH ?_
   refine ai 45 76 hH ?_
   refine ai 46 77 hH ?_
   refine ag 47 78 hH ?_
   refine wpAnyH_done (by kernel_rfl) ?_ _
   exact hq jS.out
  ·rcases c2 with ⟨k2,e2⟩ | ⟨k2,e2⟩
   ·have jS:Hid (Value.bool (!PH) = .bool BD):=af (by rw[←xE,bU k1,bU (not_not_intro k2)];cases PH <;> rfl)
    clear c3 xE k1 k2
    refine wp_region_held_drew (S:=fun w'=>w'.cell? ⟨bm,om,none⟩=some (.string m)∧w'.cell? ⟨bs,os,none⟩=some (.string sc)∧w'.cell? ⟨bp,op,none⟩=some (.string pt)) (by kernel_rfl) (⟨zm,zs,zp⟩) (fun hH=>?_)
    refine ag 0 31 hH ?_
    refine ag 1 32 hH ?_
    refine ag 2 33 hH ?_
    refine ag 3 34 hH ?_
    refine ag 4 35 hH ?_
    refine ag 5 36 hH ?_
    refine ag 6 37 hH ?_
    refine ag 7 38 hH ?_
    refine ag 8 39 hH ?_
    refine ag 9 40 hH ?_
    refine ag 10 41 hH ?_
    refine ag 11 42 hH ?_
    refine ag 12 43 hH ?_
    refine ag 13 44 hH ?_
    refine ag 14 45 hH ?_
    refine ag 15 46 hH ?_
    refine ag 16 47 hH ?_
    refine aR 17 (fun K hK=>?_)
    go_simp
    refine (gm.out _).mono ?_
    rintro e3 w3 ⟨rfl,rfl⟩
    refine hK.out _ _ (hH) (fun hH=>?_)
    clear hK K
    try simp only[Act.put,az,ay,aA]
    refine ag 18 49 hH ?_
    refine ag 19 50 hH ?_
    refine ag 20 51 hH ?_
    refine ag 21 52 hH ?_
    refine ag 22 53 hH ?_
    refine ag 23 54 hH ?_
    refine ag 24 55 hH ?_
    refine ag 25 56 hH ?_
    refine ag 26 57 hH ?_
    refine ag 27 58 hH ?_
    refine ag 28 59 hH ?_
    refine ag 29 60 hH ?_
    refine ag 30 61 hH ?_
    refine ag 31 62 hH ?_
    refine ai 32 63 hH ?_
    refine ai 33 64 hH ?_
    refine ai 34 65 hH ?_
    refine ai 35 66 hH ?_
    refine ag 36 67 hH ?_
    refine ag 37 68 hH ?_
    refine ag 38 69 hH ?_
    refine ag 39 70 hH ?_
    refine ag 40 71 hH ?_
    refine ag 41 72 hH ?_
    refine ag 42 73 hH ?_
    refine ag 43 74 hH ?_
    refine ag 44 75 hH ?_
    refine aR 45 (fun K hK=>?_)
    go_simp
    refine (qE.out _).mono ?_
    rintro e3 w3 ⟨rfl,rfl⟩
    refine hK.out _ _ (hH) (fun hH=>?_)
    clear hK K
    try simp only[Act.put,az,ay,aA]
    refine ag 46 77 hH ?_
    refine ag 47 78 hH ?_
    refine wpAnyH_done (by kernel_rfl) ?_ _
    exact hq jS.out
   ·rcases c3 with ⟨k3,e3⟩ | ⟨k3,e3⟩
    ·have jS:Hid (Value.bool (!PH) = .bool BD):=af (by rw[←xE,bU k1,bP k2,bU (not_not_intro k3)];cases PH <;> rfl)
     clear xE k1 k2 k3
     refine wp_region_held_drew (S:=fun w'=>w'.cell? ⟨bm,om,none⟩=some (.string m)∧w'.cell? ⟨bs,os,none⟩=some (.string sc)∧w'.cell? ⟨bp,op,none⟩=some (.string pt)) (by kernel_rfl) (⟨zm,zs,zp⟩) (fun hH=>?_)
     refine ag 0 31 hH ?_
     refine ag 1 32 hH ?_
     refine ag 2 33 hH ?_
     refine ag 3 34 hH ?_
     refine ag 4 35 hH ?_
     refine ag 5 36 hH ?_
     refine ag 6 37 hH ?_
     refine ag 7 38 hH ?_
     refine ag 8 39 hH ?_
     refine ag 9 40 hH ?_
     refine ag 10 41 hH ?_
     refine ag 11 42 hH ?_
     refine ag 12 43 hH ?_
     refine ag 13 44 hH ?_
     refine ag 14 45 hH ?_
     refine ag 15 46 hH ?_
     refine ag 16 47 hH ?_
     refine aR 17 (fun K hK=>?_)
     go_simp
     refine (gm.out _).mono ?_
     rintro e3 w3 ⟨rfl,rfl⟩
     refine hK.out _ _ (hH) (fun hH=>?_)
     clear hK K
     try simp only[Act.put,az,ay,aA]
     refine ag 18 49 hH ?_
     refine ag 19 50 hH ?_
     refine ag 20 51 hH ?_
     refine ag 21 52 hH ?_
     refine ag 22 53 hH ?_
     refine ag 23 54 hH ?_
     refine ag 24 55 hH ?_
     refine ag 25 56 hH ?_
     refine ag 26 57 hH ?_
     refine ag 27 58 hH ?_
     refine ag 28 59 hH ?_
     refine ag 29 60 hH ?_
     refine ag 30 61 hH ?_
     refine ag 31 62 hH ?_
     refine ag 32 63 hH ?_
     refine ag 33 64 hH ?_
     refine ag 34 65 hH ?_
     refine ag 35 66 hH ?_
     refine ag 36 67 hH ?_
     refine ag 37 68 hH ?_
     refine ag 38 69 hH ?_
     refine ag 39 70 hH ?_
     refine ag 40 71 hH ?_
     refine ag 41 72 hH ?_
     refine ag 42 73 hH ?_
     refine ag 43 74 hH ?_
     refine ag 44 75 hH ?_
     refine aR 45 (fun K hK=>?_)
     go_simp
     refine (qE.out _).mono ?_
     rintro e3 w3 ⟨rfl,rfl⟩
     refine hK.out _ _ (hH) (fun hH=>?_)
     clear hK K
     try simp only[Act.put,az,ay,aA]
     refine ag 46 77 hH ?_
     refine ag 47 78 hH ?_
     refine wpAnyH_done (by kernel_rfl) ?_ _
     exact hq jS.out
    ·have jS:Hid (Value.bool true = .bool BD):=af (by rw[←xE,bU k1,bP k2,bP k3];cases PH <;> rfl)
     clear xE k1 k2 k3
     refine wp_region_held_drew (S:=fun w'=>w'.cell? ⟨bm,om,none⟩=some (.string m)∧w'.cell? ⟨bs,os,none⟩=some (.string sc)∧w'.cell? ⟨bp,op,none⟩=some (.string pt)) (by kernel_rfl) (⟨zm,zs,zp⟩) (fun hH=>?_)
     refine ag 0 31 hH ?_
     refine ag 1 32 hH ?_
     refine ag 2 33 hH ?_
     refine ag 3 34 hH ?_
     refine ag 4 35 hH ?_
     refine ag 5 36 hH ?_
     refine ag 6 37 hH ?_
     refine ag 7 38 hH ?_
     refine ag 8 39 hH ?_
     refine ag 9 40 hH ?_
     refine ag 10 41 hH ?_
     refine ag 11 42 hH ?_
     refine ag 12 43 hH ?_
     refine ag 13 44 hH ?_
     refine ag 14 45 hH ?_
     refine ag 15 46 hH ?_
     refine ag 16 47 hH ?_
     refine aR 17 (fun K hK=>?_)
     go_simp
     refine (gm.out _).mono ?_
     rintro e3 w3 ⟨rfl,rfl⟩
     refine hK.out _ _ (hH) (fun hH=>?_)
     clear hK K
     try simp only[Act.put,az,ay,aA]
     refine ag 18 49 hH ?_
     refine ag 19 50 hH ?_
     refine ag 20 51 hH ?_
     refine ag 21 52 hH ?_
     refine ag 22 53 hH ?_
     refine ag 23 54 hH ?_
     refine ag 24 55 hH ?_
     refine ag 25 56 hH ?_
     refine ag 26 57 hH ?_
     refine ag 27 58 hH ?_
     refine ag 28 59 hH ?_
     refine ag 29 60 hH ?_
     refine ag 30 61 hH ?_
     refine ag 31 62 hH ?_
     refine ag 32 63 hH ?_
     refine ag 33 64 hH ?_
     refine ag 34 65 hH ?_
     refine ag 35 66 hH ?_
     refine ag 36 67 hH ?_
     refine ag 37 68 hH ?_
     refine ag 38 69 hH ?_
     refine ai 39 70 hH ?_
     refine ai 40 71 hH ?_
     refine ai 41 72 hH ?_
     refine ai 42 73 hH ?_
     refine ai 43 74 hH ?_
     refine ai 44 75 hH ?_
     refine ai 45 76 hH ?_
     refine ai 46 77 hH ?_
     refine ag 47 78 hH ?_
     refine wpAnyH_done (by kernel_rfl) ?_ _
     exact hq jS.out
end
section
open Go.RowKit Go.Maps
theorem ac7 (a b:ByteArray):(!(a.toList==b.toList)) = !decide (a=b):=by
 by_cases h:a=b
 ·rw[bP h,h];simp
 ·rw[bU h,(Lib.bytes_beq_false_iff a b).2 h]
noncomputable def Z_:Code:=((Tryz.f21.body.bind (CZ 14)).getD .skip)
theorem ag_ {w9:World}{l:List Fd}{G:Gt}{A9:Option Addr}{n4 c9:Nat}{BW:Bool}{k0 k1 k2 k3 k4 k5 k6 k7 k8 k9 bN k12 k13 k14 k15 k16 k17 k18 k19 k20 k21 k22 k23 k24 k25 k26 k27 k28 k29 k30 k31 k32 k33 k34 k35 k36 k37 k38 k39 k40 k41 k42 k43 k44 k45 k46 k47 k48 k49 k50 k51 k52 k53 k54 k55 k56 k57 k58 k59 k60 k61 k62 k63 k64 k65 k66 k67 k68 k69 k70 k71 k72 k73 k74 k75 k76 k77 k78 k79 k80 k81 k82 k83 k84 k85 k86 k87 k88 k89 k90 k91 k92 k93 k94 k95 k96 k97 k98 k99 Qj Qk Ql Qm Qn Qo Qp Qq Qr Qs Qt Qu Qv Qw Qx Qy Qz QA QB QC QD QE QF QG QH QI QJ QK QL QM QN QO QS QT QU QV QW QX QY QZ Q0 Q4 Q5 Q6 Q7 Q8 Q9 Q_ Ra Rb Rc Re Rf Rh Ri Rj Rk Rl Rm Rn Ro Rp Rs Rt Ru Rv Rx Ry Rz RA RB RD RF RG RH RJ RL RN RO RP RS RU RV RX RY RZ R4 R5 R6 R7 R8 R9 R_ Sa Sb Sc Sd Sg Si Sj Sk Sl Sm Sn Sq Sr Su Sv Sw Sy Sz SA SB SC SE SF:Value}(hn42:n4≤2) (Jg:Hid (n4=0→Hid (Value.bool true = .bool BW))) (KZ:Hid (0<n4→∃x y b o kk,A9=some ⟨b,o,none⟩∧n4=kk+1∧b<w9.heap.size∧w9.cell? ⟨b,o,none⟩=some (.string x)∧w9.cell? ⟨b,o+kk,none⟩=some (.string y)∧BW=(!(jW x && jW y && decide (aJ (aO x.data.toList)=aJ (aO y.data.toList))))∧x.size≤10000∧y.size≤10000∧((iX (G.1 iM) (aF l aG)).2=0→(iX (G.1 iM) (aF l aG)).1=aJ (aO x.data.toList)))) (K0 K1:Act→World→Prop) (R0:Ending→World→Prop)
 (hq:∀{s17 s18 s19 s20 s21 s22 s23 s24 s25 s26 s27 s28 s29 s30 s31 s32 s33 s34 s35 s36 s37 s38 s39 s40 s41 s42 s43 s44 s45 s46 s47 s48 s49 s50 s51 s52 s53 s54 s55 s56 s57 s58 s59 s60 s61 s62 s63 s64 s65 s66 s67 s68 s69 s70 s71 s72 s73 s74 s75 s76 s77 s78 s79 s80 s81 s82 s83 s84 s85 s86 s87 s88 s89 s90 s91 s92 s93 s94 s95 s96 s97 s98 s99 Tz TA TB TC TD TE TF TG TH TI TJ TL TN TP TQ TR TS TU TV TW TY TZ T9 MU T_ Ua Ub Uc Ud Ue Uf Ug Uh Ui Uj Uk Ul Um Un Uo Uq Ur Us Ut Uu Uv Uw Ux Uy Uz UA UB UC UD UE UF UG UH UI UJ UK UL UM UN UO UQ UR UT UU UW UX UY UZ U0 U4 U5 U6 U7 U8 U9 U_ Va Vb Vd Ve Vf Vg Vh Vi Vj Vk Vl Vm Vn Vo Vp Vq Vr Vs Vt Vu Vv Vw Vx Vy Vz VA VB VC VD VE VF VG VH VI VJ:Value} {wx:World},MU = .bool BW→Below w9.heap.size w9 wx→Exit.then K0 (Exit.then K1 (bodyPost Tryz.prog Tryz.f21 R0)) .normal ⟨#[k0,k1,k2,k3,k4,k5,k6,k7,k8,k9,.slice A9 n4 c9,bN,k12,k13,k14,k15,k16,s17,s18,s19,s20,s21,s22,s23,s24,s25,s26,s27,s28,s29,s30,s31,s32,s33,s34,s35,s36,s37,s38,s39,s40,s41,s42,s43,s44,s45,s46,s47,s48,s49,s50,s51,s52,s53,s54,s55,s56,s57,s58,s59,s60,s61,s62,s63,s64,s65,s66,s67,s68,s69,s70,s71,s72,s73,s74,s75,s76,s77,s78,s79,s80,s81,s82,s83,s84,s85,s86,s87,s88,s89,s90,s91,s92,s93,s94,s95,s96,s97,s98,s99,Tz,TA,TB,TC,TD,TE,TF,TG,TH,TI,TJ,TL,TN,TP,TQ,TR,TS,TU,TV,TW,TY,TZ,T9,MU,T_,Ua,Ub,Uc,Ud,Ue,Uf,Ug,Uh,Ui,Uj,Uk,Ul,Um,Un,Uo,Uq,Ur,Us,Ut,Uu,Uv,Uw,Ux,Uy,Uz,UA,UB,UC,UD,UE,UF,UG,UH,UI,UJ,UK,UL,UM,UN,UO,UQ,UR,UT,UU,UW,UX,UY,UZ,U0,U4,U5,U6,U7,U8,U9,U_,Va,Vb,Vd,Ve,Vf,Vg,Vh,Vi,Vj,Vk,Vl,Vm,Vn,Vo,Vp,Vq,Vr,Vs,Vt,Vu,Vv,Vw,Vx,Vy,Vz,VA,VB,VC,VD,VE,VF,VG,VH,VI,VJ],[]⟩ wx) :
 Code.wp Tryz.prog Z_ (Exit.then K0 (Exit.then K1 (bodyPost Tryz.prog Tryz.f21 R0))) ⟨#[k0,k1,k2,k3,k4,k5,k6,k7,k8,k9,.slice A9 n4 c9,bN,k12,k13,k14,k15,k16,k17,k18,k19,k20,k21,k22,k23,k24,k25,k26,k27,k28,k29,k30,k31,k32,k33,k34,k35,k36,k37,k38,k39,k40,k41,k42,k43,k44,k45,k46,k47,k48,k49,k50,k51,k52,k53,k54,k55,k56,k57,k58,k59,k60,k61,k62,k63,k64,k65,k66,k67,k68,k69,k70,k71,k72,k73,k74,k75,k76,k77,k78,k79,k80,k81,k82,k83,k84,k85,k86,k87,k88,k89,k90,k91,k92,k93,k94,k95,k96,k97,k98,k99,Qj,Qk,Ql,Qm,Qn,Qo,Qp,Qq,Qr,Qs,Qt,Qu,Qv,Qw,Qx,Qy,Qz,QA,QB,QC,QD,QE,QF,QG,QH,QI,QJ,QK,QL,QM,QN,QO,QS,QT,QU,QV,QW,QX,QY,QZ,Q0,Q4,Q5,Q6,Q7,Q8,Q9,Q_,Ra,Rb,Rc,Re,Rf,Rh,Ri,Rj,Rk,Rl,Rm,Rn,Ro,Rp,Rs,Rt,Ru,Rv,Rx,Ry,Rz,RA,RB,RD,RF,RG,RH,RJ,RL,RN,RO,RP,RS,RU,RV,RX,RY,RZ,R4,R5,R6,R7,R8,R9,R_,Sa,Sb,Sc,Sd,Sg,Si,Sj,Sk,Sl,Sm,Sn,Sq,Sr,Su,Sv,Sw,Sy,Sz,SA,SB,SC,SE,SF],[]⟩ w9:=by
 conv=>arg 2;whnf
 have sP:Hid (Below w9.heap.size w9 w9.drew):=af (by exact⟨rfl,rfl,rfl,ah _,fun _ _=>rfl⟩)
 have K5:=sP
 rcases zT n4 with h40 | h40
 ·subst h40
  have jS:=Jg.out rfl
  refine wp_region_held_drew (S:=fun w'=>True) (by kernel_rfl) (trivial) (fun hH=>?_)
  refine ag 0 90 hH ?_
  refine ag 1 91 hH ?_
  refine ag 2 92 hH ?_
  refine ag 3 93 hH ?_
  refine ai 4 94 hH ?_
  refine ai 5 95 hH ?_
  refine ai 6 96 hH ?_
  refine ai 7 97 hH ?_
  refine ai 8 98 hH ?_
  refine ag 9 99 hH ?_
  refine ag 10 100 hH ?_
  refine ai 11 101 hH ?_
  refine ai 12 102 hH ?_
  refine ai 13 103 hH ?_
  refine ai 14 104 hH ?_
  refine ai 15 105 hH ?_
  refine ai 16 106 hH ?_
  refine ai 17 107 hH ?_
  refine ai 18 108 hH ?_
  refine ag 19 109 hH ?_
  refine ag 20 110 hH ?_
  refine ai 21 111 hH ?_
  refine ai 22 112 hH ?_
  refine ai 23 113 hH ?_
  refine ai 24 114 hH ?_
  refine ai 25 115 hH ?_
  refine ai 26 116 hH ?_
  refine ai 27 117 hH ?_
  refine ai 28 118 hH ?_
  refine ai 29 119 hH ?_
  refine ai 30 120 hH ?_
  refine ai 31 121 hH ?_
  refine ai 32 122 hH ?_
  refine ag 33 123 hH ?_
  refine wpAnyH_done (by kernel_rfl) ?_ _
  exact hq jS.out (K5.out)
 obtain⟨x,y,b,o,kk,rfl,rfl,hbl,zx,zy,aY,hxs,hys,-⟩:=KZ.out h40
 have hwk:IntKind.i64.wrap (kk:Int)=kk:=IntWalk.i64_in _ ⟨by omega,by omega⟩
 have hkl:(kk:Int)<(kk:Int)+1:=by omega
 have HAX:=af (fun w=>aac x w (by omega))
 have HAY:=af (fun w=>aac y w (by omega))
 have HLX:=af (fun w=>EG x w (by omega))
 have HLY:=af (fun w=>EG y w (by omega))
 obtain⟨AX,hAX⟩:∃AX,jW x=AX:=⟨_,rfl⟩
 obtain⟨AY,hAY⟩:∃AY,jW y=AY:=⟨_,rfl⟩
 obtain⟨LX,hLX⟩:∃LX,aJ (aO x.data.toList)=LX:=⟨_,rfl⟩
 obtain⟨LY,hLY⟩:∃LY,aJ (aO y.data.toList)=LY:=⟨_,rfl⟩
 rw[hAX] at HAX
 rw[hAY] at HAY
 rw[hLX] at HLX
 rw[hLY] at HLY
 rw[hAX,hAY,hLX,hLY] at aY
 clear hAX hAY hLX hLY
 cases AX with
 | false=>
  have jS:Hid (Value.bool true = .bool BW):=af (by rw[aY];rfl)
  clear aY
  refine wp_region_held_drew (S:=fun w'=>w'.cell? ⟨b,o,none⟩=some (.string x)∧w'.cell? ⟨b,o+kk,none⟩=some (.string y)) (by kernel_rfl) (⟨zx,zy⟩) (fun hH=>?_)
  refine ag 0 90 hH ?_
  refine ag 1 91 hH ?_
  refine ag 2 92 hH ?_
  refine ag 3 93 hH ?_
  refine ag 4 94 hH ?_
  refine ag 5 95 hH ?_
  refine ag 6 96 hH ?_
  refine aR 7 (fun K hK=>?_)
  go_simp
  refine (HAX.out _).mono ?_
  rintro e3 w3 ⟨rfl,rfl⟩
  refine hK.out _ _ (hH) (fun hH=>?_)
  clear hK K
  try simp only[Act.put,az,ay,aA]
  refine ag 8 98 hH ?_
  refine ag 9 99 hH ?_
  refine ag 10 100 hH ?_
  refine ai 11 101 hH ?_
  refine ai 12 102 hH ?_
  refine ai 13 103 hH ?_
  refine ai 14 104 hH ?_
  refine ai 15 105 hH ?_
  refine ai 16 106 hH ?_
  refine ai 17 107 hH ?_
  refine ai 18 108 hH ?_
  refine ag 19 109 hH ?_
  refine ag 20 110 hH ?_
  refine ai 21 111 hH ?_
  refine ai 22 112 hH ?_
  refine ai 23 113 hH ?_
  refine ai 24 114 hH ?_
  refine ai 25 115 hH ?_
  refine ai 26 116 hH ?_
  refine ai 27 117 hH ?_
  refine ai 28 118 hH ?_
  refine ai 29 119 hH ?_
  refine ai 30 120 hH ?_
  refine ai 31 121 hH ?_
  refine ai 32 122 hH ?_
  refine ag 33 123 hH ?_
  refine wpAnyH_done (by kernel_rfl) ?_ _
  exact hq jS.out (K5.out)
 | true=>
  cases AY with
  | false=>
   have jS:Hid (Value.bool true = .bool BW):=af (by rw[aY];rfl)
   clear aY
   refine wp_region_held_drew (S:=fun w'=>w'.cell? ⟨b,o,none⟩=some (.string x)∧w'.cell? ⟨b,o+kk,none⟩=some (.string y)) (by kernel_rfl) (⟨zx,zy⟩) (fun hH=>?_)
   refine ag 0 90 hH ?_
   refine ag 1 91 hH ?_
   refine ag 2 92 hH ?_
   refine ag 3 93 hH ?_
   refine ag 4 94 hH ?_
   refine ag 5 95 hH ?_
   refine ag 6 96 hH ?_
   refine aR 7 (fun K hK=>?_)
   go_simp
   refine (HAX.out _).mono ?_
   rintro e3 w3 ⟨rfl,rfl⟩
   refine hK.out _ _ (hH) (fun hH=>?_)
   clear hK K
   try simp only[Act.put,az,ay,aA]
   refine ag 8 98 hH ?_
   refine ag 9 99 hH ?_
   refine ag 10 100 hH ?_
   refine ag 11 101 hH ?_
   refine ag 12 102 hH ?_
   refine ag 13 103 hH ?_
   refine ag 14 104 hH ?_
   refine ag 15 105 hH ?_
   refine ag 16 106 hH ?_
   refine aR 17 (fun K hK=>?_)
   go_simp
   refine (HAY.out _).mono ?_
   rintro e3 w3 ⟨rfl,rfl⟩
   refine hK.out _ _ (hH) (fun hH=>?_)
   clear hK K
   try simp only[Act.put,az,ay,aA]
   refine ag 18 108 hH ?_
   refine ag 19 109 hH ?_
   refine ag 20 110 hH ?_
   refine ai 21 111 hH ?_
   refine ai 22 112 hH ?_
   refine ai 23 113 hH ?_
   refine ai 24 114 hH ?_
   refine ai 25 115 hH ?_
   refine ai 26 116 hH ?_
   refine ai 27 117 hH ?_
   refine ai 28 118 hH ?_
   refine ai 29 119 hH ?_
   refine ai 30 120 hH ?_
   refine ai 31 121 hH ?_
   refine ai 32 122 hH ?_
   refine ag 33 123 hH ?_
   refine wpAnyH_done (by kernel_rfl) ?_ _
   exact hq jS.out (K5.out)
  | true=>
   have jS:Hid (Value.bool (!(LX.toList==LY.toList)) = .bool BW):=af (by rw[aY,zF,zF,ac7])
   clear aY
   refine wp_region_held_drew (S:=fun w'=>w'.cell? ⟨b,o,none⟩=some (.string x)∧w'.cell? ⟨b,o+kk,none⟩=some (.string y)) (by kernel_rfl) (⟨zx,zy⟩) (fun hH=>?_)
   refine ag 0 90 hH ?_
   refine ag 1 91 hH ?_
   refine ag 2 92 hH ?_
   refine ag 3 93 hH ?_
   refine ag 4 94 hH ?_
   refine ag 5 95 hH ?_
   refine ag 6 96 hH ?_
   refine aR 7 (fun K hK=>?_)
   go_simp
   refine (HAX.out _).mono ?_
   rintro e3 w3 ⟨rfl,rfl⟩
   refine hK.out _ _ (hH) (fun hH=>?_)
   clear hK K
   try simp only[Act.put,az,ay,aA]
   refine ag 8 98 hH ?_
   refine ag 9 99 hH ?_
   refine ag 10 100 hH ?_
   refine ag 11 101 hH ?_
   refine ag 12 102 hH ?_
   refine ag 13 103 hH ?_
   refine ag 14 104 hH ?_
   refine ag 15 105 hH ?_
   refine ag 16 106 hH ?_
   refine aR 17 (fun K hK=>?_)
   go_simp
   refine (HAY.out _).mono ?_
   rintro e3 w3 ⟨rfl,rfl⟩
   refine hK.out _ _ (hH) (fun hH=>?_)
   clear hK K
   try simp only[Act.put,az,ay,aA]
   refine ag 18 108 hH ?_
   refine ag 19 109 hH ?_
   refine ag 20 110 hH ?_
   refine ag 21 111 hH ?_
   refine ag 22 112 hH ?_
   refine ag 23 113 hH ?_
   refine ag 25 115 hH ?_
   refine ag 26 116 hH ?_
   refine ag 27 117 hH ?_
   refine ag 28 118 hH ?_
   refine ag 29 119 hH ?_
   refine ag 30 120 hH ?_
   refine aR 24 (fun K hK=>?_)
   ·go_simp
    refine (HLX.out _).mono ?_
    rintro e3 w3 ⟨rfl,hb3⟩
    have aM:=af hb3
    have zQ:=af (And.intro ((hb3.cell (p:=⟨b,o,none⟩) hbl).trans zx) ((hb3.cell (p:=⟨b,o+kk,none⟩) hbl).trans zy))
    clear hb3
    refine hK.out _ _ (zQ.out) (fun hH=>?_)
    clear hK K
    try simp only[Act.put,az,ay,aA]
    refine aR 31 (fun K hK=>?_)
    go_simp
    refine (HLY.out _).mono ?_
    rintro e4 w4 ⟨rfl,hb4⟩
    have dz:=af (aM.out.trans (hb4.mono aM.out.size))
    have HZ4:=af (And.intro ((hb4.cell (p:=⟨b,o,none⟩) (fI hbl aM.out.size)).trans zQ.out.1) ((hb4.cell (p:=⟨b,o+kk,none⟩) (fI hbl aM.out.size)).trans zQ.out.2))
    clear hb4
    refine hK.out _ _ (HZ4.out) (fun hH=>?_)
    clear hK K
    try simp only[Act.put,az,ay,aA]
    refine ag 32 122 hH ?_
    refine ag 33 123 hH ?_
    refine wpAnyH_done (by kernel_rfl) ?_ _
    exact hq jS.out (sP.out.trans (dz.out.mono sP.out.size))
end
end Go.Proofs.YtpkmciohehaboaaGreatDoor
