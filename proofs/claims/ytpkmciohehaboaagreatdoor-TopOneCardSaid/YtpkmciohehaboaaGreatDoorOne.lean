/- Whatever fields a client sends in a block, whatever body behind: if it comes to be a request, what goes to an origin is one request that asks just that, with a body of just those bytes; if not, its stream is reset, and nothing is to go to any origin: for every list, every body, every cut; the listed variables of the library are tied to the program's text by the card (given with the seed). -/
import Derived.Test.YtpkmciohehaboaaGreatDoorK0
import Derived.Test.YtpkmciohehaboaaGreatDoorK27
import Derived.Test.YtpkmciohehaboaaGreatDoorTie
import Derived.Test.YtpkmciohehaboaaGreatDoorCards
import Derived.SevenTiedAt
set_option maxRecDepth 100000
set_option maxHeartbeats 100000000
set_option linter.unusedVariables false
set_option linter.unusedSimpArgs false
set_option linter.unusedSectionVars false
set_option linter.unnecessarySimpa false
namespace Go.Proofs.YtpkmciohehaboaaGreatDoor
section
open Go.ChangeShapes Go.WideShapes Go.ChangeAt Go.RowKit
theorem ajf (os:Os) (started:os.Started) (H:Type) (enc:TypeId×Value→H) :
 ReturnsInHanded {} Tryz.checked os 4 .any (fun w args=>(Rows.topOneSpec.pre enc Tryz.prog Tryz.f4 Rows.topOneRow.domain false w args∧laidMetH Tryz.prog Rows.topOneRow.laid w)∧sizedMet enc Tryz.prog Tryz.f4 (OpenSpec.ofChange Rows.topOneSpec) false w args)
  (Rows.topOneSpec.post enc Tryz.prog Tryz.f4 false true false false):=by
 refine afa started (by kernel_rfl) Tryz.func4 (by rw[Tryz.params4];exact of_decide_eq_true (by kernel_rfl)) rfl Tryz.underlying4 rfl
  (ChangeSpec.witness_shaped (enc:=enc) (C:=Tryz.checked) (os:=os) (X:=fun w _=>laidMetH Tryz.prog Rows.topOneRow.laid w) false (World.laidAll Tryz.prog os Rows.topOneRow.laid) #[.slice none 0 0,.string ⟨#[]⟩,.int .u8 0] 8 (World.laidAll_os _ _ _)
   (World.shaped_of_ZipB (by kernel_rfl) (by kernel_rfl)) (by kernel_rfl) (by kernel_rfl) (by kernel_rfl)
   (by rw[MakeChecks.laidMetH_plain _ _ _ (by kernel_rfl)];exact laidMet_laidAll _ (by kernel_rfl) (by kernel_rfl))) ?_
 intro W base args ds p hval hA hlt hsz
 rw[Tryz.params4] at hA hval hsz
 obtain⟨v0,vs0,d0,ds0,p0,q0,hargs,rfl,rfl,g0,r0⟩:=trodAll_cons hA
 obtain⟨v1,vs1,d1,ds1,p1,q1,rfl,rfl,rfl,g1,r1⟩:=trodAll_cons r0
 obtain⟨v2,vs2,d2,ds2,p2,q2,rfl,rfl,rfl,g2,r2⟩:=trodAll_cons r1
 obtain⟨rfl,rfl,rfl⟩:=trodAll_nil r2
 obtain rfl:args=#[v0,v1,v2]:=by cases args;simp_all
 obtain⟨A1,n1,c1,l1,rfl,hc1,dS,hz1,iE,hr1,hs1⟩:=agn (hval 0 22 v0 rfl rfl) g0 (fun x hx=>hlt x (by simp[hx])) hsz (j:=0) rfl rfl
 obtain⟨s,rfl,rfl,rfl,-⟩:=Go.ChangeMaps.open_string Tryz.underlying9 (hval 1 9 v1 rfl rfl) g1
 obtain⟨a2,rfl,rfl,rfl,w2⟩:=open_int Tryz.underlying5 (hval 2 5 v2 rfl rfl) g2
 have hw2 : 0≤a2∧a2≤255:=by
  simp[Lit.wf,IntKind.min,IntKind.max,IntKind.bits,IntKind.signed] at w2
  omega
 obtain⟨k,rfl⟩:∃k:Nat,a2=(k:Int):=⟨a2.toNat,by omega⟩
 refine⟨rfl,?_⟩
 exact ajh s k W hr1 hz1 hs1 (by omega)
theorem ajg:Rows.TopOneSaid:=
 OpenClaim.holds_of_wide 4 Tryz.f4 rfl rfl rfl rfl rfl rfl rfl ⟨rfl,rfl,rfl,rfl,rfl⟩ rfl rfl rfl rfl rfl (by kernel_rfl) Tryz.func4 (by kernel_rfl)
  (of_decide_eq_true (by kernel_rfl)) (by unfold Func.isWrapper;first | (rw[ax (by decide +kernel)];kernel_rfl) | (rw[aj (by decide +kernel)];exact⟨rfl,rfl⟩))
  (fun os started H enc _=>ajf os started H enc)
theorem topOne_card_holds:Rows.TopOneCardSaid:=
 Claim7.holds_tied_plain_at .later [] [.data,.sentinel,.pinned] true Rows.topOneCard.stood.harness true ajg (fun _ h=>by cases h) (by kernel_rfl) (fun _ h=>by cases h) topOne_row_tie rfl ⟨rfl,rfl⟩ (by kernel_rfl) rfl
  (fun f fn hf hfn=>by
   obtain rfl:f=4:=qI ((show Tryz.prog.funcNamed Rows.topOneRow.func=some 4 by kernel_rfl).symm.trans hf) |>.symm
   obtain rfl:fn=Tryz.f4:=(qI (Tryz.func4.symm.trans hfn)).symm
   exact⟨by kernel_rfl,fun j t ht=>by
    rw[Tryz.params4] at ht
    have hm:t ∈ [22,9,5]:=by simpa using Array.mem_of_getElem? ht
    have hall:([22,9,5].all fun u=>!Tryz.prog.wantsStandIn u)=true:=by kernel_rfl
    exact (show Tryz.prog.wantsStandIn t=false by simpa using List.all_eq_true.1 hall t hm)⟩)
  (by kernel_rfl)
#print axioms topOne_card_holds
end
end Go.Proofs.YtpkmciohehaboaaGreatDoor
