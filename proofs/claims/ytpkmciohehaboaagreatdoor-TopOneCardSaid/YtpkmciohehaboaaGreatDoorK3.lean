/- Part 3 of the proof. -/
import Derived.Test.YtpkmciohehaboaaGreatDoorK0
import Derived.Test.YtpkmciohehaboaaGreatDoorK2
import Derived.Great.BuildSlice
import Derived.Great.Ranges
set_option maxRecDepth 100000
set_option maxHeartbeats 100000000
set_option linter.unusedVariables false
set_option linter.unusedSimpArgs false
set_option linter.unusedSectionVars false
set_option linter.unnecessarySimpa false
namespace Go.Proofs.YtpkmciohehaboaaGreatDoor
section
open Go.RowKit
def zC:List Value:=rcs iR
theorem aeh (w:World):Calls Tryz.prog 224 #[] w fun e w'=>e = .returned (.agg zC.toArray)∧Below w.heap.size w w':=by
 go_enter Tryz.func224,Tryz.ntmps224
 go_step;go_step;go_step
 refine Great.wpList_runTo rfl (some 0) rfl (.pointer (some ⟨w.heap.size,0,none⟩)) (w.alloc (.cells (Array.replicate 122 (.string ByteArray.empty)) 288)) (by kernel_rfl) ?_
 go_step;go_step;go_step;go_step;go_step
 refine Great.wpList_runTo rfl (some 1) rfl (.agg #[.string ⟨#[58,97,117,116,104,111,114,105,116,121]⟩,.string ⟨#[]⟩]) (w.alloc (.cells (Array.replicate 122 (.string ByteArray.empty)) 288)) (by kernel_rfl) ?_
 refine Great.wpList_runTo rfl (some 2) rfl (.agg #[.string ⟨#[58,109,101,116,104,111,100]⟩,.string ⟨#[71,69,84]⟩]) (w.alloc (.cells (Array.replicate 122 (.string ByteArray.empty)) 288)) (by kernel_rfl) ?_
 refine Great.wpList_runTo rfl (some 3) rfl (.agg #[.string ⟨#[58,109,101,116,104,111,100]⟩,.string ⟨#[80,79,83,84]⟩]) (w.alloc (.cells (Array.replicate 122 (.string ByteArray.empty)) 288)) (by kernel_rfl) ?_
 refine Great.wpList_runTo rfl (some 4) rfl (.agg #[.string ⟨#[58,112,97,116,104]⟩,.string ⟨#[47]⟩]) (w.alloc (.cells (Array.replicate 122 (.string ByteArray.empty)) 288)) (by kernel_rfl) ?_
 refine Great.wpList_runTo rfl (some 5) rfl (.agg #[.string ⟨#[58,112,97,116,104]⟩,.string ⟨#[47,105,110,100,101,120,46,104,116,109,108]⟩]) (w.alloc (.cells (Array.replicate 122 (.string ByteArray.empty)) 288)) (by kernel_rfl) ?_
 refine Great.wpList_runTo rfl (some 6) rfl (.agg #[.string ⟨#[58,115,99,104,101,109,101]⟩,.string ⟨#[104,116,116,112]⟩]) (w.alloc (.cells (Array.replicate 122 (.string ByteArray.empty)) 288)) (by kernel_rfl) ?_
 refine Great.wpList_runTo rfl (some 7) rfl (.agg #[.string ⟨#[58,115,99,104,101,109,101]⟩,.string ⟨#[104,116,116,112,115]⟩]) (w.alloc (.cells (Array.replicate 122 (.string ByteArray.empty)) 288)) (by kernel_rfl) ?_
 refine Great.wpList_runTo rfl (some 8) rfl (.agg #[.string ⟨#[58,115,116,97,116,117,115]⟩,.string ⟨#[50,48,48]⟩]) (w.alloc (.cells (Array.replicate 122 (.string ByteArray.empty)) 288)) (by kernel_rfl) ?_
 refine Great.wpList_runTo rfl (some 9) rfl (.agg #[.string ⟨#[58,115,116,97,116,117,115]⟩,.string ⟨#[50,48,52]⟩]) (w.alloc (.cells (Array.replicate 122 (.string ByteArray.empty)) 288)) (by kernel_rfl) ?_
 refine Great.wpList_runTo rfl (some 10) rfl (.agg #[.string ⟨#[58,115,116,97,116,117,115]⟩,.string ⟨#[50,48,54]⟩]) (w.alloc (.cells (Array.replicate 122 (.string ByteArray.empty)) 288)) (by kernel_rfl) ?_
 refine Great.wpList_runTo rfl (some 11) rfl (.agg #[.string ⟨#[58,115,116,97,116,117,115]⟩,.string ⟨#[51,48,52]⟩]) (w.alloc (.cells (Array.replicate 122 (.string ByteArray.empty)) 288)) (by kernel_rfl) ?_
 refine Great.wpList_runTo rfl (some 12) rfl (.agg #[.string ⟨#[58,115,116,97,116,117,115]⟩,.string ⟨#[52,48,48]⟩]) (w.alloc (.cells (Array.replicate 122 (.string ByteArray.empty)) 288)) (by kernel_rfl) ?_
 refine Great.wpList_runTo rfl (some 13) rfl (.agg #[.string ⟨#[58,115,116,97,116,117,115]⟩,.string ⟨#[52,48,52]⟩]) (w.alloc (.cells (Array.replicate 122 (.string ByteArray.empty)) 288)) (by kernel_rfl) ?_
 refine Great.wpList_runTo rfl (some 14) rfl (.agg #[.string ⟨#[58,115,116,97,116,117,115]⟩,.string ⟨#[53,48,48]⟩]) (w.alloc (.cells (Array.replicate 122 (.string ByteArray.empty)) 288)) (by kernel_rfl) ?_
 refine Great.wpList_runTo rfl (some 15) rfl (.agg #[.string ⟨#[97,99,99,101,112,116,45,99,104,97,114,115,101,116]⟩,.string ⟨#[]⟩]) (w.alloc (.cells (Array.replicate 122 (.string ByteArray.empty)) 288)) (by kernel_rfl) ?_
 refine Great.wpList_runTo rfl (some 16) rfl (.agg #[.string ⟨#[97,99,99,101,112,116,45,101,110,99,111,100,105,110,103]⟩,.string ⟨#[103,122,105,112,44,32,100,101,102,108,97,116,101]⟩]) (w.alloc (.cells (Array.replicate 122 (.string ByteArray.empty)) 288)) (by kernel_rfl) ?_
 refine Great.wpList_runTo rfl (some 17) rfl (.agg #[.string ⟨#[97,99,99,101,112,116,45,108,97,110,103,117,97,103,101]⟩,.string ⟨#[]⟩]) (w.alloc (.cells (Array.replicate 122 (.string ByteArray.empty)) 288)) (by kernel_rfl) ?_
 refine Great.wpList_runTo rfl (some 18) rfl (.agg #[.string ⟨#[97,99,99,101,112,116,45,114,97,110,103,101,115]⟩,.string ⟨#[]⟩]) (w.alloc (.cells (Array.replicate 122 (.string ByteArray.empty)) 288)) (by kernel_rfl) ?_
 refine Great.wpList_runTo rfl (some 19) rfl (.agg #[.string ⟨#[97,99,99,101,112,116]⟩,.string ⟨#[]⟩]) (w.alloc (.cells (Array.replicate 122 (.string ByteArray.empty)) 288)) (by kernel_rfl) ?_
 refine Great.wpList_runTo rfl (some 20) rfl (.agg #[.string ⟨#[97,99,99,101,115,115,45,99,111,110,116,114,111,108,45,97,108,108,111,119,45,111,114,105,103,105,110]⟩,.string ⟨#[]⟩]) (w.alloc (.cells (Array.replicate 122 (.string ByteArray.empty)) 288)) (by kernel_rfl) ?_
 refine Great.wpList_runTo rfl (some 21) rfl (.agg #[.string ⟨#[97,103,101]⟩,.string ⟨#[]⟩]) (w.alloc (.cells (Array.replicate 122 (.string ByteArray.empty)) 288)) (by kernel_rfl) ?_
 refine Great.wpList_runTo rfl (some 22) rfl (.agg #[.string ⟨#[97,108,108,111,119]⟩,.string ⟨#[]⟩]) (w.alloc (.cells (Array.replicate 122 (.string ByteArray.empty)) 288)) (by kernel_rfl) ?_
 refine Great.wpList_runTo rfl (some 23) rfl (.agg #[.string ⟨#[97,117,116,104,111,114,105,122,97,116,105,111,110]⟩,.string ⟨#[]⟩]) (w.alloc (.cells (Array.replicate 122 (.string ByteArray.empty)) 288)) (by kernel_rfl) ?_
 refine Great.wpList_runTo rfl (some 24) rfl (.agg #[.string ⟨#[99,97,99,104,101,45,99,111,110,116,114,111,108]⟩,.string ⟨#[]⟩]) (w.alloc (.cells (Array.replicate 122 (.string ByteArray.empty)) 288)) (by kernel_rfl) ?_
 refine Great.wpList_runTo rfl (some 25) rfl (.agg #[.string ⟨#[99,111,110,116,101,110,116,45,100,105,115,112,111,115,105,116,105,111,110]⟩,.string ⟨#[]⟩]) (w.alloc (.cells (Array.replicate 122 (.string ByteArray.empty)) 288)) (by kernel_rfl) ?_
 refine Great.wpList_runTo rfl (some 26) rfl (.agg #[.string ⟨#[99,111,110,116,101,110,116,45,101,110,99,111,100,105,110,103]⟩,.string ⟨#[]⟩]) (w.alloc (.cells (Array.replicate 122 (.string ByteArray.empty)) 288)) (by kernel_rfl) ?_
 refine Great.wpList_runTo rfl (some 27) rfl (.agg #[.string ⟨#[99,111,110,116,101,110,116,45,108,97,110,103,117,97,103,101]⟩,.string ⟨#[]⟩]) (w.alloc (.cells (Array.replicate 122 (.string ByteArray.empty)) 288)) (by kernel_rfl) ?_
 refine Great.wpList_runTo rfl (some 28) rfl (.agg #[.string ⟨#[99,111,110,116,101,110,116,45,108,101,110,103,116,104]⟩,.string ⟨#[]⟩]) (w.alloc (.cells (Array.replicate 122 (.string ByteArray.empty)) 288)) (by kernel_rfl) ?_
 refine Great.wpList_runTo rfl (some 29) rfl (.agg #[.string ⟨#[99,111,110,116,101,110,116,45,108,111,99,97,116,105,111,110]⟩,.string ⟨#[]⟩]) (w.alloc (.cells (Array.replicate 122 (.string ByteArray.empty)) 288)) (by kernel_rfl) ?_
 refine Great.wpList_runTo rfl (some 30) rfl (.agg #[.string ⟨#[99,111,110,116,101,110,116,45,114,97,110,103,101]⟩,.string ⟨#[]⟩]) (w.alloc (.cells (Array.replicate 122 (.string ByteArray.empty)) 288)) (by kernel_rfl) ?_
 refine Great.wpList_runTo rfl (some 31) rfl (.agg #[.string ⟨#[99,111,110,116,101,110,116,45,116,121,112,101]⟩,.string ⟨#[]⟩]) (w.alloc (.cells (Array.replicate 122 (.string ByteArray.empty)) 288)) (by kernel_rfl) ?_
 refine Great.wpList_runTo rfl (some 32) rfl (.agg #[.string ⟨#[99,111,111,107,105,101]⟩,.string ⟨#[]⟩]) (w.alloc (.cells (Array.replicate 122 (.string ByteArray.empty)) 288)) (by kernel_rfl) ?_
 refine Great.wpList_runTo rfl (some 33) rfl (.agg #[.string ⟨#[100,97,116,101]⟩,.string ⟨#[]⟩]) (w.alloc (.cells (Array.replicate 122 (.string ByteArray.empty)) 288)) (by kernel_rfl) ?_
 refine Great.wpList_runTo rfl (some 34) rfl (.agg #[.string ⟨#[101,116,97,103]⟩,.string ⟨#[]⟩]) (w.alloc (.cells (Array.replicate 122 (.string ByteArray.empty)) 288)) (by kernel_rfl) ?_
 refine Great.wpList_runTo rfl (some 35) rfl (.agg #[.string ⟨#[101,120,112,101,99,116]⟩,.string ⟨#[]⟩]) (w.alloc (.cells (Array.replicate 122 (.string ByteArray.empty)) 288)) (by kernel_rfl) ?_
 refine Great.wpList_runTo rfl (some 36) rfl (.agg #[.string ⟨#[101,120,112,105,114,101,115]⟩,.string ⟨#[]⟩]) (w.alloc (.cells (Array.replicate 122 (.string ByteArray.empty)) 288)) (by kernel_rfl) ?_
 refine Great.wpList_runTo rfl (some 37) rfl (.agg #[.string ⟨#[102,114,111,109]⟩,.string ⟨#[]⟩]) (w.alloc (.cells (Array.replicate 122 (.string ByteArray.empty)) 288)) (by kernel_rfl) ?_
 refine Great.wpList_runTo rfl (some 38) rfl (.agg #[.string ⟨#[104,111,115,116]⟩,.string ⟨#[]⟩]) (w.alloc (.cells (Array.replicate 122 (.string ByteArray.empty)) 288)) (by kernel_rfl) ?_
 refine Great.wpList_runTo rfl (some 39) rfl (.agg #[.string ⟨#[105,102,45,109,97,116,99,104]⟩,.string ⟨#[]⟩]) (w.alloc (.cells (Array.replicate 122 (.string ByteArray.empty)) 288)) (by kernel_rfl) ?_
 refine Great.wpList_runTo rfl (some 40) rfl (.agg #[.string ⟨#[105,102,45,109,111,100,105,102,105,101,100,45,115,105,110,99,101]⟩,.string ⟨#[]⟩]) (w.alloc (.cells (Array.replicate 122 (.string ByteArray.empty)) 288)) (by kernel_rfl) ?_
 refine Great.wpList_runTo rfl (some 41) rfl (.agg #[.string ⟨#[105,102,45,110,111,110,101,45,109,97,116,99,104]⟩,.string ⟨#[]⟩]) (w.alloc (.cells (Array.replicate 122 (.string ByteArray.empty)) 288)) (by kernel_rfl) ?_
 refine Great.wpList_runTo rfl (some 42) rfl (.agg #[.string ⟨#[105,102,45,114,97,110,103,101]⟩,.string ⟨#[]⟩]) (w.alloc (.cells (Array.replicate 122 (.string ByteArray.empty)) 288)) (by kernel_rfl) ?_
 refine Great.wpList_runTo rfl (some 43) rfl (.agg #[.string ⟨#[105,102,45,117,110,109,111,100,105,102,105,101,100,45,115,105,110,99,101]⟩,.string ⟨#[]⟩]) (w.alloc (.cells (Array.replicate 122 (.string ByteArray.empty)) 288)) (by kernel_rfl) ?_
 refine Great.wpList_runTo rfl (some 44) rfl (.agg #[.string ⟨#[108,97,115,116,45,109,111,100,105,102,105,101,100]⟩,.string ⟨#[]⟩]) (w.alloc (.cells (Array.replicate 122 (.string ByteArray.empty)) 288)) (by kernel_rfl) ?_
 refine Great.wpList_runTo rfl (some 45) rfl (.agg #[.string ⟨#[108,105,110,107]⟩,.string ⟨#[]⟩]) (w.alloc (.cells (Array.replicate 122 (.string ByteArray.empty)) 288)) (by kernel_rfl) ?_
 refine Great.wpList_runTo rfl (some 46) rfl (.agg #[.string ⟨#[108,111,99,97,116,105,111,110]⟩,.string ⟨#[]⟩]) (w.alloc (.cells (Array.replicate 122 (.string ByteArray.empty)) 288)) (by kernel_rfl) ?_
 refine Great.wpList_runTo rfl (some 47) rfl (.agg #[.string ⟨#[109,97,120,45,102,111,114,119,97,114,100,115]⟩,.string ⟨#[]⟩]) (w.alloc (.cells (Array.replicate 122 (.string ByteArray.empty)) 288)) (by kernel_rfl) ?_
 refine Great.wpList_runTo rfl (some 48) rfl (.agg #[.string ⟨#[112,114,111,120,121,45,97,117,116,104,101,110,116,105,99,97,116,101]⟩,.string ⟨#[]⟩]) (w.alloc (.cells (Array.replicate 122 (.string ByteArray.empty)) 288)) (by kernel_rfl) ?_
 refine Great.wpList_runTo rfl (some 49) rfl (.agg #[.string ⟨#[112,114,111,120,121,45,97,117,116,104,111,114,105,122,97,116,105,111,110]⟩,.string ⟨#[]⟩]) (w.alloc (.cells (Array.replicate 122 (.string ByteArray.empty)) 288)) (by kernel_rfl) ?_
 refine Great.wpList_runTo rfl (some 50) rfl (.agg #[.string ⟨#[114,97,110,103,101]⟩,.string ⟨#[]⟩]) (w.alloc (.cells (Array.replicate 122 (.string ByteArray.empty)) 288)) (by kernel_rfl) ?_
 refine Great.wpList_runTo rfl (some 51) rfl (.agg #[.string ⟨#[114,101,102,101,114,101,114]⟩,.string ⟨#[]⟩]) (w.alloc (.cells (Array.replicate 122 (.string ByteArray.empty)) 288)) (by kernel_rfl) ?_
 refine Great.wpList_runTo rfl (some 52) rfl (.agg #[.string ⟨#[114,101,102,114,101,115,104]⟩,.string ⟨#[]⟩]) (w.alloc (.cells (Array.replicate 122 (.string ByteArray.empty)) 288)) (by kernel_rfl) ?_
 refine Great.wpList_runTo rfl (some 53) rfl (.agg #[.string ⟨#[114,101,116,114,121,45,97,102,116,101,114]⟩,.string ⟨#[]⟩]) (w.alloc (.cells (Array.replicate 122 (.string ByteArray.empty)) 288)) (by kernel_rfl) ?_
 refine Great.wpList_runTo rfl (some 54) rfl (.agg #[.string ⟨#[115,101,114,118,101,114]⟩,.string ⟨#[]⟩]) (w.alloc (.cells (Array.replicate 122 (.string ByteArray.empty)) 288)) (by kernel_rfl) ?_
 refine Great.wpList_runTo rfl (some 55) rfl (.agg #[.string ⟨#[115,101,116,45,99,111,111,107,105,101]⟩,.string ⟨#[]⟩]) (w.alloc (.cells (Array.replicate 122 (.string ByteArray.empty)) 288)) (by kernel_rfl) ?_
 refine Great.wpList_runTo rfl (some 56) rfl (.agg #[.string ⟨#[115,116,114,105,99,116,45,116,114,97,110,115,112,111,114,116,45,115,101,99,117,114,105,116,121]⟩,.string ⟨#[]⟩]) (w.alloc (.cells (Array.replicate 122 (.string ByteArray.empty)) 288)) (by kernel_rfl) ?_
 refine Great.wpList_runTo rfl (some 57) rfl (.agg #[.string ⟨#[116,114,97,110,115,102,101,114,45,101,110,99,111,100,105,110,103]⟩,.string ⟨#[]⟩]) (w.alloc (.cells (Array.replicate 122 (.string ByteArray.empty)) 288)) (by kernel_rfl) ?_
 refine Great.wpList_runTo rfl (some 58) rfl (.agg #[.string ⟨#[117,115,101,114,45,97,103,101,110,116]⟩,.string ⟨#[]⟩]) (w.alloc (.cells (Array.replicate 122 (.string ByteArray.empty)) 288)) (by kernel_rfl) ?_
 refine Great.wpList_runTo rfl (some 59) rfl (.agg #[.string ⟨#[118,97,114,121]⟩,.string ⟨#[]⟩]) (w.alloc (.cells (Array.replicate 122 (.string ByteArray.empty)) 288)) (by kernel_rfl) ?_
 refine Great.wpList_runTo rfl (some 60) rfl (.agg #[.string ⟨#[118,105,97]⟩,.string ⟨#[]⟩]) (w.alloc (.cells (Array.replicate 122 (.string ByteArray.empty)) 288)) (by kernel_rfl) ?_
 refine Great.wpList_runTo rfl (some 61) rfl (.agg #[.string ⟨#[119,119,119,45,97,117,116,104,101,110,116,105,99,97,116,101]⟩,.string ⟨#[]⟩]) (w.alloc (.cells (Array.replicate 122 (.string ByteArray.empty)) 288)) (by kernel_rfl) ?_
 refine Great.wpList_runTo rfl (some 62) rfl (.agg zC.toArray) (w.alloc (.cells (Array.replicate 122 (.string ByteArray.empty)) 288)) (by kernel_rfl) ?_
 refine wpList_store_rowTo rfl 288 (.tmp 0) (.tmp 62) rfl rfl w.heap.size zC.toArray (by kernel_rfl) (by kernel_rfl) 288 (Array.replicate 122 (.string ByteArray.empty)) (aZ w _) (by kernel_rfl) (by kernel_rfl) (by kernel_rfl) ?_
 go_wp2_with fail
 refine bodyPost_ret (v:=.agg zC.toArray) (results_cell_row rfl _ _ w.heap.size 288 zC.toArray (0,0) _ (by kernel_rfl) (setRow_heap _ _ _ _ _ _ (aZ w _)) Tryz.underlying288 rfl (by kernel_rfl)) rfl ?_
 exact⟨rfl,((Below.refl _ _).alloc (ah _) _).trans ⟨rfl,rfl,rfl,by simp,fun k hk=>setRow_other _ _ _ _ (by omega)⟩⟩
end
section
open Go.RowKit Go.Maps
def mQ (rows:List Rw) (n:Int):Option Rw:=
 if 1≤n∧n≤61 then iR[(n-1).toNat]? else if 61<n∧n-61≤rows.length then rows[(rows.length-(n-61)).toNat]? else none
def nJ (r:Rw) (b:Bool):Value:=.agg #[.string r.1,.string r.2,.bool b]
def tJ:Option Rw→Value
 | some r=>.tuple #[nJ r false,.int .i64 0]
 | none=>.tuple #[nJ (cK,cK) false,.int .i64 40]
theorem Xj (rows:List Rw){i:Nat}(h:i<61):∃r,iR[i]?=some r∧mQ rows (i+1:Int)=some r:=by
 obtain⟨r,hr⟩:∃r,iR[i]?=some r:=⟨_,a_ (by rw[BC];exact h)⟩
 refine⟨r,hr,?_⟩
 unfold mQ
 rw[ax (by omega),show ((i:Int)+1-1).toNat=i by omega,hr]
theorem Xi (rows:List Rw){i:Nat}(h:i<rows.length):∃r,rows[i]?=some r∧mQ rows (61+rows.length-i:Int)=some r:=by
 obtain⟨r,hr⟩:∃r,rows[i]?=some r:=⟨_,a_ h⟩
 refine⟨r,hr,?_⟩
 unfold mQ
 rw[aj (by omega),ax (by omega),show ((rows.length:Int)-(61+rows.length-i-61)).toNat=i by omega,hr]
theorem acA {rows:List Rw}{n:Int}(h:n<1∨61+rows.length<n):mQ rows n=none:=by
 unfold mQ
 rw[aj (by omega),aj (by omega)]
theorem aiD {i:Nat}{r:Rw}(h:iR[i]?=some r):zC.toArray[i*2]?=some (.string r.1)∧zC.toArray[i*2+1]?=some (.string r.2):=by
 have:=aad h
 simpa [zC] using this
theorem acE {i:Nat}{r:Rw}(A:Option Addr) (w:World) (hi:i<61) (hr:iR[i]?=some r) :
 Calls Tryz.prog 216 #[.pointer A,.int .i64 (i+1)] w fun e w'=>e = .returned (tJ (some r))∧Below w.heap.size w w':=by
 have hs:=aiD hr
 obtain⟨s0,s1⟩:=hs
 have HS:=af (And.intro s0 s1)
 clear s0 s1 hr
 go_enter Tryz.func216,Tryz.ntmps216
 go_wp2_with fail
 refine (aeh _).mono ?_
 rintro e w1 ⟨rfl,hb⟩
 obtain⟨W0,hW0⟩:∃W0,(w.alloc (.cells #[.string cK,.string cK,.bool false] 26)).alloc (.cells #[.string cK,.string cK] 276)=W0:=⟨_,rfl⟩
 have hb':Below W0.heap.size W0 w1:=by rw[←hW0];exact hb
 clear hb
 obtain⟨p,hp⟩:∃p,w.heap.size=p:=⟨_,rfl⟩
 have hsz0:W0.heap.size=p+2:=by rw[←hW0,←hp];simp
 have hsz:=hb'.size
 have iP:p<w1.heap.size:=by omega
 have wH:p+1<w1.heap.size:=by omega
 have g0:W0.heap[p]?=some (.cells #[.string cK,.string cK,.bool false] 26 (0,0)):=by
  rw[←hW0,←hp];exact (Below.heap_alloc _ _ _ (by simp)).trans (aZ _ _)
 have g1:W0.heap[p+1]?=some (.cells #[.string cK,.string cK] 276 (0,0)):=by
  rw[←hW0,←hp];exact O5 _ _ _
 have k0:=(hb'.block p (by omega)).trans g0
 have k1:=(hb'.block (p+1) (by omega)).trans g1
 obtain⟨w2,hw2⟩:∃w2,(w1.alloc (.cells (Array.replicate 122 (.string ByteArray.empty)) 288)).setRow w1.heap.size zC.toArray=w2:=⟨_,rfl⟩
 have ha:w2.heap[w1.heap.size]?=some (.cells zC.toArray 288 (0,0)):=by rw[←hw2];exact setRow_heap _ _ _ _ _ _ (aZ w1 _)
 have ho:∀k,k<w1.heap.size→w2.heap[k]?=w1.heap[k]?:=fun k hk=>by rw[←hw2];exact (setRow_other _ _ _ _ (by omega)).trans (Below.heap_alloc _ _ _ hk)
 have hb2:Below w1.heap.size w1 w2:=⟨by rw[←hw2];rfl,by rw[←hw2];rfl,by rw[←hw2];rfl,by rw[←hw2];simp,ho⟩
 have t0:w2.cell? ⟨w1.heap.size,i*2,none⟩=some (.string r.1):=by unfold World.cell?;rw[ha];exact HS.out.1
 have t1:w2.cell? ⟨w1.heap.size,i*2+1,none⟩=some (.string r.2):=by unfold World.cell?;rw[ha];exact HS.out.2
 have p0:w2.cell? ⟨p,0,none⟩=some (.string cK):=by unfold World.cell?;rw[ho p iP,k0];rfl
 have p1:w2.cell? ⟨p,1,none⟩=some (.string cK):=by unfold World.cell?;rw[ho p iP,k0];rfl
 have p2:w2.cell? ⟨p,2,none⟩=some (.bool false):=by unfold World.cell?;rw[ho p iP,k0];rfl
 have f0:∀o,w2.frozen? ⟨p,o,none⟩=false:=fun o=>by unfold World.frozen?;rw[ho p iP,k0];simp
 have q0:w2.cell? ⟨p+1,0,none⟩=some (.string cK):=by unfold World.cell?;rw[ho _ wH,k1];rfl
 have q1:w2.cell? ⟨p+1,1,none⟩=some (.string cK):=by unfold World.cell?;rw[ho _ wH,k1];rfl
 have f1:∀o,w2.frozen? ⟨p+1,o,none⟩=false:=fun o=>by unfold World.frozen?;rw[ho _ wH,k1];simp
 have HB:=af (And.intro hb' (And.intro hb2 (And.intro hp (And.intro hsz0 hW0))))
 have nA:=af hw2
 rw[hp]
 clear hb' k0 k1 g0 g1 hW0 hsz0 hsz hb2 ho ha hw2 hp
 simp only[]
 go_at_K
 go_step
 refine Great.wpList_runTo rfl (some 7) rfl (.pointer (some ⟨w1.heap.size,0,none⟩)) (w1.alloc (.cells (Array.replicate 122 (.string ByteArray.empty)) 288)) (by kernel_rfl) ?_
 refine wpList_store_rowTo rfl 288 (.tmp 7) (.tmp 16) rfl rfl w1.heap.size zC.toArray (by kernel_rfl) (by kernel_rfl) 288 (Array.replicate 122 (.string ByteArray.empty)) (aZ w1 _) (by kernel_rfl) (by kernel_rfl) (by kernel_rfl) ?_
 rw[nA.out]
 go_wp2
 refine bodyPost_ret (v:=tJ (some r)) (by simp[results,Tryz.results216,go_sem,tJ,nJ,p0,p1,p2]) rfl ⟨rfl,?_⟩
 obtain⟨b1,b2,e1,e2,e3⟩:=HB.out
 have b0:Below w.heap.size w W0:=by rw[←e3];exact ((Below.refl _ _).alloc (ah _) _).alloc (by simp) _
 exact (((((((b0.trans (b1.mono b0.size)).trans (b2.mono (gM b0.size b1.size))).setCell (by show w.heap.size≤p+1;omega) _).setCell (by show w.heap.size≤p+1;omega) _).setCell (by show w.heap.size≤p;omega) _).setCell (by show w.heap.size≤p;omega) _).setCell (by show w.heap.size≤p;omega) _)
theorem acD {g N:Nat}{F:Nat→Prop}{T:Tb}(n:Int) (w:World) (h:TabIs w g F N T) (hn:n<1∨61+T.rows.length<n) (hnb:n≤9223372036854775807) :
 Calls Tryz.prog 216 #[.pointer (some ⟨g,0,none⟩),.int .i64 n] w fun e w'=>e = .returned (tJ none)∧Below w.heap.size w w':=by
 obtain⟨h1,h2,h3,h4,h5,h6,h7⟩:=h.inv
 have HC:=af (fun (o1 o2:Obj)=>Y9 _ ((h.alloc o1).alloc o2))
 clear h1 h7
 by_cases hneg:n<1
 ·clear hn
  go_enter Tryz.func216,Tryz.ntmps216
  go_wp2
  refine bodyPost_ret (v:=tJ none) (by simp[results,Tryz.results216,go_sem,tJ,nJ,cK]) rfl ⟨rfl,?_⟩
  exact ((Below.refl _ _).alloc (ah _) _).alloc (by simp) _
 ·have jK : 61+(T.rows.length:Int)<n:=by omega
  have h61 : 61<n:=by omega
  clear hn hneg
  go_enter Tryz.func216,Tryz.ntmps216
  go_wp2_with fail
  refine (HC.out _ _).mono ?_
  rintro e w1 ⟨rfl,rfl⟩
  go_wp2
  refine bodyPost_ret (v:=tJ none) (by simp[results,Tryz.results216,go_sem,tJ,nJ,cK]) rfl ⟨rfl,?_⟩
  exact ((Below.refl _ _).alloc (ah _) _).alloc (by simp) _
theorem acC {g N:Nat}{F:Nat→Prop}{T:Tb}{i:Nat}{r:Rw}(w:World) (h:TabIs w g F N T) (hi:T.rows[i]?=some r) (n:Int) (hn:n=61+T.rows.length-i) :
 Calls Tryz.prog 216 #[.pointer (some ⟨g,0,none⟩),.int .i64 n] w fun e w'=>e = .returned (tJ (some r))∧Below w.heap.size w w':=by
 obtain⟨h1,h2,h3,h4,h5,h6,h7⟩:=h.inv
 have hlt:i<T.rows.length:=(List.getElem?_eq_some_iff.1 hi).1
 have HC:=af (fun (o1 o2:Obj)=>Y9 _ ((h.alloc o1).alloc o2))
 obtain⟨mb,mn,A,c,rfl,ht⟩:=h
 have ve:=ht.raw.lt g (.inl rfl)
 have ht2:=(ht.raw.alloc (.cells #[.string cK,.string cK,.bool false] 26)).alloc (.cells #[.string cK,.string cK] 276)
 obtain⟨-,-,c2,-⟩:=ht.raw.cells
 obtain⟨q,o,rfl,hq,r0,r1⟩:=ht.raw.at_ hi
 have n1 : 61<n:=by omega
 have n2:n≤61+T.rows.length:=by omega
 have s1:IntKind.i64.wrap (n-61)=n-61:=by rw[IntWalk.i64_in _ ⟨by omega,by omega⟩]
 have s2:IntKind.i64.wrap ((T.rows.length:Int)-(n-61))=i:=by rw[IntWalk.i64_in _ ⟨by omega,by omega⟩];omega
 generalize T.rows.length=len at *
 clear h1 h7 hi ht ht2 hn
 go_enter Tryz.func216,Tryz.ntmps216
 go_wp2_with fail
 refine (HC.out _ _).mono ?_
 rintro e w1 ⟨rfl,rfl⟩
 obtain⟨W0,hW0⟩:∃W0,(w.alloc (.cells #[.string cK,.string cK,.bool false] 26)).alloc (.cells #[.string cK,.string cK] 276)=W0:=⟨_,rfl⟩
 have b0:Below w.heap.size w W0:=by rw[←hW0];exact ((Below.refl _ _).alloc (ah _) _).alloc (by simp) _
 have HB:=af b0
 have HQ:=af hW0
 go_upto_region 7 with fail
 rw[show (w.alloc (.cells #[.string ⟨#[]⟩,.string ⟨#[]⟩,.bool false] 26)).alloc (.cells #[.string ⟨#[]⟩,.string ⟨#[]⟩] 276)=W0 from HQ.out]
 obtain⟨p,hp⟩:∃p,w.heap.size=p:=⟨_,rfl⟩
 have k0:W0.heap[p]?=some (.cells #[.string cK,.string cK,.bool false] 26 (0,0)):=by
  rw[←hW0,←hp];exact (Below.heap_alloc _ _ _ (by simp)).trans (aZ _ _)
 have k1:W0.heap[p+1]?=some (.cells #[.string cK,.string cK] 276 (0,0)):=by
  rw[←hW0,←hp];exact O5 _ _ _
 have p0:W0.cell? ⟨p,0,none⟩=some (.string cK):=by unfold World.cell?;rw[k0];rfl
 have p1:W0.cell? ⟨p,1,none⟩=some (.string cK):=by unfold World.cell?;rw[k0];rfl
 have p2:W0.cell? ⟨p,2,none⟩=some (.bool false):=by unfold World.cell?;rw[k0];rfl
 have f0:∀o,W0.frozen? ⟨p,o,none⟩=false:=fun o=>by unfold World.frozen?;rw[k0];simp
 have q0:W0.cell? ⟨p+1,0,none⟩=some (.string cK):=by unfold World.cell?;rw[k1];rfl
 have q1:W0.cell? ⟨p+1,1,none⟩=some (.string cK):=by unfold World.cell?;rw[k1];rfl
 have f1:∀o,W0.frozen? ⟨p+1,o,none⟩=false:=fun o=>by unfold World.frozen?;rw[k1];simp
 have d2:=(b0.cell (p:=⟨g,2,none⟩) ve).trans c2
 have e0:=(b0.cell (p:=⟨q,o+i*2,none⟩) hq).trans r0
 have e1:=(b0.cell (p:=⟨q,o+i*2+1,none⟩) hq).trans r1
 rw[hp]
 have HP:=af hp
 clear c2 r0 r1 b0 hW0 k0 k1 hp HQ
 go_still_tail 14,(by kernel_rfl)
 change wpList _ _ _ _ _ W0.drew
 go_wp2
 refine bodyPost_ret (v:=tJ (some r)) (by simp[results,Tryz.results216,go_sem,tJ,nJ,p0,p1,p2]) rfl ⟨rfl,?_⟩
 exact (((((HB.out.setCell (by show w.heap.size≤p+1;have:=HP.out;omega) _).setCell (by show w.heap.size≤p+1;have:=HP.out;omega) _).setCell (by show w.heap.size≤p;have:=HP.out;omega) _).setCell (by show w.heap.size≤p;have:=HP.out;omega) _).setCell (by show w.heap.size≤p;have:=HP.out;omega) _).drew
theorem acB {g N:Nat}{F:Nat→Prop}{T:Tb}(n:Int) (w:World) (h:TabIs w g F N T) (hnb:n≤9223372036854775807) :
 Calls Tryz.prog 216 #[.pointer (some ⟨g,0,none⟩),.int .i64 n] w fun e w'=>e = .returned (tJ (mQ T.rows n))∧Below w.heap.size w w':=by
 by_cases h1:n<1∨61+T.rows.length<n
 ·rw[acA h1];exact acD n w h h1 hnb
 ·by_cases h2:n≤61
  ·obtain⟨i,hi⟩:∃i:Nat,n=i+1:=⟨(n-1).toNat,by omega⟩
   subst hi
   obtain⟨r,hr,ha⟩:=Xj T.rows (i:=i) (by omega)
   rw[ha]
   exact acE _ w (by omega) hr
  ·obtain⟨i,hi⟩:∃i:Nat,n=61+T.rows.length-i:=⟨(61+T.rows.length-n).toNat,by omega⟩
   obtain⟨r,hr,ha⟩:=Xi T.rows (i:=i) (by omega)
   have hn:=hi
   subst hi
   rw[ha]
   exact acC w h hr _ rfl
end
section
open Go.RowKit
def p_ (l:List Rw):List Value:=l.flatMap fun r=>[.string r.1,.string r.2,.bool false]
theorem OD (r:Rw) (l:List Rw):p_ (r :: l) = .string r.1 :: .string r.2 :: .bool false :: p_ l:=rfl
theorem Yc (l:List Rw):(p_ l).length=l.length*3:=by
 induction l with
 | nil=>rfl
 | cons p l ih=>rw[OD];simp only[fe,ih];omega
theorem Yb {l:List Rw}:∀{i:Nat}{r:Rw},l[i]?=some r→(p_ l)[i*3]?=some (.string r.1)∧(p_ l)[i*3+1]?=some (.string r.2)∧(p_ l)[i*3+2]?=some (.bool false):=by
 induction l with
 | nil=>intro i p h;simp at h
 | cons q L ih=>
  intro i p h
  rw[OD]
  cases i with
  | zero=>simp at h;subst h;exact⟨rfl,rfl,rfl⟩
  | succ i=>
   have:=ih (i:=i) (r:=p) (by simpa using h)
   rw[show (i+1)*3=i*3+1+1+1 by omega]
   simpa using this
theorem ad7 (l k:List Rw):p_ (l++k)=p_ l++p_ k:=by simp[p_,List.flatMap_append]
theorem ad8 (l:List Rw):∀u ∈ p_ l,u.oneCell'=true:=by
 induction l with
 | nil=>intro u h;cases h
 | cons p L ih=>
  intro u h
  rw[OD] at h
  simp only[qG] at h
  rcases h with rfl | rfl | rfl | h
  ·rfl
  ·rfl
  ·rfl
  ·exact ih u h
theorem j3:rR Tryz.prog 22 26 (.agg #[.string ByteArray.empty,.string ByteArray.empty,.bool false]) 3 40:=
 ⟨Tryz.underlying22,by kernel_rfl,rfl,by decide⟩
def Jy:List Value:=p_ iR
theorem aiF (w:World):Calls Tryz.prog 87 #[] w fun e w'=>e = .returned (.slice (some ⟨w.heap.size,0,none⟩) 61 61)∧w'=w.alloc (.cells Jy.toArray 26):=by
 go_enter Tryz.func87,Tryz.ntmps87
 go_step;go_step;go_step
 refine Great.wpList_runTo rfl (some 0) rfl (.slice none 0 0) w (by kernel_rfl) ?_
 go_step;go_step;go_step;go_step;go_step
 refine Great.wpList_runTo rfl (some 1) rfl (.agg #[.string ⟨#[58,97,117,116,104,111,114,105,116,121]⟩,.string ⟨#[]⟩,.bool false]) w (by kernel_rfl) ?_
 refine Great.wpList_runTo rfl (some 2) rfl (.agg #[.string ⟨#[58,109,101,116,104,111,100]⟩,.string ⟨#[71,69,84]⟩,.bool false]) w (by kernel_rfl) ?_
 refine Great.wpList_runTo rfl (some 3) rfl (.agg #[.string ⟨#[58,109,101,116,104,111,100]⟩,.string ⟨#[80,79,83,84]⟩,.bool false]) w (by kernel_rfl) ?_
 refine Great.wpList_runTo rfl (some 4) rfl (.agg #[.string ⟨#[58,112,97,116,104]⟩,.string ⟨#[47]⟩,.bool false]) w (by kernel_rfl) ?_
 refine Great.wpList_runTo rfl (some 5) rfl (.agg #[.string ⟨#[58,112,97,116,104]⟩,.string ⟨#[47,105,110,100,101,120,46,104,116,109,108]⟩,.bool false]) w (by kernel_rfl) ?_
 refine Great.wpList_runTo rfl (some 6) rfl (.agg #[.string ⟨#[58,115,99,104,101,109,101]⟩,.string ⟨#[104,116,116,112]⟩,.bool false]) w (by kernel_rfl) ?_
 refine Great.wpList_runTo rfl (some 7) rfl (.agg #[.string ⟨#[58,115,99,104,101,109,101]⟩,.string ⟨#[104,116,116,112,115]⟩,.bool false]) w (by kernel_rfl) ?_
 refine Great.wpList_runTo rfl (some 8) rfl (.agg #[.string ⟨#[58,115,116,97,116,117,115]⟩,.string ⟨#[50,48,48]⟩,.bool false]) w (by kernel_rfl) ?_
 refine Great.wpList_runTo rfl (some 9) rfl (.agg #[.string ⟨#[58,115,116,97,116,117,115]⟩,.string ⟨#[50,48,52]⟩,.bool false]) w (by kernel_rfl) ?_
 refine Great.wpList_runTo rfl (some 10) rfl (.agg #[.string ⟨#[58,115,116,97,116,117,115]⟩,.string ⟨#[50,48,54]⟩,.bool false]) w (by kernel_rfl) ?_
 refine Great.wpList_runTo rfl (some 11) rfl (.agg #[.string ⟨#[58,115,116,97,116,117,115]⟩,.string ⟨#[51,48,52]⟩,.bool false]) w (by kernel_rfl) ?_
 refine Great.wpList_runTo rfl (some 12) rfl (.agg #[.string ⟨#[58,115,116,97,116,117,115]⟩,.string ⟨#[52,48,48]⟩,.bool false]) w (by kernel_rfl) ?_
 refine Great.wpList_runTo rfl (some 13) rfl (.agg #[.string ⟨#[58,115,116,97,116,117,115]⟩,.string ⟨#[52,48,52]⟩,.bool false]) w (by kernel_rfl) ?_
 refine Great.wpList_runTo rfl (some 14) rfl (.agg #[.string ⟨#[58,115,116,97,116,117,115]⟩,.string ⟨#[53,48,48]⟩,.bool false]) w (by kernel_rfl) ?_
 refine Great.wpList_runTo rfl (some 15) rfl (.agg #[.string ⟨#[97,99,99,101,112,116,45,99,104,97,114,115,101,116]⟩,.string ⟨#[]⟩,.bool false]) w (by kernel_rfl) ?_
 refine Great.wpList_runTo rfl (some 16) rfl (.agg #[.string ⟨#[97,99,99,101,112,116,45,101,110,99,111,100,105,110,103]⟩,.string ⟨#[103,122,105,112,44,32,100,101,102,108,97,116,101]⟩,.bool false]) w (by kernel_rfl) ?_
 refine Great.wpList_runTo rfl (some 17) rfl (.agg #[.string ⟨#[97,99,99,101,112,116,45,108,97,110,103,117,97,103,101]⟩,.string ⟨#[]⟩,.bool false]) w (by kernel_rfl) ?_
 refine Great.wpList_runTo rfl (some 18) rfl (.agg #[.string ⟨#[97,99,99,101,112,116,45,114,97,110,103,101,115]⟩,.string ⟨#[]⟩,.bool false]) w (by kernel_rfl) ?_
 refine Great.wpList_runTo rfl (some 19) rfl (.agg #[.string ⟨#[97,99,99,101,112,116]⟩,.string ⟨#[]⟩,.bool false]) w (by kernel_rfl) ?_
 refine Great.wpList_runTo rfl (some 20) rfl (.agg #[.string ⟨#[97,99,99,101,115,115,45,99,111,110,116,114,111,108,45,97,108,108,111,119,45,111,114,105,103,105,110]⟩,.string ⟨#[]⟩,.bool false]) w (by kernel_rfl) ?_
 refine Great.wpList_runTo rfl (some 21) rfl (.agg #[.string ⟨#[97,103,101]⟩,.string ⟨#[]⟩,.bool false]) w (by kernel_rfl) ?_
 refine Great.wpList_runTo rfl (some 22) rfl (.agg #[.string ⟨#[97,108,108,111,119]⟩,.string ⟨#[]⟩,.bool false]) w (by kernel_rfl) ?_
 refine Great.wpList_runTo rfl (some 23) rfl (.agg #[.string ⟨#[97,117,116,104,111,114,105,122,97,116,105,111,110]⟩,.string ⟨#[]⟩,.bool false]) w (by kernel_rfl) ?_
 refine Great.wpList_runTo rfl (some 24) rfl (.agg #[.string ⟨#[99,97,99,104,101,45,99,111,110,116,114,111,108]⟩,.string ⟨#[]⟩,.bool false]) w (by kernel_rfl) ?_
 refine Great.wpList_runTo rfl (some 25) rfl (.agg #[.string ⟨#[99,111,110,116,101,110,116,45,100,105,115,112,111,115,105,116,105,111,110]⟩,.string ⟨#[]⟩,.bool false]) w (by kernel_rfl) ?_
 refine Great.wpList_runTo rfl (some 26) rfl (.agg #[.string ⟨#[99,111,110,116,101,110,116,45,101,110,99,111,100,105,110,103]⟩,.string ⟨#[]⟩,.bool false]) w (by kernel_rfl) ?_
 refine Great.wpList_runTo rfl (some 27) rfl (.agg #[.string ⟨#[99,111,110,116,101,110,116,45,108,97,110,103,117,97,103,101]⟩,.string ⟨#[]⟩,.bool false]) w (by kernel_rfl) ?_
 refine Great.wpList_runTo rfl (some 28) rfl (.agg #[.string ⟨#[99,111,110,116,101,110,116,45,108,101,110,103,116,104]⟩,.string ⟨#[]⟩,.bool false]) w (by kernel_rfl) ?_
 refine Great.wpList_runTo rfl (some 29) rfl (.agg #[.string ⟨#[99,111,110,116,101,110,116,45,108,111,99,97,116,105,111,110]⟩,.string ⟨#[]⟩,.bool false]) w (by kernel_rfl) ?_
 refine Great.wpList_runTo rfl (some 30) rfl (.agg #[.string ⟨#[99,111,110,116,101,110,116,45,114,97,110,103,101]⟩,.string ⟨#[]⟩,.bool false]) w (by kernel_rfl) ?_
 refine Great.wpList_runTo rfl (some 31) rfl (.agg #[.string ⟨#[99,111,110,116,101,110,116,45,116,121,112,101]⟩,.string ⟨#[]⟩,.bool false]) w (by kernel_rfl) ?_
 refine Great.wpList_runTo rfl (some 32) rfl (.agg #[.string ⟨#[99,111,111,107,105,101]⟩,.string ⟨#[]⟩,.bool false]) w (by kernel_rfl) ?_
 refine Great.wpList_runTo rfl (some 33) rfl (.agg #[.string ⟨#[100,97,116,101]⟩,.string ⟨#[]⟩,.bool false]) w (by kernel_rfl) ?_
 refine Great.wpList_runTo rfl (some 34) rfl (.agg #[.string ⟨#[101,116,97,103]⟩,.string ⟨#[]⟩,.bool false]) w (by kernel_rfl) ?_
 refine Great.wpList_runTo rfl (some 35) rfl (.agg #[.string ⟨#[101,120,112,101,99,116]⟩,.string ⟨#[]⟩,.bool false]) w (by kernel_rfl) ?_
 refine Great.wpList_runTo rfl (some 36) rfl (.agg #[.string ⟨#[101,120,112,105,114,101,115]⟩,.string ⟨#[]⟩,.bool false]) w (by kernel_rfl) ?_
 refine Great.wpList_runTo rfl (some 37) rfl (.agg #[.string ⟨#[102,114,111,109]⟩,.string ⟨#[]⟩,.bool false]) w (by kernel_rfl) ?_
 refine Great.wpList_runTo rfl (some 38) rfl (.agg #[.string ⟨#[104,111,115,116]⟩,.string ⟨#[]⟩,.bool false]) w (by kernel_rfl) ?_
 refine Great.wpList_runTo rfl (some 39) rfl (.agg #[.string ⟨#[105,102,45,109,97,116,99,104]⟩,.string ⟨#[]⟩,.bool false]) w (by kernel_rfl) ?_
 refine Great.wpList_runTo rfl (some 40) rfl (.agg #[.string ⟨#[105,102,45,109,111,100,105,102,105,101,100,45,115,105,110,99,101]⟩,.string ⟨#[]⟩,.bool false]) w (by kernel_rfl) ?_
 refine Great.wpList_runTo rfl (some 41) rfl (.agg #[.string ⟨#[105,102,45,110,111,110,101,45,109,97,116,99,104]⟩,.string ⟨#[]⟩,.bool false]) w (by kernel_rfl) ?_
 refine Great.wpList_runTo rfl (some 42) rfl (.agg #[.string ⟨#[105,102,45,114,97,110,103,101]⟩,.string ⟨#[]⟩,.bool false]) w (by kernel_rfl) ?_
 refine Great.wpList_runTo rfl (some 43) rfl (.agg #[.string ⟨#[105,102,45,117,110,109,111,100,105,102,105,101,100,45,115,105,110,99,101]⟩,.string ⟨#[]⟩,.bool false]) w (by kernel_rfl) ?_
 refine Great.wpList_runTo rfl (some 44) rfl (.agg #[.string ⟨#[108,97,115,116,45,109,111,100,105,102,105,101,100]⟩,.string ⟨#[]⟩,.bool false]) w (by kernel_rfl) ?_
 refine Great.wpList_runTo rfl (some 45) rfl (.agg #[.string ⟨#[108,105,110,107]⟩,.string ⟨#[]⟩,.bool false]) w (by kernel_rfl) ?_
 refine Great.wpList_runTo rfl (some 46) rfl (.agg #[.string ⟨#[108,111,99,97,116,105,111,110]⟩,.string ⟨#[]⟩,.bool false]) w (by kernel_rfl) ?_
 refine Great.wpList_runTo rfl (some 47) rfl (.agg #[.string ⟨#[109,97,120,45,102,111,114,119,97,114,100,115]⟩,.string ⟨#[]⟩,.bool false]) w (by kernel_rfl) ?_
 refine Great.wpList_runTo rfl (some 48) rfl (.agg #[.string ⟨#[112,114,111,120,121,45,97,117,116,104,101,110,116,105,99,97,116,101]⟩,.string ⟨#[]⟩,.bool false]) w (by kernel_rfl) ?_
 refine Great.wpList_runTo rfl (some 49) rfl (.agg #[.string ⟨#[112,114,111,120,121,45,97,117,116,104,111,114,105,122,97,116,105,111,110]⟩,.string ⟨#[]⟩,.bool false]) w (by kernel_rfl) ?_
 refine Great.wpList_runTo rfl (some 50) rfl (.agg #[.string ⟨#[114,97,110,103,101]⟩,.string ⟨#[]⟩,.bool false]) w (by kernel_rfl) ?_
 refine Great.wpList_runTo rfl (some 51) rfl (.agg #[.string ⟨#[114,101,102,101,114,101,114]⟩,.string ⟨#[]⟩,.bool false]) w (by kernel_rfl) ?_
 refine Great.wpList_runTo rfl (some 52) rfl (.agg #[.string ⟨#[114,101,102,114,101,115,104]⟩,.string ⟨#[]⟩,.bool false]) w (by kernel_rfl) ?_
 refine Great.wpList_runTo rfl (some 53) rfl (.agg #[.string ⟨#[114,101,116,114,121,45,97,102,116,101,114]⟩,.string ⟨#[]⟩,.bool false]) w (by kernel_rfl) ?_
 refine Great.wpList_runTo rfl (some 54) rfl (.agg #[.string ⟨#[115,101,114,118,101,114]⟩,.string ⟨#[]⟩,.bool false]) w (by kernel_rfl) ?_
 refine Great.wpList_runTo rfl (some 55) rfl (.agg #[.string ⟨#[115,101,116,45,99,111,111,107,105,101]⟩,.string ⟨#[]⟩,.bool false]) w (by kernel_rfl) ?_
 refine Great.wpList_runTo rfl (some 56) rfl (.agg #[.string ⟨#[115,116,114,105,99,116,45,116,114,97,110,115,112,111,114,116,45,115,101,99,117,114,105,116,121]⟩,.string ⟨#[]⟩,.bool false]) w (by kernel_rfl) ?_
 refine Great.wpList_runTo rfl (some 57) rfl (.agg #[.string ⟨#[116,114,97,110,115,102,101,114,45,101,110,99,111,100,105,110,103]⟩,.string ⟨#[]⟩,.bool false]) w (by kernel_rfl) ?_
 refine Great.wpList_runTo rfl (some 58) rfl (.agg #[.string ⟨#[117,115,101,114,45,97,103,101,110,116]⟩,.string ⟨#[]⟩,.bool false]) w (by kernel_rfl) ?_
 refine Great.wpList_runTo rfl (some 59) rfl (.agg #[.string ⟨#[118,97,114,121]⟩,.string ⟨#[]⟩,.bool false]) w (by kernel_rfl) ?_
 refine Great.wpList_runTo rfl (some 60) rfl (.agg #[.string ⟨#[118,105,97]⟩,.string ⟨#[]⟩,.bool false]) w (by kernel_rfl) ?_
 refine Great.wpList_runTo rfl (some 61) rfl (.agg #[.string ⟨#[119,119,119,45,97,117,116,104,101,110,116,105,99,97,116,101]⟩,.string ⟨#[]⟩,.bool false]) w (by kernel_rfl) ?_
 refine Great.wpList_runTo rfl (some 62) rfl (.slice (some ⟨w.heap.size,0,none⟩) 61 61) (w.alloc (.cells Jy.toArray 26)) (by kernel_rfl) ?_
 go_wp2
 go_ret
 exact⟨rfl,rfl⟩
theorem adv (r:Rw) (b:Bool) (w:World) (h1:r.1.size≤140737488355328) (h2:r.2.size≤140737488355328) :
 Calls Tryz.prog 52 #[.agg #[.string r.1,.string r.2,.bool b]] w fun e w'=>e = .returned (.int .i64 (cost r:Nat))∧w'=w.alloc (.cells #[.string r.1,.string r.2,.bool b] 26):=by
 go_enter Tryz.func52,Tryz.ntmps52
 go_wp2
 go_ret
 exact⟨C8 (by unfold cost;congr 1),rfl⟩
end
section
open Go.RowKit
def Tn (g:Nat) (A:Option Addr) (k:Nat):Prop:=k=g∨∃a,A=some a∧a.block=k
structure RT (w:World) (g:Nat) (A:Option Addr) (c:Nat) (most:Int) (rows:List Rw):Prop where
 book:w.heap[g]?=some (.cells #[.int .i64 most,.slice A rows.length c] 111 (0,0))
 row:j5 w 26 3 (.slice A rows.length c) rows.length (p_ rows.reverse)
 ne:∀a,A=some a→a.block≠g
def yD (w:World) (g:Nat) (F:Nat→Prop) (most:Int) (rows:List Rw):Prop:=∃A c,F=Tn g A∧RT w g A c most rows
section
variable {w w':World} {g c:Nat} {A:Option Addr} {most:Int} {rows:List Rw} {F:Nat→Prop}
theorem RT.lt (h:RT w g A c most rows):∀k,Tn g A k→k<w.heap.size:=by
 rintro k (rfl | ⟨a,ha,rfl⟩)
 ·exact (Array.getElem?_eq_some_iff.1 h.book).1
 ·obtain⟨A',c',hv,_,_,hb⟩:=h.row.form
  injection hv with e1
  subst e1
  exact hb a ha
theorem RT.keep (h:RT w g A c most rows) (hk:∀k,Tn g A k→w'.heap[k]?=w.heap[k]?):RT w' g A c most rows:=by
 refine⟨(hk g (.inl rfl)).trans h.book,h.row.keep fun q hq=>hk q ?_,h.ne⟩
 cases A with
 | none=>cases hq
 | some a=>exact .inr ⟨a,rfl,by simpa [Value.ownBlock] using hq⟩
theorem RT.cells (h:RT w g A c most rows):w.cell? ⟨g,0,none⟩=some (.int .i64 most)∧w.cell? ⟨g,1,none⟩=some (.slice A rows.length c):=by
 refine⟨?_,?_⟩ <;> (unfold World.cell?;rw[h.book];rfl)
theorem RT.free (h:RT w g A c most rows) (o:Nat):w.frozen? ⟨g,o,none⟩=false:=by
 unfold World.frozen?;rw[h.book];simp
theorem yD.lt (h:yD w g F most rows):∀k,F k→k<w.heap.size:=by
 obtain⟨A,c,rfl,ht⟩:=h
 exact ht.lt
theorem yD.keep (h:yD w g F most rows) (hk:∀k,F k→w'.heap[k]?=w.heap[k]?):yD w' g F most rows:=by
 obtain⟨A,c,rfl,ht⟩:=h
 exact⟨A,c,rfl,ht.keep hk⟩
theorem yD.below (h:yD w g F most rows) (hb:Below w.heap.size w w'):yD w' g F most rows:=h.keep fun k hk=>hb.block k (h.lt k hk)
theorem yD.kept {G:Nat→Prop}(h:yD w g F most rows) (hk:Kept G w w') (hd:∀k,F k→¬G k):yD w' g F most rows:=h.keep fun k hf=>hk.block k (h.lt k hf) (hd k hf)
theorem RT.at_ (h:RT w g A c most rows){i:Nat}{r:Rw}(hi:rows.reverse[i]?=some r):∃q o,A=some ⟨q,o,none⟩∧q<w.heap.size∧w.cell? ⟨q,o+i*3,none⟩=some (.string r.1)∧w.cell? ⟨q,o+i*3+1,none⟩=some (.string r.2)∧w.cell? ⟨q,o+i*3+2,none⟩=some (.bool false):=by
 have hlt:i<rows.length:=by have:=(List.getElem?_eq_some_iff.1 hi).1;simpa using this
 obtain⟨q,o,hA,hq,hc⟩:=(h.row.rd rfl).2 (by omega)
 have e:=Yb hi
 exact⟨q,o,hA,hq,(hc _ (by omega)).trans e.1,(hc (i*3+1) (by omega)).trans e.2.1,(hc (i*3+2) (by omega)).trans e.2.2⟩
end
def Small (rows:List Rw):Prop:=dV rows≤1099511627776∧∀r ∈ rows,pE r
theorem Small.len {rows:List Rw}(h:Small rows):(rows.length:Int)*32≤1099511627776:=by
 have h1:=h.1
 have:∀l:List Rw,(l.length:Int)*32≤dV l:=by
  intro l
  induction l with
  | nil=>exact Int.le_refl _
  | cons r l ih=>rw[I7];simp only[fe];unfold cost;omega
 have:=this rows
 omega
theorem Small.mem {rows:List Rw}(h:Small rows){r:Rw}(hr:r ∈ rows):r.1.size≤1099511627776∧r.2.size≤1099511627776:=by
 have:∀l:List Rw,r ∈ l→(cost r:Int)≤dV l:=by
  intro l
  induction l with
  | nil=>intro h;cases h
  | cons a l ih=>
   intro hm
   rw[I7]
   have:=KM l
   rcases List.mem_cons.1 hm with rfl | h
   ·omega
   ·have:=ih h;omega
 have h1:=this rows hr
 have h2:=h.1
 have h3:(cost r:Int)=r.1.size+r.2.size+32:=by unfold cost;omega
 omega
theorem aiU (l k:List Rw):dV (l++k)=dV l+dV k:=by unfold dV;simp
end
section
open Go.RowKit
abbrev Fd:=Rw×Bool
structure eZ where
 T:Tb
 left:List UInt8
 fields:List Fd
 cost:Nat
 changes:Nat
def kU (c:Nat):Nat:=if 128≤c then 127 else if 64≤c then 63 else if 32≤c then 31 else 15
def wV (l:List UInt8):Except Nat (ByteArray×List UInt8):=if (lQ l).2.2≠0 then .error (lQ l).2.2 else .ok (⟨(lQ l).1.toArray⟩,l.drop (lQ l).2.1)
def takeN (T:Tb) (n:Nat) (l:List UInt8):Except Nat (ByteArray×List UInt8):=
 if 0<n then (match mQ T.rows n with
  | none=>.error 40
  | some r=>.ok (r.1,l)) else wV l
def wL (T:Tb) (n:Nat) (l:List UInt8):Except Nat (Rw×List UInt8):=match takeN T n l with
 | .error e=>.error e
 | .ok (nm,l1)=>match wV l1 with
  | .error e=>.error e
  | .ok (v,l2)=>.ok ((nm,v),l2)
def eZ.put (S:eZ) (l:List UInt8) (f:Fd):eZ:={ S with left:=l,fields:=S.fields++[f],cost:=S.cost+Go.Proofs.YtpkmciohehaboaaGreatDoor.cost f.1 }
def Ae (mo:Int) (c n:Nat) (l:List UInt8) (S:eZ):Except Nat eZ:=
 if 128≤c then (match mQ S.T.rows n with
  | none=>.error 40
  | some r=>.ok (S.put l (r,false)))
 else if 64≤c then (match wL S.T n l with
  | .error e=>.error e
  | .ok (f,l2)=>.ok ({ S with T:=S.T.add f }.put l2 (f,false)))
 else if 32≤c then (if 0<S.fields.length∨2<S.changes+1∨mo<n then .error 50 else .ok { S with T:=S.T.resize n,left:=l,changes:=S.changes+1 })
 else (match wL S.T n l with
  | .error e=>.error e
  | .ok (f,l2)=>.ok (S.put l2 (f,decide (16≤c))))
def jD (mo:Int) (S:eZ):Except Nat eZ:=
 if (bB (kU (ba S.left 0)) S.left).2.2≠0 then .error (bB (kU (ba S.left 0)) S.left).2.2
 else Ae mo (ba S.left 0) (bB (kU (ba S.left 0)) S.left).1 (S.left.drop (bB (kU (ba S.left 0)) S.left).2.1) S
def lq (mo:Int):Nat→eZ→Except Nat eZ
 | 0,S=>.ok S
 | k+1,S=>if S.left.length=0 then .ok S else match jD mo S with
  | .error e=>.error e
  | .ok S'=>lq mo k S'
def sH (mo li:Int) (T:Tb) (l:List UInt8):List Fd×Nat×Option Tb:=match lq mo l.length ⟨T,l,[],0,0⟩ with
 | .error e=>([],e,none)
 | .ok S=>if li<(S.cost:Int) then ([],51,some S.T) else (S.fields,0,some S.T)
theorem ag2 (c:Nat):kU c≤255∧1≤kU c:=by
 unfold kU;repeat' split
 all_goals omega
theorem aa2 (l:List UInt8):((lQ l).2.2=0→(lQ l).1.length≤4096∧1≤(lQ l).2.1∧(lQ l).2.1≤l.length)∧(lQ l).2.2≤12:=by
 have hb:=EM (show 127≤255 by omega) l
 have he:=aa0 127 l
 unfold lQ
 split
 ·rename_i h
  exact⟨fun h2=>absurd h2 h,he⟩
 ·rename_i h0
  have h0:(bB 127 l).2.2=0:=by simpa using h0
  have hb:=hb h0
  split
  ·exact⟨fun h=>by simp at h,by simp⟩
  ·rename_i h1
   split
   ·exact⟨fun h=>by simp at h,by simp⟩
   ·rename_i h2
    split
    ·exact⟨fun _=>⟨by unfold Kw;rw[kS];omega,by simp only;omega,by simp only;omega⟩,by simp⟩
    ·split
     ·exact⟨fun h=>by simp at h,by simp⟩
     ·split
      ·exact⟨fun h=>by simp at h,by simp⟩
      ·exact⟨fun _=>⟨by simp only;omega,by simp only;omega,by simp only;omega⟩,by simp⟩
theorem VR {l l2:List UInt8}{s:ByteArray}(h:wV l = .ok (s,l2)):s.size≤4096∧l2.length<l.length:=by
 unfold wV at h
 split at h
 ·cases h
 ·rename_i he
  injection h with h
  injection h with h1 h2
  have:=(aa2 l).1 (by simpa using he)
  subst h1 h2
  refine⟨?_,by rw[xk];omega⟩
  show (lQ l).1.toArray.size≤4096
  simpa using this.1
theorem MW (m:Int):∀(l:List Rw) (g:Int){r:Rw},r ∈ (iQ m g l).2→r ∈ l
 | [],g,r,h=>by cases h
 | a :: l,g,r,h=>by
  by_cases hc:m<((((a :: l).map cost).sum:Nat):Int)
  ·rw[I4 hc] at h
   exact fH _ (MW m l (g+1) h)
  ·rw[G7 (by omega)] at h
   exact h
structure j_ (T:Tb):Prop where
 CW : 0≤T.most
 Br:T.most≤65536
 fits:dV T.rows≤T.most
 okr:∀r ∈ T.rows,pE r
theorem j_.mem {T:Tb}(h:j_ T){r:Rw}(hr:r ∈ T.rows):r.1.size≤65536∧r.2.size≤65536:=by
 have:∀l:List Rw,r ∈ l→(Go.Proofs.YtpkmciohehaboaaGreatDoor.cost r:Int)≤dV l:=by
  intro l
  induction l with
  | nil=>intro h;cases h
  | cons a l ih=>
   intro hm
   rw[I7]
   have:=KM l
   rcases List.mem_cons.1 hm with rfl | h
   ·omega
   ·have:=ih h;omega
 have h1:=this T.rows hr
 have h2:=h.fits
 have h3:=h.Br
 have h4:(cost r:Int)=r.1.size+r.2.size+32:=by unfold cost;omega
 omega
theorem aiE:∀r ∈ iR,r.1.size≤100∧r.2.size≤100:=by decide +kernel
theorem acz {rows:List Rw}{n:Int}{r:Rw}(h:mQ rows n=some r):r ∈ iR∨r ∈ rows:=by
 unfold mQ at h
 split at h
 ·exact .inl (fq h)
 ·split at h
  ·exact .inr (fq h)
  ·cases h
theorem Oo {T:Tb}(hT:j_ T){n:Int}{r:Rw}(h:mQ T.rows n=some r):r.1.size≤65536∧r.2.size≤65536:=by
 rcases acz h with h | h
 ·have:=aiE r h;omega
 ·exact hT.mem h
theorem aiY {T:Tb}(hT:j_ T){n:Nat}{l l2:List UInt8}{s:ByteArray}(h:takeN T n l = .ok (s,l2)):s.size≤65536∧l2.length≤l.length:=by
 unfold takeN at h
 split at h
 ·split at h
  ·cases h
  ·rename_i r hr
   injection h with h
   injection h with h1 h2
   subst h1 h2
   exact⟨(Oo hT hr).1,ah _⟩
 ·have:=VR h;omega
theorem SL {T:Tb}(hT:j_ T){n:Nat}{l l2:List UInt8}{f:Rw}(h:wL T n l = .ok (f,l2)):f.1.size≤65536∧f.2.size≤4096∧l2.length≤l.length:=by
 unfold wL at h
 split at h
 ·cases h
 ·rename_i nm l1 h1
  split at h
  ·cases h
  ·rename_i v l3 h2
   injection h with h
   injection h with e1 e2
   subst e1 e2
   have:=aiY hT h1
   have:=VR h2
   simp only;omega
theorem j_.resize {T:Tb}(h:j_ T){n:Int}(h0 : 0≤n) (h1:n≤65536):j_ (T.resize n):=by
 refine⟨h0,h1,?_,fun r hr=>h.okr r ?_⟩
 ·exact I1 h0 _ _
 ·exact MW _ _ _ hr
theorem j_.add {T:Tb}(h:j_ T){r:Rw}(h1:r.1.size≤1099511627776) (h2:r.2.size≤1099511627776):j_ (T.add r):=by
 have hok:pE r:=by unfold pE vC;unfold maxLen;omega
 unfold Tb.add
 split
 ·refine⟨h.CW,h.Br,?_,fun r' hr=>h.okr r' (MW _ _ _ hr)⟩
  have:=I1 (Int.le_refl 0) T.rows T.gone
  have:=h.CW
  show dV (iQ 0 T.gone T.rows).2≤T.most
  omega
 ·rename_i hc
  have hc0:(0:Int)≤T.most-cost r:=by omega
  have hf:=I1 hc0 T.rows T.gone
  refine⟨h.CW,h.Br,?_,fun r' hr=>?_⟩
  ·show dV ((iQ (T.most-cost r) T.gone T.rows).2++[r])≤T.most
   rw[aiU]
   have:dV [r]=cost r:=by unfold dV;simp
   omega
  ·rcases List.mem_append.1 hr with h3 | h3
   ·exact h.okr r' (MW _ _ _ h3)
   ·have:r'=r:=by simpa using h3
    rw[this];exact hok
structure jr (L:Nat) (S:eZ):Prop where
 tok:j_ S.T
 sz:∀f ∈ S.fields,f.1.1.size≤65536∧f.1.2.size≤65536
 cost:S.cost=(S.fields.map fun f=>Go.Proofs.YtpkmciohehaboaaGreatDoor.cost f.1).sum
 len:S.fields.length+S.left.length≤L
 yJ:S.changes≤2
theorem jr.adw {L:Nat}{S:eZ}(h:jr L S):S.cost≤131104*S.fields.length:=by
 rw[h.cost]
 have:∀l:List Fd,(∀f ∈ l,f.1.1.size≤65536∧f.1.2.size≤65536)→(l.map fun f=>Go.Proofs.YtpkmciohehaboaaGreatDoor.cost f.1).sum≤131104*l.length:=by
  intro l
  induction l with
  | nil=>intro _;simp
  | cons f l ih=>
   intro hf
   have h1:=hf f (by simp)
   have h2:=ih fun g hg=>hf g (by simp[hg])
   simp only[lV,List.sum_cons,fe]
   have:Go.Proofs.YtpkmciohehaboaaGreatDoor.cost f.1=f.1.1.size+f.1.2.size+32:=rfl
   omega
 exact this _ h.sz
theorem jr.put {L:Nat}{S:eZ}(h:jr L S){l:List UInt8}{f:Fd}(hl:l.length<S.left.length) (h1:f.1.1.size≤65536) (h2:f.1.2.size≤65536):jr L (S.put l f):=
 ⟨h.tok,fun g hg=>by
  rcases List.mem_append.1 hg with h3 | h3
  ·exact h.sz g h3
  ·have:g=f:=by simpa using h3
   rw[this];exact⟨h1,h2⟩,by show S.cost+Go.Proofs.YtpkmciohehaboaaGreatDoor.cost f.1=((S.fields++[f]).map _).sum;rw[j6,List.sum_append,←h.cost];simp,by have:=h.len;show (S.fields++[f]).length+l.length≤L;rw[aN];simp only[fe,List.length_nil];omega,h.yJ⟩
theorem jr.setT {L:Nat}{S:eZ}(h:jr L S){T:Tb}(hT:j_ T):jr L { S with T:=T }:=⟨hT,h.sz,h.cost,h.len,h.yJ⟩
theorem jr.after {L:Nat}{mo:Int}{c n:Nat}{l:List UInt8}{S S':eZ}(h:jr L S) (hl:l.length<S.left.length) (hmo:mo≤65536) (he:Ae mo c n l S = .ok S'):jr L S'∧S'.left.length<S.left.length:=by
 unfold Ae at he
 split at he
 ·split at he
  ·cases he
  ·rename_i r hr
   injection he with he
   subst he
   have:=Oo h.tok hr
   exact⟨h.put hl this.1 this.2,hl⟩
 ·split at he
  ·split at he
   ·cases he
   ·rename_i f l2 hf
    injection he with he
    subst he
    obtain⟨a,b,d⟩:=SL h.tok hf
    exact⟨(h.setT (h.tok.add (by omega) (by omega))).put (f:=(f,false)) (by simp only;omega) (by simp only;omega) (by simp only;omega),by show l2.length<_;omega⟩
  ·split at he
   ·split at he
    ·cases he
    ·rename_i hn
     injection he with he
     subst he
     have hc:=h.yJ
     exact⟨⟨h.tok.resize (by omega) (by omega),h.sz,h.cost,by have:=h.len;simp only;omega,by simp only;omega⟩,hl⟩
   ·split at he
    ·cases he
    ·rename_i f l2 hf
     injection he with he
     subst he
     obtain⟨a,b,d⟩:=SL h.tok hf
     exact⟨h.put (f:=(f,_)) (by omega) (by simp only;omega) (by simp only;omega),by show l2.length<_;omega⟩
theorem jr.part {L:Nat}{mo:Int}{S S':eZ}(h:jr L S) (hmo:mo≤65536) (he:jD mo S = .ok S'):jr L S'∧S'.left.length<S.left.length:=by
 unfold jD at he
 split at he
 ·cases he
 ·rename_i h0
  have h0:(bB (kU (ba S.left 0)) S.left).2.2=0:=by simpa using h0
  have:=EM (ag2 _).1 S.left h0
  exact h.after (by rw[xk];omega) hmo he
theorem XW {mo:Int}{L:Nat}(hmo:mo≤65536):∀(j k:Nat) (S:eZ),jr L S→S.left.length≤j→j≤k→lq mo k S=lq mo j S
 | 0,0,S,_,_,_=>rfl
 | 0,k+1,S,_,hj,_=>by show lq mo (k+1) S = .ok S;unfold lq;rw[ax (by omega)]
 | j+1,0,S,_,_,h=>by omega
 | j+1,k+1,S,hok,hj,hk=>by
  show (if S.left.length=0 then Except.ok S else match jD mo S with | .error e=>.error e | .ok S'=>lq mo k S')=(if S.left.length=0 then Except.ok S else match jD mo S with | .error e=>.error e | .ok S'=>lq mo j S')
  split
  ·rfl
  ·split
   ·rfl
   ·rename_i S' hS
    obtain⟨a,b⟩:=hok.part hmo hS
    exact XW hmo j k S' a (by omega) (by omega)
theorem Jv {mo:Int}{L:Nat}(hmo:mo≤65536){S S':eZ}(hok:jr L S) (h0 : 0<S.left.length) (h:jD mo S = .ok S'):lq mo S.left.length S=lq mo S'.left.length S':=by
 obtain⟨a,b⟩:=hok.part hmo h
 obtain⟨k,hk⟩:∃k,S.left.length=k+1:=⟨S.left.length-1,by omega⟩
 rw[hk,lq,aj (by omega),h]
 exact XW hmo _ _ _ a (ah _) (by omega)
theorem adC {mo:Int}{S:eZ}{e:Nat}(h0 : 0<S.left.length) (h:jD mo S = .error e):lq mo S.left.length S = .error e:=by
 obtain⟨k,hk⟩:∃k,S.left.length=k+1:=⟨S.left.length-1,by omega⟩
 rw[hk,lq,aj (by omega),h]
theorem adB {mo:Int}{S:eZ}(h0:S.left.length=0):lq mo S.left.length S = .ok S:=by rw[h0];rfl
theorem jr.start {T:Tb}(hT:j_ T) (l:List UInt8):jr l.length ⟨T,l,[],0,0⟩:=
 {tok:=hT,sz:=(fun f hf=>by cases hf),cost:=rfl,len:=by simp,yJ:=by simp }
end
end Go.Proofs.YtpkmciohehaboaaGreatDoor
