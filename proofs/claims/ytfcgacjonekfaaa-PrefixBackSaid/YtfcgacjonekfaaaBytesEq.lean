/- The walk of drawbridgeref01.Bytes at two rows of the same bytes. -/
import Derived.Test.YtfcgacjonekfaaaPut
namespace Go.Proofs.Ytfcgacjonekfaaa
open Go.RowKit
set_option maxHeartbeats 400000 in
theorem bytes_same {A A' : Option Addr} {B B' n n' c c' : Nat} {l : List UInt8} {w : World} (hr : Rd w B 1 A n (bvs l)) (hr' : Rd w B' 1 A' n' (bvs l)) :
    Calls Try.prog 20 #[.slice A n c, .slice A' n' c'] w fun e w' => e = .returned (.bool true) ∧ w = w' := by
  have e1 := run_str Try.underlying31 Try.underlying5 Try.underlying9 hr c
  have e2 := run_str Try.underlying31 Try.underlying5 Try.underlying9 hr' c'
  clear hr hr'
  go_enter Try.func20, Try.ntmps20
  go_wp2
  go_ret
  exact ⟨ret_v (by simp), rfl⟩
end Go.Proofs.Ytfcgacjonekfaaa
