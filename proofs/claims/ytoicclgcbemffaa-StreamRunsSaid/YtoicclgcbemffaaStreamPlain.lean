/- The states of a stream, in plain Lean. No program in sight. -/
import Derived.Test.YtoicclgcbemffaaBase
namespace Go.Proofs.Ytoicclgcbemffaa
open Go.RowKit

/-- What comes of a frame. -/
structure Mv where
  state : Int
  skip : Bool
  is : Bool
  code : Int
  whole : Bool
  deriving DecidableEq
def mvV (m : Mv) : Value := .agg #[.int .i64 m.state, .bool m.skip, .bool m.is, .int .i64 m.code, .bool m.whole]

/-- A type's place in a row. -/
def colF (kind : Int) : Option Nat := if kind = 0 then some 0 else if kind = 1 then some 1 else if kind = 3 then some 2 else if kind = 8 then some 3 else if kind = 2 then some 4 else none
/-- The rows. -/
def tabF : List (List Nat) := [[6, 2, 6, 6, 0], [2, 3, 4, 1, 1], [5, 5, 4, 1, 1], [2, 3, 4, 1, 1], [6, 6, 0, 0, 0], [0, 0, 0, 0, 0], [5, 5, 0, 5, 0]]
def onF (state : Int) (fin : Bool) : Int := if state = 0 then (if fin then 2 else 1) else if fin then (if state = 1 then 2 else 4) else state
def codeF (state : Int) (how : Nat) : Int := if state = 0 ∨ how = 3 then 1 else 5
def howF (state : Int) (how : Nat) (fin : Bool) : Mv :=
  if (how = 3 ∧ fin = true) ∨ how = 2 then ⟨onF state fin, false, false, 0, false⟩
  else if how = 4 then ⟨6, false, false, 0, false⟩
  else if how = 1 then ⟨state, false, false, 0, false⟩
  else if how = 6 then ⟨state, false, true, codeF state how, true⟩
  else if how = 3 ∨ how = 5 then ⟨5, false, true, codeF state how, false⟩
  else ⟨state, true, false, 0, false⟩
def comeF (state kind : Int) (fin : Bool) : Mv :=
  if state < 0 ∨ 6 < state then ⟨0, true, false, 0, false⟩
  else match colF kind with
    | none => ⟨state, true, false, 0, false⟩
    | some c => howF state ((tabF.getD state.toNat []).getD c 0) fin
def liveF (state : Int) : Bool := state == 1 || state == 2 || state == 3
/-- Which frames of the gateway's may go. -/
def goF (state kind : Int) (fin : Bool) : Int × Bool :=
  if kind = 3 ∧ (liveF state = true ∨ state = 6) then (5, true)
  else if kind = 8 ∧ liveF state = true then (state, true)
  else if kind ≠ 0 ∧ kind ≠ 1 then (0, false)
  else if state = 1 ∧ fin = true then (3, true)
  else if state = 2 ∧ fin = true then (4, true)
  else if state = 1 ∨ state = 2 then (state, true)
  else (0, false)
def goV (r : Int × Bool) : Value := .tuple #[.int .i64 r.1, .bool r.2]

theorem kinds (kind : Int) : kind = 0 ∨ kind = 1 ∨ kind = 3 ∨ kind = 8 ∨ kind = 2 ∨ (kind ≠ 0 ∧ kind ≠ 1 ∧ kind ≠ 3 ∧ kind ≠ 8 ∧ kind ≠ 2) := by omega
theorem states (state : Int) : state < 0 ∨ 6 < state ∨ state = 0 ∨ state = 1 ∨ state = 2 ∨ state = 3 ∨ state = 4 ∨ state = 5 ∨ state = 6 := by omega
end Go.Proofs.Ytoicclgcbemffaa
