/- sporran/script: Class. -/
import Derived.Test.YtbkpgdfkjijagaaDoorScriptB
namespace Go.Proofs.YtbkpgdfkjijagaaDoor
open Go.RowKit

/-! ### plain -/
def clsData : List (BitVec 8) → Nat × List (BitVec 8)
  | [] => (0, [])
  | b :: r => if b = 106#8 then (6, r) else (0, [])
/-- the kinds from the last m on -/
def clsFrom (bs : List (BitVec 8)) : Nat → Nat × List (BitVec 8)
  | 0 => clsData bs
  | m + 1 => match mt (kindR (5 - m)) bs with
    | some t => (5 - m, t)
    | none => clsFrom bs m
def cls (bs : List (BitVec 8)) : Nat × List (BitVec 8) := clsFrom bs 5

/-- a kind and new bytes -/
def ClassPost (w : World) (x : Nat × List (BitVec 8)) (e : Ending) (w' : World) : Prop :=
  ∃ v, e = .returned (.tuple #[.int .i64 (x.1 : Int), v]) ∧ Own8 w' w.heap.size v x.2 ∧ Below w.heap.size w w'

end Go.Proofs.YtbkpgdfkjijagaaDoor
