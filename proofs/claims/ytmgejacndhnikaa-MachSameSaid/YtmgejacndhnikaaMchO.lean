/- Orders, plain (as in MachA, whose definitions these are; in the seat rest MachA is to import this text). -/
import Derived.Test.YtmgejacndhnikaaStep
namespace Go.Proofs.Ytmgejacndhnikaa
def mSize (b : Int) : Int :=
  if 9 < b / 8 then 0 else if b / 8 = 0 then 1 else if b / 8 = 1 then 2 else if b / 8 = 8 then 3 else if 6 ≤ b % 8 then 0 else if b / 8 = 9 then 3 else 1
/-- The order that begins with byte b, x and y behind it. -/
def ordOf (b x y : Int) : Step :=
  { op := b / 8, to := if b / 8 = 0 ∨ b / 8 = 1 ∨ b / 8 = 8 then 0 else b % 8, a := 0, b := 0, val := if b / 8 = 1 then x else if b / 8 = 8 ∨ b / 8 = 9 then x + y * 256 else 0 }
/-- Is there an order at place k of l? -/
def ordIs (l : List Int) (k : Nat) : Prop := k < l.length ∧ mSize (l.getD k 0) ≠ 0 ∧ (k : Int) + mSize (l.getD k 0) ≤ l.length
end Go.Proofs.Ytmgejacndhnikaa
