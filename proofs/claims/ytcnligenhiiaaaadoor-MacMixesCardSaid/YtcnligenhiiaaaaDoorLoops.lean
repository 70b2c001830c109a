/- The bodies of a function's loops, taken out of its code by a function. -/
import Derived.WalkKit
namespace Go
/-- The bodies of the loops that lie in no other loop, in the order of the text. -/
def Code.loops : Code → List Code
  | .loop c => [c]
  | .seq a b => a.loops ++ b.loops
  | .block _ c => c.loops
  | .scope c => c.loops
  | .cond _ a b => a.loops ++ b.loops
  | _ => []
def Func.loopAt (f : Func) (n : Nat) : Code := match f.body with
  | some c => (c.loops).getD n .skip
  | none => .skip
end Go
