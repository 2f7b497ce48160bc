-- Words out of the kit's print, cut by a program of this session (wip/tools/dce.py) to what this claim's texts name. Not trusted: Lean checks it.
import Derived.Test.YtnlbhlomdcgpeaaDoorWWords
import Derived.Laws.StructEq
/-! ### 53. '==' of structs as_ one Bool -/
namespace Go.Proofs.YtnlbhlomdcgpeaaDoorW.PrintWords
open Go.RowKit
section
variable {P : Program} {d : Nat} {xs ys : Array Value} {f : Field} {fs : List Field} {a b : Value} {r s : Bool} {w : World}
end
end Go.Proofs.YtnlbhlomdcgpeaaDoorW.PrintWords

