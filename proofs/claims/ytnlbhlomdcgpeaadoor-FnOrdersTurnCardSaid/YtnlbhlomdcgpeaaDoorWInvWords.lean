-- Words out of the kit's print, cut by a program of this session (wip/tools/dce.py) to what this claim's texts name. Not trusted: Lean checks it.
import Derived.Test.YtnlbhlomdcgpeaaDoorWInv
import Derived.Test.YtnlbhlomdcgpeaaDoorWFootNe
namespace Go.Proofs.YtnlbhlomdcgpeaaDoorW.PrintWords
open Go.RowKit
end Go.Proofs.YtnlbhlomdcgpeaaDoorW.PrintWords
namespace Go.Proofs.YtnlbhlomdcgpeaaDoorW.PrintLast
section
variable {ops : Array Oper} {a : Act} {o og : Oper} {g : Nat} {t : Tmp} {u : Bool}
end
end Go.Proofs.YtnlbhlomdcgpeaaDoorW.PrintLast

