-- Words out of the kit's print, cut by a program of this session (wip/tools/dce.py) to what this claim's texts name. Not trusted: Lean checks it.
import Derived.Test.YtnlbhlomdcgpeaaDoorWTab
/-! ### 56. Four, five, six operations that may come up next, in any order -/
namespace Go.Proofs.YtnlbhlomdcgpeaaDoorW.PrintLast
section
variable {P : Program} {ops : Array Oper} {Q : Exit → Act → World → Prop} {md : Region.Mode} {S : World → Prop} {ds : List Nat} {T : Bool × List (List Nat × List Nat)}
end
end Go.Proofs.YtnlbhlomdcgpeaaDoorW.PrintLast

