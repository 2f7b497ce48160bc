-- Words out of the kit's print, cut by a program of this session (wip/tools/dce.py) to what this claim's texts name. Not trusted: Lean checks it.
import Derived.Test.YtnlbhlomdcgpeaaDoorWN
/-! ### 52. A row that stays read whatever happens to a block (a set of blocks) doesn't lie there -/
namespace Go.Proofs.YtnlbhlomdcgpeaaDoorW.PrintWords
open Go.RowKit
namespace Kd
section
variable {α : Type} {d : Kd α} {W : World} {g n : Nat} {S ok : Nat → Prop} {A : Option Addr} {ad : Addr} {xs : List α}
end
end Kd
end Go.Proofs.YtnlbhlomdcgpeaaDoorW.PrintWords

