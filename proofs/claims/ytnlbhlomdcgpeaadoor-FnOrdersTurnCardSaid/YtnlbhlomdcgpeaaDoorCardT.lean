/- The law FnOrdersTurn is proved of the given program, for all inputs: the tied card: what the two listed variables (unicode/utf8.first, unicode/utf8.acceptRanges) hold is tied to the program's own text. -/
import Derived.Test.YtnlbhlomdcgpeaaDoorLawT
import Derived.Test.YtnlbhlomdcgpeaaDoorTie
import Derived.Test.YtnlbhlomdcgpeaaDoorCards
import Derived.SevenTiedAt
namespace Go.Proofs.YtnlbhlomdcgpeaaDoor
open Go
theorem card_proved : Rows.FnOrdersTurnCardSaid :=
  Claim7.holds_tied_plain_at .later [] [.data, .pinned] true (true, "415d005b4912737f26b63cbb1ed8ef187629e2ccd93e13fe31a7ae33ebf8c3cc") false
    fnOrdersTurn.over (fun _ h => by cases h) (by kernel_rfl) (fun _ h => by cases h) fnOrdersTurn_row_tie rfl ⟨rfl, rfl⟩ (by kernel_rfl) rfl
    (fun f fn hf hfn => by
      obtain rfl : f = 3 := Option.some.inj ((show Tryd.prog.funcNamed "loop.example/g01332/laws.FnOrdersTurn" = some 3 by kernel_rfl).symm.trans hf) |>.symm
      obtain rfl : fn = Tryd.f3 := (Option.some.inj (Tryd.func3.symm.trans hfn)).symm
      exact ⟨by kernel_rfl, fun j t ht => by
        rw [Tryd.params3] at ht
        have hm : t ∈ [22, 22] := by simpa using Array.mem_of_getElem? ht
        have hall : ([22, 22].all fun u => !Tryd.prog.wantsStandIn u) = true := by kernel_rfl
        exact (show Tryd.prog.wantsStandIn t = false by simpa using List.all_eq_true.1 hall t hm)⟩)
    (by kernel_rfl)
end Go.Proofs.YtnlbhlomdcgpeaaDoor
