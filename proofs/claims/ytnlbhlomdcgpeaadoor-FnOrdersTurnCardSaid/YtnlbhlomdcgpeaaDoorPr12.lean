-- Printed by a program of this session (wip/tools/myprint.py) out of the translation. Not trusted: Lean checks it.
import Derived.Test.YtnlbhlomdcgpeaaDoorCut
import Derived.Test.YtnlbhlomdcgpeaaDoorPr0
import Derived.Test.YtnlbhlomdcgpeaaDoorPr1
import Derived.Test.YtnlbhlomdcgpeaaDoorPr2
import Derived.Test.YtnlbhlomdcgpeaaDoorPr4
import Derived.Test.YtnlbhlomdcgpeaaDoorPr5
import Derived.Test.YtnlbhlomdcgpeaaDoorPr7
import Derived.Test.YtnlbhlomdcgpeaaDoorPr8
import Derived.Test.YtnlbhlomdcgpeaaDoorPr9
import Derived.Test.YtnlbhlomdcgpeaaDoorPr10
import Derived.Test.YtnlbhlomdcgpeaaDoorPr11
import Derived.Test.YtnlbhlomdcgpeaaDoorPr12D
namespace Go.Proofs.YtnlbhlomdcgpeaaDoor.Pr
open Go.Proofs.YtnlbhlomdcgpeaaDoor.Hand
open Go.RowKit Go.Proofs.YtnlbhlomdcgpeaaDoorW.PrintWords Go.Proofs.YtnlbhlomdcgpeaaDoorW.PrintLast Go.Proofs.YtnlbhlomdcgpeaaDoorW.PrintMore
attribute [local go_sem] max2_int min2_int max_two min_two max_three min_three max_four min_four   -- for this text's walks alone
set_option linter.unusedVariables false
set_option linter.unusedSimpArgs false
def laws_FnOrdersTurn.T55 : Bool × List (List Nat × List Nat) := (true, [([], []), ([], []), ([0, 1], [0, 1]), ([], []), ([], []), ([3, 4], [3, 4]), ([2, 5], [2, 5]), ([], []), ([], []), ([7, 8], [7, 8]), ([9], [9]), ([10], [10]), ([10], [10]), ([11, 12, 10], [10, 11, 12]), ([10, 13], [10, 13]), ([6, 14], [6, 14])])
def laws_FnOrdersTurn.B55 : List Nat := [0, 0, 3, 0, 0, 24, 63, 0, 0, 384, 896, 1920, 1920, 8064, 16256, 32767]
theorem laws_FnOrdersTurn.tab55 : rtab .any (opsOf Tryd.f3 55) = laws_FnOrdersTurn.T55 := by kernel_rfl
theorem laws_FnOrdersTurn.bits55 : waitsOk laws_FnOrdersTurn.T55.2 laws_FnOrdersTurn.B55 = true := by kernel_rfl
def laws_FnOrdersTurn.T61 : Bool × List (List Nat × List Nat) := (true, [([], []), ([], []), ([0, 1], [0, 1]), ([], []), ([], []), ([3, 4], [3, 4]), ([2, 5], [2, 5]), ([], []), ([], []), ([7, 8], [7, 8]), ([6, 9], [6, 9])])
def laws_FnOrdersTurn.B61 : List Nat := [0, 0, 3, 0, 0, 24, 63, 0, 0, 384, 1023]
theorem laws_FnOrdersTurn.tab61 : rtab .any (opsOf Tryd.f3 61) = laws_FnOrdersTurn.T61 := by kernel_rfl
theorem laws_FnOrdersTurn.bits61 : waitsOk laws_FnOrdersTurn.T61.2 laws_FnOrdersTurn.B61 = true := by kernel_rfl
def laws_FnOrdersTurn.T67 : Bool × List (List Nat × List Nat) := (true, [([], []), ([], []), ([0, 1], [0, 1]), ([], []), ([], []), ([3, 4], [3, 4]), ([2, 5], [2, 5]), ([], []), ([], []), ([8], [8]), ([7, 9], [7, 9]), ([10], [10]), ([11], [11]), ([11], [11]), ([13, 11], [11, 13]), ([12, 14, 11], [11, 12, 14]), ([11, 15], [11, 15]), ([6, 16], [6, 16])])
def laws_FnOrdersTurn.B67 : List Nat := [0, 0, 3, 0, 0, 24, 63, 0, 0, 256, 896, 1920, 3968, 3968, 12160, 32640, 65408, 131071]
theorem laws_FnOrdersTurn.tab67 : rtab .any (opsOf Tryd.f3 67) = laws_FnOrdersTurn.T67 := by kernel_rfl
theorem laws_FnOrdersTurn.bits67 : waitsOk laws_FnOrdersTurn.T67.2 laws_FnOrdersTurn.B67 = true := by kernel_rfl
def laws_FnOrdersTurn.T74 : Bool × List (List Nat × List Nat) := (true, [([], []), ([], []), ([1], [1]), ([2], [2]), ([], []), ([4], [4]), ([5], [5]), ([0, 3, 6], [0, 3, 6]), ([7], [7]), ([8], [8]), ([8], [8]), ([9, 7, 0, 1, 2, 3, 4, 5, 6, 7, 8, 9], [9]), ([10, 11, 0, 1, 2, 3, 4, 5, 6, 7, 8, 9, 10, 11], [10])])
def laws_FnOrdersTurn.B74 : List Nat := [0, 0, 2, 6, 0, 16, 48, 127, 255, 511, 511, 1023, 4095]
theorem laws_FnOrdersTurn.tab74 : rtab .any (opsOf Tryd.f3 74) = laws_FnOrdersTurn.T74 := by kernel_rfl
theorem laws_FnOrdersTurn.bits74 : waitsOk laws_FnOrdersTurn.T74.2 laws_FnOrdersTurn.B74 = true := by kernel_rfl
set_option maxHeartbeats 8000000 in
set_option maxRecDepth 100000 in
theorem laws_FnOrdersTurn.calls (k : Nat) (A0 : Option Addr) (c0 : Nat) (l0 : List Int) (A1 : Option Addr) (c1 : Nat) (l1 : List Int) (w : World) (hr0 : Kd.C (Kd.int .u8) w A0 l0.length l0) (hc0 : l0.length ≤ c0) (hr1 : Kd.C (Kd.int .u8) w A1 l1.length l1) (hc1 : l1.length ≤ c1) (hSh : Shd w) (h : laws_FnOrdersTurn.f k l0 l1 = some true) :
    Calls Tryd.prog 3 #[.slice A0 l0.length c0, .slice A1 l1.length c1] w fun e w' => e = .returned (.bool true) ∧ Below w.heap.size w w' := by
 have HR0 := Aside0.mk hr0
 have HC0 := Aside0.mk hc0
 clear hr0 hc0
 have HR1 := Aside0.mk hr1
 have HC1 := Aside0.mk hc1
 clear hr1 hc1
 have HSh := Aside0.mk hSh
 clear hSh
 have HB := Aside0.mk (Below.refl w.heap.size w)
 have H : ((laws_big.f l0 l1).bind fun t408 => (if t408 = true then (some true) else ((spec_DrawRunsTo.f k l0).bind fun bt409 => ((impl_RunsTo.f k bt409.1 bt409.2).bind fun bt411 => ((spec_RunsTo.f k bt409.1 bt409.2).bind fun bt415 => ((impl_FewestRuns.f k bt409.1 bt409.2).bind fun bt419 => ((spec_FewestRuns.f k bt409.1 bt409.2).bind fun bt421 => ((impl_FirstsTo.f k bt409.1 bt409.2).bind fun bt423 => ((spec_FirstsTo.f k bt409.1 bt409.2).bind fun bt427 => ((impl_FewestFirst.f k bt409.1 bt409.2).bind fun bt431 => ((spec_FewestFirst.f k bt409.1 bt409.2).bind fun bt433 => (if (bt411.2 != bt415.2) = true then (some false) else ((laws_mRows.f k bt411.1 bt415.1).bind fun t435 => (if t435 = true then (if (bt419.2 != bt421.2) = true then (some false) else (if bt419.1 = bt421.1 then (if (bt423.2 != bt427.2) = true then (some false) else ((laws_mSame.f k bt423.1 bt427.1).bind fun t436 => (if t436 = true then (if (bt431.2 != bt433.2) = true then (some false) else (if bt431.1 = bt433.1 then (if (bt419.2 != bt411.2) = true then (some false) else (if (bt423.2 != bt411.2) = true then (some false) else (if (bt431.2 != bt411.2) = true then (some false) else (if bt411.2 = true then ((impl_PlayRuns.f k bt409.1 bt411.1).bind fun bt437 => ((impl_MostRuns.f (bt409.1.size : Int)).bind fun bt439 => (if bt437.2 = true then (if bt437.1.toList = bt409.2.toList then (if (bt411.1.length : Int) = bt419.1 then (if bt439.2 = true then (if bt419.1 > bt439.1 then (some false) else (if (bt423.1.length : Int) = bt431.1 then ((laws_mRises.f k bt423.1).bind fun t441 => (if t441 = true then (if bt431.1 < bt419.1 then (some false) else (if bt431.1 > (wrap64 (2 * bt419.1)) then (some false) else (laws_FnOrdersTurn.l0 k l1 bt409.1 bt409.2 bt419.1 bt409.1 bt423.1 (bt423.1.length : Int) 0))) else (some false))) else (some false))) else (some false)) else (some false)) else (some false)) else (some false)))) else (laws_FnOrdersTurn.j1 k l1))))) else (some false))) else (some false)))) else (some false))) else (some false))))))))))))))) = some true := h
 clear h
 replace H := Option.bind_eq_some_iff.mp H
 obtain ⟨t408, A30, H⟩ := H
 replace H : (if t408 = true then (some true) else ((spec_DrawRunsTo.f k l0).bind fun bt409 => ((impl_RunsTo.f k bt409.1 bt409.2).bind fun bt411 => ((spec_RunsTo.f k bt409.1 bt409.2).bind fun bt415 => ((impl_FewestRuns.f k bt409.1 bt409.2).bind fun bt419 => ((spec_FewestRuns.f k bt409.1 bt409.2).bind fun bt421 => ((impl_FirstsTo.f k bt409.1 bt409.2).bind fun bt423 => ((spec_FirstsTo.f k bt409.1 bt409.2).bind fun bt427 => ((impl_FewestFirst.f k bt409.1 bt409.2).bind fun bt431 => ((spec_FewestFirst.f k bt409.1 bt409.2).bind fun bt433 => (if (bt411.2 != bt415.2) = true then (some false) else ((laws_mRows.f k bt411.1 bt415.1).bind fun t435 => (if t435 = true then (if (bt419.2 != bt421.2) = true then (some false) else (if bt419.1 = bt421.1 then (if (bt423.2 != bt427.2) = true then (some false) else ((laws_mSame.f k bt423.1 bt427.1).bind fun t436 => (if t436 = true then (if (bt431.2 != bt433.2) = true then (some false) else (if bt431.1 = bt433.1 then (if (bt419.2 != bt411.2) = true then (some false) else (if (bt423.2 != bt411.2) = true then (some false) else (if (bt431.2 != bt411.2) = true then (some false) else (if bt411.2 = true then ((impl_PlayRuns.f k bt409.1 bt411.1).bind fun bt437 => ((impl_MostRuns.f (bt409.1.size : Int)).bind fun bt439 => (if bt437.2 = true then (if bt437.1.toList = bt409.2.toList then (if (bt411.1.length : Int) = bt419.1 then (if bt439.2 = true then (if bt419.1 > bt439.1 then (some false) else (if (bt423.1.length : Int) = bt431.1 then ((laws_mRises.f k bt423.1).bind fun t441 => (if t441 = true then (if bt431.1 < bt419.1 then (some false) else (if bt431.1 > (wrap64 (2 * bt419.1)) then (some false) else (laws_FnOrdersTurn.l0 k l1 bt409.1 bt409.2 bt419.1 bt409.1 bt423.1 (bt423.1.length : Int) 0))) else (some false))) else (some false))) else (some false)) else (some false)) else (some false)) else (some false)))) else (laws_FnOrdersTurn.j1 k l1))))) else (some false))) else (some false)))) else (some false))) else (some false)))))))))))))) = some true := H
 have A3 := Aside0.mk A30
 clear A30
 by_cases c4 : t408 = true
 ·subst c4
  have H1 : (some true) = some true := by rfl
  clear H
  have H := H1
  clear H1
  have HR_ := Aside0.mk (Option.some.inj H)
  clear H
  go_enter Tryd.func3, Tryd.ntmps3
  go_wp2_with (first | ((with_reducible refine gate_callee (f := 4) rfl ?_); refine goesL_ (some 74) rfl rfl Tryd.func4 (by kernel_rfl) rfl #[.slice A0 l0.length c0, .slice A1 l1.length c1] rfl (by (try simp only [List.map_toArray, List.map_cons, List.map_nil]); first | done | rfl | (simp only [List.length_drop, List.length_take]; rfl)) ?_; (with_reducible refine (laws_big.calls _ _ l0 _ _ l1 true _ ?side1 ?side2 ?side3 ?side4 A3.out).mono ?_); (case side1 => repeat (first | exact HR0.out | (with_reducible refine Kd.C_alloc ?_ _) | (with_reducible refine Kd.C_drewN ?_ _) | (with_reducible refine Kd.C_drew ?_))); (case side2 => exact HC0.out); (case side3 => repeat (first | exact HR1.out | (with_reducible refine Kd.C_alloc ?_ _) | (with_reducible refine Kd.C_drewN ?_ _) | (with_reducible refine Kd.C_drew ?_))); (case side4 => exact HC1.out); rintro e w' ⟨rfl, ⟨nd, rfl⟩⟩; refine ⟨_, rfl, ?_⟩))
  go_ret
  exact ⟨by first | rfl | (simp [errW_none, errW_some] <;> rfl) | (rw [HR_.out]; done) | (simp [HR_.out]; done) | (simp [*, errW_none, errW_some] <;> rfl), by repeat (first | (with_reducible first | exact HB.out | apply below_alloc | apply pw_below_drewN | apply below_drew1) | exact HB.out)⟩
 ·replace c4 := Bool.eq_false_iff.mpr c4
  subst c4
  have H1 : ((spec_DrawRunsTo.f k l0).bind fun bt409 => ((impl_RunsTo.f k bt409.1 bt409.2).bind fun bt411 => ((spec_RunsTo.f k bt409.1 bt409.2).bind fun bt415 => ((impl_FewestRuns.f k bt409.1 bt409.2).bind fun bt419 => ((spec_FewestRuns.f k bt409.1 bt409.2).bind fun bt421 => ((impl_FirstsTo.f k bt409.1 bt409.2).bind fun bt423 => ((spec_FirstsTo.f k bt409.1 bt409.2).bind fun bt427 => ((impl_FewestFirst.f k bt409.1 bt409.2).bind fun bt431 => ((spec_FewestFirst.f k bt409.1 bt409.2).bind fun bt433 => (if (bt411.2 != bt415.2) = true then (some false) else ((laws_mRows.f k bt411.1 bt415.1).bind fun t435 => (if t435 = true then (if (bt419.2 != bt421.2) = true then (some false) else (if bt419.1 = bt421.1 then (if (bt423.2 != bt427.2) = true then (some false) else ((laws_mSame.f k bt423.1 bt427.1).bind fun t436 => (if t436 = true then (if (bt431.2 != bt433.2) = true then (some false) else (if bt431.1 = bt433.1 then (if (bt419.2 != bt411.2) = true then (some false) else (if (bt423.2 != bt411.2) = true then (some false) else (if (bt431.2 != bt411.2) = true then (some false) else (if bt411.2 = true then ((impl_PlayRuns.f k bt409.1 bt411.1).bind fun bt437 => ((impl_MostRuns.f (bt409.1.size : Int)).bind fun bt439 => (if bt437.2 = true then (if bt437.1.toList = bt409.2.toList then (if (bt411.1.length : Int) = bt419.1 then (if bt439.2 = true then (if bt419.1 > bt439.1 then (some false) else (if (bt423.1.length : Int) = bt431.1 then ((laws_mRises.f k bt423.1).bind fun t441 => (if t441 = true then (if bt431.1 < bt419.1 then (some false) else (if bt431.1 > (wrap64 (2 * bt419.1)) then (some false) else (laws_FnOrdersTurn.l0 k l1 bt409.1 bt409.2 bt419.1 bt409.1 bt423.1 (bt423.1.length : Int) 0))) else (some false))) else (some false))) else (some false)) else (some false)) else (some false)) else (some false)))) else (laws_FnOrdersTurn.j1 k l1))))) else (some false))) else (some false)))) else (some false))) else (some false))))))))))))) = some true := by rw [if_neg (show ¬ (false = true) by decide)] at H; exact H
  clear H
  have H := H1
  clear H1
  replace H := Option.bind_eq_some_iff.mp H
  obtain ⟨⟨t409, t410⟩, A50, H⟩ := H
  replace H : ((impl_RunsTo.f k t409 t410).bind fun bt411 => ((spec_RunsTo.f k t409 t410).bind fun bt415 => ((impl_FewestRuns.f k t409 t410).bind fun bt419 => ((spec_FewestRuns.f k t409 t410).bind fun bt421 => ((impl_FirstsTo.f k t409 t410).bind fun bt423 => ((spec_FirstsTo.f k t409 t410).bind fun bt427 => ((impl_FewestFirst.f k t409 t410).bind fun bt431 => ((spec_FewestFirst.f k t409 t410).bind fun bt433 => (if (bt411.2 != bt415.2) = true then (some false) else ((laws_mRows.f k bt411.1 bt415.1).bind fun t435 => (if t435 = true then (if (bt419.2 != bt421.2) = true then (some false) else (if bt419.1 = bt421.1 then (if (bt423.2 != bt427.2) = true then (some false) else ((laws_mSame.f k bt423.1 bt427.1).bind fun t436 => (if t436 = true then (if (bt431.2 != bt433.2) = true then (some false) else (if bt431.1 = bt433.1 then (if (bt419.2 != bt411.2) = true then (some false) else (if (bt423.2 != bt411.2) = true then (some false) else (if (bt431.2 != bt411.2) = true then (some false) else (if bt411.2 = true then ((impl_PlayRuns.f k t409 bt411.1).bind fun bt437 => ((impl_MostRuns.f (t409.size : Int)).bind fun bt439 => (if bt437.2 = true then (if bt437.1.toList = t410.toList then (if (bt411.1.length : Int) = bt419.1 then (if bt439.2 = true then (if bt419.1 > bt439.1 then (some false) else (if (bt423.1.length : Int) = bt431.1 then ((laws_mRises.f k bt423.1).bind fun t441 => (if t441 = true then (if bt431.1 < bt419.1 then (some false) else (if bt431.1 > (wrap64 (2 * bt419.1)) then (some false) else (laws_FnOrdersTurn.l0 k l1 t409 t410 bt419.1 t409 bt423.1 (bt423.1.length : Int) 0))) else (some false))) else (some false))) else (some false)) else (some false)) else (some false)) else (some false)))) else (laws_FnOrdersTurn.j1 k l1))))) else (some false))) else (some false)))) else (some false))) else (some false)))))))))))) = some true := H
  have A5 := Aside0.mk A50
  clear A50
  replace H := Option.bind_eq_some_iff.mp H
  obtain ⟨⟨t411, t412⟩, A60, H⟩ := H
  replace H : ((spec_RunsTo.f k t409 t410).bind fun bt415 => ((impl_FewestRuns.f k t409 t410).bind fun bt419 => ((spec_FewestRuns.f k t409 t410).bind fun bt421 => ((impl_FirstsTo.f k t409 t410).bind fun bt423 => ((spec_FirstsTo.f k t409 t410).bind fun bt427 => ((impl_FewestFirst.f k t409 t410).bind fun bt431 => ((spec_FewestFirst.f k t409 t410).bind fun bt433 => (if (t412 != bt415.2) = true then (some false) else ((laws_mRows.f k t411 bt415.1).bind fun t435 => (if t435 = true then (if (bt419.2 != bt421.2) = true then (some false) else (if bt419.1 = bt421.1 then (if (bt423.2 != bt427.2) = true then (some false) else ((laws_mSame.f k bt423.1 bt427.1).bind fun t436 => (if t436 = true then (if (bt431.2 != bt433.2) = true then (some false) else (if bt431.1 = bt433.1 then (if (bt419.2 != t412) = true then (some false) else (if (bt423.2 != t412) = true then (some false) else (if (bt431.2 != t412) = true then (some false) else (if t412 = true then ((impl_PlayRuns.f k t409 t411).bind fun bt437 => ((impl_MostRuns.f (t409.size : Int)).bind fun bt439 => (if bt437.2 = true then (if bt437.1.toList = t410.toList then (if (t411.length : Int) = bt419.1 then (if bt439.2 = true then (if bt419.1 > bt439.1 then (some false) else (if (bt423.1.length : Int) = bt431.1 then ((laws_mRises.f k bt423.1).bind fun t441 => (if t441 = true then (if bt431.1 < bt419.1 then (some false) else (if bt431.1 > (wrap64 (2 * bt419.1)) then (some false) else (laws_FnOrdersTurn.l0 k l1 t409 t410 bt419.1 t409 bt423.1 (bt423.1.length : Int) 0))) else (some false))) else (some false))) else (some false)) else (some false)) else (some false)) else (some false)))) else (laws_FnOrdersTurn.j1 k l1))))) else (some false))) else (some false)))) else (some false))) else (some false))))))))))) = some true := H
  have A6 := Aside0.mk A60
  clear A60
  replace H := Option.bind_eq_some_iff.mp H
  obtain ⟨⟨t415, t416⟩, A70, H⟩ := H
  replace H : ((impl_FewestRuns.f k t409 t410).bind fun bt419 => ((spec_FewestRuns.f k t409 t410).bind fun bt421 => ((impl_FirstsTo.f k t409 t410).bind fun bt423 => ((spec_FirstsTo.f k t409 t410).bind fun bt427 => ((impl_FewestFirst.f k t409 t410).bind fun bt431 => ((spec_FewestFirst.f k t409 t410).bind fun bt433 => (if (t412 != t416) = true then (some false) else ((laws_mRows.f k t411 t415).bind fun t435 => (if t435 = true then (if (bt419.2 != bt421.2) = true then (some false) else (if bt419.1 = bt421.1 then (if (bt423.2 != bt427.2) = true then (some false) else ((laws_mSame.f k bt423.1 bt427.1).bind fun t436 => (if t436 = true then (if (bt431.2 != bt433.2) = true then (some false) else (if bt431.1 = bt433.1 then (if (bt419.2 != t412) = true then (some false) else (if (bt423.2 != t412) = true then (some false) else (if (bt431.2 != t412) = true then (some false) else (if t412 = true then ((impl_PlayRuns.f k t409 t411).bind fun bt437 => ((impl_MostRuns.f (t409.size : Int)).bind fun bt439 => (if bt437.2 = true then (if bt437.1.toList = t410.toList then (if (t411.length : Int) = bt419.1 then (if bt439.2 = true then (if bt419.1 > bt439.1 then (some false) else (if (bt423.1.length : Int) = bt431.1 then ((laws_mRises.f k bt423.1).bind fun t441 => (if t441 = true then (if bt431.1 < bt419.1 then (some false) else (if bt431.1 > (wrap64 (2 * bt419.1)) then (some false) else (laws_FnOrdersTurn.l0 k l1 t409 t410 bt419.1 t409 bt423.1 (bt423.1.length : Int) 0))) else (some false))) else (some false))) else (some false)) else (some false)) else (some false)) else (some false)))) else (laws_FnOrdersTurn.j1 k l1))))) else (some false))) else (some false)))) else (some false))) else (some false)))))))))) = some true := H
  have A7 := Aside0.mk A70
  clear A70
  replace H := Option.bind_eq_some_iff.mp H
  obtain ⟨⟨t419, t420⟩, A80, H⟩ := H
  replace H : ((spec_FewestRuns.f k t409 t410).bind fun bt421 => ((impl_FirstsTo.f k t409 t410).bind fun bt423 => ((spec_FirstsTo.f k t409 t410).bind fun bt427 => ((impl_FewestFirst.f k t409 t410).bind fun bt431 => ((spec_FewestFirst.f k t409 t410).bind fun bt433 => (if (t412 != t416) = true then (some false) else ((laws_mRows.f k t411 t415).bind fun t435 => (if t435 = true then (if (t420 != bt421.2) = true then (some false) else (if t419 = bt421.1 then (if (bt423.2 != bt427.2) = true then (some false) else ((laws_mSame.f k bt423.1 bt427.1).bind fun t436 => (if t436 = true then (if (bt431.2 != bt433.2) = true then (some false) else (if bt431.1 = bt433.1 then (if (t420 != t412) = true then (some false) else (if (bt423.2 != t412) = true then (some false) else (if (bt431.2 != t412) = true then (some false) else (if t412 = true then ((impl_PlayRuns.f k t409 t411).bind fun bt437 => ((impl_MostRuns.f (t409.size : Int)).bind fun bt439 => (if bt437.2 = true then (if bt437.1.toList = t410.toList then (if (t411.length : Int) = t419 then (if bt439.2 = true then (if t419 > bt439.1 then (some false) else (if (bt423.1.length : Int) = bt431.1 then ((laws_mRises.f k bt423.1).bind fun t441 => (if t441 = true then (if bt431.1 < t419 then (some false) else (if bt431.1 > (wrap64 (2 * t419)) then (some false) else (laws_FnOrdersTurn.l0 k l1 t409 t410 t419 t409 bt423.1 (bt423.1.length : Int) 0))) else (some false))) else (some false))) else (some false)) else (some false)) else (some false)) else (some false)))) else (laws_FnOrdersTurn.j1 k l1))))) else (some false))) else (some false)))) else (some false))) else (some false))))))))) = some true := H
  have A8 := Aside0.mk A80
  clear A80
  replace H := Option.bind_eq_some_iff.mp H
  obtain ⟨⟨t421, t422⟩, A90, H⟩ := H
  replace H : ((impl_FirstsTo.f k t409 t410).bind fun bt423 => ((spec_FirstsTo.f k t409 t410).bind fun bt427 => ((impl_FewestFirst.f k t409 t410).bind fun bt431 => ((spec_FewestFirst.f k t409 t410).bind fun bt433 => (if (t412 != t416) = true then (some false) else ((laws_mRows.f k t411 t415).bind fun t435 => (if t435 = true then (if (t420 != t422) = true then (some false) else (if t419 = t421 then (if (bt423.2 != bt427.2) = true then (some false) else ((laws_mSame.f k bt423.1 bt427.1).bind fun t436 => (if t436 = true then (if (bt431.2 != bt433.2) = true then (some false) else (if bt431.1 = bt433.1 then (if (t420 != t412) = true then (some false) else (if (bt423.2 != t412) = true then (some false) else (if (bt431.2 != t412) = true then (some false) else (if t412 = true then ((impl_PlayRuns.f k t409 t411).bind fun bt437 => ((impl_MostRuns.f (t409.size : Int)).bind fun bt439 => (if bt437.2 = true then (if bt437.1.toList = t410.toList then (if (t411.length : Int) = t419 then (if bt439.2 = true then (if t419 > bt439.1 then (some false) else (if (bt423.1.length : Int) = bt431.1 then ((laws_mRises.f k bt423.1).bind fun t441 => (if t441 = true then (if bt431.1 < t419 then (some false) else (if bt431.1 > (wrap64 (2 * t419)) then (some false) else (laws_FnOrdersTurn.l0 k l1 t409 t410 t419 t409 bt423.1 (bt423.1.length : Int) 0))) else (some false))) else (some false))) else (some false)) else (some false)) else (some false)) else (some false)))) else (laws_FnOrdersTurn.j1 k l1))))) else (some false))) else (some false)))) else (some false))) else (some false)))))))) = some true := H
  have A9 := Aside0.mk A90
  clear A90
  replace H := Option.bind_eq_some_iff.mp H
  obtain ⟨⟨t423, t424⟩, A100, H⟩ := H
  replace H : ((spec_FirstsTo.f k t409 t410).bind fun bt427 => ((impl_FewestFirst.f k t409 t410).bind fun bt431 => ((spec_FewestFirst.f k t409 t410).bind fun bt433 => (if (t412 != t416) = true then (some false) else ((laws_mRows.f k t411 t415).bind fun t435 => (if t435 = true then (if (t420 != t422) = true then (some false) else (if t419 = t421 then (if (t424 != bt427.2) = true then (some false) else ((laws_mSame.f k t423 bt427.1).bind fun t436 => (if t436 = true then (if (bt431.2 != bt433.2) = true then (some false) else (if bt431.1 = bt433.1 then (if (t420 != t412) = true then (some false) else (if (t424 != t412) = true then (some false) else (if (bt431.2 != t412) = true then (some false) else (if t412 = true then ((impl_PlayRuns.f k t409 t411).bind fun bt437 => ((impl_MostRuns.f (t409.size : Int)).bind fun bt439 => (if bt437.2 = true then (if bt437.1.toList = t410.toList then (if (t411.length : Int) = t419 then (if bt439.2 = true then (if t419 > bt439.1 then (some false) else (if (t423.length : Int) = bt431.1 then ((laws_mRises.f k t423).bind fun t441 => (if t441 = true then (if bt431.1 < t419 then (some false) else (if bt431.1 > (wrap64 (2 * t419)) then (some false) else (laws_FnOrdersTurn.l0 k l1 t409 t410 t419 t409 t423 (t423.length : Int) 0))) else (some false))) else (some false))) else (some false)) else (some false)) else (some false)) else (some false)))) else (laws_FnOrdersTurn.j1 k l1))))) else (some false))) else (some false)))) else (some false))) else (some false))))))) = some true := H
  have A10 := Aside0.mk A100
  clear A100
  replace H := Option.bind_eq_some_iff.mp H
  obtain ⟨⟨t427, t428⟩, A110, H⟩ := H
  replace H : ((impl_FewestFirst.f k t409 t410).bind fun bt431 => ((spec_FewestFirst.f k t409 t410).bind fun bt433 => (if (t412 != t416) = true then (some false) else ((laws_mRows.f k t411 t415).bind fun t435 => (if t435 = true then (if (t420 != t422) = true then (some false) else (if t419 = t421 then (if (t424 != t428) = true then (some false) else ((laws_mSame.f k t423 t427).bind fun t436 => (if t436 = true then (if (bt431.2 != bt433.2) = true then (some false) else (if bt431.1 = bt433.1 then (if (t420 != t412) = true then (some false) else (if (t424 != t412) = true then (some false) else (if (bt431.2 != t412) = true then (some false) else (if t412 = true then ((impl_PlayRuns.f k t409 t411).bind fun bt437 => ((impl_MostRuns.f (t409.size : Int)).bind fun bt439 => (if bt437.2 = true then (if bt437.1.toList = t410.toList then (if (t411.length : Int) = t419 then (if bt439.2 = true then (if t419 > bt439.1 then (some false) else (if (t423.length : Int) = bt431.1 then ((laws_mRises.f k t423).bind fun t441 => (if t441 = true then (if bt431.1 < t419 then (some false) else (if bt431.1 > (wrap64 (2 * t419)) then (some false) else (laws_FnOrdersTurn.l0 k l1 t409 t410 t419 t409 t423 (t423.length : Int) 0))) else (some false))) else (some false))) else (some false)) else (some false)) else (some false)) else (some false)))) else (laws_FnOrdersTurn.j1 k l1))))) else (some false))) else (some false)))) else (some false))) else (some false)))))) = some true := H
  have A11 := Aside0.mk A110
  clear A110
  replace H := Option.bind_eq_some_iff.mp H
  obtain ⟨⟨t431, t432⟩, A120, H⟩ := H
  replace H : ((spec_FewestFirst.f k t409 t410).bind fun bt433 => (if (t412 != t416) = true then (some false) else ((laws_mRows.f k t411 t415).bind fun t435 => (if t435 = true then (if (t420 != t422) = true then (some false) else (if t419 = t421 then (if (t424 != t428) = true then (some false) else ((laws_mSame.f k t423 t427).bind fun t436 => (if t436 = true then (if (t432 != bt433.2) = true then (some false) else (if t431 = bt433.1 then (if (t420 != t412) = true then (some false) else (if (t424 != t412) = true then (some false) else (if (t432 != t412) = true then (some false) else (if t412 = true then ((impl_PlayRuns.f k t409 t411).bind fun bt437 => ((impl_MostRuns.f (t409.size : Int)).bind fun bt439 => (if bt437.2 = true then (if bt437.1.toList = t410.toList then (if (t411.length : Int) = t419 then (if bt439.2 = true then (if t419 > bt439.1 then (some false) else (if (t423.length : Int) = t431 then ((laws_mRises.f k t423).bind fun t441 => (if t441 = true then (if t431 < t419 then (some false) else (if t431 > (wrap64 (2 * t419)) then (some false) else (laws_FnOrdersTurn.l0 k l1 t409 t410 t419 t409 t423 (t423.length : Int) 0))) else (some false))) else (some false))) else (some false)) else (some false)) else (some false)) else (some false)))) else (laws_FnOrdersTurn.j1 k l1))))) else (some false))) else (some false)))) else (some false))) else (some false))))) = some true := H
  have A12 := Aside0.mk A120
  clear A120
  replace H := Option.bind_eq_some_iff.mp H
  obtain ⟨⟨t433, t434⟩, A130, H⟩ := H
  replace H : (if (t412 != t416) = true then (some false) else ((laws_mRows.f k t411 t415).bind fun t435 => (if t435 = true then (if (t420 != t422) = true then (some false) else (if t419 = t421 then (if (t424 != t428) = true then (some false) else ((laws_mSame.f k t423 t427).bind fun t436 => (if t436 = true then (if (t432 != t434) = true then (some false) else (if t431 = t433 then (if (t420 != t412) = true then (some false) else (if (t424 != t412) = true then (some false) else (if (t432 != t412) = true then (some false) else (if t412 = true then ((impl_PlayRuns.f k t409 t411).bind fun bt437 => ((impl_MostRuns.f (t409.size : Int)).bind fun bt439 => (if bt437.2 = true then (if bt437.1.toList = t410.toList then (if (t411.length : Int) = t419 then (if bt439.2 = true then (if t419 > bt439.1 then (some false) else (if (t423.length : Int) = t431 then ((laws_mRises.f k t423).bind fun t441 => (if t441 = true then (if t431 < t419 then (some false) else (if t431 > (wrap64 (2 * t419)) then (some false) else (laws_FnOrdersTurn.l0 k l1 t409 t410 t419 t409 t423 (t423.length : Int) 0))) else (some false))) else (some false))) else (some false)) else (some false)) else (some false)) else (some false)))) else (laws_FnOrdersTurn.j1 k l1))))) else (some false))) else (some false)))) else (some false))) else (some false)))) = some true := H
  have A13 := Aside0.mk A130
  clear A130
  by_cases c14 : (t412 != t416) = true
  ·rw [if_pos c14] at H; exact absurd H (by simp)
  rw [if_neg c14] at H
  have c14b0 : (t412 != t416) = false := by simpa using c14
  (try (have c14b1 : decide (t412 = t416) = true := by simpa using c14))
  (try (have c14b2 : (t412 == t416) = true := by simpa using c14))
  clear c14
  replace H := Option.bind_eq_some_iff.mp H
  obtain ⟨t435, A150, H⟩ := H
  replace H : (if t435 = true then (if (t420 != t422) = true then (some false) else (if t419 = t421 then (if (t424 != t428) = true then (some false) else ((laws_mSame.f k t423 t427).bind fun t436 => (if t436 = true then (if (t432 != t434) = true then (some false) else (if t431 = t433 then (if (t420 != t412) = true then (some false) else (if (t424 != t412) = true then (some false) else (if (t432 != t412) = true then (some false) else (if t412 = true then ((impl_PlayRuns.f k t409 t411).bind fun bt437 => ((impl_MostRuns.f (t409.size : Int)).bind fun bt439 => (if bt437.2 = true then (if bt437.1.toList = t410.toList then (if (t411.length : Int) = t419 then (if bt439.2 = true then (if t419 > bt439.1 then (some false) else (if (t423.length : Int) = t431 then ((laws_mRises.f k t423).bind fun t441 => (if t441 = true then (if t431 < t419 then (some false) else (if t431 > (wrap64 (2 * t419)) then (some false) else (laws_FnOrdersTurn.l0 k l1 t409 t410 t419 t409 t423 (t423.length : Int) 0))) else (some false))) else (some false))) else (some false)) else (some false)) else (some false)) else (some false)))) else (laws_FnOrdersTurn.j1 k l1))))) else (some false))) else (some false)))) else (some false))) else (some false)) = some true := H
  have A15 := Aside0.mk A150
  clear A150
  by_cases c16 : t435 = true
  rotate_left
  ·rw [if_neg c16] at H; exact absurd H (by simp)
  subst c16
  have H1 : (if (t420 != t422) = true then (some false) else (if t419 = t421 then (if (t424 != t428) = true then (some false) else ((laws_mSame.f k t423 t427).bind fun t436 => (if t436 = true then (if (t432 != t434) = true then (some false) else (if t431 = t433 then (if (t420 != t412) = true then (some false) else (if (t424 != t412) = true then (some false) else (if (t432 != t412) = true then (some false) else (if t412 = true then ((impl_PlayRuns.f k t409 t411).bind fun bt437 => ((impl_MostRuns.f (t409.size : Int)).bind fun bt439 => (if bt437.2 = true then (if bt437.1.toList = t410.toList then (if (t411.length : Int) = t419 then (if bt439.2 = true then (if t419 > bt439.1 then (some false) else (if (t423.length : Int) = t431 then ((laws_mRises.f k t423).bind fun t441 => (if t441 = true then (if t431 < t419 then (some false) else (if t431 > (wrap64 (2 * t419)) then (some false) else (laws_FnOrdersTurn.l0 k l1 t409 t410 t419 t409 t423 (t423.length : Int) 0))) else (some false))) else (some false))) else (some false)) else (some false)) else (some false)) else (some false)))) else (laws_FnOrdersTurn.j1 k l1))))) else (some false))) else (some false)))) else (some false))) = some true := by rw [if_pos rfl] at H; exact H
  clear H
  have H := H1
  clear H1
  by_cases c17 : (t420 != t422) = true
  ·rw [if_pos c17] at H; exact absurd H (by simp)
  rw [if_neg c17] at H
  have c17b0 : (t420 != t422) = false := by simpa using c17
  (try (have c17b1 : decide (t420 = t422) = true := by simpa using c17))
  (try (have c17b2 : (t420 == t422) = true := by simpa using c17))
  clear c17
  by_cases c18 : t419 = t421
  rotate_left
  ·rw [if_neg c18] at H; exact absurd H (by simp)
  rw [if_pos c18] at H
  have c18b0 : (t419 == t421) = true := beq_iff_eq.mpr c18
  have c18b1 : (t419 != t421) = false := bne_eq_false_iff_eq.mpr c18
  clear c18
  by_cases c19 : (t424 != t428) = true
  ·rw [if_pos c19] at H; exact absurd H (by simp)
  rw [if_neg c19] at H
  have c19b0 : (t424 != t428) = false := by simpa using c19
  (try (have c19b1 : decide (t424 = t428) = true := by simpa using c19))
  (try (have c19b2 : (t424 == t428) = true := by simpa using c19))
  clear c19
  replace H := Option.bind_eq_some_iff.mp H
  obtain ⟨t436, A200, H⟩ := H
  replace H : (if t436 = true then (if (t432 != t434) = true then (some false) else (if t431 = t433 then (if (t420 != t412) = true then (some false) else (if (t424 != t412) = true then (some false) else (if (t432 != t412) = true then (some false) else (if t412 = true then ((impl_PlayRuns.f k t409 t411).bind fun bt437 => ((impl_MostRuns.f (t409.size : Int)).bind fun bt439 => (if bt437.2 = true then (if bt437.1.toList = t410.toList then (if (t411.length : Int) = t419 then (if bt439.2 = true then (if t419 > bt439.1 then (some false) else (if (t423.length : Int) = t431 then ((laws_mRises.f k t423).bind fun t441 => (if t441 = true then (if t431 < t419 then (some false) else (if t431 > (wrap64 (2 * t419)) then (some false) else (laws_FnOrdersTurn.l0 k l1 t409 t410 t419 t409 t423 (t423.length : Int) 0))) else (some false))) else (some false))) else (some false)) else (some false)) else (some false)) else (some false)))) else (laws_FnOrdersTurn.j1 k l1))))) else (some false))) else (some false)) = some true := H
  have A20 := Aside0.mk A200
  clear A200
  by_cases c21 : t436 = true
  rotate_left
  ·rw [if_neg c21] at H; exact absurd H (by simp)
  subst c21
  have H1 : (if (t432 != t434) = true then (some false) else (if t431 = t433 then (if (t420 != t412) = true then (some false) else (if (t424 != t412) = true then (some false) else (if (t432 != t412) = true then (some false) else (if t412 = true then ((impl_PlayRuns.f k t409 t411).bind fun bt437 => ((impl_MostRuns.f (t409.size : Int)).bind fun bt439 => (if bt437.2 = true then (if bt437.1.toList = t410.toList then (if (t411.length : Int) = t419 then (if bt439.2 = true then (if t419 > bt439.1 then (some false) else (if (t423.length : Int) = t431 then ((laws_mRises.f k t423).bind fun t441 => (if t441 = true then (if t431 < t419 then (some false) else (if t431 > (wrap64 (2 * t419)) then (some false) else (laws_FnOrdersTurn.l0 k l1 t409 t410 t419 t409 t423 (t423.length : Int) 0))) else (some false))) else (some false))) else (some false)) else (some false)) else (some false)) else (some false)))) else (laws_FnOrdersTurn.j1 k l1))))) else (some false))) = some true := by rw [if_pos rfl] at H; exact H
  clear H
  have H := H1
  clear H1
  by_cases c22 : (t432 != t434) = true
  ·rw [if_pos c22] at H; exact absurd H (by simp)
  rw [if_neg c22] at H
  have c22b0 : (t432 != t434) = false := by simpa using c22
  (try (have c22b1 : decide (t432 = t434) = true := by simpa using c22))
  (try (have c22b2 : (t432 == t434) = true := by simpa using c22))
  clear c22
  by_cases c23 : t431 = t433
  rotate_left
  ·rw [if_neg c23] at H; exact absurd H (by simp)
  rw [if_pos c23] at H
  have c23b0 : (t431 == t433) = true := beq_iff_eq.mpr c23
  have c23b1 : (t431 != t433) = false := bne_eq_false_iff_eq.mpr c23
  clear c23
  by_cases c24 : (t420 != t412) = true
  ·rw [if_pos c24] at H; exact absurd H (by simp)
  rw [if_neg c24] at H
  have c24b0 : (t420 != t412) = false := by simpa using c24
  (try (have c24b1 : decide (t420 = t412) = true := by simpa using c24))
  (try (have c24b2 : (t420 == t412) = true := by simpa using c24))
  clear c24
  by_cases c25 : (t424 != t412) = true
  ·rw [if_pos c25] at H; exact absurd H (by simp)
  rw [if_neg c25] at H
  have c25b0 : (t424 != t412) = false := by simpa using c25
  (try (have c25b1 : decide (t424 = t412) = true := by simpa using c25))
  (try (have c25b2 : (t424 == t412) = true := by simpa using c25))
  clear c25
  by_cases c26 : (t432 != t412) = true
  ·rw [if_pos c26] at H; exact absurd H (by simp)
  rw [if_neg c26] at H
  have c26b0 : (t432 != t412) = false := by simpa using c26
  (try (have c26b1 : decide (t432 = t412) = true := by simpa using c26))
  (try (have c26b2 : (t432 == t412) = true := by simpa using c26))
  clear c26
  have HC27 := Aside0.mk H
  clear H
  go_enter Tryd.func3, Tryd.ntmps3
  go_upto_if 183 with (first | ((with_reducible refine gate_callee (f := 4) rfl ?_); refine goesL_ (some 74) rfl rfl Tryd.func4 (by kernel_rfl) rfl #[.slice A0 l0.length c0, .slice A1 l1.length c1] rfl (by (try simp only [List.map_toArray, List.map_cons, List.map_nil]); first | done | rfl | (simp only [List.length_drop, List.length_take]; rfl)) ?_; (with_reducible refine (laws_big.calls _ _ l0 _ _ l1 false _ ?side1 ?side2 ?side3 ?side4 A3.out).mono ?_); (case side1 => repeat (first | exact HR0.out | (with_reducible refine Kd.C_alloc ?_ _) | (with_reducible refine Kd.C_drewN ?_ _) | (with_reducible refine Kd.C_drew ?_))); (case side2 => exact HC0.out); (case side3 => repeat (first | exact HR1.out | (with_reducible refine Kd.C_alloc ?_ _) | (with_reducible refine Kd.C_drewN ?_ _) | (with_reducible refine Kd.C_drew ?_))); (case side4 => exact HC1.out); rintro e w' ⟨rfl, ⟨nd, rfl⟩⟩; refine ⟨_, rfl, ?_⟩) | ((with_reducible refine gate_callee (f := 5) rfl ?_); refine goesL_ (some 77) rfl rfl Tryd.func5 (by kernel_rfl) rfl #[.slice A0 l0.length c0] rfl (by (try simp only [List.map_toArray, List.map_cons, List.map_nil]); first | done | rfl | (simp only [List.length_drop, List.length_take]; rfl)) ?_; (with_reducible refine (spec_DrawRunsTo.calls k _ _ l0 t409 t410 _ ?side1 ?side2 A5.out).mono ?_); (case side1 => repeat (first | exact HR0.out | (with_reducible refine Kd.C_alloc ?_ _) | (with_reducible refine Kd.C_drewN ?_ _) | (with_reducible refine Kd.C_drew ?_))); (case side2 => exact HC0.out); rintro e w28 ⟨rfl, hb⟩; refine ⟨_, rfl, ?_⟩; have n0_ := Aside0.mk (below_step (by repeat (first | (with_reducible first | exact HB.out | apply below_alloc | apply pw_below_drewN | apply below_drew1) | exact HB.out)) hb); clear HB; have HB := n0_; clear n0_; (try clear hb); (try clear hb2); (try clear hk); (try clear hi)) | ((with_reducible refine gate_callee (f := 6) rfl ?_); refine goesL_ (some 83) rfl rfl Tryd.func6 (by kernel_rfl) rfl #[.string t409, .string t410] rfl (by (try simp only [List.map_toArray, List.map_cons, List.map_nil]); first | done | rfl | (simp only [List.length_drop, List.length_take]; rfl)) ?_; (with_reducible refine (impl_RunsTo.calls k t409 t410 t411 t412 _ A6.out).mono ?_); rintro e w29 ⟨v413, rfl, ho0, hb⟩; refine ⟨_, rfl, ?_⟩; have n0_ := Aside0.mk (Kd.N_lower (Kd.N_mono (ok' := fun k_ => True) (Kd.S_N (Kd.S_bound ho0)) (fun k_ hk_ => trivial)) (below_size (by repeat (first | (with_reducible first | exact HB.out | apply below_alloc | apply pw_below_drewN | apply below_drew1) | exact HB.out)))); have n1_ := Aside0.mk (below_step (by repeat (first | (with_reducible first | exact HB.out | apply below_alloc | apply pw_below_drewN | apply below_drew1) | exact HB.out)) hb); clear HB; have HO414 := n0_; have HB := n1_; clear n0_ n1_; (try clear hb); (try clear hb2); (try clear hk); (try clear hi); (try clear ho0)) | ((with_reducible refine gate_callee (f := 7) rfl ?_); refine goesL_ (some 89) rfl rfl Tryd.func7 (by kernel_rfl) rfl #[.string t409, .string t410] rfl (by (try simp only [List.map_toArray, List.map_cons, List.map_nil]); first | done | rfl | (simp only [List.length_drop, List.length_take]; rfl)) ?_; (with_reducible refine (spec_RunsTo.calls k t409 t410 t415 t416 _ A7.out).mono ?_); rintro e w30 ⟨v417, rfl, ho0, hb⟩; refine ⟨_, rfl, ?_⟩; have n0_ := Aside0.mk (Kd.N_elder' (by (with_reducible repeat (first | apply Kd.N_alloc | apply Kd.N_drewN | apply Kd.N_drew)); exact HO414.out) (by first | exact Kd.N_base ho0 | exact Kd.S_base ho0) hb); have n1_ := Aside0.mk (Kd.N_lower (Kd.N_mono (ok' := fun k_ => some k_ ≠ (v413 : Value).ownBlock) (Kd.S_N (Kd.S_bound ho0)) (fun k_ hk_ => (Kd.fresh' (Kd.N_lt (by (with_reducible repeat (first | apply Kd.N_alloc | apply Kd.N_drewN | apply Kd.N_drew)); exact HO414.out)) k_ hk_.2.1))) (below_size (by repeat (first | (with_reducible first | exact HB.out | apply below_alloc | apply pw_below_drewN | apply below_drew1) | exact HB.out)))); have n2_ := Aside0.mk (below_step (by repeat (first | (with_reducible first | exact HB.out | apply below_alloc | apply pw_below_drewN | apply below_drew1) | exact HB.out)) hb); clear HO414; clear HB; have HO414 := n0_; have HO418 := n1_; have HB := n2_; clear n0_ n1_ n2_; (try clear hb); (try clear hb2); (try clear hk); (try clear hi); (try clear ho0)) | ((with_reducible refine gate_callee (f := 8) rfl ?_); refine goesL_ (some 95) rfl rfl Tryd.func8 (by kernel_rfl) rfl #[.string t409, .string t410] rfl (by (try simp only [List.map_toArray, List.map_cons, List.map_nil]); first | done | rfl | (simp only [List.length_drop, List.length_take]; rfl)) ?_; (with_reducible refine (impl_FewestRuns.calls k t409 t410 t419 t420 _ A8.out).mono ?_); rintro e w31 ⟨rfl, hb⟩; refine ⟨_, rfl, ?_⟩; have n0_ := Aside0.mk (Kd.N_below (by (with_reducible repeat (first | apply Kd.N_alloc | apply Kd.N_drewN | apply Kd.N_drew)); exact HO414.out) hb); have n1_ := Aside0.mk (Kd.N_below (by (with_reducible repeat (first | apply Kd.N_alloc | apply Kd.N_drewN | apply Kd.N_drew)); exact HO418.out) hb); have n2_ := Aside0.mk (below_step (by repeat (first | (with_reducible first | exact HB.out | apply below_alloc | apply pw_below_drewN | apply below_drew1) | exact HB.out)) hb); clear HO414; clear HO418; clear HB; have HO414 := n0_; have HO418 := n1_; have HB := n2_; clear n0_ n1_ n2_; (try clear hb); (try clear hb2); (try clear hk); (try clear hi)) | ((with_reducible refine gate_callee (f := 9) rfl ?_); refine goesL_ (some 101) rfl rfl Tryd.func9 (by kernel_rfl) rfl #[.string t409, .string t410] rfl (by (try simp only [List.map_toArray, List.map_cons, List.map_nil]); first | done | rfl | (simp only [List.length_drop, List.length_take]; rfl)) ?_; (with_reducible refine (spec_FewestRuns.calls k t409 t410 t421 t422 _ A9.out).mono ?_); rintro e w32 ⟨rfl, hb⟩; refine ⟨_, rfl, ?_⟩; have n0_ := Aside0.mk (Kd.N_below (by (with_reducible repeat (first | apply Kd.N_alloc | apply Kd.N_drewN | apply Kd.N_drew)); exact HO414.out) hb); have n1_ := Aside0.mk (Kd.N_below (by (with_reducible repeat (first | apply Kd.N_alloc | apply Kd.N_drewN | apply Kd.N_drew)); exact HO418.out) hb); have n2_ := Aside0.mk (below_step (by repeat (first | (with_reducible first | exact HB.out | apply below_alloc | apply pw_below_drewN | apply below_drew1) | exact HB.out)) hb); clear HO414; clear HO418; clear HB; have HO414 := n0_; have HO418 := n1_; have HB := n2_; clear n0_ n1_ n2_; (try clear hb); (try clear hb2); (try clear hk); (try clear hi)) | ((with_reducible refine gate_callee (f := 10) rfl ?_); refine goesL_ (some 107) rfl rfl Tryd.func10 (by kernel_rfl) rfl #[.string t409, .string t410] rfl (by (try simp only [List.map_toArray, List.map_cons, List.map_nil]); first | done | rfl | (simp only [List.length_drop, List.length_take]; rfl)) ?_; (with_reducible refine (impl_FirstsTo.calls k t409 t410 t423 t424 _ A10.out).mono ?_); rintro e w33 ⟨v425, rfl, ho0, hb⟩; refine ⟨_, rfl, ?_⟩; have n0_ := Aside0.mk (Kd.N_elder' (by (with_reducible repeat (first | apply Kd.N_alloc | apply Kd.N_drewN | apply Kd.N_drew)); exact HO414.out) (Kd.R_base ho0) hb); have n1_ := Aside0.mk (Kd.N_elder' (by (with_reducible repeat (first | apply Kd.N_alloc | apply Kd.N_drewN | apply Kd.N_drew)); exact HO418.out) (Kd.R_base ho0) hb); have n2_ := Aside0.mk (Kd.R_lower ho0 (below_size (by repeat (first | (with_reducible first | exact HB.out | apply below_alloc | apply pw_below_drewN | apply below_drew1) | exact HB.out)))); have n3_ := Aside0.mk (below_step (by repeat (first | (with_reducible first | exact HB.out | apply below_alloc | apply pw_below_drewN | apply below_drew1) | exact HB.out)) hb); clear HO414; clear HO418; clear HB; have HO414 := n0_; have HO418 := n1_; have HO426 := n2_; have HB := n3_; clear n0_ n1_ n2_ n3_; (try clear hb); (try clear hb2); (try clear hk); (try clear hi); (try clear ho0)) | ((with_reducible refine gate_callee (f := 11) rfl ?_); refine goesL_ (some 113) rfl rfl Tryd.func11 (by kernel_rfl) rfl #[.string t409, .string t410] rfl (by (try simp only [List.map_toArray, List.map_cons, List.map_nil]); first | done | rfl | (simp only [List.length_drop, List.length_take]; rfl)) ?_; (with_reducible refine (spec_FirstsTo.calls k t409 t410 t427 t428 _ A11.out).mono ?_); rintro e w34 ⟨v429, rfl, ho0, hb⟩; refine ⟨_, rfl, ?_⟩; have n0_ := Aside0.mk (Kd.N_elder' (by (with_reducible repeat (first | apply Kd.N_alloc | apply Kd.N_drewN | apply Kd.N_drew)); exact HO414.out) (Kd.R_base ho0) hb); have n1_ := Aside0.mk (Kd.N_elder' (by (with_reducible repeat (first | apply Kd.N_alloc | apply Kd.N_drewN | apply Kd.N_drew)); exact HO418.out) (Kd.R_base ho0) hb); have n2_ := Aside0.mk (Kd.R_elder' (by (with_reducible repeat (first | apply Kd.R_alloc | apply Kd.R_drewN | apply Kd.R_drew)); exact HO426.out) (Kd.R_base ho0) hb); have n3_ := Aside0.mk (Kd.R_lower (Kd.R_new' ho0 (Kd.R_lt (by (with_reducible repeat (first | apply Kd.R_alloc | apply Kd.R_drewN | apply Kd.R_drew)); exact HO426.out))) (below_size (by repeat (first | (with_reducible first | exact HB.out | apply below_alloc | apply pw_below_drewN | apply below_drew1) | exact HB.out)))); have n4_ := Aside0.mk (below_step (by repeat (first | (with_reducible first | exact HB.out | apply below_alloc | apply pw_below_drewN | apply below_drew1) | exact HB.out)) hb); clear HO414; clear HO418; clear HO426; clear HB; have HO414 := n0_; have HO418 := n1_; have HO426 := n2_; have HO430 := n3_; have HB := n4_; clear n0_ n1_ n2_ n3_ n4_; (try clear hb); (try clear hb2); (try clear hk); (try clear hi); (try clear ho0)) | ((with_reducible refine gate_callee (f := 12) rfl ?_); refine goesL_ (some 119) rfl rfl Tryd.func12 (by kernel_rfl) rfl #[.string t409, .string t410] rfl (by (try simp only [List.map_toArray, List.map_cons, List.map_nil]); first | done | rfl | (simp only [List.length_drop, List.length_take]; rfl)) ?_; (with_reducible refine (impl_FewestFirst.calls k t409 t410 t431 t432 _ A12.out).mono ?_); rintro e w35 ⟨rfl, hb⟩; refine ⟨_, rfl, ?_⟩; have n0_ := Aside0.mk (Kd.N_below (by (with_reducible repeat (first | apply Kd.N_alloc | apply Kd.N_drewN | apply Kd.N_drew)); exact HO414.out) hb); have n1_ := Aside0.mk (Kd.N_below (by (with_reducible repeat (first | apply Kd.N_alloc | apply Kd.N_drewN | apply Kd.N_drew)); exact HO418.out) hb); have n2_ := Aside0.mk (below_step (by repeat (first | (with_reducible first | exact HB.out | apply below_alloc | apply pw_below_drewN | apply below_drew1) | exact HB.out)) hb); replace HO426 := rbR hb HO426; replace HO430 := rbR hb HO430; clear HO414; clear HO418; clear HB; have HO414 := n0_; have HO418 := n1_; have HB := n2_; clear n0_ n1_ n2_; (try clear hb); (try clear hb2); (try clear hk); (try clear hi)) | ((with_reducible refine gate_callee (f := 13) rfl ?_); refine goesL_ (some 125) rfl rfl Tryd.func13 (by kernel_rfl) rfl #[.string t409, .string t410] rfl (by (try simp only [List.map_toArray, List.map_cons, List.map_nil]); first | done | rfl | (simp only [List.length_drop, List.length_take]; rfl)) ?_; (with_reducible refine (spec_FewestFirst.calls k t409 t410 t433 t434 _ A13.out).mono ?_); rintro e w36 ⟨rfl, hb⟩; refine ⟨_, rfl, ?_⟩; have n0_ := Aside0.mk (Kd.N_below (by (with_reducible repeat (first | apply Kd.N_alloc | apply Kd.N_drewN | apply Kd.N_drew)); exact HO414.out) hb); have n1_ := Aside0.mk (Kd.N_below (by (with_reducible repeat (first | apply Kd.N_alloc | apply Kd.N_drewN | apply Kd.N_drew)); exact HO418.out) hb); have n2_ := Aside0.mk (below_step (by repeat (first | (with_reducible first | exact HB.out | apply below_alloc | apply pw_below_drewN | apply below_drew1) | exact HB.out)) hb); replace HO426 := rbR hb HO426; replace HO430 := rbR hb HO430; clear HO414; clear HO418; clear HB; have HO414 := n0_; have HO418 := n1_; have HB := n2_; clear n0_ n1_ n2_; (try clear hb); (try clear hb2); (try clear hk); (try clear hi); obtain ⟨Ao37, co37, eo37⟩ := Kd.N_slice HO414.out; subst eo37; obtain ⟨Ao38, co38, eo38⟩ := Kd.N_slice HO418.out; subst eo38) | (go_at_call 14; (with_reducible refine (laws_mRows.calls k _ _ t411 _ _ t415 true _ ?side1 ?side2 ?side3 ?side4 A15.out).mono ?_); (case side1 => repeat (first | exact (Kd.N_reads' HO414.out).2.2 | (with_reducible refine Kd.C_alloc ?_ _) | (with_reducible refine Kd.C_drewN ?_ _) | (with_reducible refine Kd.C_drew ?_))); (case side2 => exact (Kd.N_reads' HO414.out).2.1); (case side3 => repeat (first | exact (Kd.N_reads' HO418.out).2.2 | (with_reducible refine Kd.C_alloc ?_ _) | (with_reducible refine Kd.C_drewN ?_ _) | (with_reducible refine Kd.C_drew ?_))); (case side4 => exact (Kd.N_reads' HO418.out).2.1); rintro e w' ⟨rfl, ⟨nd, rfl⟩⟩; obtain ⟨Ao39, co39, eo39⟩ := Kd.R_slice HO426.out; subst eo39; obtain ⟨Ao40, co40, eo40⟩ := Kd.R_slice HO430.out; subst eo40) | (go_at_call 15; (with_reducible refine (laws_mSame.calls k _ _ t423 _ _ t427 true _ ?side1 ?side2 ?side3 ?side4 A20.out).mono ?_); (case side1 => repeat (first | exact (Kd.R_reads' HO426.out).2.2 | (with_reducible refine Kd.C_alloc ?_ _) | (with_reducible refine Kd.C_drewN ?_ _) | (with_reducible refine Kd.C_drew ?_))); (case side2 => exact (Kd.R_reads' HO426.out).2.1); (case side3 => repeat (first | exact (Kd.R_reads' HO430.out).2.2 | (with_reducible refine Kd.C_alloc ?_ _) | (with_reducible refine Kd.C_drewN ?_ _) | (with_reducible refine Kd.C_drew ?_))); (case side4 => exact (Kd.R_reads' HO430.out).2.1); rintro e w' ⟨rfl, ⟨nd, rfl⟩⟩))
  (try simp only [Act.put, List.setIfInBounds_toArray, List.set_cons_zero, List.set_cons_succ])
  refine wp_cutF [none, none, none, none, some 4, none, none, none, none, none, none, none, none, none, none, none, none, none, none, none, none, none, none, some 23, some 24, some 25, some 26, some 27, none, some 29, some 30, some 31, some 32, some 33, some 34, some 35, none, none, none, none, none, none, none, none, none, none, none, none, none, none, none, none, none, none, none, none, none, none, none, none, none, none, none, none, none, none, none, none, none, none, none, none, some 72, some 73, some 74, some 75, some 76, some 77, some 78, some 79, some 80, some 81, some 82, some 83, some 84, some 85, some 86, some 87, some 88, some 89, some 90, some 91, some 92, some 93, some 94, some 95, some 96, some 97, some 98, some 99, some 100, some 101, some 102, some 103, some 104, some 105, some 106, some 107, some 108, some 109, some 110, some 111, some 112, some 113, some 114, some 115, some 116, some 117, some 118, some 119, some 120, some 121, some 122, some 123, some 124, some 125, some 126, some 127, some 128, some 129, some 130, some 131, some 132, some 133, some 134, some 135, some 136, some 137, some 138, some 139, some 140, some 141, some 142, some 143, some 144, some 145, some 146, some 147, some 148, some 149, some 150, some 151, some 152, some 153, some 154, some 155, some 156, some 157, some 158, some 159, some 160, some 161, some 162, some 163, some 164, some 165, some 166, some 167, some 168, some 169, some 170, some 171, some 172, some 173, some 174, some 175, some 176, some 177, some 178, some 179, some 180, some 181, some 182, some 183, some 184, some 185, some 186, some 187, some 188, some 189, some 190, some 191, some 192, some 193, some 194, some 195, some 196, some 197, some 198, some 199, some 200, some 201, some 202, some 203, some 204, some 205, some 206, some 207, some 208, some 209, some 210, some 211, some 212, some 213, some 214, some 215, some 216, some 217, some 218, some 219, some 220, some 221, some 222, some 223, some 224, some 225, some 226, some 227, some 228, some 229, some 230, some 231, some 232, some 233, some 234, some 235, some 236, some 237, some 238, some 239, some 240, some 241, some 242, some 243, some 244, some 245, some 246, some 247, some 248, some 249, some 250, some 251, some 252, some 253, some 254, some 255, some 256, some 257, some 258, some 259, some 260, some 261, some 262, some 263, some 264, some 265, some 266, some 267, some 268, some 269, some 270, some 271, some 272, some 273, some 274, some 275, some 276, some 277, some 278, some 279, some 280, some 281, some 282, some 283, some 284, some 285, some 286, some 287, some 288, some 289, some 290, some 291, some 292, some 293, some 294, some 295, some 296, some 297, some 298, some 299, some 300, some 301, some 302, some 303, some 304, some 305, some 306, some 307, some 308, some 309, some 310, some 311, some 312, some 313, some 314, some 315, some 316, some 317, some 318, some 319, some 320, some 321, some 322, some 323, some 324, some 325, some 326, some 327, some 328, some 329, some 330, some 331, some 332, some 333, some 334, some 335, some 336, some 337, some 338, some 339, some 340, some 341, some 342, some 343, some 344, some 345, some 346, some 347, some 348, some 349, some 350, some 351, some 352, some 353, some 354, some 355, some 356, some 357, some 358, some 359, some 360, some 361, some 362, some 363, some 364, some 365, some 366, some 367, some 368, some 369, some 370, some 371, some 372, some 373, some 374, some 375, some 376, some 377, some 378, some 379, some 380, some 381, some 382, some 383, some 384, some 385, some 386, some 387, some 388, some 389, some 390, some 391, some 392, some 393, some 394, some 395, some 396, some 397, some 398, some 399, some 400, some 401, some 402, some 403, some 404, some 405, some 406, some 407, some 408, some 409, some 410, some 411, some 412, some 413, some 414, some 415, some 416, some 417, some 418, some 419, some 420, some 421, some 422, none, none, some 425, some 426, some 427, some 428, some 429, some 430, some 431, some 432, some 433, some 434, some 435, some 436, some 437, some 438, some 439, some 440, some 441, some 442, some 443, some 444, none, none, some 447, some 448, some 449, some 450, some 451, some 452, some 453, some 454, some 455, some 456, some 457, some 458, some 459, some 460, some 461, none, none, some 464, some 465, some 466, some 467, some 468, some 469, some 470, some 471, some 472, some 473, some 474, some 475, some 476, some 477, some 478, some 479, some 480, some 481, some 482, some 483, some 484, some 485, none, none, none, some 489, some 490, some 491, some 492, some 493, some 494, some 495, some 496, some 497, some 498, some 499, some 500, some 501, some 502, some 503, some 504, some 505, some 506, some 507, some 508, some 509] (by kernel_rfl) (fun V_ wc => ∃ (kq : Nat), Aside0 (laws_FnOrdersTurn.j1 kq l1 = some true) ∧ Aside0 (kq ≤ k) ∧ Aside0 (Below w.heap.size w wc)) ?first ?rest
  case first =>
   intro _ _ hJj1 _
   have H := HC27.out
   clear HC27
   by_cases c41 : t412 = true
   ·subst c41
    have H1 : ((impl_PlayRuns.f k t409 t411).bind fun bt437 => ((impl_MostRuns.f (t409.size : Int)).bind fun bt439 => (if bt437.2 = true then (if bt437.1.toList = t410.toList then (if (t411.length : Int) = t419 then (if bt439.2 = true then (if t419 > bt439.1 then (some false) else (if (t423.length : Int) = t431 then ((laws_mRises.f k t423).bind fun t441 => (if t441 = true then (if t431 < t419 then (some false) else (if t431 > (wrap64 (2 * t419)) then (some false) else (laws_FnOrdersTurn.l0 k l1 t409 t410 t419 t409 t423 (t423.length : Int) 0))) else (some false))) else (some false))) else (some false)) else (some false)) else (some false)) else (some false)))) = some true := by rw [if_pos rfl] at H; exact H
    clear H
    have H := H1
    clear H1
    replace H := Option.bind_eq_some_iff.mp H
    obtain ⟨⟨t437, t438⟩, A420, H⟩ := H
    replace H : ((impl_MostRuns.f (t409.size : Int)).bind fun bt439 => (if t438 = true then (if t437.toList = t410.toList then (if (t411.length : Int) = t419 then (if bt439.2 = true then (if t419 > bt439.1 then (some false) else (if (t423.length : Int) = t431 then ((laws_mRises.f k t423).bind fun t441 => (if t441 = true then (if t431 < t419 then (some false) else (if t431 > (wrap64 (2 * t419)) then (some false) else (laws_FnOrdersTurn.l0 k l1 t409 t410 t419 t409 t423 (t423.length : Int) 0))) else (some false))) else (some false))) else (some false)) else (some false)) else (some false)) else (some false))) = some true := H
    have A42 := Aside0.mk A420
    clear A420
    replace H := Option.bind_eq_some_iff.mp H
    obtain ⟨⟨t439, t440⟩, A430, H⟩ := H
    replace H : (if t438 = true then (if t437.toList = t410.toList then (if (t411.length : Int) = t419 then (if t440 = true then (if t419 > t439 then (some false) else (if (t423.length : Int) = t431 then ((laws_mRises.f k t423).bind fun t441 => (if t441 = true then (if t431 < t419 then (some false) else (if t431 > (wrap64 (2 * t419)) then (some false) else (laws_FnOrdersTurn.l0 k l1 t409 t410 t419 t409 t423 (t423.length : Int) 0))) else (some false))) else (some false))) else (some false)) else (some false)) else (some false)) else (some false)) = some true := H
    have A43 := Aside0.mk A430
    clear A430
    by_cases c44 : t438 = true
    rotate_left
    ·rw [if_neg c44] at H; exact absurd H (by simp)
    subst c44
    have H1 : (if t437.toList = t410.toList then (if (t411.length : Int) = t419 then (if t440 = true then (if t419 > t439 then (some false) else (if (t423.length : Int) = t431 then ((laws_mRises.f k t423).bind fun t441 => (if t441 = true then (if t431 < t419 then (some false) else (if t431 > (wrap64 (2 * t419)) then (some false) else (laws_FnOrdersTurn.l0 k l1 t409 t410 t419 t409 t423 (t423.length : Int) 0))) else (some false))) else (some false))) else (some false)) else (some false)) else (some false)) = some true := by rw [if_pos rfl] at H; exact H
    clear H
    have H := H1
    clear H1
    by_cases c45 : t437.toList = t410.toList
    rotate_left
    ·rw [if_neg c45] at H; exact absurd H (by simp)
    rw [if_pos c45] at H
    have c45b0 : (t437.toList == t410.toList) = true := beq_iff_eq.mpr c45
    have c45b1 : (t437.toList != t410.toList) = false := bne_eq_false_iff_eq.mpr c45
    clear c45
    (first | rw [c45b0] | (simp only [i64_w, i32_w]; rw [c45b0]) | skip)
    by_cases c46 : (t411.length : Int) = t419
    rotate_left
    ·rw [if_neg c46] at H; exact absurd H (by simp)
    rw [if_pos c46] at H
    have c46b0 : ((t411.length : Int) == t419) = true := beq_iff_eq.mpr c46
    have c46b1 : ((t411.length : Int) != t419) = false := bne_eq_false_iff_eq.mpr c46
    clear c46
    by_cases c47 : t440 = true
    rotate_left
    ·rw [if_neg c47] at H; exact absurd H (by simp)
    subst c47
    have H1 : (if t419 > t439 then (some false) else (if (t423.length : Int) = t431 then ((laws_mRises.f k t423).bind fun t441 => (if t441 = true then (if t431 < t419 then (some false) else (if t431 > (wrap64 (2 * t419)) then (some false) else (laws_FnOrdersTurn.l0 k l1 t409 t410 t419 t409 t423 (t423.length : Int) 0))) else (some false))) else (some false))) = some true := by rw [if_pos rfl] at H; exact H
    clear H
    have H := H1
    clear H1
    by_cases c48 : t419 > t439
    ·rw [if_pos c48] at H; exact absurd H (by simp)
    rw [if_neg c48] at H
    have c48b0 : decide (t439 < t419) = false := decide_eq_false c48
    clear c48
    by_cases c49 : (t423.length : Int) = t431
    rotate_left
    ·rw [if_neg c49] at H; exact absurd H (by simp)
    rw [if_pos c49] at H
    have c49b0 : ((t423.length : Int) == t431) = true := beq_iff_eq.mpr c49
    have c49b1 : ((t423.length : Int) != t431) = false := bne_eq_false_iff_eq.mpr c49
    clear c49
    replace H := Option.bind_eq_some_iff.mp H
    obtain ⟨t441, A500, H⟩ := H
    replace H : (if t441 = true then (if t431 < t419 then (some false) else (if t431 > (wrap64 (2 * t419)) then (some false) else (laws_FnOrdersTurn.l0 k l1 t409 t410 t419 t409 t423 (t423.length : Int) 0))) else (some false)) = some true := H
    have A50 := Aside0.mk A500
    clear A500
    by_cases c51 : t441 = true
    rotate_left
    ·rw [if_neg c51] at H; exact absurd H (by simp)
    subst c51
    have H1 : (if t431 < t419 then (some false) else (if t431 > (wrap64 (2 * t419)) then (some false) else (laws_FnOrdersTurn.l0 k l1 t409 t410 t419 t409 t423 (t423.length : Int) 0))) = some true := by rw [if_pos rfl] at H; exact H
    clear H
    have H := H1
    clear H1
    by_cases c52 : t431 < t419
    ·rw [if_pos c52] at H; exact absurd H (by simp)
    rw [if_neg c52] at H
    have c52b0 : decide (t431 < t419) = false := decide_eq_false c52
    clear c52
    by_cases c53 : t431 > (wrap64 (2 * t419))
    ·rw [if_pos c53] at H; exact absurd H (by simp)
    rw [if_neg c53] at H
    have c53b0 : decide ((wrap64 (2 * t419)) < t431) = false := decide_eq_false c53
    clear c53
    have H' := Aside0.mk H
    clear H
    go_wp2_with (first | ((with_reducible refine gate_callee (f := 16) rfl ?_); refine goesL_ (some 187) rfl rfl Tryd.func16 (by kernel_rfl) rfl #[.string t409, .slice Ao37 t411.length co37] rfl (by (try simp only [List.map_toArray, List.map_cons, List.map_nil]); first | done | rfl | (simp only [List.length_drop, List.length_take]; rfl)) ?_; (with_reducible refine (impl_PlayRuns.calls k t409 _ _ t411 t437 true _ ?side1 ?side2 ?side3 A42.out).mono ?_); (case side1 => repeat (first | exact (Kd.N_reads' HO414.out).2.2 | (with_reducible refine Kd.C_alloc ?_ _) | (with_reducible refine Kd.C_drewN ?_ _) | (with_reducible refine Kd.C_drew ?_))); (case side2 => exact (Kd.N_reads' HO414.out).2.1); (case side3 => exact Shd.below HSh.out (by repeat (first | (with_reducible first | exact HB.out | apply below_alloc | apply pw_below_drewN | apply below_drew1) | exact HB.out))); rintro e w54 ⟨rfl, hb⟩; refine ⟨_, rfl, ?_⟩; have n0_ := Aside0.mk (Kd.N_below (by (with_reducible repeat (first | apply Kd.N_alloc | apply Kd.N_drewN | apply Kd.N_drew)); exact HO414.out) hb); have n1_ := Aside0.mk (Kd.N_below (by (with_reducible repeat (first | apply Kd.N_alloc | apply Kd.N_drewN | apply Kd.N_drew)); exact HO418.out) hb); have n2_ := Aside0.mk (below_step (by repeat (first | (with_reducible first | exact HB.out | apply below_alloc | apply pw_below_drewN | apply below_drew1) | exact HB.out)) hb); replace HO426 := rbR hb HO426; replace HO430 := rbR hb HO430; clear HO414; clear HO418; clear HB; have HO414 := n0_; have HO418 := n1_; have HB := n2_; clear n0_ n1_ n2_; (try clear hb); (try clear hb2); (try clear hk); (try clear hi)) | ((with_reducible refine gate_callee (f := 17) rfl ?_); refine goesL_ (some 193) rfl rfl Tryd.func17 (by kernel_rfl) rfl #[.int .i64 (t409.size : Int)] rfl (by (try simp only [List.map_toArray, List.map_cons, List.map_nil]); first | done | rfl | (simp only [List.length_drop, List.length_take]; rfl)) ?_; (with_reducible refine (impl_MostRuns.calls (t409.size : Int) t439 true _ A43.out).mono ?_); rintro e w' ⟨rfl, ⟨nd, rfl⟩⟩; refine ⟨_, rfl, ?_⟩) | (go_at_call 18; (with_reducible refine (laws_mRises.calls k _ _ t423 true _ ?side1 ?side2 A50.out).mono ?_); (case side1 => repeat (first | exact (Kd.R_reads' HO426.out).2.2 | (with_reducible refine Kd.C_alloc ?_ _) | (with_reducible refine Kd.C_drewN ?_ _) | (with_reducible refine Kd.C_drew ?_))); (case side2 => exact (Kd.R_reads' HO426.out).2.1); rintro e w' ⟨rfl, ⟨nd, rfl⟩⟩))
    refine wp_loopF [none, none, none, none, some 4, none, none, none, none, none, none, none, none, none, none, none, none, none, none, none, none, none, none, none, none, none, none, some 27, none, some 29, some 30, some 31, none, none, none, none, none, none, none, none, none, none, none, none, none, none, none, none, none, none, none, none, none, none, none, none, none, none, none, none, none, none, none, none, none, none, none, none, none, none, none, none, none, none, none, none, none, none, none, none, none, none, none, none, none, none, none, none, none, none, none, none, none, none, none, none, none, none, none, none, none, none, none, none, none, none, none, none, none, none, none, none, none, none, none, none, none, none, none, none, none, none, none, none, none, none, none, none, none, none, none, none, none, none, none, none, none, none, none, none, none, none, none, none, none, none, none, none, none, none, none, none, none, none, none, none, none, none, none, none, none, none, none, none, none, none, none, none, none, none, none, none, none, none, none, none, none, none, none, none, none, none, none, none, none, none, none, none, none, none, none, none, none, none, none, none, none, none, none, none, none, none, none, none, none, none, none, none, none, none, none, none, none, none, none, none, none, none, none, none, none, none, none, none, none, none, none, none, none, none, none, none, none, none, none, none, none, none, none, none, none, none, none, some 243, some 244, some 245, some 246, some 247, some 248, some 249, some 250, some 251, some 252, some 253, some 254, some 255, some 256, none, none, none, none, none, none, none, none, none, none, none, none, none, none, none, none, none, none, none, none, none, none, none, none, none, none, none, none, none, none, none, none, none, none, none, none, none, none, none, none, none, none, none, none, none, none, none, none, none, none, none, none, none, none, none, none, none, none, none, none, none, none, none, none, none, none, none, none, none, none, none, none, none, none, none, none, none, none, none, none, none, none, none, none, none, none, none, none, none, none, none, none, none, none, none, none, none, none, none, none, none, none, none, none, none, none, none, none, none, none, none, none, none, none, none, none, none, none, none, none, none, none, none, none, none, none, none, none, none, none, none, none, none, none, none, none, none, none, none, none, none, none, none, none, none, none, none, none, none, none, none, none, none, none, none, none, none, none, none, none, none, none, none, none, none, none, none, none, none, none, none, none, none, none, none, none, none, none, none, none, none, none, none, none, none, none, none, none, none, none, none, none, none, none, none, none, none, none, none, none, none, none, none, none, none, none, none, none, none, none, none, none, none, none, none, none, none, none, none, none, none, none, none, none, none, none, none, none, none, none, none, none, none, none, none, none, none, none, none, none, none, none, none, none, none, none, none, none, none, none, none, none, none] (by kernel_rfl) k (fun kq V_ w' => ∃ (x27_1 : ByteArray) (x243_1 : Int), (V_ 27) = .string x27_1 ∧ (V_ 243) = .int .i64 x243_1 ∧ Aside0 (laws_FnOrdersTurn.l0 kq l1 t409 t410 t419 x27_1 t423 (t423.length : Int) x243_1 = some true) ∧ Aside0 (kq ≤ k) ∧ Aside0 (Kd.R (Kd.int .i64) 3 w' w.heap.size (fun _ => True) (.slice Ao39 t423.length co39) t423) ∧ Aside0 (Below w.heap.size w w')) (by rfl) ?atStart ?round
    case atStart => exact ⟨(t409), (0), (by first | rfl | (simp; done) | (simp [*]; done)), (by first | rfl | (simp; done) | (simp [*]; done)), H', ⟨Nat.le_refl _⟩, ⟨by (with_reducible repeat (first | apply Kd.R_alloc | apply Kd.R_drewN | apply Kd.R_drew)); exact Kd.R_mono HO426.out (fun _ hk => trivial)⟩, ⟨by repeat (first | (with_reducible first | exact HB.out | apply below_alloc | apply pw_below_drewN | apply below_drew1) | exact HB.out)⟩⟩
    case round =>
     clear H'
     intro gk V_ wr hrel _ _ hJl0 _
     dsimp only [forg]
     generalize V_ 27 = u27 at hrel ⊢
     generalize V_ 243 = u243 at hrel ⊢
     (try clear c1); (try clear c2); (try clear p2); (try clear c3); (try clear c4); (try clear c5); (try clear c6); (try clear p6); (try clear c7); (try clear c8); (try clear c9); (try clear c10); (try clear c11); (try clear c12); (try clear c13); (try clear c14); (try clear c14b0); (try clear c14b1); (try clear c14b2); (try clear c16); (try clear c17); (try clear c17b0); (try clear c17b1); (try clear c17b2); (try clear c18); (try clear c18b0); (try clear c18b1); (try clear c19); (try clear c19b0); (try clear c19b1); (try clear c19b2); (try clear c21); (try clear c22); (try clear c22b0); (try clear c22b1); (try clear c22b2); (try clear c23); (try clear c23b0); (try clear c23b1); (try clear c24); (try clear c24b0); (try clear c24b1); (try clear c24b2); (try clear c25); (try clear c25b0); (try clear c25b1); (try clear c25b2); (try clear c26); (try clear c26b0); (try clear c26b1); (try clear c26b2)
     (try clear c41); (try clear c44); (try clear c45); (try clear c45b0); (try clear c45b1); (try clear c46); (try clear c46b0); (try clear c46b1); (try clear c47); (try clear c48); (try clear c48b0); (try clear c49); (try clear c49b0); (try clear c49b1); (try clear c51); (try clear c52); (try clear c52b0); (try clear c53); (try clear c53b0)
     obtain ⟨x27_1, x243_1, rfl, rfl, HA, HK1, HO_241, HB⟩ := hrel
     cases gk with
     | zero => exact absurd HA.out (by simp [laws_FnOrdersTurn.l0])
     | succ k1 =>
      have H := HA.out
      clear HA
      simp only [laws_FnOrdersTurn.l0] at H
      by_cases c55 : x243_1 < (t423.length : Int)
      ·rw [if_pos c55] at H
       have c55b0 : decide (x243_1 < (t423.length : Int)) = true := decide_eq_true c55
       clear c55
       by_cases c56 : 0 ≤ x243_1
       rotate_left
       ·rw [if_neg c56] at H; exact absurd H (by simp)
       rw [if_pos c56] at H
       have c56b0 : decide (0 ≤ x243_1) = true := decide_eq_true c56
       clear c56
       by_cases c57 : x243_1 < (t423.length : Int)
       rotate_left
       ·rw [if_neg c57] at H; exact absurd H (by simp)
       rw [if_pos c57] at H
       have c57b0 : decide (x243_1 < (t423.length : Int)) = true := decide_eq_true c57
       clear c57
       replace H := Option.bind_eq_some_iff.mp H
       obtain ⟨⟨t443, t444⟩, A580, H⟩ := H
       replace H : (if t444 = true then (laws_FnOrdersTurn.l0 k1 l1 t409 t410 t419 t443 t423 (t423.length : Int) (wrap64 (x243_1 + 1))) else (some false)) = some true := H
       have A58 := Aside0.mk A580
       clear A580
       by_cases c59 : t444 = true
       rotate_left
       ·rw [if_neg c59] at H; exact absurd H (by simp)
       subst c59
       have H1 : (laws_FnOrdersTurn.l0 k1 l1 t409 t410 t419 t443 t423 (t423.length : Int) (wrap64 (x243_1 + 1))) = some true := by rw [if_pos rfl] at H; exact H
       clear H
       have H := H1
       clear H1
       have H' := Aside0.mk H
       clear H
       have p442 : 0 ≤ (x243_1 : Int) := of_decide_eq_true (by first | (with_reducible assumption) | assumption)
       have q442 : x243_1 < (t423.length : Int) := of_decide_eq_true (by first | (with_reducible assumption) | assumption)
       obtain ⟨ad442, e442, hx442_0⟩ := Kd.at_int (Kd.R_reads' HO_241.out).2.2 x243_1 p442 q442
       cases e442
       replace p442 := eq_true p442
       replace q442 := eq_true q442
       go_wp2_with (first | ((with_reducible refine gate_callee (f := 19) rfl ?_); refine goesL_ (some 250) rfl rfl Tryd.func19 (by kernel_rfl) rfl #[.string x27_1, .int .i64 (rd t423 x243_1)] rfl (by (try simp only [List.map_toArray, List.map_cons, List.map_nil]); first | done | rfl | (simp only [List.length_drop, List.length_take]; rfl)) ?_; (with_reducible refine (impl_TurnFirst.calls x27_1 (rd t423 x243_1) t443 true _ ?side1 A58.out).mono ?_); (case side1 => exact Shd.below HSh.out (by repeat (first | (with_reducible first | exact HB.out | apply below_alloc | apply pw_below_drewN | apply below_drew1) | exact HB.out))); rintro e w60 ⟨rfl, hb⟩; refine ⟨_, rfl, ?_⟩; have n0_ := Aside0.mk (below_step (by repeat (first | (with_reducible first | exact HB.out | apply below_alloc | apply pw_below_drewN | apply below_drew1) | exact HB.out)) hb); replace HO_241 := rbR hb HO_241; clear HB; have HB := n0_; clear n0_; (try clear hb); (try clear hb2); (try clear hk); (try clear hi)))
       refine Handed.intro k1 ?measure (hJl0 _ _ _ rfl ?rel)
       case measure => have := HK1.out; omega
       case rel => exact ⟨(t443), (wrap64 (x243_1 + 1)), (by first | rfl | (simp; done) | (simp [*]; done)), (by first | rfl | (simp; done) | (simp [*]; done)), H', ⟨by have := HK1.out; omega⟩, ⟨by (with_reducible repeat (first | apply Kd.R_alloc | apply Kd.R_drewN | apply Kd.R_drew)); exact HO_241.out⟩, ⟨by repeat (first | (with_reducible first | exact HB.out | apply below_alloc | apply pw_below_drewN | apply below_drew1) | exact HB.out)⟩⟩
      ·rw [if_neg c55] at H
       have c55b0 : decide (x243_1 < (t423.length : Int)) = false := decide_eq_false c55
       clear c55
       by_cases c61 : x27_1.toList = t410.toList
       rotate_left
       ·rw [if_neg c61] at H; exact absurd H (by simp)
       rw [if_pos c61] at H
       have c61b0 : (x27_1.toList == t410.toList) = true := beq_iff_eq.mpr c61
       have c61b1 : (x27_1.toList != t410.toList) = false := bne_eq_false_iff_eq.mpr c61
       clear c61
       by_cases c62 : (t409.size : Int) > 1
       ·rw [if_pos c62] at H
        have c62b0 : decide (1 < (t409.size : Int)) = true := decide_eq_true c62
        have c62b1 : decide (1 < t409.size) = true := decide_eq_true (by omega)
        clear c62
        replace H := Option.bind_eq_some_iff.mp H
        obtain ⟨⟨t445, t446⟩, A630, H⟩ := H
        replace H : ((impl_FewestRuns.f k1 t445 t410).bind fun bt447 => (if t446 = true then (if bt447.2 = true then (if bt447.1 < (wrap64 (t419 - 1)) then (some false) else (if bt447.1 > (wrap64 (t419 + 1)) then (some false) else (laws_FnOrdersTurn.j1 k1 l1))) else (some false)) else (some false))) = some true := H
        have A63 := Aside0.mk A630
        clear A630
        replace H := Option.bind_eq_some_iff.mp H
        obtain ⟨⟨t447, t448⟩, A640, H⟩ := H
        replace H : (if t446 = true then (if t448 = true then (if t447 < (wrap64 (t419 - 1)) then (some false) else (if t447 > (wrap64 (t419 + 1)) then (some false) else (laws_FnOrdersTurn.j1 k1 l1))) else (some false)) else (some false)) = some true := H
        have A64 := Aside0.mk A640
        clear A640
        by_cases c65 : t446 = true
        rotate_left
        ·rw [if_neg c65] at H; exact absurd H (by simp)
        subst c65
        have H1 : (if t448 = true then (if t447 < (wrap64 (t419 - 1)) then (some false) else (if t447 > (wrap64 (t419 + 1)) then (some false) else (laws_FnOrdersTurn.j1 k1 l1))) else (some false)) = some true := by rw [if_pos rfl] at H; exact H
        clear H
        have H := H1
        clear H1
        by_cases c66 : t448 = true
        rotate_left
        ·rw [if_neg c66] at H; exact absurd H (by simp)
        subst c66
        have H1 : (if t447 < (wrap64 (t419 - 1)) then (some false) else (if t447 > (wrap64 (t419 + 1)) then (some false) else (laws_FnOrdersTurn.j1 k1 l1))) = some true := by rw [if_pos rfl] at H; exact H
        clear H
        have H := H1
        clear H1
        by_cases c67 : t447 < (wrap64 (t419 - 1))
        ·rw [if_pos c67] at H; exact absurd H (by simp)
        rw [if_neg c67] at H
        have c67b0 : decide (t447 < (wrap64 (t419 - 1))) = false := decide_eq_false c67
        clear c67
        by_cases c68 : t447 > (wrap64 (t419 + 1))
        ·rw [if_pos c68] at H; exact absurd H (by simp)
        rw [if_neg c68] at H
        have c68b0 : decide ((wrap64 (t419 + 1)) < t447) = false := decide_eq_false c68
        clear c68
        have H' := Aside0.mk H
        clear H
        go_wp2_with (first | ((with_reducible refine gate_callee (f := 20) rfl ?_); refine goesL_ (some 268) rfl rfl Tryd.func20 (by kernel_rfl) rfl #[.string t409, .int .i64 0, .int .i64 (wrap64 ((t409.size : Int) / 2))] rfl (by (try simp only [List.map_toArray, List.map_cons, List.map_nil]); first | done | rfl | (simp only [List.length_drop, List.length_take]; rfl)) ?_; (with_reducible refine (impl_TurnRun.calls t409 0 (wrap64 ((t409.size : Int) / 2)) t445 true _ ?side1 A63.out).mono ?_); (case side1 => exact Shd.below HSh.out (by repeat (first | (with_reducible first | exact HB.out | apply below_alloc | apply pw_below_drewN | apply below_drew1) | exact HB.out))); rintro e w69 ⟨rfl, hb⟩; refine ⟨_, rfl, ?_⟩; have n0_ := Aside0.mk (below_step (by repeat (first | (with_reducible first | exact HB.out | apply below_alloc | apply pw_below_drewN | apply below_drew1) | exact HB.out)) hb); replace HO_241 := rbR hb HO_241; clear HB; have HB := n0_; clear n0_; (try clear hb); (try clear hb2); (try clear hk); (try clear hi)) | ((with_reducible refine gate_callee (f := 8) rfl ?_); refine goesL_ (some 274) rfl rfl Tryd.func8 (by kernel_rfl) rfl #[.string t445, .string t410] rfl (by (try simp only [List.map_toArray, List.map_cons, List.map_nil]); first | done | rfl | (simp only [List.length_drop, List.length_take]; rfl)) ?_; (with_reducible refine (impl_FewestRuns.calls k1 t445 t410 t447 true _ A64.out).mono ?_); rintro e w70 ⟨rfl, hb⟩; refine ⟨_, rfl, ?_⟩; have n0_ := Aside0.mk (below_step (by repeat (first | (with_reducible first | exact HB.out | apply below_alloc | apply pw_below_drewN | apply below_drew1) | exact HB.out)) hb); replace HO_241 := rbR hb HO_241; clear HB; have HB := n0_; clear n0_; (try clear hb); (try clear hb2); (try clear hk); (try clear hi)))
        refine Met.intro (hJj1 _ _ rfl ?rel)
        case rel => exact ⟨_, H', ⟨by have := HK1.out; first | omega | exact Nat.le_refl _⟩, ⟨by repeat (first | (with_reducible first | exact HB.out | apply below_alloc | apply pw_below_drewN | apply below_drew1) | exact HB.out)⟩⟩
       ·rw [if_neg c62] at H
        have c62b0 : decide (1 < (t409.size : Int)) = false := decide_eq_false c62
        have c62b1 : decide (1 < t409.size) = false := decide_eq_false (by omega)
        clear c62
        have H' := Aside0.mk H
        clear H
        go_wp2
        refine Met.intro (hJj1 _ _ rfl ?rel)
        case rel => exact ⟨_, H', ⟨by have := HK1.out; first | omega | exact Nat.le_refl _⟩, ⟨by repeat (first | (with_reducible first | exact HB.out | apply below_alloc | apply pw_below_drewN | apply below_drew1) | exact HB.out)⟩⟩
   ·replace c41 := Bool.eq_false_iff.mpr c41
    subst c41
    have H1 : (laws_FnOrdersTurn.j1 k l1) = some true := by rw [if_neg (show ¬ (false = true) by decide)] at H; exact H
    clear H
    have H := H1
    clear H1
    have H' := Aside0.mk H
    clear H
    go_wp2
    refine Met.intro (hJj1 _ _ rfl ?rel)
    case rel => exact ⟨_, H', ⟨by first | omega | exact Nat.le_refl _⟩, ⟨by repeat (first | (with_reducible first | exact HB.out | apply below_alloc | apply pw_below_drewN | apply below_drew1) | exact HB.out)⟩⟩
  case rest =>
   clear HC27
   intro V_ wc hcut
   dsimp only [forg]
   (try clear c1); (try clear c2); (try clear p2); (try clear c3); (try clear c4); (try clear p4); (try clear q4); (try clear hx4); (try clear c5); (try clear c6); (try clear p6); (try clear c7); (try clear c8); (try clear c9); (try clear c10); (try clear c11); (try clear c12); (try clear c13); (try clear c14); (try clear c14b0); (try clear c14b1); (try clear c14b2); (try clear c16); (try clear c17); (try clear c17b0); (try clear c17b1); (try clear c17b2); (try clear c18); (try clear c18b0); (try clear c18b1); (try clear c19); (try clear c19b0); (try clear c19b1); (try clear c19b2); (try clear c20); (try clear c21); (try clear c22); (try clear c22b0); (try clear c22b1); (try clear c22b2); (try clear c23); (try clear c23b0); (try clear c23b1); (try clear c24); (try clear c24b0); (try clear c24b1); (try clear c24b2); (try clear c25); (try clear c25b0); (try clear c25b1); (try clear c25b2); (try clear c26)
   (try clear c26b0); (try clear c26b1); (try clear c26b2); (try clear c41); (try clear c44); (try clear p44); (try clear q44); (try clear hx44); (try clear c45); (try clear c45b0); (try clear c45b1); (try clear c46); (try clear c46b0); (try clear c46b1); (try clear c47); (try clear c48); (try clear c48b0); (try clear c49); (try clear c49b0); (try clear c49b1); (try clear c51); (try clear c52); (try clear c52b0); (try clear c53); (try clear c53b0); (try clear c55); (try clear c55b0); (try clear c56); (try clear c56b0); (try clear c57); (try clear c57b0); (try clear c59); (try clear c61); (try clear c61b0); (try clear c61b1); (try clear c62); (try clear c62b0); (try clear c62b1); (try clear p64); (try clear c65); (try clear c66); (try clear c67); (try clear c67b0); (try clear c68); (try clear c68b0); (try clear hx442_0); (try clear p2); (try clear p442); (try clear p6); (try clear q442)
   obtain ⟨kq, HA, HJ26, HB⟩ := hcut
   cases kq with
   | zero => exact absurd HA.out (by simp [laws_FnOrdersTurn.j1])
   | succ kj26 =>
    have H := HA.out
    clear HA
    simp only [laws_FnOrdersTurn.j1] at H
    replace H := Option.bind_eq_some_iff.mp H
    obtain ⟨⟨t449, t450, t451⟩, A710, H⟩ := H
    replace H : ((impl_TurnRun.f t449 t450 t451).bind fun bt452 => ((spec_TurnRun.f kj26 t449 t450 t451).bind fun bt454 => ((spec_DrawTurnFirst.f kj26 l1).bind fun bt456 => ((impl_TurnFirst.f bt456.1 bt456.2).bind fun bt458 => ((spec_TurnFirst.f kj26 bt456.1 bt456.2).bind fun bt460 => ((impl_TurnAround.f bt456.1 bt456.2).bind fun bt462 => ((spec_TurnAround.f kj26 bt456.1 bt456.2).bind fun bt464 => ((spec_DrawPlayRuns.f kj26 l1).bind fun bt466 => ((impl_PlayRuns.f kj26 bt466.1 bt466.2).bind fun bt470 => ((spec_PlayRuns.f kj26 bt466.1 bt466.2).bind fun bt472 => ((spec_DrawMostRuns.f l1).bind fun t474 => ((impl_MostRuns.f t474).bind fun bt475 => ((spec_MostRuns.f t474).bind fun bt477 => (if (bt452.2 != bt454.2) = true then (some false) else (if bt452.1.toList = bt454.1.toList then (if (bt458.2 != bt460.2) = true then (some false) else (if bt458.1.toList = bt460.1.toList then (if (bt462.2 != bt464.2) = true then (some false) else (if bt462.1.toList = bt464.1.toList then (if (bt470.2 != bt472.2) = true then (some false) else (if bt470.1.toList = bt472.1.toList then (if (bt475.2 != bt477.2) = true then (some false) else (if bt475.1 = bt477.1 then (if bt452.2 = true then (laws_FnOrdersTurn.l1 kj26 t449 t450 t451 bt452.1 bt456.1 bt456.2 bt458.1 bt458.2 bt462.1 bt462.2 bt466.1 bt466.2 bt470.1 bt470.2 0 t449) else (laws_FnOrdersTurn.j3 kj26 bt456.1 bt456.2 bt458.1 bt458.2 bt462.1 bt462.2 bt466.1 bt466.2 bt470.1 bt470.2)) else (some false))) else (some false))) else (some false))) else (some false))) else (some false)))))))))))))))) = some true := H
    have A71 := Aside0.mk A710
    clear A710
    replace H := Option.bind_eq_some_iff.mp H
    obtain ⟨⟨t452, t453⟩, A720, H⟩ := H
    replace H : ((spec_TurnRun.f kj26 t449 t450 t451).bind fun bt454 => ((spec_DrawTurnFirst.f kj26 l1).bind fun bt456 => ((impl_TurnFirst.f bt456.1 bt456.2).bind fun bt458 => ((spec_TurnFirst.f kj26 bt456.1 bt456.2).bind fun bt460 => ((impl_TurnAround.f bt456.1 bt456.2).bind fun bt462 => ((spec_TurnAround.f kj26 bt456.1 bt456.2).bind fun bt464 => ((spec_DrawPlayRuns.f kj26 l1).bind fun bt466 => ((impl_PlayRuns.f kj26 bt466.1 bt466.2).bind fun bt470 => ((spec_PlayRuns.f kj26 bt466.1 bt466.2).bind fun bt472 => ((spec_DrawMostRuns.f l1).bind fun t474 => ((impl_MostRuns.f t474).bind fun bt475 => ((spec_MostRuns.f t474).bind fun bt477 => (if (t453 != bt454.2) = true then (some false) else (if t452.toList = bt454.1.toList then (if (bt458.2 != bt460.2) = true then (some false) else (if bt458.1.toList = bt460.1.toList then (if (bt462.2 != bt464.2) = true then (some false) else (if bt462.1.toList = bt464.1.toList then (if (bt470.2 != bt472.2) = true then (some false) else (if bt470.1.toList = bt472.1.toList then (if (bt475.2 != bt477.2) = true then (some false) else (if bt475.1 = bt477.1 then (if t453 = true then (laws_FnOrdersTurn.l1 kj26 t449 t450 t451 t452 bt456.1 bt456.2 bt458.1 bt458.2 bt462.1 bt462.2 bt466.1 bt466.2 bt470.1 bt470.2 0 t449) else (laws_FnOrdersTurn.j3 kj26 bt456.1 bt456.2 bt458.1 bt458.2 bt462.1 bt462.2 bt466.1 bt466.2 bt470.1 bt470.2)) else (some false))) else (some false))) else (some false))) else (some false))) else (some false))))))))))))))) = some true := H
    have A72 := Aside0.mk A720
    clear A720
    replace H := Option.bind_eq_some_iff.mp H
    obtain ⟨⟨t454, t455⟩, A730, H⟩ := H
    replace H : ((spec_DrawTurnFirst.f kj26 l1).bind fun bt456 => ((impl_TurnFirst.f bt456.1 bt456.2).bind fun bt458 => ((spec_TurnFirst.f kj26 bt456.1 bt456.2).bind fun bt460 => ((impl_TurnAround.f bt456.1 bt456.2).bind fun bt462 => ((spec_TurnAround.f kj26 bt456.1 bt456.2).bind fun bt464 => ((spec_DrawPlayRuns.f kj26 l1).bind fun bt466 => ((impl_PlayRuns.f kj26 bt466.1 bt466.2).bind fun bt470 => ((spec_PlayRuns.f kj26 bt466.1 bt466.2).bind fun bt472 => ((spec_DrawMostRuns.f l1).bind fun t474 => ((impl_MostRuns.f t474).bind fun bt475 => ((spec_MostRuns.f t474).bind fun bt477 => (if (t453 != t455) = true then (some false) else (if t452.toList = t454.toList then (if (bt458.2 != bt460.2) = true then (some false) else (if bt458.1.toList = bt460.1.toList then (if (bt462.2 != bt464.2) = true then (some false) else (if bt462.1.toList = bt464.1.toList then (if (bt470.2 != bt472.2) = true then (some false) else (if bt470.1.toList = bt472.1.toList then (if (bt475.2 != bt477.2) = true then (some false) else (if bt475.1 = bt477.1 then (if t453 = true then (laws_FnOrdersTurn.l1 kj26 t449 t450 t451 t452 bt456.1 bt456.2 bt458.1 bt458.2 bt462.1 bt462.2 bt466.1 bt466.2 bt470.1 bt470.2 0 t449) else (laws_FnOrdersTurn.j3 kj26 bt456.1 bt456.2 bt458.1 bt458.2 bt462.1 bt462.2 bt466.1 bt466.2 bt470.1 bt470.2)) else (some false))) else (some false))) else (some false))) else (some false))) else (some false)))))))))))))) = some true := H
    have A73 := Aside0.mk A730
    clear A730
    replace H := Option.bind_eq_some_iff.mp H
    obtain ⟨⟨t456, t457⟩, A740, H⟩ := H
    replace H : ((impl_TurnFirst.f t456 t457).bind fun bt458 => ((spec_TurnFirst.f kj26 t456 t457).bind fun bt460 => ((impl_TurnAround.f t456 t457).bind fun bt462 => ((spec_TurnAround.f kj26 t456 t457).bind fun bt464 => ((spec_DrawPlayRuns.f kj26 l1).bind fun bt466 => ((impl_PlayRuns.f kj26 bt466.1 bt466.2).bind fun bt470 => ((spec_PlayRuns.f kj26 bt466.1 bt466.2).bind fun bt472 => ((spec_DrawMostRuns.f l1).bind fun t474 => ((impl_MostRuns.f t474).bind fun bt475 => ((spec_MostRuns.f t474).bind fun bt477 => (if (t453 != t455) = true then (some false) else (if t452.toList = t454.toList then (if (bt458.2 != bt460.2) = true then (some false) else (if bt458.1.toList = bt460.1.toList then (if (bt462.2 != bt464.2) = true then (some false) else (if bt462.1.toList = bt464.1.toList then (if (bt470.2 != bt472.2) = true then (some false) else (if bt470.1.toList = bt472.1.toList then (if (bt475.2 != bt477.2) = true then (some false) else (if bt475.1 = bt477.1 then (if t453 = true then (laws_FnOrdersTurn.l1 kj26 t449 t450 t451 t452 t456 t457 bt458.1 bt458.2 bt462.1 bt462.2 bt466.1 bt466.2 bt470.1 bt470.2 0 t449) else (laws_FnOrdersTurn.j3 kj26 t456 t457 bt458.1 bt458.2 bt462.1 bt462.2 bt466.1 bt466.2 bt470.1 bt470.2)) else (some false))) else (some false))) else (some false))) else (some false))) else (some false))))))))))))) = some true := H
    have A74 := Aside0.mk A740
    clear A740
    replace H := Option.bind_eq_some_iff.mp H
    obtain ⟨⟨t458, t459⟩, A750, H⟩ := H
    replace H : ((spec_TurnFirst.f kj26 t456 t457).bind fun bt460 => ((impl_TurnAround.f t456 t457).bind fun bt462 => ((spec_TurnAround.f kj26 t456 t457).bind fun bt464 => ((spec_DrawPlayRuns.f kj26 l1).bind fun bt466 => ((impl_PlayRuns.f kj26 bt466.1 bt466.2).bind fun bt470 => ((spec_PlayRuns.f kj26 bt466.1 bt466.2).bind fun bt472 => ((spec_DrawMostRuns.f l1).bind fun t474 => ((impl_MostRuns.f t474).bind fun bt475 => ((spec_MostRuns.f t474).bind fun bt477 => (if (t453 != t455) = true then (some false) else (if t452.toList = t454.toList then (if (t459 != bt460.2) = true then (some false) else (if t458.toList = bt460.1.toList then (if (bt462.2 != bt464.2) = true then (some false) else (if bt462.1.toList = bt464.1.toList then (if (bt470.2 != bt472.2) = true then (some false) else (if bt470.1.toList = bt472.1.toList then (if (bt475.2 != bt477.2) = true then (some false) else (if bt475.1 = bt477.1 then (if t453 = true then (laws_FnOrdersTurn.l1 kj26 t449 t450 t451 t452 t456 t457 t458 t459 bt462.1 bt462.2 bt466.1 bt466.2 bt470.1 bt470.2 0 t449) else (laws_FnOrdersTurn.j3 kj26 t456 t457 t458 t459 bt462.1 bt462.2 bt466.1 bt466.2 bt470.1 bt470.2)) else (some false))) else (some false))) else (some false))) else (some false))) else (some false)))))))))))) = some true := H
    have A75 := Aside0.mk A750
    clear A750
    replace H := Option.bind_eq_some_iff.mp H
    obtain ⟨⟨t460, t461⟩, A760, H⟩ := H
    replace H : ((impl_TurnAround.f t456 t457).bind fun bt462 => ((spec_TurnAround.f kj26 t456 t457).bind fun bt464 => ((spec_DrawPlayRuns.f kj26 l1).bind fun bt466 => ((impl_PlayRuns.f kj26 bt466.1 bt466.2).bind fun bt470 => ((spec_PlayRuns.f kj26 bt466.1 bt466.2).bind fun bt472 => ((spec_DrawMostRuns.f l1).bind fun t474 => ((impl_MostRuns.f t474).bind fun bt475 => ((spec_MostRuns.f t474).bind fun bt477 => (if (t453 != t455) = true then (some false) else (if t452.toList = t454.toList then (if (t459 != t461) = true then (some false) else (if t458.toList = t460.toList then (if (bt462.2 != bt464.2) = true then (some false) else (if bt462.1.toList = bt464.1.toList then (if (bt470.2 != bt472.2) = true then (some false) else (if bt470.1.toList = bt472.1.toList then (if (bt475.2 != bt477.2) = true then (some false) else (if bt475.1 = bt477.1 then (if t453 = true then (laws_FnOrdersTurn.l1 kj26 t449 t450 t451 t452 t456 t457 t458 t459 bt462.1 bt462.2 bt466.1 bt466.2 bt470.1 bt470.2 0 t449) else (laws_FnOrdersTurn.j3 kj26 t456 t457 t458 t459 bt462.1 bt462.2 bt466.1 bt466.2 bt470.1 bt470.2)) else (some false))) else (some false))) else (some false))) else (some false))) else (some false))))))))))) = some true := H
    have A76 := Aside0.mk A760
    clear A760
    replace H := Option.bind_eq_some_iff.mp H
    obtain ⟨⟨t462, t463⟩, A770, H⟩ := H
    replace H : ((spec_TurnAround.f kj26 t456 t457).bind fun bt464 => ((spec_DrawPlayRuns.f kj26 l1).bind fun bt466 => ((impl_PlayRuns.f kj26 bt466.1 bt466.2).bind fun bt470 => ((spec_PlayRuns.f kj26 bt466.1 bt466.2).bind fun bt472 => ((spec_DrawMostRuns.f l1).bind fun t474 => ((impl_MostRuns.f t474).bind fun bt475 => ((spec_MostRuns.f t474).bind fun bt477 => (if (t453 != t455) = true then (some false) else (if t452.toList = t454.toList then (if (t459 != t461) = true then (some false) else (if t458.toList = t460.toList then (if (t463 != bt464.2) = true then (some false) else (if t462.toList = bt464.1.toList then (if (bt470.2 != bt472.2) = true then (some false) else (if bt470.1.toList = bt472.1.toList then (if (bt475.2 != bt477.2) = true then (some false) else (if bt475.1 = bt477.1 then (if t453 = true then (laws_FnOrdersTurn.l1 kj26 t449 t450 t451 t452 t456 t457 t458 t459 t462 t463 bt466.1 bt466.2 bt470.1 bt470.2 0 t449) else (laws_FnOrdersTurn.j3 kj26 t456 t457 t458 t459 t462 t463 bt466.1 bt466.2 bt470.1 bt470.2)) else (some false))) else (some false))) else (some false))) else (some false))) else (some false)))))))))) = some true := H
    have A77 := Aside0.mk A770
    clear A770
    replace H := Option.bind_eq_some_iff.mp H
    obtain ⟨⟨t464, t465⟩, A780, H⟩ := H
    replace H : ((spec_DrawPlayRuns.f kj26 l1).bind fun bt466 => ((impl_PlayRuns.f kj26 bt466.1 bt466.2).bind fun bt470 => ((spec_PlayRuns.f kj26 bt466.1 bt466.2).bind fun bt472 => ((spec_DrawMostRuns.f l1).bind fun t474 => ((impl_MostRuns.f t474).bind fun bt475 => ((spec_MostRuns.f t474).bind fun bt477 => (if (t453 != t455) = true then (some false) else (if t452.toList = t454.toList then (if (t459 != t461) = true then (some false) else (if t458.toList = t460.toList then (if (t463 != t465) = true then (some false) else (if t462.toList = t464.toList then (if (bt470.2 != bt472.2) = true then (some false) else (if bt470.1.toList = bt472.1.toList then (if (bt475.2 != bt477.2) = true then (some false) else (if bt475.1 = bt477.1 then (if t453 = true then (laws_FnOrdersTurn.l1 kj26 t449 t450 t451 t452 t456 t457 t458 t459 t462 t463 bt466.1 bt466.2 bt470.1 bt470.2 0 t449) else (laws_FnOrdersTurn.j3 kj26 t456 t457 t458 t459 t462 t463 bt466.1 bt466.2 bt470.1 bt470.2)) else (some false))) else (some false))) else (some false))) else (some false))) else (some false))))))))) = some true := H
    have A78 := Aside0.mk A780
    clear A780
    replace H := Option.bind_eq_some_iff.mp H
    obtain ⟨⟨t466, t467⟩, A790, H⟩ := H
    replace H : ((impl_PlayRuns.f kj26 t466 t467).bind fun bt470 => ((spec_PlayRuns.f kj26 t466 t467).bind fun bt472 => ((spec_DrawMostRuns.f l1).bind fun t474 => ((impl_MostRuns.f t474).bind fun bt475 => ((spec_MostRuns.f t474).bind fun bt477 => (if (t453 != t455) = true then (some false) else (if t452.toList = t454.toList then (if (t459 != t461) = true then (some false) else (if t458.toList = t460.toList then (if (t463 != t465) = true then (some false) else (if t462.toList = t464.toList then (if (bt470.2 != bt472.2) = true then (some false) else (if bt470.1.toList = bt472.1.toList then (if (bt475.2 != bt477.2) = true then (some false) else (if bt475.1 = bt477.1 then (if t453 = true then (laws_FnOrdersTurn.l1 kj26 t449 t450 t451 t452 t456 t457 t458 t459 t462 t463 t466 t467 bt470.1 bt470.2 0 t449) else (laws_FnOrdersTurn.j3 kj26 t456 t457 t458 t459 t462 t463 t466 t467 bt470.1 bt470.2)) else (some false))) else (some false))) else (some false))) else (some false))) else (some false)))))))) = some true := H
    have A79 := Aside0.mk A790
    clear A790
    replace H := Option.bind_eq_some_iff.mp H
    obtain ⟨⟨t470, t471⟩, A800, H⟩ := H
    replace H : ((spec_PlayRuns.f kj26 t466 t467).bind fun bt472 => ((spec_DrawMostRuns.f l1).bind fun t474 => ((impl_MostRuns.f t474).bind fun bt475 => ((spec_MostRuns.f t474).bind fun bt477 => (if (t453 != t455) = true then (some false) else (if t452.toList = t454.toList then (if (t459 != t461) = true then (some false) else (if t458.toList = t460.toList then (if (t463 != t465) = true then (some false) else (if t462.toList = t464.toList then (if (t471 != bt472.2) = true then (some false) else (if t470.toList = bt472.1.toList then (if (bt475.2 != bt477.2) = true then (some false) else (if bt475.1 = bt477.1 then (if t453 = true then (laws_FnOrdersTurn.l1 kj26 t449 t450 t451 t452 t456 t457 t458 t459 t462 t463 t466 t467 t470 t471 0 t449) else (laws_FnOrdersTurn.j3 kj26 t456 t457 t458 t459 t462 t463 t466 t467 t470 t471)) else (some false))) else (some false))) else (some false))) else (some false))) else (some false))))))) = some true := H
    have A80 := Aside0.mk A800
    clear A800
    replace H := Option.bind_eq_some_iff.mp H
    obtain ⟨⟨t472, t473⟩, A810, H⟩ := H
    replace H : ((spec_DrawMostRuns.f l1).bind fun t474 => ((impl_MostRuns.f t474).bind fun bt475 => ((spec_MostRuns.f t474).bind fun bt477 => (if (t453 != t455) = true then (some false) else (if t452.toList = t454.toList then (if (t459 != t461) = true then (some false) else (if t458.toList = t460.toList then (if (t463 != t465) = true then (some false) else (if t462.toList = t464.toList then (if (t471 != t473) = true then (some false) else (if t470.toList = t472.toList then (if (bt475.2 != bt477.2) = true then (some false) else (if bt475.1 = bt477.1 then (if t453 = true then (laws_FnOrdersTurn.l1 kj26 t449 t450 t451 t452 t456 t457 t458 t459 t462 t463 t466 t467 t470 t471 0 t449) else (laws_FnOrdersTurn.j3 kj26 t456 t457 t458 t459 t462 t463 t466 t467 t470 t471)) else (some false))) else (some false))) else (some false))) else (some false))) else (some false)))))) = some true := H
    have A81 := Aside0.mk A810
    clear A810
    replace H := Option.bind_eq_some_iff.mp H
    obtain ⟨t474, A820, H⟩ := H
    replace H : ((impl_MostRuns.f t474).bind fun bt475 => ((spec_MostRuns.f t474).bind fun bt477 => (if (t453 != t455) = true then (some false) else (if t452.toList = t454.toList then (if (t459 != t461) = true then (some false) else (if t458.toList = t460.toList then (if (t463 != t465) = true then (some false) else (if t462.toList = t464.toList then (if (t471 != t473) = true then (some false) else (if t470.toList = t472.toList then (if (bt475.2 != bt477.2) = true then (some false) else (if bt475.1 = bt477.1 then (if t453 = true then (laws_FnOrdersTurn.l1 kj26 t449 t450 t451 t452 t456 t457 t458 t459 t462 t463 t466 t467 t470 t471 0 t449) else (laws_FnOrdersTurn.j3 kj26 t456 t457 t458 t459 t462 t463 t466 t467 t470 t471)) else (some false))) else (some false))) else (some false))) else (some false))) else (some false))))) = some true := H
    have A82 := Aside0.mk A820
    clear A820
    replace H := Option.bind_eq_some_iff.mp H
    obtain ⟨⟨t475, t476⟩, A830, H⟩ := H
    replace H : ((spec_MostRuns.f t474).bind fun bt477 => (if (t453 != t455) = true then (some false) else (if t452.toList = t454.toList then (if (t459 != t461) = true then (some false) else (if t458.toList = t460.toList then (if (t463 != t465) = true then (some false) else (if t462.toList = t464.toList then (if (t471 != t473) = true then (some false) else (if t470.toList = t472.toList then (if (t476 != bt477.2) = true then (some false) else (if t475 = bt477.1 then (if t453 = true then (laws_FnOrdersTurn.l1 kj26 t449 t450 t451 t452 t456 t457 t458 t459 t462 t463 t466 t467 t470 t471 0 t449) else (laws_FnOrdersTurn.j3 kj26 t456 t457 t458 t459 t462 t463 t466 t467 t470 t471)) else (some false))) else (some false))) else (some false))) else (some false))) else (some false)))) = some true := H
    have A83 := Aside0.mk A830
    clear A830
    replace H := Option.bind_eq_some_iff.mp H
    obtain ⟨⟨t477, t478⟩, A840, H⟩ := H
    replace H : (if (t453 != t455) = true then (some false) else (if t452.toList = t454.toList then (if (t459 != t461) = true then (some false) else (if t458.toList = t460.toList then (if (t463 != t465) = true then (some false) else (if t462.toList = t464.toList then (if (t471 != t473) = true then (some false) else (if t470.toList = t472.toList then (if (t476 != t478) = true then (some false) else (if t475 = t477 then (if t453 = true then (laws_FnOrdersTurn.l1 kj26 t449 t450 t451 t452 t456 t457 t458 t459 t462 t463 t466 t467 t470 t471 0 t449) else (laws_FnOrdersTurn.j3 kj26 t456 t457 t458 t459 t462 t463 t466 t467 t470 t471)) else (some false))) else (some false))) else (some false))) else (some false))) else (some false))) = some true := H
    have A84 := Aside0.mk A840
    clear A840
    by_cases c85 : (t453 != t455) = true
    ·rw [if_pos c85] at H; exact absurd H (by simp)
    rw [if_neg c85] at H
    have c85b0 : (t453 != t455) = false := by simpa using c85
    (try (have c85b1 : decide (t453 = t455) = true := by simpa using c85))
    (try (have c85b2 : (t453 == t455) = true := by simpa using c85))
    clear c85
    by_cases c86 : t452.toList = t454.toList
    rotate_left
    ·rw [if_neg c86] at H; exact absurd H (by simp)
    rw [if_pos c86] at H
    have c86b0 : (t452.toList == t454.toList) = true := beq_iff_eq.mpr c86
    have c86b1 : (t452.toList != t454.toList) = false := bne_eq_false_iff_eq.mpr c86
    clear c86
    by_cases c87 : (t459 != t461) = true
    ·rw [if_pos c87] at H; exact absurd H (by simp)
    rw [if_neg c87] at H
    have c87b0 : (t459 != t461) = false := by simpa using c87
    (try (have c87b1 : decide (t459 = t461) = true := by simpa using c87))
    (try (have c87b2 : (t459 == t461) = true := by simpa using c87))
    clear c87
    by_cases c88 : t458.toList = t460.toList
    rotate_left
    ·rw [if_neg c88] at H; exact absurd H (by simp)
    rw [if_pos c88] at H
    have c88b0 : (t458.toList == t460.toList) = true := beq_iff_eq.mpr c88
    have c88b1 : (t458.toList != t460.toList) = false := bne_eq_false_iff_eq.mpr c88
    clear c88
    by_cases c89 : (t463 != t465) = true
    ·rw [if_pos c89] at H; exact absurd H (by simp)
    rw [if_neg c89] at H
    have c89b0 : (t463 != t465) = false := by simpa using c89
    (try (have c89b1 : decide (t463 = t465) = true := by simpa using c89))
    (try (have c89b2 : (t463 == t465) = true := by simpa using c89))
    clear c89
    by_cases c90 : t462.toList = t464.toList
    rotate_left
    ·rw [if_neg c90] at H; exact absurd H (by simp)
    rw [if_pos c90] at H
    have c90b0 : (t462.toList == t464.toList) = true := beq_iff_eq.mpr c90
    have c90b1 : (t462.toList != t464.toList) = false := bne_eq_false_iff_eq.mpr c90
    clear c90
    by_cases c91 : (t471 != t473) = true
    ·rw [if_pos c91] at H; exact absurd H (by simp)
    rw [if_neg c91] at H
    have c91b0 : (t471 != t473) = false := by simpa using c91
    (try (have c91b1 : decide (t471 = t473) = true := by simpa using c91))
    (try (have c91b2 : (t471 == t473) = true := by simpa using c91))
    clear c91
    by_cases c92 : t470.toList = t472.toList
    rotate_left
    ·rw [if_neg c92] at H; exact absurd H (by simp)
    rw [if_pos c92] at H
    have c92b0 : (t470.toList == t472.toList) = true := beq_iff_eq.mpr c92
    have c92b1 : (t470.toList != t472.toList) = false := bne_eq_false_iff_eq.mpr c92
    clear c92
    by_cases c93 : (t476 != t478) = true
    ·rw [if_pos c93] at H; exact absurd H (by simp)
    rw [if_neg c93] at H
    have c93b0 : (t476 != t478) = false := by simpa using c93
    (try (have c93b1 : decide (t476 = t478) = true := by simpa using c93))
    (try (have c93b2 : (t476 == t478) = true := by simpa using c93))
    clear c93
    by_cases c94 : t475 = t477
    rotate_left
    ·rw [if_neg c94] at H; exact absurd H (by simp)
    rw [if_pos c94] at H
    have c94b0 : (t475 == t477) = true := beq_iff_eq.mpr c94
    have c94b1 : (t475 != t477) = false := bne_eq_false_iff_eq.mpr c94
    clear c94
    have HC95 := Aside0.mk H
    clear H
    go_upto_if 421 with (first | ((with_reducible refine gate_callee (f := 21) rfl ?_); refine goesL_ (some 297) rfl rfl Tryd.func21 (by kernel_rfl) rfl #[.slice A1 l1.length c1] rfl (by (try simp only [List.map_toArray, List.map_cons, List.map_nil]); first | done | rfl | (simp only [List.length_drop, List.length_take]; rfl)) ?_; (with_reducible refine (spec_DrawTurnRun.calls kj26 _ _ l1 t449 t450 t451 _ ?side1 ?side2 A71.out).mono ?_); (case side1 => repeat (first | exact (Kd.C_below HR1.out HB.out) | (with_reducible refine Kd.C_alloc ?_ _) | (with_reducible refine Kd.C_drewN ?_ _) | (with_reducible refine Kd.C_drew ?_))); (case side2 => exact HC1.out); rintro e w96 ⟨rfl, hb⟩; refine ⟨_, rfl, ?_⟩; have n0_ := Aside0.mk (below_step (by repeat (first | (with_reducible first | exact HB.out | apply below_alloc | apply pw_below_drewN | apply below_drew1) | exact HB.out)) hb); clear HB; have HB := n0_; clear n0_; (try clear hb); (try clear hb2); (try clear hk); (try clear hi)) | ((with_reducible refine gate_callee (f := 20) rfl ?_); refine goesL_ (some 305) rfl rfl Tryd.func20 (by kernel_rfl) rfl #[.string t449, .int .i64 t450, .int .i64 t451] rfl (by (try simp only [List.map_toArray, List.map_cons, List.map_nil]); first | done | rfl | (simp only [List.length_drop, List.length_take]; rfl)) ?_; (with_reducible refine (impl_TurnRun.calls t449 t450 t451 t452 t453 _ ?side1 A72.out).mono ?_); (case side1 => exact Shd.below HSh.out (by repeat (first | (with_reducible first | exact HB.out | apply below_alloc | apply pw_below_drewN | apply below_drew1) | exact HB.out))); rintro e w97 ⟨rfl, hb⟩; refine ⟨_, rfl, ?_⟩; have n0_ := Aside0.mk (below_step (by repeat (first | (with_reducible first | exact HB.out | apply below_alloc | apply pw_below_drewN | apply below_drew1) | exact HB.out)) hb); clear HB; have HB := n0_; clear n0_; (try clear hb); (try clear hb2); (try clear hk); (try clear hi)) | ((with_reducible refine gate_callee (f := 22) rfl ?_); refine goesL_ (some 312) rfl rfl Tryd.func22 (by kernel_rfl) rfl #[.string t449, .int .i64 t450, .int .i64 t451] rfl (by (try simp only [List.map_toArray, List.map_cons, List.map_nil]); first | done | rfl | (simp only [List.length_drop, List.length_take]; rfl)) ?_; (with_reducible refine (spec_TurnRun.calls kj26 t449 t450 t451 t454 t455 _ A73.out).mono ?_); rintro e w' ⟨rfl, ⟨nd, rfl⟩⟩; refine ⟨_, rfl, ?_⟩) | ((with_reducible refine gate_callee (f := 23) rfl ?_); refine goesL_ (some 317) rfl rfl Tryd.func23 (by kernel_rfl) rfl #[.slice A1 l1.length c1] rfl (by (try simp only [List.map_toArray, List.map_cons, List.map_nil]); first | done | rfl | (simp only [List.length_drop, List.length_take]; rfl)) ?_; (with_reducible refine (spec_DrawTurnFirst.calls kj26 _ _ l1 t456 t457 _ ?side1 ?side2 A74.out).mono ?_); (case side1 => repeat (first | exact (Kd.C_below HR1.out (by repeat (first | (with_reducible first | exact HB.out | apply below_alloc | apply pw_below_drewN | apply below_drew1) | exact HB.out))) | (with_reducible refine Kd.C_alloc ?_ _) | (with_reducible refine Kd.C_drewN ?_ _) | (with_reducible refine Kd.C_drew ?_))); (case side2 => exact HC1.out); rintro e w98 ⟨rfl, hb⟩; refine ⟨_, rfl, ?_⟩; have n0_ := Aside0.mk (below_step (by repeat (first | (with_reducible first | exact HB.out | apply below_alloc | apply pw_below_drewN | apply below_drew1) | exact HB.out)) hb); clear HB; have HB := n0_; clear n0_; (try clear hb); (try clear hb2); (try clear hk); (try clear hi)) | ((with_reducible refine gate_callee (f := 19) rfl ?_); refine goesL_ (some 323) rfl rfl Tryd.func19 (by kernel_rfl) rfl #[.string t456, .int .i64 t457] rfl (by (try simp only [List.map_toArray, List.map_cons, List.map_nil]); first | done | rfl | (simp only [List.length_drop, List.length_take]; rfl)) ?_; (with_reducible refine (impl_TurnFirst.calls t456 t457 t458 t459 _ ?side1 A75.out).mono ?_); (case side1 => exact Shd.below HSh.out (by repeat (first | (with_reducible first | exact HB.out | apply below_alloc | apply pw_below_drewN | apply below_drew1) | exact HB.out))); rintro e w99 ⟨rfl, hb⟩; refine ⟨_, rfl, ?_⟩; have n0_ := Aside0.mk (below_step (by repeat (first | (with_reducible first | exact HB.out | apply below_alloc | apply pw_below_drewN | apply below_drew1) | exact HB.out)) hb); clear HB; have HB := n0_; clear n0_; (try clear hb); (try clear hb2); (try clear hk); (try clear hi)) | ((with_reducible refine gate_callee (f := 24) rfl ?_); refine goesL_ (some 329) rfl rfl Tryd.func24 (by kernel_rfl) rfl #[.string t456, .int .i64 t457] rfl (by (try simp only [List.map_toArray, List.map_cons, List.map_nil]); first | done | rfl | (simp only [List.length_drop, List.length_take]; rfl)) ?_; (with_reducible refine (spec_TurnFirst.calls kj26 t456 t457 t460 t461 _ A76.out).mono ?_); rintro e w' ⟨rfl, ⟨nd, rfl⟩⟩; refine ⟨_, rfl, ?_⟩) | ((with_reducible refine gate_callee (f := 25) rfl ?_); refine goesL_ (some 335) rfl rfl Tryd.func25 (by kernel_rfl) rfl #[.string t456, .int .i64 t457] rfl (by (try simp only [List.map_toArray, List.map_cons, List.map_nil]); first | done | rfl | (simp only [List.length_drop, List.length_take]; rfl)) ?_; (with_reducible refine (impl_TurnAround.calls t456 t457 t462 t463 _ ?side1 A77.out).mono ?_); (case side1 => exact Shd.below HSh.out (by repeat (first | (with_reducible first | exact HB.out | apply below_alloc | apply pw_below_drewN | apply below_drew1) | exact HB.out))); rintro e w100 ⟨rfl, hb⟩; refine ⟨_, rfl, ?_⟩; have n0_ := Aside0.mk (below_step (by repeat (first | (with_reducible first | exact HB.out | apply below_alloc | apply pw_below_drewN | apply below_drew1) | exact HB.out)) hb); clear HB; have HB := n0_; clear n0_; (try clear hb); (try clear hb2); (try clear hk); (try clear hi)) | ((with_reducible refine gate_callee (f := 26) rfl ?_); refine goesL_ (some 341) rfl rfl Tryd.func26 (by kernel_rfl) rfl #[.string t456, .int .i64 t457] rfl (by (try simp only [List.map_toArray, List.map_cons, List.map_nil]); first | done | rfl | (simp only [List.length_drop, List.length_take]; rfl)) ?_; (with_reducible refine (spec_TurnAround.calls kj26 t456 t457 t464 t465 _ A78.out).mono ?_); rintro e w' ⟨rfl, ⟨nd, rfl⟩⟩; refine ⟨_, rfl, ?_⟩) | ((with_reducible refine gate_callee (f := 27) rfl ?_); refine goesL_ (some 346) rfl rfl Tryd.func27 (by kernel_rfl) rfl #[.slice A1 l1.length c1] rfl (by (try simp only [List.map_toArray, List.map_cons, List.map_nil]); first | done | rfl | (simp only [List.length_drop, List.length_take]; rfl)) ?_; (with_reducible refine (spec_DrawPlayRuns.calls kj26 _ _ l1 t466 t467 _ ?side1 ?side2 A79.out).mono ?_); (case side1 => repeat (first | exact (Kd.C_below HR1.out (by repeat (first | (with_reducible first | exact HB.out | apply below_alloc | apply pw_below_drewN | apply below_drew1) | exact HB.out))) | (with_reducible refine Kd.C_alloc ?_ _) | (with_reducible refine Kd.C_drewN ?_ _) | (with_reducible refine Kd.C_drew ?_))); (case side2 => exact HC1.out); rintro e w101 ⟨v468, rfl, ho0, hb⟩; refine ⟨_, rfl, ?_⟩; have n0_ := Aside0.mk (Kd.N_lower (Kd.N_mono (ok' := fun k_ => True) ho0 (fun k_ hk_ => trivial)) (below_size (by repeat (first | (with_reducible first | exact HB.out | apply below_alloc | apply pw_below_drewN | apply below_drew1) | exact HB.out)))); have n1_ := Aside0.mk (below_step (by repeat (first | (with_reducible first | exact HB.out | apply below_alloc | apply pw_below_drewN | apply below_drew1) | exact HB.out)) hb); clear HB; have HO469 := n0_; have HB := n1_; clear n0_ n1_; (try clear hb); (try clear hb2); (try clear hk); (try clear hi); (try clear ho0); obtain ⟨Ao102, co102, eo102⟩ := Kd.N_slice HO469.out; subst eo102) | ((with_reducible refine gate_callee (f := 16) rfl ?_); refine goesL_ (some 352) rfl rfl Tryd.func16 (by kernel_rfl) rfl #[.string t466, .slice Ao102 t467.length co102] rfl (by (try simp only [List.map_toArray, List.map_cons, List.map_nil]); first | done | rfl | (simp only [List.length_drop, List.length_take]; rfl)) ?_; (with_reducible refine (impl_PlayRuns.calls kj26 t466 _ _ t467 t470 t471 _ ?side1 ?side2 ?side3 A80.out).mono ?_); (case side1 => repeat (first | exact (Kd.N_reads' HO469.out).2.2 | (with_reducible refine Kd.C_alloc ?_ _) | (with_reducible refine Kd.C_drewN ?_ _) | (with_reducible refine Kd.C_drew ?_))); (case side2 => exact (Kd.N_reads' HO469.out).2.1); (case side3 => exact Shd.below HSh.out (by repeat (first | (with_reducible first | exact HB.out | apply below_alloc | apply pw_below_drewN | apply below_drew1) | exact HB.out))); rintro e w103 ⟨rfl, hb⟩; refine ⟨_, rfl, ?_⟩; have n0_ := Aside0.mk (Kd.N_below (by (with_reducible repeat (first | apply Kd.N_alloc | apply Kd.N_drewN | apply Kd.N_drew)); exact HO469.out) hb); have n1_ := Aside0.mk (below_step (by repeat (first | (with_reducible first | exact HB.out | apply below_alloc | apply pw_below_drewN | apply below_drew1) | exact HB.out)) hb); clear HO469; clear HB; have HO469 := n0_; have HB := n1_; clear n0_ n1_; (try clear hb); (try clear hb2); (try clear hk); (try clear hi)) | ((with_reducible refine gate_callee (f := 28) rfl ?_); refine goesL_ (some 358) rfl rfl Tryd.func28 (by kernel_rfl) rfl #[.string t466, .slice Ao102 t467.length co102] rfl (by (try simp only [List.map_toArray, List.map_cons, List.map_nil]); first | done | rfl | (simp only [List.length_drop, List.length_take]; rfl)) ?_; (with_reducible refine (spec_PlayRuns.calls kj26 t466 _ _ t467 t472 t473 _ ?side1 ?side2 A81.out).mono ?_); (case side1 => repeat (first | exact (Kd.N_reads' HO469.out).2.2 | (with_reducible refine Kd.C_alloc ?_ _) | (with_reducible refine Kd.C_drewN ?_ _) | (with_reducible refine Kd.C_drew ?_))); (case side2 => exact (Kd.N_reads' HO469.out).2.1); rintro e w104 ⟨rfl, hb⟩; refine ⟨_, rfl, ?_⟩; have n0_ := Aside0.mk (Kd.N_below (by (with_reducible repeat (first | apply Kd.N_alloc | apply Kd.N_drewN | apply Kd.N_drew)); exact HO469.out) hb); have n1_ := Aside0.mk (below_step (by repeat (first | (with_reducible first | exact HB.out | apply below_alloc | apply pw_below_drewN | apply below_drew1) | exact HB.out)) hb); clear HO469; clear HB; have HO469 := n0_; have HB := n1_; clear n0_ n1_; (try clear hb); (try clear hb2); (try clear hk); (try clear hi)) | ((with_reducible refine gate_callee (f := 29) rfl ?_); refine goesL_ (some 362) rfl rfl Tryd.func29 (by kernel_rfl) rfl #[.slice A1 l1.length c1] rfl (by (try simp only [List.map_toArray, List.map_cons, List.map_nil]); first | done | rfl | (simp only [List.length_drop, List.length_take]; rfl)) ?_; (with_reducible refine (spec_DrawMostRuns.calls _ _ l1 t474 _ ?side1 ?side2 A82.out).mono ?_); (case side1 => repeat (first | exact (Kd.C_below HR1.out HB.out) | (with_reducible refine Kd.C_alloc ?_ _) | (with_reducible refine Kd.C_drewN ?_ _) | (with_reducible refine Kd.C_drew ?_))); (case side2 => exact HC1.out); rintro e w105 ⟨rfl, hb⟩; refine ⟨_, rfl, ?_⟩; have n0_ := Aside0.mk (Kd.N_below (by (with_reducible repeat (first | apply Kd.N_alloc | apply Kd.N_drewN | apply Kd.N_drew)); exact HO469.out) hb); have n1_ := Aside0.mk (below_step (by repeat (first | (with_reducible first | exact HB.out | apply below_alloc | apply pw_below_drewN | apply below_drew1) | exact HB.out)) hb); clear HO469; clear HB; have HO469 := n0_; have HB := n1_; clear n0_ n1_; (try clear hb); (try clear hb2); (try clear hk); (try clear hi)) | ((with_reducible refine gate_callee (f := 17) rfl ?_); refine goesL_ (some 365) rfl rfl Tryd.func17 (by kernel_rfl) rfl #[.int .i64 t474] rfl (by (try simp only [List.map_toArray, List.map_cons, List.map_nil]); first | done | rfl | (simp only [List.length_drop, List.length_take]; rfl)) ?_; (with_reducible refine (impl_MostRuns.calls t474 t475 t476 _ A83.out).mono ?_); rintro e w' ⟨rfl, ⟨nd, rfl⟩⟩; refine ⟨_, rfl, ?_⟩) | ((with_reducible refine gate_callee (f := 30) rfl ?_); refine goesL_ (some 370) rfl rfl Tryd.func30 (by kernel_rfl) rfl #[.int .i64 t474] rfl (by (try simp only [List.map_toArray, List.map_cons, List.map_nil]); first | done | rfl | (simp only [List.length_drop, List.length_take]; rfl)) ?_; (with_reducible refine (spec_MostRuns.calls t474 t477 t478 _ A84.out).mono ?_); rintro e w' ⟨rfl, ⟨nd, rfl⟩⟩; refine ⟨_, rfl, ?_⟩))
    (try simp only [Act.put, List.setIfInBounds_toArray, List.set_cons_zero, List.set_cons_succ])
    refine wp_cutF [none, none, none, none, some 4, none, none, none, none, none, none, none, none, none, none, none, none, none, none, none, none, none, none, none, none, none, none, none, none, none, none, none, none, none, none, none, none, none, none, none, none, none, none, none, none, none, none, none, none, none, none, none, none, none, none, none, none, none, none, none, none, none, none, none, some 64, none, none, none, none, none, none, none, some 72, some 73, some 74, some 75, some 76, some 77, some 78, some 79, some 80, some 81, some 82, some 83, some 84, some 85, some 86, some 87, some 88, some 89, some 90, some 91, some 92, some 93, some 94, some 95, some 96, some 97, some 98, some 99, some 100, some 101, some 102, some 103, some 104, some 105, some 106, some 107, some 108, some 109, some 110, some 111, some 112, some 113, some 114, some 115, some 116, some 117, some 118, some 119, some 120, some 121, some 122, some 123, some 124, some 125, some 126, some 127, some 128, some 129, some 130, some 131, some 132, some 133, some 134, some 135, some 136, some 137, some 138, some 139, some 140, some 141, some 142, some 143, some 144, some 145, some 146, some 147, some 148, some 149, some 150, some 151, some 152, some 153, some 154, some 155, some 156, some 157, some 158, some 159, some 160, some 161, some 162, some 163, some 164, some 165, some 166, some 167, some 168, some 169, some 170, some 171, some 172, some 173, some 174, some 175, some 176, some 177, some 178, some 179, some 180, some 181, some 182, some 183, some 184, some 185, some 186, some 187, some 188, some 189, some 190, some 191, some 192, some 193, some 194, some 195, some 196, some 197, some 198, some 199, some 200, some 201, some 202, some 203, some 204, some 205, some 206, some 207, some 208, some 209, some 210, some 211, some 212, some 213, some 214, some 215, some 216, some 217, some 218, some 219, some 220, some 221, some 222, some 223, some 224, some 225, some 226, some 227, some 228, some 229, some 230, some 231, some 232, some 233, some 234, some 235, some 236, some 237, some 238, some 239, some 240, none, none, none, some 244, some 245, some 246, some 247, some 248, some 249, some 250, some 251, some 252, some 253, some 254, some 255, some 256, some 257, some 258, some 259, some 260, some 261, some 262, some 263, some 264, some 265, some 266, some 267, some 268, some 269, some 270, some 271, some 272, some 273, some 274, some 275, some 276, some 277, some 278, some 279, some 280, some 281, some 282, some 283, some 284, some 285, some 286, some 287, some 288, some 289, some 290, some 291, some 292, some 293, some 294, some 295, some 296, some 297, some 298, some 299, some 300, some 301, some 302, some 303, some 304, some 305, some 306, some 307, some 308, some 309, some 310, some 311, some 312, some 313, some 314, some 315, some 316, some 317, some 318, some 319, some 320, some 321, some 322, some 323, some 324, some 325, some 326, some 327, some 328, some 329, some 330, some 331, some 332, some 333, some 334, some 335, some 336, some 337, some 338, some 339, some 340, some 341, some 342, some 343, some 344, some 345, some 346, some 347, some 348, some 349, some 350, some 351, some 352, some 353, some 354, some 355, some 356, some 357, some 358, some 359, some 360, some 361, some 362, some 363, some 364, some 365, some 366, some 367, some 368, some 369, some 370, some 371, some 372, some 373, some 374, some 375, some 376, some 377, some 378, some 379, some 380, some 381, some 382, some 383, some 384, some 385, some 386, some 387, some 388, some 389, some 390, some 391, some 392, some 393, some 394, some 395, some 396, some 397, some 398, some 399, some 400, some 401, some 402, some 403, some 404, some 405, some 406, some 407, some 408, some 409, some 410, some 411, some 412, some 413, some 414, some 415, some 416, some 417, some 418, some 419, some 420, some 421, some 422, some 423, some 424, some 425, some 426, some 427, some 428, some 429, some 430, some 431, some 432, some 433, some 434, some 435, some 436, some 437, some 438, some 439, some 440, some 441, some 442, some 443, some 444, none, none, some 447, some 448, some 449, some 450, some 451, some 452, some 453, some 454, some 455, some 456, some 457, some 458, some 459, some 460, some 461, none, none, some 464, some 465, some 466, some 467, some 468, some 469, some 470, some 471, some 472, some 473, some 474, some 475, some 476, some 477, some 478, some 479, some 480, some 481, some 482, some 483, some 484, some 485, none, none, none, some 489, some 490, some 491, some 492, some 493, some 494, some 495, some 496, some 497, some 498, some 499, some 500, some 501, some 502, some 503, some 504, some 505, some 506, some 507, some 508, some 509] (by kernel_rfl) (fun V_ wc => ∃ (kq : Nat), Aside0 (laws_FnOrdersTurn.j3 kq t456 t457 t458 t459 t462 t463 t466 t467 t470 t471 = some true) ∧ Aside0 (kq ≤ kj26) ∧ Aside0 (Kd.N (Kd.slice 3 (Kd.int .i64)) 31 wc w.heap.size (fun _ => True) (.slice Ao102 t467.length co102) t467) ∧ Aside0 (Below w.heap.size w wc)) ?first ?rest
    case first =>
     intro _ _ hJj3 _
     have H := HC95.out
     clear HC95
     by_cases c106 : t453 = true
     ·subst c106
      have H1 : (laws_FnOrdersTurn.l1 kj26 t449 t450 t451 t452 t456 t457 t458 t459 t462 t463 t466 t467 t470 t471 0 t449) = some true := by rw [if_pos rfl] at H; exact H
      clear H
      have H := H1
      clear H1
      have H' := Aside0.mk H
      clear H
      go_wp2_with (first | ((with_reducible refine gate_dst (N := 423) rfl ?_); (try (refine gate_guard (by rfl) ?_; dsimp only)); refine range_event ?hg (N := 423) ?hd (s := t449) ?hr ?_; (case hd => rfl); (case hg => rfl); (case hr => first | (go_simp; done) | (go_simp; rfl)); intro gb479 hg w107 hbox hb; have n0_ := Aside0.mk (Kd.N_below (Kd.N_elderB (by (with_reducible repeat (first | apply Kd.N_alloc | apply Kd.N_drewN | apply Kd.N_drew)); exact HO469.out) gb479 (Nat.le_of_eq hg.symm)) hb); have n1_ := Aside0.mk (below_step (by repeat (first | (with_reducible first | exact HB.out | apply below_alloc | apply pw_below_drewN | apply below_drew1) | exact HB.out)) hb); have n2_ := Aside0.mk (hbox); have n3_ := Aside0.mk ((by rw [hg]; exact (below_size (by repeat (first | (with_reducible first | exact HB.out | apply below_alloc | apply pw_below_drewN | apply below_drew1) | exact HB.out))) : w.heap.size ≤ gb479)); have n4_ := Aside0.mk ((by rw [hg]; exact (below_size (by repeat (first | (with_reducible first | exact HB.out | apply below_alloc | apply pw_below_drewN | apply below_drew1) | exact HB.out))) : w.heap.size ≤ gb479)); clear HO469; clear HB; have HO469 := n0_; have HB := n1_; have BK479 := n2_; have GW479 := n3_; have GE479 := n4_; clear n0_ n1_ n2_ n3_ n4_; clear hb hbox hg))
      (try simp only [Act.put, List.setIfInBounds_toArray, List.set_cons_zero, List.set_cons_succ])
      refine wp_loopF [none, none, none, none, some 4, none, none, none, none, none, none, none, none, none, none, none, none, none, none, none, none, none, none, none, none, none, none, none, none, none, none, none, none, none, none, none, none, none, none, none, none, none, none, none, none, none, none, none, none, none, none, none, none, none, none, none, none, none, none, none, none, none, none, none, some 64, none, none, none, none, none, none, none, none, none, none, none, none, none, none, none, none, none, none, none, none, none, none, none, none, none, none, none, none, none, none, none, none, none, none, none, none, none, none, none, none, none, none, none, none, none, none, none, none, none, none, none, none, none, none, none, none, none, none, none, none, none, none, none, none, none, none, none, none, none, none, none, none, none, none, none, none, none, none, none, none, none, none, none, none, none, none, none, none, none, none, none, none, none, none, none, none, none, none, none, none, none, none, none, none, none, none, none, none, none, none, none, none, none, none, none, none, none, none, none, none, none, none, none, none, none, none, none, none, none, none, none, none, none, none, none, none, none, none, none, none, none, none, none, none, none, none, none, none, none, none, none, none, none, none, none, none, none, none, none, none, none, none, none, none, none, none, none, none, none, none, none, none, none, none, none, none, none, none, none, none, none, none, none, none, none, none, none, none, none, none, none, none, none, none, none, none, none, none, none, none, none, none, none, none, none, none, none, none, none, none, none, none, none, none, none, none, none, none, none, none, none, none, none, none, none, none, none, none, none, none, none, none, none, none, none, none, none, none, none, none, none, none, none, none, none, none, none, none, none, none, none, none, none, none, none, none, none, none, none, none, none, none, none, none, none, none, none, none, none, none, none, none, none, none, none, none, none, none, none, none, none, none, none, none, none, none, none, none, none, none, none, none, none, none, none, none, none, none, none, none, none, none, none, none, none, none, none, none, none, none, none, none, none, none, none, none, none, none, none, none, none, none, none, none, none, none, none, none, none, none, none, none, none, none, none, none, none, none, none, none, none, none, none, none, none, none, none, none, none, none, none, none, none, none, none, none, none, none, none, some 424, some 425, some 426, some 427, some 428, some 429, some 430, some 431, some 432, some 433, some 434, some 435, some 436, some 437, some 438, some 439, some 440, some 441, some 442, none, none, none, none, none, none, none, none, none, none, none, none, none, none, none, none, none, none, none, none, none, none, none, none, none, none, none, none, none, none, none, none, none, none, none, none, none, none, none, none, none, none, none, none, none, none, none, none, none, none, none, none, none, none, none, none, none, none, none, none, none, none, none, none, none, none, none] (by kernel_rfl) kj26 (fun kq V_ w' => ∃ (x480000_2 : Int), Aside0 (laws_FnOrdersTurn.l1 kq t449 t450 t451 t452 t456 t457 t458 t459 t462 t463 t466 t467 t470 t471 x480000_2 t449 = some true) ∧ Aside0 (kq ≤ kj26) ∧ Aside0 (Kd.N (Kd.slice 3 (Kd.int .i64)) 31 w' w.heap.size (fun k_ => k_ ≠ gb479) (.slice Ao102 t467.length co102) t467) ∧ Aside0 (w'.heap[gb479]? = some (.stringIter t449 (x480000_2 : Int).toNat)) ∧ Aside0 (Below w.heap.size w w')) (by rfl) ?atStart ?round
      case atStart => exact ⟨(0), H', ⟨Nat.le_refl _⟩, ⟨by (with_reducible repeat (first | apply Kd.N_alloc | apply Kd.N_drewN | apply Kd.N_drew)); exact Kd.N_mono HO469.out (fun _ hk => hk.2)⟩, ⟨by (with_reducible repeat (first | refine blk_drewN ?_ _ | refine blk_drew ?_ | refine blk_alloc ?_ _)); exact BK479.out⟩, ⟨by repeat (first | (with_reducible first | exact HB.out | apply below_alloc | apply pw_below_drewN | apply below_drew1 | refine below_set ?_ GE479.out) | exact HB.out)⟩⟩
      case round =>
       clear H'
       intro gk V_ wr hrel _ _ hJl1 _
       dsimp only [forg]
       (try clear c1); (try clear c2); (try clear p2); (try clear c3); (try clear c4); (try clear p4); (try clear q4); (try clear hx4); (try clear c5); (try clear c6); (try clear p6); (try clear c7); (try clear c8); (try clear c9); (try clear c10); (try clear c11); (try clear c12); (try clear c13); (try clear c14); (try clear c14b0); (try clear c14b1); (try clear c14b2); (try clear c16); (try clear c17); (try clear c17b0); (try clear c17b1); (try clear c17b2); (try clear c18); (try clear c18b0); (try clear c18b1); (try clear c19); (try clear c19b0); (try clear c19b1); (try clear c19b2); (try clear c20); (try clear c21); (try clear c22); (try clear c22b0); (try clear c22b1); (try clear c22b2); (try clear c23); (try clear c23b0); (try clear c23b1); (try clear c24); (try clear c24b0); (try clear c24b1); (try clear c24b2); (try clear c25); (try clear c25b0); (try clear c25b1); (try clear c25b2)
       (try clear c26); (try clear c26b0); (try clear c26b1); (try clear c26b2); (try clear c27); (try clear c28); (try clear c29); (try clear c30); (try clear c41); (try clear c44); (try clear p44); (try clear q44); (try clear hx44); (try clear c45); (try clear c45b0); (try clear c45b1); (try clear c46); (try clear c46b0); (try clear c46b1); (try clear c47); (try clear c48); (try clear c48b0); (try clear c49); (try clear c49b0); (try clear c49b1); (try clear c51); (try clear c52); (try clear c52b0); (try clear c53); (try clear c53b0); (try clear c55); (try clear c55b0); (try clear c56); (try clear c56b0); (try clear c57); (try clear c57b0); (try clear c59); (try clear c61); (try clear c61b0); (try clear c61b1); (try clear c62); (try clear c62b0); (try clear c62b1); (try clear p64); (try clear c65); (try clear c66); (try clear c67); (try clear c67b0); (try clear c68); (try clear c68b0); (try clear c85)
       (try clear c85b0); (try clear c85b1); (try clear c85b2); (try clear c86); (try clear c86b0); (try clear c86b1); (try clear c87); (try clear c87b0); (try clear c87b1); (try clear c87b2); (try clear c88); (try clear c88b0); (try clear c88b1); (try clear c89); (try clear c89b0); (try clear c89b1); (try clear c89b2); (try clear c90); (try clear c90b0); (try clear c90b1); (try clear c91); (try clear c91b0); (try clear c91b1); (try clear c91b2); (try clear c92); (try clear c92b0); (try clear c92b1); (try clear c93); (try clear c93b0); (try clear c93b1); (try clear c93b2); (try clear c94); (try clear c94b0); (try clear c94b1); (try clear c106); (try clear hx442_0); (try clear p2); (try clear p4); (try clear p44); (try clear p442); (try clear p6); (try clear p64); (try clear q4); (try clear q44); (try clear q442)
       obtain ⟨x480000_2, HA, HK2, HO_54, BK479, HB⟩ := hrel
       cases gk with
       | zero => exact absurd HA.out (by simp [laws_FnOrdersTurn.l1])
       | succ k2 =>
        have H := HA.out
        clear HA
        simp only [laws_FnOrdersTurn.l1] at H
        by_cases c108 : x480000_2 < (t449.size : Int)
        ·rw [if_pos c108] at H
         have c108b0 : decide (x480000_2 < (t449.size : Int)) = true := decide_eq_true c108
         clear c108
         (first | rw [c108b0] | (simp only [i64_w, i32_w]; rw [c108b0]) | skip)
         by_cases c109 : 0 ≤ x480000_2
         rotate_left
         ·rw [if_neg c109] at H; exact absurd H (by simp)
         rw [if_pos c109] at H
         have c109b0 : decide (0 ≤ x480000_2) = true := decide_eq_true c109
         clear c109
         by_cases c110 : bt t449 x480000_2 < 128
         rotate_left
         ·rw [if_neg c110] at H; exact absurd H (by simp)
         rw [if_pos c110] at H
         have c110b0 : decide (bt t449 x480000_2 < 128) = true := decide_eq_true c110
         clear c110
         by_cases c111 : x480000_2 < (t452.size : Int)
         rotate_left
         ·rw [if_neg c111] at H; exact absurd H (by simp)
         rw [if_pos c111] at H
         have c111b0 : decide (x480000_2 < (t452.size : Int)) = true := decide_eq_true c111
         clear c111
         by_cases c113 : x480000_2 < (t449.size : Int)
         rotate_left
         ·rw [if_neg c113] at H; exact absurd H (by simp)
         rw [if_pos c113] at H
         have c113b0 : decide (x480000_2 < (t449.size : Int)) = true := decide_eq_true c113
         clear c113
         by_cases c115 : x480000_2 ≥ t450
         ·rw [if_pos c115] at H
          have c115b0 : decide (t450 ≤ x480000_2) = true := decide_eq_true c115
          clear c115
          by_cases c116 : (((bt t452 x480000_2) != (bt t449 x480000_2)) != (decide (x480000_2 ≤ t451))) = true
          ·rw [if_pos c116] at H; exact absurd H (by simp)
          rw [if_neg c116] at H
          have c116b0 : (((bt t452 x480000_2) != (bt t449 x480000_2)) != (decide (x480000_2 ≤ t451))) = false := by simpa using c116
          (try (have c116b1 : decide (((bt t452 x480000_2) != (bt t449 x480000_2)) = (decide (x480000_2 ≤ t451))) = true := by simpa using c116))
          (try (have c116b2 : (((bt t452 x480000_2) != (bt t449 x480000_2)) == (decide (x480000_2 ≤ t451))) = true := by simpa using c116))
          clear c116
          have H' := Aside0.mk H
          clear H
          try go_wp2_with (first | ((with_reducible refine gate_dst (N := 424) rfl ?_); (try (refine gate_guard (by rfl) ?_; dsimp only)); refine next_event ?hg (N := 424) ?hd (it := 423) (g := gb479) (s := t449) (p := x480000_2) ?hc ?ho ?hi (of_decide_eq_true (by first | (with_reducible assumption) | assumption | (simp only [decide_eq_true_eq]; omega))) (of_decide_eq_true (by first | (with_reducible assumption) | assumption | (simp only [decide_eq_true_eq]; omega))) (of_decide_eq_true (by first | (with_reducible assumption) | assumption | (simp only [decide_eq_true_eq]; omega))) ?_; (case hd => rfl); (case hg => rfl); (case hc => exact (by (with_reducible repeat (first | refine blk_drewN ?_ _ | refine blk_drew ?_ | refine blk_alloc ?_ _)); exact BK479.out)); (case ho => rfl); (case hi => rfl); intro w117 hbox hgr; have n0_ := Aside0.mk (Kd.N_grown (ok := fun k_ => k_ ≠ gb479) (by (with_reducible repeat (first | apply Kd.N_alloc | apply Kd.N_drewN | apply Kd.N_drew)); exact HO_54.out) hgr (fun k_ hk_ e_ => (hk_) (Option.some.inj e_))); have n1_ := Aside0.mk (hbox); have n2_ := Aside0.mk (Below.grown (by repeat (first | (with_reducible first | exact HB.out | apply below_alloc | apply pw_below_drewN | apply below_drew1 | refine below_set ?_ GE479.out) | exact HB.out)) hgr (below_size (by repeat (first | (with_reducible first | exact HB.out | apply below_alloc | apply pw_below_drewN | apply below_drew1 | refine below_set ?_ GE479.out) | exact HB.out))) (fun k_ e_ => by rw [← Option.some.inj e_]; exact GE479.out)); clear HO_54; clear BK479; clear HB; have HO_54 := n0_; have BK479 := n1_; have HB := n2_; clear n0_ n1_ n2_; clear hbox hgr))
          have n0_ := Aside0.mk (Kd.N_drew HO_54.out)
          have n1_ := Aside0.mk (blk_drew BK479.out)
          have n2_ := Aside0.mk (below_drew1 HB.out)
          clear HO_54
          clear BK479
          clear HB
          have HO_54 := n0_
          have BK479 := n1_
          have HB := n2_
          clear n0_ n1_ n2_
          have p112 : 0 ≤ (x480000_2 : Int) := of_decide_eq_true (by first | (with_reducible assumption) | assumption)
          have q112 : x480000_2 < (t452.size : Int) := of_decide_eq_true (by first | (with_reducible assumption) | assumption)
          have hx112 := bt_at t452 x480000_2
          replace p112 := eq_true p112
          replace q112 := eq_true q112
          have p114 : 0 ≤ (x480000_2 : Int) := of_decide_eq_true (by first | (with_reducible assumption) | assumption)
          have q114 : x480000_2 < (t449.size : Int) := of_decide_eq_true (by first | (with_reducible assumption) | assumption)
          have hx114 := bt_at t449 x480000_2
          replace p114 := eq_true p114
          replace q114 := eq_true q114
          refine start_ (n := 16) (S := fun w' => True) (ds := []) #[false, false, false, false, false, false, false, false, false, false, false, false, false, false, false, false] (by kernel_rfl) rfl rfl trivial (fun hHeld => ?_); refine with_tabW laws_FnOrdersTurn.tab55 laws_FnOrdersTurn.bits55 (fun HT_ HW_ => ?_)
          generalize w117.drew = w118 at HO_54 BK479 HB hHeld ⊢
          refine pure_ (i := 0) (N := some 427) (v := ?_) (a' := ?_) #[true, false, false, false, false, false, false, false, false, false, false, false, false, false, false, false] rfl rfl (any_of HT_.out (by kernel_rfl)) (fun _ _ _ h => h) (Or.inl ⟨by rfl, ?_⟩) ?_ ?_
          rotate_left
          ·intro w'
           go_simp
           with_reducible rfl
          rotate_left
          ·simp only [Act.put, List.setIfInBounds_toArray, List.set_cons_zero, List.set_cons_succ, i64_w, i32_w]
           rfl
          refine pure_ (i := 1) (N := some 428) (v := ?_) (a' := ?_) #[true, true, false, false, false, false, false, false, false, false, false, false, false, false, false, false] rfl rfl (any_of HT_.out (by kernel_rfl)) (fun _ _ _ h => h) (Or.inl ⟨by rfl, ?_⟩) ?_ ?_
          rotate_left
          ·intro w'
           go_simp
           with_reducible rfl
          rotate_left
          ·simp only [Act.put, List.setIfInBounds_toArray, List.set_cons_zero, List.set_cons_succ, i64_w, i32_w]
           rfl
          refine pure_ (i := 3) (N := some 430) (v := ?_) (a' := ?_) #[true, true, false, true, false, false, false, false, false, false, false, false, false, false, false, false] rfl rfl (any_of HT_.out (by kernel_rfl)) (fun _ _ _ h => h) (Or.inl ⟨by rfl, ?_⟩) ?_ ?_
          rotate_left
          ·intro w'
           go_simp
           with_reducible rfl
          rotate_left
          ·simp only [Act.put, List.setIfInBounds_toArray, List.set_cons_zero, List.set_cons_succ, i64_w, i32_w]
           rfl
          refine pure_ (i := 4) (N := some 431) (v := ?_) (a' := ?_) #[true, true, false, true, true, false, false, false, false, false, false, false, false, false, false, false] rfl rfl (any_of HT_.out (by kernel_rfl)) (fun _ _ _ h => h) (Or.inl ⟨by rfl, ?_⟩) ?_ ?_
          rotate_left
          ·intro w'
           go_simp
           with_reducible rfl
          rotate_left
          ·simp only [Act.put, List.setIfInBounds_toArray, List.set_cons_zero, List.set_cons_succ, i64_w, i32_w]
           rfl
          refine pure_ (i := 7) (N := some 434) (v := ?_) (a' := ?_) #[true, true, false, true, true, false, false, true, false, false, false, false, false, false, false, false] rfl rfl (any_of HT_.out (by kernel_rfl)) (fun _ _ _ h => h) (Or.inl ⟨by rfl, ?_⟩) ?_ ?_
          rotate_left
          ·intro w'
           go_simp
           with_reducible rfl
          rotate_left
          ·simp only [Act.put, List.setIfInBounds_toArray, List.set_cons_zero, List.set_cons_succ, i64_w, i32_w]
           rfl
          refine pure_ (i := 8) (N := some 435) (v := ?_) (a' := ?_) #[true, true, false, true, true, false, false, true, true, false, false, false, false, false, false, false] rfl rfl (any_of HT_.out (by kernel_rfl)) (fun _ _ _ h => h) (Or.inl ⟨by rfl, ?_⟩) ?_ ?_
          rotate_left
          ·intro w'
           go_simp
           with_reducible rfl
          rotate_left
          ·simp only [Act.put, List.setIfInBounds_toArray, List.set_cons_zero, List.set_cons_succ, i64_w, i32_w]
           rfl
          refine pure_ (i := 9) (N := some 436) (v := ?_) (a' := ?_) #[true, true, false, true, true, false, false, true, true, true, false, false, false, false, false, false] rfl rfl (any_of HT_.out (by kernel_rfl)) (fun _ _ _ h => h) (Or.inl ⟨by rfl, ?_⟩) ?_ ?_
          rotate_left
          ·intro w'
           go_simp
           with_reducible rfl
          rotate_left
          ·simp only [Act.put, List.setIfInBounds_toArray, List.set_cons_zero, List.set_cons_succ, i64_w, i32_w]
           rfl
          refine pure_ (i := 10) (N := some 437) (v := ?_) (a' := ?_) #[true, true, false, true, true, false, false, true, true, true, true, false, false, false, false, false] rfl rfl (any_of HT_.out (by kernel_rfl)) (fun _ _ _ h => h) (Or.inl ⟨by rfl, ?_⟩) ?_ ?_
          rotate_left
          ·intro w'
           go_simp
           with_reducible rfl
          rotate_left
          ·simp only [Act.put, List.setIfInBounds_toArray, List.set_cons_zero, List.set_cons_succ, i64_w, i32_w]
           rfl
          refine pure_ (i := 11) (N := some 438) (v := ?_) (a' := ?_) #[true, true, false, true, true, false, false, true, true, true, true, true, false, false, false, false] rfl rfl (any_of HT_.out (by kernel_rfl)) (fun _ _ _ h => h) (Or.inl ⟨by rfl, ?_⟩) ?_ ?_
          rotate_left
          ·intro w'
           go_simp
           with_reducible rfl
          rotate_left
          ·simp only [Act.put, List.setIfInBounds_toArray, List.set_cons_zero, List.set_cons_succ, i64_w, i32_w]
           rfl
          refine pure_ (i := 12) (N := some 439) (v := ?_) (a' := ?_) #[true, true, false, true, true, false, false, true, true, true, true, true, true, false, false, false] rfl rfl (any_of HT_.out (by kernel_rfl)) (fun _ _ _ h => h) (Or.inl ⟨by rfl, ?_⟩) ?_ ?_
          rotate_left
          ·intro w'
           go_simp
           with_reducible rfl
          rotate_left
          ·simp only [Act.put, List.setIfInBounds_toArray, List.set_cons_zero, List.set_cons_succ, i64_w, i32_w]
           rfl
          refine pure_ (i := 13) (N := some 440) (v := ?_) (a' := ?_) #[true, true, false, true, true, false, false, true, true, true, true, true, true, true, false, false] rfl rfl (any_of HT_.out (by kernel_rfl)) (fun _ _ _ h => h) (Or.inl ⟨by rfl, ?_⟩) ?_ ?_
          rotate_left
          ·intro w'
           go_simp
           with_reducible rfl
          rotate_left
          ·simp only [Act.put, List.setIfInBounds_toArray, List.set_cons_zero, List.set_cons_succ, i64_w, i32_w]
           rfl
          refine pure_ (i := 14) (N := some 441) (v := ?_) (a' := ?_) #[true, true, false, true, true, false, false, true, true, true, true, true, true, true, true, false] rfl rfl (any_of HT_.out (by kernel_rfl)) (fun _ _ _ h => h) (Or.inl ⟨by rfl, ?_⟩) ?_ ?_
          rotate_left
          ·intro w'
           go_simp
           with_reducible rfl
          rotate_left
          ·simp only [Act.put, List.setIfInBounds_toArray, List.set_cons_zero, List.set_cons_succ, i64_w, i32_w]
           rfl
          refine take_ (i := 2) (N := some 429) (v := ?_) (a' := ?_) #[true, true, true, true, true, false, false, true, true, true, true, true, true, true, true, false] rfl rfl (take_ofW HT_.out HW_.out (by kernel_rfl)) (fun _ _ _ h => h) (Or.inl ⟨by rfl, ?_⟩) hHeld ?_ ?_
          rotate_left
          ·intro w' _
           go_simp
           with_reducible rfl
          rotate_left
          ·simp only [Act.put, List.setIfInBounds_toArray, List.set_cons_zero, List.set_cons_succ, i64_w, i32_w]
           rfl
          refine take_ (i := 5) (N := some 432) (v := ?_) (a' := ?_) #[true, true, true, true, true, true, false, true, true, true, true, true, true, true, true, false] rfl rfl (take_ofW HT_.out HW_.out (by kernel_rfl)) (fun _ _ _ h => h) (Or.inl ⟨by rfl, ?_⟩) hHeld ?_ ?_
          rotate_left
          ·intro w' _
           go_simp
           with_reducible rfl
          rotate_left
          ·simp only [Act.put, List.setIfInBounds_toArray, List.set_cons_zero, List.set_cons_succ, i64_w, i32_w]
           rfl
          refine pure_ (i := 6) (N := some 433) (v := ?_) (a' := ?_) #[true, true, true, true, true, true, true, true, true, true, true, true, true, true, true, false] rfl rfl (any_of HT_.out (by kernel_rfl)) (fun _ _ _ h => h) (Or.inl ⟨by rfl, ?_⟩) ?_ ?_
          rotate_left
          ·intro w'
           go_simp
           with_reducible rfl
          rotate_left
          ·simp only [Act.put, List.setIfInBounds_toArray, List.set_cons_zero, List.set_cons_succ, i64_w, i32_w]
           rfl
          refine pure_ (i := 15) (N := some 442) (v := ?_) (a' := ?_) #[true, true, true, true, true, true, true, true, true, true, true, true, true, true, true, true] rfl rfl (any_of HT_.out (by kernel_rfl)) (fun _ _ _ h => h) (Or.inl ⟨by rfl, ?_⟩) ?_ ?_
          rotate_left
          ·intro w'
           go_simp
           with_reducible rfl
          rotate_left
          ·simp only [Act.put, List.setIfInBounds_toArray, List.set_cons_zero, List.set_cons_succ, i64_w, i32_w]
           rfl
          refine done_ (done_of HT_.out (by kernel_rfl)) ?_
          try go_wp2
          refine Handed.intro k2 ?measure (hJl1 _ _ _ rfl ?rel)
          case measure => have := HJ26.out; have := HK2.out; omega
          case rel => exact ⟨(x480000_2 + 1), H', ⟨by have := HJ26.out; have := HK2.out; omega⟩, ⟨by (with_reducible repeat (first | apply Kd.N_alloc | apply Kd.N_drewN | apply Kd.N_drew)); exact HO_54.out⟩, ⟨by (with_reducible repeat (first | refine blk_drewN ?_ _ | refine blk_drew ?_ | refine blk_alloc ?_ _)); exact BK479.out⟩, ⟨by repeat (first | (with_reducible first | exact HB.out | apply below_alloc | apply pw_below_drewN | apply below_drew1 | refine below_set ?_ GE479.out) | exact HB.out)⟩⟩
         ·rw [if_neg c115] at H
          have c115b0 : decide (t450 ≤ x480000_2) = false := decide_eq_false c115
          clear c115
          by_cases c119 : (((bt t452 x480000_2) != (bt t449 x480000_2)) != false) = true
          ·rw [if_pos c119] at H; exact absurd H (by simp)
          rw [if_neg c119] at H
          have c119b0 : (((bt t452 x480000_2) != (bt t449 x480000_2)) != false) = false := by simpa using c119
          (try (have c119b1 : decide (((bt t452 x480000_2) != (bt t449 x480000_2)) = false) = true := by simpa using c119))
          (try (have c119b2 : (((bt t452 x480000_2) != (bt t449 x480000_2)) == false) = true := by simpa using c119))
          clear c119
          have H' := Aside0.mk H
          clear H
          try go_wp2_with (first | ((with_reducible refine gate_dst (N := 424) rfl ?_); (try (refine gate_guard (by rfl) ?_; dsimp only)); refine next_event ?hg (N := 424) ?hd (it := 423) (g := gb479) (s := t449) (p := x480000_2) ?hc ?ho ?hi (of_decide_eq_true (by first | (with_reducible assumption) | assumption | (simp only [decide_eq_true_eq]; omega))) (of_decide_eq_true (by first | (with_reducible assumption) | assumption | (simp only [decide_eq_true_eq]; omega))) (of_decide_eq_true (by first | (with_reducible assumption) | assumption | (simp only [decide_eq_true_eq]; omega))) ?_; (case hd => rfl); (case hg => rfl); (case hc => exact (by (with_reducible repeat (first | refine blk_drewN ?_ _ | refine blk_drew ?_ | refine blk_alloc ?_ _)); exact BK479.out)); (case ho => rfl); (case hi => rfl); intro w120 hbox hgr; have n0_ := Aside0.mk (Kd.N_grown (ok := fun k_ => k_ ≠ gb479) (by (with_reducible repeat (first | apply Kd.N_alloc | apply Kd.N_drewN | apply Kd.N_drew)); exact HO_54.out) hgr (fun k_ hk_ e_ => (hk_) (Option.some.inj e_))); have n1_ := Aside0.mk (hbox); have n2_ := Aside0.mk (Below.grown (by repeat (first | (with_reducible first | exact HB.out | apply below_alloc | apply pw_below_drewN | apply below_drew1 | refine below_set ?_ GE479.out) | exact HB.out)) hgr (below_size (by repeat (first | (with_reducible first | exact HB.out | apply below_alloc | apply pw_below_drewN | apply below_drew1 | refine below_set ?_ GE479.out) | exact HB.out))) (fun k_ e_ => by rw [← Option.some.inj e_]; exact GE479.out)); clear HO_54; clear BK479; clear HB; have HO_54 := n0_; have BK479 := n1_; have HB := n2_; clear n0_ n1_ n2_; clear hbox hgr))
          have n0_ := Aside0.mk (Kd.N_drew HO_54.out)
          have n1_ := Aside0.mk (blk_drew BK479.out)
          have n2_ := Aside0.mk (below_drew1 HB.out)
          clear HO_54
          clear BK479
          clear HB
          have HO_54 := n0_
          have BK479 := n1_
          have HB := n2_
          clear n0_ n1_ n2_
          have p112 : 0 ≤ (x480000_2 : Int) := of_decide_eq_true (by first | (with_reducible assumption) | assumption)
          have q112 : x480000_2 < (t452.size : Int) := of_decide_eq_true (by first | (with_reducible assumption) | assumption)
          have hx112 := bt_at t452 x480000_2
          replace p112 := eq_true p112
          replace q112 := eq_true q112
          have p114 : 0 ≤ (x480000_2 : Int) := of_decide_eq_true (by first | (with_reducible assumption) | assumption)
          have q114 : x480000_2 < (t449.size : Int) := of_decide_eq_true (by first | (with_reducible assumption) | assumption)
          have hx114 := bt_at t449 x480000_2
          replace p114 := eq_true p114
          replace q114 := eq_true q114
          refine start_ (n := 16) (S := fun w' => True) (ds := []) #[false, false, false, false, false, false, false, false, false, false, false, false, false, false, false, false] (by kernel_rfl) rfl rfl trivial (fun hHeld => ?_); refine with_tabW laws_FnOrdersTurn.tab55 laws_FnOrdersTurn.bits55 (fun HT_ HW_ => ?_)
          generalize w120.drew = w121 at HO_54 BK479 HB hHeld ⊢
          refine pure_ (i := 0) (N := some 427) (v := ?_) (a' := ?_) #[true, false, false, false, false, false, false, false, false, false, false, false, false, false, false, false] rfl rfl (any_of HT_.out (by kernel_rfl)) (fun _ _ _ h => h) (Or.inl ⟨by rfl, ?_⟩) ?_ ?_
          rotate_left
          ·intro w'
           go_simp
           with_reducible rfl
          rotate_left
          ·simp only [Act.put, List.setIfInBounds_toArray, List.set_cons_zero, List.set_cons_succ, i64_w, i32_w]
           rfl
          refine pure_ (i := 1) (N := some 428) (v := ?_) (a' := ?_) #[true, true, false, false, false, false, false, false, false, false, false, false, false, false, false, false] rfl rfl (any_of HT_.out (by kernel_rfl)) (fun _ _ _ h => h) (Or.inl ⟨by rfl, ?_⟩) ?_ ?_
          rotate_left
          ·intro w'
           go_simp
           with_reducible rfl
          rotate_left
          ·simp only [Act.put, List.setIfInBounds_toArray, List.set_cons_zero, List.set_cons_succ, i64_w, i32_w]
           rfl
          refine pure_ (i := 3) (N := some 430) (v := ?_) (a' := ?_) #[true, true, false, true, false, false, false, false, false, false, false, false, false, false, false, false] rfl rfl (any_of HT_.out (by kernel_rfl)) (fun _ _ _ h => h) (Or.inl ⟨by rfl, ?_⟩) ?_ ?_
          rotate_left
          ·intro w'
           go_simp
           with_reducible rfl
          rotate_left
          ·simp only [Act.put, List.setIfInBounds_toArray, List.set_cons_zero, List.set_cons_succ, i64_w, i32_w]
           rfl
          refine pure_ (i := 4) (N := some 431) (v := ?_) (a' := ?_) #[true, true, false, true, true, false, false, false, false, false, false, false, false, false, false, false] rfl rfl (any_of HT_.out (by kernel_rfl)) (fun _ _ _ h => h) (Or.inl ⟨by rfl, ?_⟩) ?_ ?_
          rotate_left
          ·intro w'
           go_simp
           with_reducible rfl
          rotate_left
          ·simp only [Act.put, List.setIfInBounds_toArray, List.set_cons_zero, List.set_cons_succ, i64_w, i32_w]
           rfl
          refine pure_ (i := 7) (N := some 434) (v := ?_) (a' := ?_) #[true, true, false, true, true, false, false, true, false, false, false, false, false, false, false, false] rfl rfl (any_of HT_.out (by kernel_rfl)) (fun _ _ _ h => h) (Or.inl ⟨by rfl, ?_⟩) ?_ ?_
          rotate_left
          ·intro w'
           go_simp
           with_reducible rfl
          rotate_left
          ·simp only [Act.put, List.setIfInBounds_toArray, List.set_cons_zero, List.set_cons_succ, i64_w, i32_w]
           rfl
          refine pure_ (i := 8) (N := some 435) (v := ?_) (a' := ?_) #[true, true, false, true, true, false, false, true, true, false, false, false, false, false, false, false] rfl rfl (any_of HT_.out (by kernel_rfl)) (fun _ _ _ h => h) (Or.inl ⟨by rfl, ?_⟩) ?_ ?_
          rotate_left
          ·intro w'
           go_simp
           with_reducible rfl
          rotate_left
          ·simp only [Act.put, List.setIfInBounds_toArray, List.set_cons_zero, List.set_cons_succ, i64_w, i32_w]
           rfl
          refine pure_ (i := 9) (N := some 436) (v := ?_) (a' := ?_) #[true, true, false, true, true, false, false, true, true, true, false, false, false, false, false, false] rfl rfl (any_of HT_.out (by kernel_rfl)) (fun _ _ _ h => h) (Or.inl ⟨by rfl, ?_⟩) ?_ ?_
          rotate_left
          ·intro w'
           go_simp
           with_reducible rfl
          rotate_left
          ·simp only [Act.put, List.setIfInBounds_toArray, List.set_cons_zero, List.set_cons_succ, i64_w, i32_w]
           rfl
          refine pure_ (i := 10) (N := some 437) (v := ?_) (a' := ?_) #[true, true, false, true, true, false, false, true, true, true, true, false, false, false, false, false] rfl rfl (any_of HT_.out (by kernel_rfl)) (fun _ _ _ h => h) (Or.inl ⟨by rfl, ?_⟩) ?_ ?_
          rotate_left
          ·intro w'
           go_simp
           with_reducible rfl
          rotate_left
          ·simp only [Act.put, List.setIfInBounds_toArray, List.set_cons_zero, List.set_cons_succ, i64_w, i32_w]
           rfl
          refine pure_ (i := 11) (N := some 438) (v := undef) (a' := ?_) #[true, true, false, true, true, false, false, true, true, true, true, true, false, false, false, false] rfl rfl (any_of HT_.out (by kernel_rfl)) (fun _ _ _ h => h) (Or.inr ⟨by rfl, rfl⟩) ?_ ?_
          rotate_left
          ·simp only [Act.put, List.setIfInBounds_toArray, List.set_cons_zero, List.set_cons_succ, i64_w, i32_w]
           rfl
          refine pure_ (i := 12) (N := some 439) (v := undef) (a' := ?_) #[true, true, false, true, true, false, false, true, true, true, true, true, true, false, false, false] rfl rfl (any_of HT_.out (by kernel_rfl)) (fun _ _ _ h => h) (Or.inr ⟨by rfl, rfl⟩) ?_ ?_
          rotate_left
          ·simp only [Act.put, List.setIfInBounds_toArray, List.set_cons_zero, List.set_cons_succ, i64_w, i32_w]
           rfl
          refine pure_ (i := 13) (N := some 440) (v := undef) (a' := ?_) #[true, true, false, true, true, false, false, true, true, true, true, true, true, true, false, false] rfl rfl (any_of HT_.out (by kernel_rfl)) (fun _ _ _ h => h) (Or.inr ⟨by rfl, rfl⟩) ?_ ?_
          rotate_left
          ·simp only [Act.put, List.setIfInBounds_toArray, List.set_cons_zero, List.set_cons_succ, i64_w, i32_w]
           rfl
          refine pure_ (i := 14) (N := some 441) (v := ?_) (a' := ?_) #[true, true, false, true, true, false, false, true, true, true, true, true, true, true, true, false] rfl rfl (any_of HT_.out (by kernel_rfl)) (fun _ _ _ h => h) (Or.inl ⟨by rfl, ?_⟩) ?_ ?_
          rotate_left
          ·intro w'
           go_simp
           with_reducible rfl
          rotate_left
          ·simp only [Act.put, List.setIfInBounds_toArray, List.set_cons_zero, List.set_cons_succ, i64_w, i32_w]
           rfl
          refine take_ (i := 2) (N := some 429) (v := ?_) (a' := ?_) #[true, true, true, true, true, false, false, true, true, true, true, true, true, true, true, false] rfl rfl (take_ofW HT_.out HW_.out (by kernel_rfl)) (fun _ _ _ h => h) (Or.inl ⟨by rfl, ?_⟩) hHeld ?_ ?_
          rotate_left
          ·intro w' _
           go_simp
           with_reducible rfl
          rotate_left
          ·simp only [Act.put, List.setIfInBounds_toArray, List.set_cons_zero, List.set_cons_succ, i64_w, i32_w]
           rfl
          refine take_ (i := 5) (N := some 432) (v := ?_) (a' := ?_) #[true, true, true, true, true, true, false, true, true, true, true, true, true, true, true, false] rfl rfl (take_ofW HT_.out HW_.out (by kernel_rfl)) (fun _ _ _ h => h) (Or.inl ⟨by rfl, ?_⟩) hHeld ?_ ?_
          rotate_left
          ·intro w' _
           go_simp
           with_reducible rfl
          rotate_left
          ·simp only [Act.put, List.setIfInBounds_toArray, List.set_cons_zero, List.set_cons_succ, i64_w, i32_w]
           rfl
          refine pure_ (i := 6) (N := some 433) (v := ?_) (a' := ?_) #[true, true, true, true, true, true, true, true, true, true, true, true, true, true, true, false] rfl rfl (any_of HT_.out (by kernel_rfl)) (fun _ _ _ h => h) (Or.inl ⟨by rfl, ?_⟩) ?_ ?_
          rotate_left
          ·intro w'
           go_simp
           with_reducible rfl
          rotate_left
          ·simp only [Act.put, List.setIfInBounds_toArray, List.set_cons_zero, List.set_cons_succ, i64_w, i32_w]
           rfl
          refine pure_ (i := 15) (N := some 442) (v := ?_) (a' := ?_) #[true, true, true, true, true, true, true, true, true, true, true, true, true, true, true, true] rfl rfl (any_of HT_.out (by kernel_rfl)) (fun _ _ _ h => h) (Or.inl ⟨by rfl, ?_⟩) ?_ ?_
          rotate_left
          ·intro w'
           go_simp
           with_reducible rfl
          rotate_left
          ·simp only [Act.put, List.setIfInBounds_toArray, List.set_cons_zero, List.set_cons_succ, i64_w, i32_w]
           rfl
          refine done_ (done_of HT_.out (by kernel_rfl)) ?_
          try go_wp2
          refine Handed.intro k2 ?measure (hJl1 _ _ _ rfl ?rel)
          case measure => have := HJ26.out; have := HK2.out; omega
          case rel => exact ⟨(x480000_2 + 1), H', ⟨by have := HJ26.out; have := HK2.out; omega⟩, ⟨by (with_reducible repeat (first | apply Kd.N_alloc | apply Kd.N_drewN | apply Kd.N_drew)); exact HO_54.out⟩, ⟨by (with_reducible repeat (first | refine blk_drewN ?_ _ | refine blk_drew ?_ | refine blk_alloc ?_ _)); exact BK479.out⟩, ⟨by repeat (first | (with_reducible first | exact HB.out | apply below_alloc | apply pw_below_drewN | apply below_drew1 | refine below_set ?_ GE479.out) | exact HB.out)⟩⟩
        ·rw [if_neg c108] at H
         have c108b0 : decide (x480000_2 < (t449.size : Int)) = false := decide_eq_false c108
         clear c108
         (first | rw [c108b0] | (simp only [i64_w, i32_w]; rw [c108b0]) | skip)
         have H' := Aside0.mk H
         clear H
         go_wp2_with (first | ((with_reducible refine gate_dst (N := 424) rfl ?_); (try (refine gate_guard (by rfl) ?_; dsimp only)); refine next_over ?hg (N := 424) ?hd (it := 423) (g := gb479) (s := t449) (p := x480000_2) ?hc ?ho ?hi (of_decide_eq_false (by first | (with_reducible assumption) | assumption)) ?_; (case hd => rfl); (case hg => rfl); (case hc => exact (by (with_reducible repeat (first | refine blk_drewN ?_ _ | refine blk_drew ?_ | refine blk_alloc ?_ _)); exact BK479.out)); (case ho => rfl); (case hi => rfl)))
         refine Met.intro (hJj3 _ _ rfl ?rel)
         case rel => exact ⟨_, H', ⟨by have := HJ26.out; have := HK2.out; first | omega | exact Nat.le_refl _⟩, ⟨by (with_reducible repeat (first | apply Kd.N_alloc | apply Kd.N_drewN | apply Kd.N_drew)); exact Kd.N_mono HO_54.out (fun _ hk => trivial)⟩, ⟨by repeat (first | (with_reducible first | exact HB.out | apply below_alloc | apply pw_below_drewN | apply below_drew1 | refine below_set ?_ GE479.out) | exact HB.out)⟩⟩
     ·replace c106 := Bool.eq_false_iff.mpr c106
      subst c106
      have H1 : (laws_FnOrdersTurn.j3 kj26 t456 t457 t458 t459 t462 t463 t466 t467 t470 t471) = some true := by rw [if_neg (show ¬ (false = true) by decide)] at H; exact H
      clear H
      have H := H1
      clear H1
      have H' := Aside0.mk H
      clear H
      go_wp2
      refine Met.intro (hJj3 _ _ rfl ?rel)
      case rel => exact ⟨_, H', ⟨by have := HJ26.out; first | omega | exact Nat.le_refl _⟩, ⟨by (with_reducible repeat (first | apply Kd.N_alloc | apply Kd.N_drewN | apply Kd.N_drew)); exact HO469.out⟩, ⟨by repeat (first | (with_reducible first | exact HB.out | apply below_alloc | apply pw_below_drewN | apply below_drew1) | exact HB.out)⟩⟩
    case rest =>
     clear HC95
     intro V_ wc hcut
     dsimp only [forg]
     (try clear c1); (try clear p1); (try clear q1); (try clear hx1); (try clear c2); (try clear p2); (try clear c3); (try clear c4); (try clear p4); (try clear q4); (try clear hx4); (try clear c5); (try clear c6); (try clear p6); (try clear c7); (try clear c8); (try clear c9); (try clear c10); (try clear c11); (try clear p11); (try clear q11); (try clear hx11); (try clear c12); (try clear c13); (try clear c14); (try clear c14b0); (try clear c14b1); (try clear c14b2); (try clear c16); (try clear c17); (try clear c17b0); (try clear c17b1); (try clear c17b2); (try clear c18); (try clear c18b0); (try clear c18b1); (try clear c19); (try clear c19b0); (try clear c19b1); (try clear c19b2); (try clear c20); (try clear c21); (try clear c22); (try clear c22b0); (try clear c22b1); (try clear c22b2); (try clear c23); (try clear c23b0); (try clear c23b1); (try clear c24); (try clear c24b0); (try clear c24b1)
     (try clear c24b2); (try clear c25); (try clear c25b0); (try clear c25b1); (try clear c25b2); (try clear c26); (try clear c26b0); (try clear c26b1); (try clear c26b2); (try clear c27); (try clear c28); (try clear c29); (try clear c30); (try clear c41); (try clear c44); (try clear p44); (try clear q44); (try clear hx44); (try clear c45); (try clear c45b0); (try clear c45b1); (try clear c46); (try clear c46b0); (try clear c46b1); (try clear c47); (try clear c48); (try clear c48b0); (try clear c49); (try clear c49b0); (try clear c49b1); (try clear c51); (try clear c52); (try clear c52b0); (try clear c53); (try clear c53b0); (try clear c55); (try clear c55b0); (try clear c56); (try clear c56b0); (try clear c57); (try clear c57b0); (try clear c59); (try clear c61); (try clear c61b0); (try clear c61b1); (try clear c62); (try clear c62b0); (try clear c62b1); (try clear p64); (try clear c65)
     (try clear c66); (try clear c67); (try clear c67b0); (try clear c68); (try clear c68b0); (try clear c85); (try clear c85b0); (try clear c85b1); (try clear c85b2); (try clear c86); (try clear c86b0); (try clear c86b1); (try clear c87); (try clear c87b0); (try clear c87b1); (try clear c87b2); (try clear c88); (try clear c88b0); (try clear c88b1); (try clear c89); (try clear c89b0); (try clear c89b1); (try clear c89b2); (try clear c90); (try clear c90b0); (try clear c90b1); (try clear c91); (try clear c91b0); (try clear c91b1); (try clear c91b2); (try clear c92); (try clear c92b0); (try clear c92b1); (try clear c93); (try clear c93b0); (try clear c93b1); (try clear c93b2); (try clear c94); (try clear c94b0); (try clear c94b1); (try clear c106); (try clear c108); (try clear c108b0); (try clear c109); (try clear c109b0); (try clear c110); (try clear c110b0); (try clear c111); (try clear c111b0)
     (try clear p112); (try clear q112); (try clear hx112); (try clear c113); (try clear c113b0); (try clear p114); (try clear q114); (try clear hx114); (try clear c115); (try clear c115b0); (try clear c116); (try clear c116b0); (try clear c116b1); (try clear c116b2); (try clear c119); (try clear c119b0); (try clear c119b1); (try clear c119b2); (try clear hx442_0); (try clear p112); (try clear p114); (try clear p2); (try clear p4); (try clear p44); (try clear p442); (try clear p6); (try clear p64); (try clear q112); (try clear q114); (try clear q4); (try clear q44); (try clear q442)
     obtain ⟨kq, HA, HJ94, HO_54, HB⟩ := hcut
     cases kq with
     | zero => exact absurd HA.out (by simp [laws_FnOrdersTurn.j3])
     | succ kj94 =>
      have H := HA.out
      clear HA
      simp only [laws_FnOrdersTurn.j3] at H
      have HC122 := Aside0.mk H
      clear H
      go_upto_if 443 with (fail)
      refine wp_cutF [none, none, none, none, some 4, none, none, none, none, none, none, none, none, none, none, none, none, none, none, none, none, none, none, none, none, none, none, none, none, none, none, none, none, none, none, none, none, none, none, none, none, none, none, none, none, none, none, none, none, none, none, none, none, none, none, none, none, none, none, none, none, none, none, none, none, some 65, none, none, none, none, none, none, some 72, some 73, some 74, some 75, some 76, some 77, some 78, some 79, some 80, some 81, some 82, some 83, some 84, some 85, some 86, some 87, some 88, some 89, some 90, some 91, some 92, some 93, some 94, some 95, some 96, some 97, some 98, some 99, some 100, some 101, some 102, some 103, some 104, some 105, some 106, some 107, some 108, some 109, some 110, some 111, some 112, some 113, some 114, some 115, some 116, some 117, some 118, some 119, some 120, some 121, some 122, some 123, some 124, some 125, some 126, some 127, some 128, some 129, some 130, some 131, some 132, some 133, some 134, some 135, some 136, some 137, some 138, some 139, some 140, some 141, some 142, some 143, some 144, some 145, some 146, some 147, some 148, some 149, some 150, some 151, some 152, some 153, some 154, some 155, some 156, some 157, some 158, some 159, some 160, some 161, some 162, some 163, some 164, some 165, some 166, some 167, some 168, some 169, some 170, some 171, some 172, some 173, some 174, some 175, some 176, some 177, some 178, some 179, some 180, some 181, some 182, some 183, some 184, some 185, some 186, some 187, some 188, some 189, some 190, some 191, some 192, some 193, some 194, some 195, some 196, some 197, some 198, some 199, some 200, some 201, some 202, some 203, some 204, some 205, some 206, some 207, some 208, some 209, some 210, some 211, some 212, some 213, some 214, some 215, some 216, some 217, some 218, some 219, some 220, some 221, some 222, some 223, some 224, some 225, some 226, some 227, some 228, some 229, some 230, some 231, some 232, some 233, some 234, some 235, some 236, some 237, some 238, some 239, some 240, none, none, none, some 244, some 245, some 246, some 247, some 248, some 249, some 250, some 251, some 252, some 253, some 254, some 255, some 256, some 257, some 258, some 259, some 260, some 261, some 262, some 263, some 264, some 265, some 266, some 267, some 268, some 269, some 270, some 271, some 272, some 273, some 274, some 275, some 276, some 277, some 278, some 279, some 280, some 281, some 282, some 283, some 284, some 285, some 286, some 287, some 288, some 289, some 290, some 291, some 292, some 293, some 294, some 295, some 296, some 297, some 298, some 299, some 300, some 301, some 302, some 303, some 304, some 305, some 306, some 307, some 308, some 309, some 310, some 311, some 312, some 313, some 314, some 315, some 316, some 317, some 318, some 319, some 320, some 321, some 322, some 323, some 324, some 325, some 326, some 327, some 328, some 329, some 330, some 331, some 332, some 333, some 334, some 335, some 336, some 337, some 338, some 339, some 340, some 341, some 342, some 343, some 344, some 345, some 346, some 347, some 348, some 349, some 350, some 351, some 352, some 353, some 354, some 355, some 356, some 357, some 358, some 359, some 360, some 361, some 362, some 363, some 364, some 365, some 366, some 367, some 368, some 369, some 370, some 371, some 372, some 373, some 374, some 375, some 376, some 377, some 378, some 379, some 380, some 381, some 382, some 383, some 384, some 385, some 386, some 387, some 388, some 389, some 390, some 391, some 392, some 393, some 394, some 395, some 396, some 397, some 398, some 399, some 400, some 401, some 402, some 403, some 404, some 405, some 406, some 407, some 408, some 409, some 410, some 411, some 412, some 413, some 414, some 415, some 416, some 417, some 418, some 419, some 420, some 421, some 422, none, none, some 425, some 426, some 427, some 428, some 429, some 430, some 431, some 432, some 433, some 434, some 435, some 436, some 437, some 438, some 439, some 440, some 441, some 442, some 443, some 444, some 445, some 446, some 447, some 448, some 449, some 450, some 451, some 452, some 453, some 454, some 455, some 456, some 457, some 458, some 459, some 460, some 461, none, none, some 464, some 465, some 466, some 467, some 468, some 469, some 470, some 471, some 472, some 473, some 474, some 475, some 476, some 477, some 478, some 479, some 480, some 481, some 482, some 483, some 484, some 485, none, none, none, some 489, some 490, some 491, some 492, some 493, some 494, some 495, some 496, some 497, some 498, some 499, some 500, some 501, some 502, some 503, some 504, some 505, some 506, some 507, some 508, some 509] (by kernel_rfl) (fun V_ wc => ∃ (kq : Nat), Aside0 (laws_FnOrdersTurn.j5 kq t456 t457 t462 t463 t466 t467 t470 t471 = some true) ∧ Aside0 (kq ≤ kj94) ∧ Aside0 (Kd.N (Kd.slice 3 (Kd.int .i64)) 31 wc w.heap.size (fun _ => True) (.slice Ao102 t467.length co102) t467) ∧ Aside0 (Below w.heap.size w wc)) ?first ?rest
      case first =>
       intro _ _ hJj5 _
       have H := HC122.out
       clear HC122
       by_cases c123 : t459 = true
       ·subst c123
        have H1 : (laws_FnOrdersTurn.l2 kj94 t456 t457 t458 t462 t463 t466 t467 t470 t471 0 t456) = some true := by rw [if_pos rfl] at H; exact H
        clear H
        have H := H1
        clear H1
        have H' := Aside0.mk H
        clear H
        go_wp2_with (first | ((with_reducible refine gate_dst (N := 445) rfl ?_); (try (refine gate_guard (by rfl) ?_; dsimp only)); refine range_event ?hg (N := 445) ?hd (s := t456) ?hr ?_; (case hd => rfl); (case hg => rfl); (case hr => first | (go_simp; done) | (go_simp; rfl)); intro gb480 hg w124 hbox hb; have n0_ := Aside0.mk (Kd.N_below (Kd.N_elderB (by (with_reducible repeat (first | apply Kd.N_alloc | apply Kd.N_drewN | apply Kd.N_drew)); exact HO_54.out) gb480 (Nat.le_of_eq hg.symm)) hb); have n1_ := Aside0.mk (below_step (by repeat (first | (with_reducible first | exact HB.out | apply below_alloc | apply pw_below_drewN | apply below_drew1) | exact HB.out)) hb); have n2_ := Aside0.mk (hbox); have n3_ := Aside0.mk ((by rw [hg]; exact (below_size (by repeat (first | (with_reducible first | exact HB.out | apply below_alloc | apply pw_below_drewN | apply below_drew1) | exact HB.out))) : w.heap.size ≤ gb480)); have n4_ := Aside0.mk ((by rw [hg]; exact (below_size (by repeat (first | (with_reducible first | exact HB.out | apply below_alloc | apply pw_below_drewN | apply below_drew1) | exact HB.out))) : w.heap.size ≤ gb480)); clear HO_54; clear HB; have HO_54 := n0_; have HB := n1_; have BK480 := n2_; have GW480 := n3_; have GE480 := n4_; clear n0_ n1_ n2_ n3_ n4_; clear hb hbox hg))
        (try simp only [Act.put, List.setIfInBounds_toArray, List.set_cons_zero, List.set_cons_succ])
        refine wp_loopF [none, none, none, none, some 4, none, none, none, none, none, none, none, none, none, none, none, none, none, none, none, none, none, none, none, none, none, none, none, none, none, none, none, none, none, none, none, none, none, none, none, none, none, none, none, none, none, none, none, none, none, none, none, none, none, none, none, none, none, none, none, none, none, none, none, none, some 65, none, none, none, none, none, none, none, none, none, none, none, none, none, none, none, none, none, none, none, none, none, none, none, none, none, none, none, none, none, none, none, none, none, none, none, none, none, none, none, none, none, none, none, none, none, none, none, none, none, none, none, none, none, none, none, none, none, none, none, none, none, none, none, none, none, none, none, none, none, none, none, none, none, none, none, none, none, none, none, none, none, none, none, none, none, none, none, none, none, none, none, none, none, none, none, none, none, none, none, none, none, none, none, none, none, none, none, none, none, none, none, none, none, none, none, none, none, none, none, none, none, none, none, none, none, none, none, none, none, none, none, none, none, none, none, none, none, none, none, none, none, none, none, none, none, none, none, none, none, none, none, none, none, none, none, none, none, none, none, none, none, none, none, none, none, none, none, none, none, none, none, none, none, none, none, none, none, none, none, none, none, none, none, none, none, none, none, none, none, none, none, none, none, none, none, none, none, none, none, none, none, none, none, none, none, none, none, none, none, none, none, none, none, none, none, none, none, none, none, none, none, none, none, none, none, none, none, none, none, none, none, none, none, none, none, none, none, none, none, none, none, none, none, none, none, none, none, none, none, none, none, none, none, none, none, none, none, none, none, none, none, none, none, none, none, none, none, none, none, none, none, none, none, none, none, none, none, none, none, none, none, none, none, none, none, none, none, none, none, none, none, none, none, none, none, none, none, none, none, none, none, none, none, none, none, none, none, none, none, none, none, none, none, none, none, none, none, none, none, none, none, none, none, none, none, none, none, none, none, none, none, none, none, none, none, none, none, none, none, none, none, none, none, none, none, none, none, none, none, none, none, none, none, none, none, none, none, none, none, none, none, none, none, none, none, none, none, none, none, none, none, none, none, none, none, none, none, none, none, none, some 446, some 447, some 448, some 449, some 450, some 451, some 452, some 453, some 454, some 455, some 456, some 457, some 458, some 459, none, none, none, none, none, none, none, none, none, none, none, none, none, none, none, none, none, none, none, none, none, none, none, none, none, none, none, none, none, none, none, none, none, none, none, none, none, none, none, none, none, none, none, none, none, none, none, none, none, none] (by kernel_rfl) kj94 (fun kq V_ w' => ∃ (x481000_3 : Int), Aside0 (laws_FnOrdersTurn.l2 kq t456 t457 t458 t462 t463 t466 t467 t470 t471 x481000_3 t456 = some true) ∧ Aside0 (kq ≤ kj94) ∧ Aside0 (Kd.N (Kd.slice 3 (Kd.int .i64)) 31 w' w.heap.size (fun k_ => k_ ≠ gb480) (.slice Ao102 t467.length co102) t467) ∧ Aside0 (w'.heap[gb480]? = some (.stringIter t456 (x481000_3 : Int).toNat)) ∧ Aside0 (Below w.heap.size w w')) (by rfl) ?atStart ?round
        case atStart => exact ⟨(0), H', ⟨Nat.le_refl _⟩, ⟨by (with_reducible repeat (first | apply Kd.N_alloc | apply Kd.N_drewN | apply Kd.N_drew)); exact Kd.N_mono HO_54.out (fun _ hk => hk.2)⟩, ⟨by (with_reducible repeat (first | refine blk_drewN ?_ _ | refine blk_drew ?_ | refine blk_alloc ?_ _)); exact BK480.out⟩, ⟨by repeat (first | (with_reducible first | exact HB.out | apply below_alloc | apply pw_below_drewN | apply below_drew1 | refine below_set ?_ GE480.out) | exact HB.out)⟩⟩
        case round =>
         clear H'
         intro gk V_ wr hrel _ _ hJl2 _
         dsimp only [forg]
         (try clear c1); (try clear p1); (try clear q1); (try clear hx1); (try clear c2); (try clear p2); (try clear c3); (try clear c4); (try clear p4); (try clear q4); (try clear hx4); (try clear c5); (try clear c6); (try clear p6); (try clear c7); (try clear c8); (try clear c9); (try clear c10); (try clear c11); (try clear p11); (try clear q11); (try clear hx11); (try clear c12); (try clear c13); (try clear c14); (try clear c14b0); (try clear c14b1); (try clear c14b2); (try clear c16); (try clear c17); (try clear c17b0); (try clear c17b1); (try clear c17b2); (try clear c18); (try clear c18b0); (try clear c18b1); (try clear c19); (try clear c19b0); (try clear c19b1); (try clear c19b2); (try clear c20); (try clear c21); (try clear c22); (try clear c22b0); (try clear c22b1); (try clear c22b2); (try clear c23); (try clear c23b0); (try clear c23b1); (try clear c24); (try clear c24b0); (try clear c24b1)
         (try clear c24b2); (try clear c25); (try clear c25b0); (try clear c25b1); (try clear c25b2); (try clear c26); (try clear c26b0); (try clear c26b1); (try clear c26b2); (try clear c27); (try clear c28); (try clear c29); (try clear c30); (try clear c41); (try clear c44); (try clear p44); (try clear q44); (try clear hx44); (try clear c45); (try clear c45b0); (try clear c45b1); (try clear c46); (try clear c46b0); (try clear c46b1); (try clear c47); (try clear c48); (try clear c48b0); (try clear c49); (try clear c49b0); (try clear c49b1); (try clear c51); (try clear c52); (try clear c52b0); (try clear c53); (try clear c53b0); (try clear c55); (try clear c55b0); (try clear c56); (try clear c56b0); (try clear c57); (try clear c57b0); (try clear c59); (try clear c61); (try clear c61b0); (try clear c61b1); (try clear c62); (try clear c62b0); (try clear c62b1); (try clear p64); (try clear c65)
         (try clear c66); (try clear c67); (try clear c67b0); (try clear c68); (try clear c68b0); (try clear c85); (try clear c85b0); (try clear c85b1); (try clear c85b2); (try clear c86); (try clear c86b0); (try clear c86b1); (try clear c87); (try clear c87b0); (try clear c87b1); (try clear c87b2); (try clear c88); (try clear c88b0); (try clear c88b1); (try clear c89); (try clear c89b0); (try clear c89b1); (try clear c89b2); (try clear c90); (try clear c90b0); (try clear c90b1); (try clear c91); (try clear c91b0); (try clear c91b1); (try clear c91b2); (try clear c92); (try clear c92b0); (try clear c92b1); (try clear c93); (try clear c93b0); (try clear c93b1); (try clear c93b2); (try clear c94); (try clear c94b0); (try clear c94b1); (try clear c106); (try clear c108); (try clear c108b0); (try clear c109); (try clear c109b0); (try clear c110); (try clear c110b0); (try clear c111); (try clear c111b0)
         (try clear p112); (try clear q112); (try clear hx112); (try clear c113); (try clear c113b0); (try clear p114); (try clear q114); (try clear hx114); (try clear c115); (try clear c115b0); (try clear c116); (try clear c116b0); (try clear c116b1); (try clear c116b2); (try clear c119); (try clear c119b0); (try clear c119b1); (try clear c119b2); (try clear c123); (try clear hx442_0); (try clear p1); (try clear p11); (try clear p112); (try clear p114); (try clear p2); (try clear p4); (try clear p44); (try clear p442); (try clear p6); (try clear p64); (try clear q1); (try clear q11); (try clear q112); (try clear q114); (try clear q4); (try clear q44); (try clear q442)
         obtain ⟨x481000_3, HA, HK3, HO_54, BK480, HB⟩ := hrel
         cases gk with
         | zero => exact absurd HA.out (by simp [laws_FnOrdersTurn.l2])
         | succ k3 =>
          have H := HA.out
          clear HA
          simp only [laws_FnOrdersTurn.l2] at H
          by_cases c125 : x481000_3 < (t456.size : Int)
          ·rw [if_pos c125] at H
           have c125b0 : decide (x481000_3 < (t456.size : Int)) = true := decide_eq_true c125
           clear c125
           (first | rw [c125b0] | (simp only [i64_w, i32_w]; rw [c125b0]) | skip)
           by_cases c126 : 0 ≤ x481000_3
           rotate_left
           ·rw [if_neg c126] at H; exact absurd H (by simp)
           rw [if_pos c126] at H
           have c126b0 : decide (0 ≤ x481000_3) = true := decide_eq_true c126
           clear c126
           by_cases c127 : bt t456 x481000_3 < 128
           rotate_left
           ·rw [if_neg c127] at H; exact absurd H (by simp)
           rw [if_pos c127] at H
           have c127b0 : decide (bt t456 x481000_3 < 128) = true := decide_eq_true c127
           clear c127
           by_cases c128 : x481000_3 < (t458.size : Int)
           rotate_left
           ·rw [if_neg c128] at H; exact absurd H (by simp)
           rw [if_pos c128] at H
           have c128b0 : decide (x481000_3 < (t458.size : Int)) = true := decide_eq_true c128
           clear c128
           by_cases c130 : x481000_3 < (t456.size : Int)
           rotate_left
           ·rw [if_neg c130] at H; exact absurd H (by simp)
           rw [if_pos c130] at H
           have c130b0 : decide (x481000_3 < (t456.size : Int)) = true := decide_eq_true c130
           clear c130
           by_cases c132 : (((bt t458 x481000_3) != (bt t456 x481000_3)) != (decide (x481000_3 < t457))) = true
           ·rw [if_pos c132] at H; exact absurd H (by simp)
           rw [if_neg c132] at H
           have c132b0 : (((bt t458 x481000_3) != (bt t456 x481000_3)) != (decide (x481000_3 < t457))) = false := by simpa using c132
           (try (have c132b1 : decide (((bt t458 x481000_3) != (bt t456 x481000_3)) = (decide (x481000_3 < t457))) = true := by simpa using c132))
           (try (have c132b2 : (((bt t458 x481000_3) != (bt t456 x481000_3)) == (decide (x481000_3 < t457))) = true := by simpa using c132))
           clear c132
           have H' := Aside0.mk H
           clear H
           try go_wp2_with (first | ((with_reducible refine gate_dst (N := 446) rfl ?_); (try (refine gate_guard (by rfl) ?_; dsimp only)); refine next_event ?hg (N := 446) ?hd (it := 445) (g := gb480) (s := t456) (p := x481000_3) ?hc ?ho ?hi (of_decide_eq_true (by first | (with_reducible assumption) | assumption | (simp only [decide_eq_true_eq]; omega))) (of_decide_eq_true (by first | (with_reducible assumption) | assumption | (simp only [decide_eq_true_eq]; omega))) (of_decide_eq_true (by first | (with_reducible assumption) | assumption | (simp only [decide_eq_true_eq]; omega))) ?_; (case hd => rfl); (case hg => rfl); (case hc => exact (by (with_reducible repeat (first | refine blk_drewN ?_ _ | refine blk_drew ?_ | refine blk_alloc ?_ _)); exact BK480.out)); (case ho => rfl); (case hi => rfl); intro w133 hbox hgr; have n0_ := Aside0.mk (Kd.N_grown (ok := fun k_ => k_ ≠ gb480) (by (with_reducible repeat (first | apply Kd.N_alloc | apply Kd.N_drewN | apply Kd.N_drew)); exact HO_54.out) hgr (fun k_ hk_ e_ => (hk_) (Option.some.inj e_))); have n1_ := Aside0.mk (hbox); have n2_ := Aside0.mk (Below.grown (by repeat (first | (with_reducible first | exact HB.out | apply below_alloc | apply pw_below_drewN | apply below_drew1 | refine below_set ?_ GE480.out) | exact HB.out)) hgr (below_size (by repeat (first | (with_reducible first | exact HB.out | apply below_alloc | apply pw_below_drewN | apply below_drew1 | refine below_set ?_ GE480.out) | exact HB.out))) (fun k_ e_ => by rw [← Option.some.inj e_]; exact GE480.out)); clear HO_54; clear BK480; clear HB; have HO_54 := n0_; have BK480 := n1_; have HB := n2_; clear n0_ n1_ n2_; clear hbox hgr))
           have n0_ := Aside0.mk (Kd.N_drew HO_54.out)
           have n1_ := Aside0.mk (blk_drew BK480.out)
           have n2_ := Aside0.mk (below_drew1 HB.out)
           clear HO_54
           clear BK480
           clear HB
           have HO_54 := n0_
           have BK480 := n1_
           have HB := n2_
           clear n0_ n1_ n2_
           have p129 : 0 ≤ (x481000_3 : Int) := of_decide_eq_true (by first | (with_reducible assumption) | assumption)
           have q129 : x481000_3 < (t458.size : Int) := of_decide_eq_true (by first | (with_reducible assumption) | assumption)
           have hx129 := bt_at t458 x481000_3
           replace p129 := eq_true p129
           replace q129 := eq_true q129
           have p131 : 0 ≤ (x481000_3 : Int) := of_decide_eq_true (by first | (with_reducible assumption) | assumption)
           have q131 : x481000_3 < (t456.size : Int) := of_decide_eq_true (by first | (with_reducible assumption) | assumption)
           have hx131 := bt_at t456 x481000_3
           replace p131 := eq_true p131
           replace q131 := eq_true q131
           refine start_ (n := 11) (S := fun w' => True) (ds := []) #[false, false, false, false, false, false, false, false, false, false, false] (by kernel_rfl) rfl rfl trivial (fun hHeld => ?_); refine with_tabW laws_FnOrdersTurn.tab61 laws_FnOrdersTurn.bits61 (fun HT_ HW_ => ?_)
           generalize w133.drew = w134 at HO_54 BK480 HB hHeld ⊢
           refine pure_ (i := 0) (N := some 449) (v := ?_) (a' := ?_) #[true, false, false, false, false, false, false, false, false, false, false] rfl rfl (any_of HT_.out (by kernel_rfl)) (fun _ _ _ h => h) (Or.inl ⟨by rfl, ?_⟩) ?_ ?_
           rotate_left
           ·intro w'
            go_simp
            with_reducible rfl
           rotate_left
           ·simp only [Act.put, List.setIfInBounds_toArray, List.set_cons_zero, List.set_cons_succ, i64_w, i32_w]
            rfl
           refine pure_ (i := 1) (N := some 450) (v := ?_) (a' := ?_) #[true, true, false, false, false, false, false, false, false, false, false] rfl rfl (any_of HT_.out (by kernel_rfl)) (fun _ _ _ h => h) (Or.inl ⟨by rfl, ?_⟩) ?_ ?_
           rotate_left
           ·intro w'
            go_simp
            with_reducible rfl
           rotate_left
           ·simp only [Act.put, List.setIfInBounds_toArray, List.set_cons_zero, List.set_cons_succ, i64_w, i32_w]
            rfl
           refine pure_ (i := 3) (N := some 452) (v := ?_) (a' := ?_) #[true, true, false, true, false, false, false, false, false, false, false] rfl rfl (any_of HT_.out (by kernel_rfl)) (fun _ _ _ h => h) (Or.inl ⟨by rfl, ?_⟩) ?_ ?_
           rotate_left
           ·intro w'
            go_simp
            with_reducible rfl
           rotate_left
           ·simp only [Act.put, List.setIfInBounds_toArray, List.set_cons_zero, List.set_cons_succ, i64_w, i32_w]
            rfl
           refine pure_ (i := 4) (N := some 453) (v := ?_) (a' := ?_) #[true, true, false, true, true, false, false, false, false, false, false] rfl rfl (any_of HT_.out (by kernel_rfl)) (fun _ _ _ h => h) (Or.inl ⟨by rfl, ?_⟩) ?_ ?_
           rotate_left
           ·intro w'
            go_simp
            with_reducible rfl
           rotate_left
           ·simp only [Act.put, List.setIfInBounds_toArray, List.set_cons_zero, List.set_cons_succ, i64_w, i32_w]
            rfl
           refine pure_ (i := 7) (N := some 456) (v := ?_) (a' := ?_) #[true, true, false, true, true, false, false, true, false, false, false] rfl rfl (any_of HT_.out (by kernel_rfl)) (fun _ _ _ h => h) (Or.inl ⟨by rfl, ?_⟩) ?_ ?_
           rotate_left
           ·intro w'
            go_simp
            with_reducible rfl
           rotate_left
           ·simp only [Act.put, List.setIfInBounds_toArray, List.set_cons_zero, List.set_cons_succ, i64_w, i32_w]
            rfl
           refine pure_ (i := 8) (N := some 457) (v := ?_) (a' := ?_) #[true, true, false, true, true, false, false, true, true, false, false] rfl rfl (any_of HT_.out (by kernel_rfl)) (fun _ _ _ h => h) (Or.inl ⟨by rfl, ?_⟩) ?_ ?_
           rotate_left
           ·intro w'
            go_simp
            with_reducible rfl
           rotate_left
           ·simp only [Act.put, List.setIfInBounds_toArray, List.set_cons_zero, List.set_cons_succ, i64_w, i32_w]
            rfl
           refine pure_ (i := 9) (N := some 458) (v := ?_) (a' := ?_) #[true, true, false, true, true, false, false, true, true, true, false] rfl rfl (any_of HT_.out (by kernel_rfl)) (fun _ _ _ h => h) (Or.inl ⟨by rfl, ?_⟩) ?_ ?_
           rotate_left
           ·intro w'
            go_simp
            with_reducible rfl
           rotate_left
           ·simp only [Act.put, List.setIfInBounds_toArray, List.set_cons_zero, List.set_cons_succ, i64_w, i32_w]
            rfl
           refine take_ (i := 2) (N := some 451) (v := ?_) (a' := ?_) #[true, true, true, true, true, false, false, true, true, true, false] rfl rfl (take_ofW HT_.out HW_.out (by kernel_rfl)) (fun _ _ _ h => h) (Or.inl ⟨by rfl, ?_⟩) hHeld ?_ ?_
           rotate_left
           ·intro w' _
            go_simp
            with_reducible rfl
           rotate_left
           ·simp only [Act.put, List.setIfInBounds_toArray, List.set_cons_zero, List.set_cons_succ, i64_w, i32_w]
            rfl
           refine take_ (i := 5) (N := some 454) (v := ?_) (a' := ?_) #[true, true, true, true, true, true, false, true, true, true, false] rfl rfl (take_ofW HT_.out HW_.out (by kernel_rfl)) (fun _ _ _ h => h) (Or.inl ⟨by rfl, ?_⟩) hHeld ?_ ?_
           rotate_left
           ·intro w' _
            go_simp
            with_reducible rfl
           rotate_left
           ·simp only [Act.put, List.setIfInBounds_toArray, List.set_cons_zero, List.set_cons_succ, i64_w, i32_w]
            rfl
           refine pure_ (i := 6) (N := some 455) (v := ?_) (a' := ?_) #[true, true, true, true, true, true, true, true, true, true, false] rfl rfl (any_of HT_.out (by kernel_rfl)) (fun _ _ _ h => h) (Or.inl ⟨by rfl, ?_⟩) ?_ ?_
           rotate_left
           ·intro w'
            go_simp
            with_reducible rfl
           rotate_left
           ·simp only [Act.put, List.setIfInBounds_toArray, List.set_cons_zero, List.set_cons_succ, i64_w, i32_w]
            rfl
           refine pure_ (i := 10) (N := some 459) (v := ?_) (a' := ?_) #[true, true, true, true, true, true, true, true, true, true, true] rfl rfl (any_of HT_.out (by kernel_rfl)) (fun _ _ _ h => h) (Or.inl ⟨by rfl, ?_⟩) ?_ ?_
           rotate_left
           ·intro w'
            go_simp
            with_reducible rfl
           rotate_left
           ·simp only [Act.put, List.setIfInBounds_toArray, List.set_cons_zero, List.set_cons_succ, i64_w, i32_w]
            rfl
           refine done_ (done_of HT_.out (by kernel_rfl)) ?_
           try go_wp2
           refine Handed.intro k3 ?measure (hJl2 _ _ _ rfl ?rel)
           case measure => have := HJ26.out; have := HJ94.out; have := HK3.out; omega
           case rel => exact ⟨(x481000_3 + 1), H', ⟨by have := HJ26.out; have := HJ94.out; have := HK3.out; omega⟩, ⟨by (with_reducible repeat (first | apply Kd.N_alloc | apply Kd.N_drewN | apply Kd.N_drew)); exact HO_54.out⟩, ⟨by (with_reducible repeat (first | refine blk_drewN ?_ _ | refine blk_drew ?_ | refine blk_alloc ?_ _)); exact BK480.out⟩, ⟨by repeat (first | (with_reducible first | exact HB.out | apply below_alloc | apply pw_below_drewN | apply below_drew1 | refine below_set ?_ GE480.out) | exact HB.out)⟩⟩
          ·rw [if_neg c125] at H
           have c125b0 : decide (x481000_3 < (t456.size : Int)) = false := decide_eq_false c125
           clear c125
           (first | rw [c125b0] | (simp only [i64_w, i32_w]; rw [c125b0]) | skip)
           have H' := Aside0.mk H
           clear H
           go_wp2_with (first | ((with_reducible refine gate_dst (N := 446) rfl ?_); (try (refine gate_guard (by rfl) ?_; dsimp only)); refine next_over ?hg (N := 446) ?hd (it := 445) (g := gb480) (s := t456) (p := x481000_3) ?hc ?ho ?hi (of_decide_eq_false (by first | (with_reducible assumption) | assumption)) ?_; (case hd => rfl); (case hg => rfl); (case hc => exact (by (with_reducible repeat (first | refine blk_drewN ?_ _ | refine blk_drew ?_ | refine blk_alloc ?_ _)); exact BK480.out)); (case ho => rfl); (case hi => rfl)))
           refine Met.intro (hJj5 _ _ rfl ?rel)
           case rel => exact ⟨_, H', ⟨by have := HJ26.out; have := HJ94.out; have := HK3.out; first | omega | exact Nat.le_refl _⟩, ⟨by (with_reducible repeat (first | apply Kd.N_alloc | apply Kd.N_drewN | apply Kd.N_drew)); exact Kd.N_mono HO_54.out (fun _ hk => trivial)⟩, ⟨by repeat (first | (with_reducible first | exact HB.out | apply below_alloc | apply pw_below_drewN | apply below_drew1 | refine below_set ?_ GE480.out) | exact HB.out)⟩⟩
       ·replace c123 := Bool.eq_false_iff.mpr c123
        subst c123
        have H1 : (laws_FnOrdersTurn.j5 kj94 t456 t457 t462 t463 t466 t467 t470 t471) = some true := by rw [if_neg (show ¬ (false = true) by decide)] at H; exact H
        clear H
        have H := H1
        clear H1
        have H' := Aside0.mk H
        clear H
        go_wp2
        refine Met.intro (hJj5 _ _ rfl ?rel)
        case rel => exact ⟨_, H', ⟨by have := HJ26.out; have := HJ94.out; first | omega | exact Nat.le_refl _⟩, ⟨by (with_reducible repeat (first | apply Kd.N_alloc | apply Kd.N_drewN | apply Kd.N_drew)); exact HO_54.out⟩, ⟨by repeat (first | (with_reducible first | exact HB.out | apply below_alloc | apply pw_below_drewN | apply below_drew1) | exact HB.out)⟩⟩
      case rest =>
       clear HC122
       intro V_ wc hcut
       dsimp only [forg]
       (try clear c1); (try clear p1); (try clear q1); (try clear hx1); (try clear c2); (try clear p2); (try clear c3); (try clear c4); (try clear p4); (try clear q4); (try clear hx4); (try clear c5); (try clear c6); (try clear p6); (try clear c7); (try clear c8); (try clear c9); (try clear c10); (try clear c11); (try clear p11); (try clear q11); (try clear hx11); (try clear c12); (try clear p12); (try clear q12); (try clear hx12); (try clear c13); (try clear p13); (try clear q13); (try clear hx13); (try clear c14); (try clear c14b0); (try clear c14b1); (try clear c14b2); (try clear c16); (try clear c17); (try clear c17b0); (try clear c17b1); (try clear c17b2); (try clear c18); (try clear c18b0); (try clear c18b1); (try clear c19); (try clear c19b0); (try clear c19b1); (try clear c19b2); (try clear c20); (try clear c21); (try clear c22); (try clear c22b0); (try clear c22b1); (try clear c22b2)
       (try clear c23); (try clear c23b0); (try clear c23b1); (try clear c24); (try clear c24b0); (try clear c24b1); (try clear c24b2); (try clear c25); (try clear c25b0); (try clear c25b1); (try clear c25b2); (try clear c26); (try clear c26b0); (try clear c26b1); (try clear c26b2); (try clear c27); (try clear c28); (try clear c29); (try clear c30); (try clear c41); (try clear c44); (try clear p44); (try clear q44); (try clear hx44); (try clear c45); (try clear c45b0); (try clear c45b1); (try clear c46); (try clear c46b0); (try clear c46b1); (try clear c47); (try clear c48); (try clear c48b0); (try clear c49); (try clear c49b0); (try clear c49b1); (try clear c51); (try clear c52); (try clear c52b0); (try clear c53); (try clear c53b0); (try clear c55); (try clear c55b0); (try clear c56); (try clear c56b0); (try clear c57); (try clear c57b0); (try clear c59); (try clear c61); (try clear c61b0)
       (try clear c61b1); (try clear c62); (try clear c62b0); (try clear c62b1); (try clear p64); (try clear c65); (try clear c66); (try clear c67); (try clear c67b0); (try clear c68); (try clear c68b0); (try clear c85); (try clear c85b0); (try clear c85b1); (try clear c85b2); (try clear c86); (try clear c86b0); (try clear c86b1); (try clear c87); (try clear c87b0); (try clear c87b1); (try clear c87b2); (try clear c88); (try clear c88b0); (try clear c88b1); (try clear c89); (try clear c89b0); (try clear c89b1); (try clear c89b2); (try clear c90); (try clear c90b0); (try clear c90b1); (try clear c91); (try clear c91b0); (try clear c91b1); (try clear c91b2); (try clear c92); (try clear c92b0); (try clear c92b1); (try clear c93); (try clear c93b0); (try clear c93b1); (try clear c93b2); (try clear c94); (try clear c94b0); (try clear c94b1); (try clear c106); (try clear c108); (try clear c108b0)
       (try clear c109); (try clear c109b0); (try clear c110); (try clear c110b0); (try clear c111); (try clear c111b0); (try clear p112); (try clear q112); (try clear hx112); (try clear c113); (try clear c113b0); (try clear p114); (try clear q114); (try clear hx114); (try clear c115); (try clear c115b0); (try clear c116); (try clear c116b0); (try clear c116b1); (try clear c116b2); (try clear c119); (try clear c119b0); (try clear c119b1); (try clear c119b2); (try clear c123); (try clear c125); (try clear c125b0); (try clear c126); (try clear c126b0); (try clear c127); (try clear c127b0); (try clear c128); (try clear c128b0); (try clear p129); (try clear q129); (try clear hx129); (try clear c130); (try clear c130b0); (try clear p131); (try clear q131); (try clear hx131); (try clear c132); (try clear c132b0); (try clear c132b1); (try clear c132b2); (try clear hx442_0); (try clear p1); (try clear p11)
       (try clear p112); (try clear p114); (try clear p129); (try clear p131); (try clear p2); (try clear p4); (try clear p44); (try clear p442); (try clear p6); (try clear p64); (try clear q1); (try clear q11); (try clear q112); (try clear q114); (try clear q129); (try clear q131); (try clear q4); (try clear q44); (try clear q442)
       obtain ⟨kq, HA, HJ121, HO_54, HB⟩ := hcut
       cases kq with
       | zero => exact absurd HA.out (by simp [laws_FnOrdersTurn.j5])
       | succ kj121 =>
        have H := HA.out
        clear HA
        simp only [laws_FnOrdersTurn.j5] at H
        have HC135 := Aside0.mk H
        clear H
        go_upto_if 460 with (fail)
        refine wp_cutF [none, none, none, none, some 4, none, none, none, none, none, none, none, none, none, none, none, none, none, none, none, none, none, none, none, none, none, none, none, none, none, none, none, none, none, none, none, none, none, none, none, none, none, none, none, none, none, none, none, none, none, none, none, none, none, none, none, none, none, none, none, none, none, none, none, none, none, some 66, none, none, none, none, none, some 72, some 73, some 74, some 75, some 76, some 77, some 78, some 79, some 80, some 81, some 82, some 83, some 84, some 85, some 86, some 87, some 88, some 89, some 90, some 91, some 92, some 93, some 94, some 95, some 96, some 97, some 98, some 99, some 100, some 101, some 102, some 103, some 104, some 105, some 106, some 107, some 108, some 109, some 110, some 111, some 112, some 113, some 114, some 115, some 116, some 117, some 118, some 119, some 120, some 121, some 122, some 123, some 124, some 125, some 126, some 127, some 128, some 129, some 130, some 131, some 132, some 133, some 134, some 135, some 136, some 137, some 138, some 139, some 140, some 141, some 142, some 143, some 144, some 145, some 146, some 147, some 148, some 149, some 150, some 151, some 152, some 153, some 154, some 155, some 156, some 157, some 158, some 159, some 160, some 161, some 162, some 163, some 164, some 165, some 166, some 167, some 168, some 169, some 170, some 171, some 172, some 173, some 174, some 175, some 176, some 177, some 178, some 179, some 180, some 181, some 182, some 183, some 184, some 185, some 186, some 187, some 188, some 189, some 190, some 191, some 192, some 193, some 194, some 195, some 196, some 197, some 198, some 199, some 200, some 201, some 202, some 203, some 204, some 205, some 206, some 207, some 208, some 209, some 210, some 211, some 212, some 213, some 214, some 215, some 216, some 217, some 218, some 219, some 220, some 221, some 222, some 223, some 224, some 225, some 226, some 227, some 228, some 229, some 230, some 231, some 232, some 233, some 234, some 235, some 236, some 237, some 238, some 239, some 240, none, none, none, some 244, some 245, some 246, some 247, some 248, some 249, some 250, some 251, some 252, some 253, some 254, some 255, some 256, some 257, some 258, some 259, some 260, some 261, some 262, some 263, some 264, some 265, some 266, some 267, some 268, some 269, some 270, some 271, some 272, some 273, some 274, some 275, some 276, some 277, some 278, some 279, some 280, some 281, some 282, some 283, some 284, some 285, some 286, some 287, some 288, some 289, some 290, some 291, some 292, some 293, some 294, some 295, some 296, some 297, some 298, some 299, some 300, some 301, some 302, some 303, some 304, some 305, some 306, some 307, some 308, some 309, some 310, some 311, some 312, some 313, some 314, some 315, some 316, some 317, some 318, some 319, some 320, some 321, some 322, some 323, some 324, some 325, some 326, some 327, some 328, some 329, some 330, some 331, some 332, some 333, some 334, some 335, some 336, some 337, some 338, some 339, some 340, some 341, some 342, some 343, some 344, some 345, some 346, some 347, some 348, some 349, some 350, some 351, some 352, some 353, some 354, some 355, some 356, some 357, some 358, some 359, some 360, some 361, some 362, some 363, some 364, some 365, some 366, some 367, some 368, some 369, some 370, some 371, some 372, some 373, some 374, some 375, some 376, some 377, some 378, some 379, some 380, some 381, some 382, some 383, some 384, some 385, some 386, some 387, some 388, some 389, some 390, some 391, some 392, some 393, some 394, some 395, some 396, some 397, some 398, some 399, some 400, some 401, some 402, some 403, some 404, some 405, some 406, some 407, some 408, some 409, some 410, some 411, some 412, some 413, some 414, some 415, some 416, some 417, some 418, some 419, some 420, some 421, some 422, none, none, some 425, some 426, some 427, some 428, some 429, some 430, some 431, some 432, some 433, some 434, some 435, some 436, some 437, some 438, some 439, some 440, some 441, some 442, some 443, some 444, none, none, some 447, some 448, some 449, some 450, some 451, some 452, some 453, some 454, some 455, some 456, some 457, some 458, some 459, some 460, some 461, some 462, some 463, some 464, some 465, some 466, some 467, some 468, some 469, some 470, some 471, some 472, some 473, some 474, some 475, some 476, some 477, some 478, some 479, some 480, some 481, some 482, some 483, some 484, some 485, none, none, none, some 489, some 490, some 491, some 492, some 493, some 494, some 495, some 496, some 497, some 498, some 499, some 500, some 501, some 502, some 503, some 504, some 505, some 506, some 507, some 508, some 509] (by kernel_rfl) (fun V_ wc => ∃ (kq : Nat), Aside0 (laws_FnOrdersTurn.j7 kq t466 t467 t470 t471 = some true) ∧ Aside0 (kq ≤ kj121) ∧ Aside0 (Kd.N (Kd.slice 3 (Kd.int .i64)) 31 wc w.heap.size (fun _ => True) (.slice Ao102 t467.length co102) t467) ∧ Aside0 (Below w.heap.size w wc)) ?first ?rest
        case first =>
         intro _ _ hJj7 _
         have H := HC135.out
         clear HC135
         by_cases c136 : t463 = true
         ·subst c136
          have H1 : (laws_FnOrdersTurn.l3 kj121 t456 t457 t462 t466 t467 t470 t471 0 t456) = some true := by rw [if_pos rfl] at H; exact H
          clear H
          have H := H1
          clear H1
          have H' := Aside0.mk H
          clear H
          go_wp2_with (first | ((with_reducible refine gate_dst (N := 462) rfl ?_); (try (refine gate_guard (by rfl) ?_; dsimp only)); refine range_event ?hg (N := 462) ?hd (s := t456) ?hr ?_; (case hd => rfl); (case hg => rfl); (case hr => first | (go_simp; done) | (go_simp; rfl)); intro gb481 hg w137 hbox hb; have n0_ := Aside0.mk (Kd.N_below (Kd.N_elderB (by (with_reducible repeat (first | apply Kd.N_alloc | apply Kd.N_drewN | apply Kd.N_drew)); exact HO_54.out) gb481 (Nat.le_of_eq hg.symm)) hb); have n1_ := Aside0.mk (below_step (by repeat (first | (with_reducible first | exact HB.out | apply below_alloc | apply pw_below_drewN | apply below_drew1) | exact HB.out)) hb); have n2_ := Aside0.mk (hbox); have n3_ := Aside0.mk ((by rw [hg]; exact (below_size (by repeat (first | (with_reducible first | exact HB.out | apply below_alloc | apply pw_below_drewN | apply below_drew1) | exact HB.out))) : w.heap.size ≤ gb481)); have n4_ := Aside0.mk ((by rw [hg]; exact (below_size (by repeat (first | (with_reducible first | exact HB.out | apply below_alloc | apply pw_below_drewN | apply below_drew1) | exact HB.out))) : w.heap.size ≤ gb481)); clear HO_54; clear HB; have HO_54 := n0_; have HB := n1_; have BK481 := n2_; have GW481 := n3_; have GE481 := n4_; clear n0_ n1_ n2_ n3_ n4_; clear hb hbox hg))
          (try simp only [Act.put, List.setIfInBounds_toArray, List.set_cons_zero, List.set_cons_succ])
          refine wp_loopF [none, none, none, none, some 4, none, none, none, none, none, none, none, none, none, none, none, none, none, none, none, none, none, none, none, none, none, none, none, none, none, none, none, none, none, none, none, none, none, none, none, none, none, none, none, none, none, none, none, none, none, none, none, none, none, none, none, none, none, none, none, none, none, none, none, none, none, some 66, none, none, none, none, none, none, none, none, none, none, none, none, none, none, none, none, none, none, none, none, none, none, none, none, none, none, none, none, none, none, none, none, none, none, none, none, none, none, none, none, none, none, none, none, none, none, none, none, none, none, none, none, none, none, none, none, none, none, none, none, none, none, none, none, none, none, none, none, none, none, none, none, none, none, none, none, none, none, none, none, none, none, none, none, none, none, none, none, none, none, none, none, none, none, none, none, none, none, none, none, none, none, none, none, none, none, none, none, none, none, none, none, none, none, none, none, none, none, none, none, none, none, none, none, none, none, none, none, none, none, none, none, none, none, none, none, none, none, none, none, none, none, none, none, none, none, none, none, none, none, none, none, none, none, none, none, none, none, none, none, none, none, none, none, none, none, none, none, none, none, none, none, none, none, none, none, none, none, none, none, none, none, none, none, none, none, none, none, none, none, none, none, none, none, none, none, none, none, none, none, none, none, none, none, none, none, none, none, none, none, none, none, none, none, none, none, none, none, none, none, none, none, none, none, none, none, none, none, none, none, none, none, none, none, none, none, none, none, none, none, none, none, none, none, none, none, none, none, none, none, none, none, none, none, none, none, none, none, none, none, none, none, none, none, none, none, none, none, none, none, none, none, none, none, none, none, none, none, none, none, none, none, none, none, none, none, none, none, none, none, none, none, none, none, none, none, none, none, none, none, none, none, none, none, none, none, none, none, none, none, none, none, none, none, none, none, none, none, none, none, none, none, none, none, none, none, none, none, none, none, none, none, none, none, none, none, none, none, none, none, none, none, none, none, none, none, none, none, none, none, none, none, none, none, none, none, none, none, none, none, none, none, none, none, none, none, none, none, none, none, none, none, none, none, none, none, none, none, none, none, none, none, none, none, none, none, none, none, none, none, none, none, none, none, none, none, some 463, some 464, some 465, some 466, some 467, some 468, some 469, some 470, some 471, some 472, some 473, some 474, some 475, some 476, some 477, some 478, some 479, some 480, some 481, some 482, some 483, none, none, none, none, none, none, none, none, none, none, none, none, none, none, none, none, none, none, none, none, none, none, none, none, none, none] (by kernel_rfl) kj121 (fun kq V_ w' => ∃ (x482000_4 : Int), Aside0 (laws_FnOrdersTurn.l3 kq t456 t457 t462 t466 t467 t470 t471 x482000_4 t456 = some true) ∧ Aside0 (kq ≤ kj121) ∧ Aside0 (Kd.N (Kd.slice 3 (Kd.int .i64)) 31 w' w.heap.size (fun k_ => k_ ≠ gb481) (.slice Ao102 t467.length co102) t467) ∧ Aside0 (w'.heap[gb481]? = some (.stringIter t456 (x482000_4 : Int).toNat)) ∧ Aside0 (Below w.heap.size w w')) (by rfl) ?atStart ?round
          case atStart => exact ⟨(0), H', ⟨Nat.le_refl _⟩, ⟨by (with_reducible repeat (first | apply Kd.N_alloc | apply Kd.N_drewN | apply Kd.N_drew)); exact Kd.N_mono HO_54.out (fun _ hk => hk.2)⟩, ⟨by (with_reducible repeat (first | refine blk_drewN ?_ _ | refine blk_drew ?_ | refine blk_alloc ?_ _)); exact BK481.out⟩, ⟨by repeat (first | (with_reducible first | exact HB.out | apply below_alloc | apply pw_below_drewN | apply below_drew1 | refine below_set ?_ GE481.out) | exact HB.out)⟩⟩
          case round =>
           clear H'
           intro gk V_ wr hrel _ _ hJl3 _
           dsimp only [forg]
           (try clear c1); (try clear p1); (try clear q1); (try clear hx1); (try clear c2); (try clear p2); (try clear c3); (try clear c4); (try clear p4); (try clear q4); (try clear hx4); (try clear c5); (try clear c6); (try clear p6); (try clear c7); (try clear c8); (try clear c9); (try clear c10); (try clear c11); (try clear p11); (try clear q11); (try clear hx11); (try clear c12); (try clear p12); (try clear q12); (try clear hx12); (try clear c13); (try clear p13); (try clear q13); (try clear hx13); (try clear c14); (try clear c14b0); (try clear c14b1); (try clear c14b2); (try clear c16); (try clear c17); (try clear c17b0); (try clear c17b1); (try clear c17b2); (try clear c18); (try clear c18b0); (try clear c18b1); (try clear c19); (try clear c19b0); (try clear c19b1); (try clear c19b2); (try clear c20); (try clear c21); (try clear c22); (try clear c22b0); (try clear c22b1); (try clear c22b2)
           (try clear c23); (try clear c23b0); (try clear c23b1); (try clear c24); (try clear c24b0); (try clear c24b1); (try clear c24b2); (try clear c25); (try clear c25b0); (try clear c25b1); (try clear c25b2); (try clear c26); (try clear c26b0); (try clear c26b1); (try clear c26b2); (try clear c27); (try clear c28); (try clear c29); (try clear c30); (try clear c41); (try clear c44); (try clear p44); (try clear q44); (try clear hx44); (try clear c45); (try clear c45b0); (try clear c45b1); (try clear c46); (try clear c46b0); (try clear c46b1); (try clear c47); (try clear c48); (try clear c48b0); (try clear c49); (try clear c49b0); (try clear c49b1); (try clear c51); (try clear c52); (try clear c52b0); (try clear c53); (try clear c53b0); (try clear c55); (try clear c55b0); (try clear c56); (try clear c56b0); (try clear c57); (try clear c57b0); (try clear c59); (try clear c61); (try clear c61b0)
           (try clear c61b1); (try clear c62); (try clear c62b0); (try clear c62b1); (try clear p64); (try clear c65); (try clear c66); (try clear c67); (try clear c67b0); (try clear c68); (try clear c68b0); (try clear c85); (try clear c85b0); (try clear c85b1); (try clear c85b2); (try clear c86); (try clear c86b0); (try clear c86b1); (try clear c87); (try clear c87b0); (try clear c87b1); (try clear c87b2); (try clear c88); (try clear c88b0); (try clear c88b1); (try clear c89); (try clear c89b0); (try clear c89b1); (try clear c89b2); (try clear c90); (try clear c90b0); (try clear c90b1); (try clear c91); (try clear c91b0); (try clear c91b1); (try clear c91b2); (try clear c92); (try clear c92b0); (try clear c92b1); (try clear c93); (try clear c93b0); (try clear c93b1); (try clear c93b2); (try clear c94); (try clear c94b0); (try clear c94b1); (try clear c106); (try clear c108); (try clear c108b0)
           (try clear c109); (try clear c109b0); (try clear c110); (try clear c110b0); (try clear c111); (try clear c111b0); (try clear p112); (try clear q112); (try clear hx112); (try clear c113); (try clear c113b0); (try clear p114); (try clear q114); (try clear hx114); (try clear c115); (try clear c115b0); (try clear c116); (try clear c116b0); (try clear c116b1); (try clear c116b2); (try clear c119); (try clear c119b0); (try clear c119b1); (try clear c119b2); (try clear c123); (try clear c125); (try clear c125b0); (try clear c126); (try clear c126b0); (try clear c127); (try clear c127b0); (try clear c128); (try clear c128b0); (try clear p129); (try clear q129); (try clear hx129); (try clear c130); (try clear c130b0); (try clear p131); (try clear q131); (try clear hx131); (try clear c132); (try clear c132b0); (try clear c132b1); (try clear c132b2); (try clear c136); (try clear hx442_0)
           (try clear p1); (try clear p11); (try clear p112); (try clear p114); (try clear p12); (try clear p129); (try clear p13); (try clear p131); (try clear p2); (try clear p4); (try clear p44); (try clear p442); (try clear p6); (try clear p64); (try clear q1); (try clear q11); (try clear q112); (try clear q114); (try clear q12); (try clear q129); (try clear q13); (try clear q131); (try clear q4); (try clear q44); (try clear q442)
           obtain ⟨x482000_4, HA, HK4, HO_54, BK481, HB⟩ := hrel
           cases gk with
           | zero => exact absurd HA.out (by simp [laws_FnOrdersTurn.l3])
           | succ k4 =>
            have H := HA.out
            clear HA
            simp only [laws_FnOrdersTurn.l3] at H
            by_cases c138 : x482000_4 < (t456.size : Int)
            ·rw [if_pos c138] at H
             have c138b0 : decide (x482000_4 < (t456.size : Int)) = true := decide_eq_true c138
             clear c138
             (first | rw [c138b0] | (simp only [i64_w, i32_w]; rw [c138b0]) | skip)
             by_cases c139 : 0 ≤ x482000_4
             rotate_left
             ·rw [if_neg c139] at H; exact absurd H (by simp)
             rw [if_pos c139] at H
             have c139b0 : decide (0 ≤ x482000_4) = true := decide_eq_true c139
             clear c139
             by_cases c140 : bt t456 x482000_4 < 128
             rotate_left
             ·rw [if_neg c140] at H; exact absurd H (by simp)
             rw [if_pos c140] at H
             have c140b0 : decide (bt t456 x482000_4 < 128) = true := decide_eq_true c140
             clear c140
             by_cases c141 : x482000_4 < (t462.size : Int)
             rotate_left
             ·rw [if_neg c141] at H; exact absurd H (by simp)
             rw [if_pos c141] at H
             have c141b0 : decide (x482000_4 < (t462.size : Int)) = true := decide_eq_true c141
             clear c141
             by_cases c143 : x482000_4 < (t456.size : Int)
             rotate_left
             ·rw [if_neg c143] at H; exact absurd H (by simp)
             rw [if_pos c143] at H
             have c143b0 : decide (x482000_4 < (t456.size : Int)) = true := decide_eq_true c143
             clear c143
             by_cases c145 : x482000_4 ≥ (wrap64 (t457 - 1))
             ·rw [if_pos c145] at H
              have c145b0 : decide ((wrap64 (t457 - 1)) ≤ x482000_4) = true := decide_eq_true c145
              clear c145
              by_cases c146 : (((bt t462 x482000_4) != (bt t456 x482000_4)) != (decide (x482000_4 ≤ (wrap64 (t457 + 1))))) = true
              ·rw [if_pos c146] at H; exact absurd H (by simp)
              rw [if_neg c146] at H
              have c146b0 : (((bt t462 x482000_4) != (bt t456 x482000_4)) != (decide (x482000_4 ≤ (wrap64 (t457 + 1))))) = false := by simpa using c146
              (try (have c146b1 : decide (((bt t462 x482000_4) != (bt t456 x482000_4)) = (decide (x482000_4 ≤ (wrap64 (t457 + 1))))) = true := by simpa using c146))
              (try (have c146b2 : (((bt t462 x482000_4) != (bt t456 x482000_4)) == (decide (x482000_4 ≤ (wrap64 (t457 + 1))))) = true := by simpa using c146))
              clear c146
              have H' := Aside0.mk H
              clear H
              try go_wp2_with (first | ((with_reducible refine gate_dst (N := 463) rfl ?_); (try (refine gate_guard (by rfl) ?_; dsimp only)); refine next_event ?hg (N := 463) ?hd (it := 462) (g := gb481) (s := t456) (p := x482000_4) ?hc ?ho ?hi (of_decide_eq_true (by first | (with_reducible assumption) | assumption | (simp only [decide_eq_true_eq]; omega))) (of_decide_eq_true (by first | (with_reducible assumption) | assumption | (simp only [decide_eq_true_eq]; omega))) (of_decide_eq_true (by first | (with_reducible assumption) | assumption | (simp only [decide_eq_true_eq]; omega))) ?_; (case hd => rfl); (case hg => rfl); (case hc => exact (by (with_reducible repeat (first | refine blk_drewN ?_ _ | refine blk_drew ?_ | refine blk_alloc ?_ _)); exact BK481.out)); (case ho => rfl); (case hi => rfl); intro w147 hbox hgr; have n0_ := Aside0.mk (Kd.N_grown (ok := fun k_ => k_ ≠ gb481) (by (with_reducible repeat (first | apply Kd.N_alloc | apply Kd.N_drewN | apply Kd.N_drew)); exact HO_54.out) hgr (fun k_ hk_ e_ => (hk_) (Option.some.inj e_))); have n1_ := Aside0.mk (hbox); have n2_ := Aside0.mk (Below.grown (by repeat (first | (with_reducible first | exact HB.out | apply below_alloc | apply pw_below_drewN | apply below_drew1 | refine below_set ?_ GE481.out) | exact HB.out)) hgr (below_size (by repeat (first | (with_reducible first | exact HB.out | apply below_alloc | apply pw_below_drewN | apply below_drew1 | refine below_set ?_ GE481.out) | exact HB.out))) (fun k_ e_ => by rw [← Option.some.inj e_]; exact GE481.out)); clear HO_54; clear BK481; clear HB; have HO_54 := n0_; have BK481 := n1_; have HB := n2_; clear n0_ n1_ n2_; clear hbox hgr))
              have n0_ := Aside0.mk (Kd.N_drew HO_54.out)
              have n1_ := Aside0.mk (blk_drew BK481.out)
              have n2_ := Aside0.mk (below_drew1 HB.out)
              clear HO_54
              clear BK481
              clear HB
              have HO_54 := n0_
              have BK481 := n1_
              have HB := n2_
              clear n0_ n1_ n2_
              have p142 : 0 ≤ (x482000_4 : Int) := of_decide_eq_true (by first | (with_reducible assumption) | assumption)
              have q142 : x482000_4 < (t462.size : Int) := of_decide_eq_true (by first | (with_reducible assumption) | assumption)
              have hx142 := bt_at t462 x482000_4
              replace p142 := eq_true p142
              replace q142 := eq_true q142
              have p144 : 0 ≤ (x482000_4 : Int) := of_decide_eq_true (by first | (with_reducible assumption) | assumption)
              have q144 : x482000_4 < (t456.size : Int) := of_decide_eq_true (by first | (with_reducible assumption) | assumption)
              have hx144 := bt_at t456 x482000_4
              replace p144 := eq_true p144
              replace q144 := eq_true q144
              refine start_ (n := 18) (S := fun w' => True) (ds := []) #[false, false, false, false, false, false, false, false, false, false, false, false, false, false, false, false, false, false] (by kernel_rfl) rfl rfl trivial (fun hHeld => ?_); refine with_tabW laws_FnOrdersTurn.tab67 laws_FnOrdersTurn.bits67 (fun HT_ HW_ => ?_)
              generalize w147.drew = w148 at HO_54 BK481 HB hHeld ⊢
              refine pure_ (i := 0) (N := some 466) (v := ?_) (a' := ?_) #[true, false, false, false, false, false, false, false, false, false, false, false, false, false, false, false, false, false] rfl rfl (any_of HT_.out (by kernel_rfl)) (fun _ _ _ h => h) (Or.inl ⟨by rfl, ?_⟩) ?_ ?_
              rotate_left
              ·intro w'
               go_simp
               with_reducible rfl
              rotate_left
              ·simp only [Act.put, List.setIfInBounds_toArray, List.set_cons_zero, List.set_cons_succ, i64_w, i32_w]
               rfl
              refine pure_ (i := 1) (N := some 467) (v := ?_) (a' := ?_) #[true, true, false, false, false, false, false, false, false, false, false, false, false, false, false, false, false, false] rfl rfl (any_of HT_.out (by kernel_rfl)) (fun _ _ _ h => h) (Or.inl ⟨by rfl, ?_⟩) ?_ ?_
              rotate_left
              ·intro w'
               go_simp
               with_reducible rfl
              rotate_left
              ·simp only [Act.put, List.setIfInBounds_toArray, List.set_cons_zero, List.set_cons_succ, i64_w, i32_w]
               rfl
              refine pure_ (i := 3) (N := some 469) (v := ?_) (a' := ?_) #[true, true, false, true, false, false, false, false, false, false, false, false, false, false, false, false, false, false] rfl rfl (any_of HT_.out (by kernel_rfl)) (fun _ _ _ h => h) (Or.inl ⟨by rfl, ?_⟩) ?_ ?_
              rotate_left
              ·intro w'
               go_simp
               with_reducible rfl
              rotate_left
              ·simp only [Act.put, List.setIfInBounds_toArray, List.set_cons_zero, List.set_cons_succ, i64_w, i32_w]
               rfl
              refine pure_ (i := 4) (N := some 470) (v := ?_) (a' := ?_) #[true, true, false, true, true, false, false, false, false, false, false, false, false, false, false, false, false, false] rfl rfl (any_of HT_.out (by kernel_rfl)) (fun _ _ _ h => h) (Or.inl ⟨by rfl, ?_⟩) ?_ ?_
              rotate_left
              ·intro w'
               go_simp
               with_reducible rfl
              rotate_left
              ·simp only [Act.put, List.setIfInBounds_toArray, List.set_cons_zero, List.set_cons_succ, i64_w, i32_w]
               rfl
              refine pure_ (i := 7) (N := some 473) (v := ?_) (a' := ?_) #[true, true, false, true, true, false, false, true, false, false, false, false, false, false, false, false, false, false] rfl rfl (any_of HT_.out (by kernel_rfl)) (fun _ _ _ h => h) (Or.inl ⟨by rfl, ?_⟩) ?_ ?_
              rotate_left
              ·intro w'
               go_simp
               with_reducible rfl
              rotate_left
              ·simp only [Act.put, List.setIfInBounds_toArray, List.set_cons_zero, List.set_cons_succ, i64_w, i32_w]
               rfl
              refine pure_ (i := 8) (N := some 474) (v := ?_) (a' := ?_) #[true, true, false, true, true, false, false, true, true, false, false, false, false, false, false, false, false, false] rfl rfl (any_of HT_.out (by kernel_rfl)) (fun _ _ _ h => h) (Or.inl ⟨by rfl, ?_⟩) ?_ ?_
              rotate_left
              ·intro w'
               go_simp
               with_reducible rfl
              rotate_left
              ·simp only [Act.put, List.setIfInBounds_toArray, List.set_cons_zero, List.set_cons_succ, i64_w, i32_w]
               rfl
              refine pure_ (i := 9) (N := some 475) (v := ?_) (a' := ?_) #[true, true, false, true, true, false, false, true, true, true, false, false, false, false, false, false, false, false] rfl rfl (any_of HT_.out (by kernel_rfl)) (fun _ _ _ h => h) (Or.inl ⟨by rfl, ?_⟩) ?_ ?_
              rotate_left
              ·intro w'
               go_simp
               with_reducible rfl
              rotate_left
              ·simp only [Act.put, List.setIfInBounds_toArray, List.set_cons_zero, List.set_cons_succ, i64_w, i32_w]
               rfl
              refine pure_ (i := 10) (N := some 476) (v := ?_) (a' := ?_) #[true, true, false, true, true, false, false, true, true, true, true, false, false, false, false, false, false, false] rfl rfl (any_of HT_.out (by kernel_rfl)) (fun _ _ _ h => h) (Or.inl ⟨by rfl, ?_⟩) ?_ ?_
              rotate_left
              ·intro w'
               go_simp
               with_reducible rfl
              rotate_left
              ·simp only [Act.put, List.setIfInBounds_toArray, List.set_cons_zero, List.set_cons_succ, i64_w, i32_w]
               rfl
              refine pure_ (i := 11) (N := some 477) (v := ?_) (a' := ?_) #[true, true, false, true, true, false, false, true, true, true, true, true, false, false, false, false, false, false] rfl rfl (any_of HT_.out (by kernel_rfl)) (fun _ _ _ h => h) (Or.inl ⟨by rfl, ?_⟩) ?_ ?_
              rotate_left
              ·intro w'
               go_simp
               with_reducible rfl
              rotate_left
              ·simp only [Act.put, List.setIfInBounds_toArray, List.set_cons_zero, List.set_cons_succ, i64_w, i32_w]
               rfl
              refine pure_ (i := 12) (N := some 478) (v := ?_) (a' := ?_) #[true, true, false, true, true, false, false, true, true, true, true, true, true, false, false, false, false, false] rfl rfl (any_of HT_.out (by kernel_rfl)) (fun _ _ _ h => h) (Or.inl ⟨by rfl, ?_⟩) ?_ ?_
              rotate_left
              ·intro w'
               go_simp
               with_reducible rfl
              rotate_left
              ·simp only [Act.put, List.setIfInBounds_toArray, List.set_cons_zero, List.set_cons_succ, i64_w, i32_w]
               rfl
              refine pure_ (i := 13) (N := some 479) (v := ?_) (a' := ?_) #[true, true, false, true, true, false, false, true, true, true, true, true, true, true, false, false, false, false] rfl rfl (any_of HT_.out (by kernel_rfl)) (fun _ _ _ h => h) (Or.inl ⟨by rfl, ?_⟩) ?_ ?_
              rotate_left
              ·intro w'
               go_simp
               with_reducible rfl
              rotate_left
              ·simp only [Act.put, List.setIfInBounds_toArray, List.set_cons_zero, List.set_cons_succ, i64_w, i32_w]
               rfl
              refine pure_ (i := 14) (N := some 480) (v := ?_) (a' := ?_) #[true, true, false, true, true, false, false, true, true, true, true, true, true, true, true, false, false, false] rfl rfl (any_of HT_.out (by kernel_rfl)) (fun _ _ _ h => h) (Or.inl ⟨by rfl, ?_⟩) ?_ ?_
              rotate_left
              ·intro w'
               go_simp
               with_reducible rfl
              rotate_left
              ·simp only [Act.put, List.setIfInBounds_toArray, List.set_cons_zero, List.set_cons_succ, i64_w, i32_w]
               rfl
              refine pure_ (i := 15) (N := some 481) (v := ?_) (a' := ?_) #[true, true, false, true, true, false, false, true, true, true, true, true, true, true, true, true, false, false] rfl rfl (any_of HT_.out (by kernel_rfl)) (fun _ _ _ h => h) (Or.inl ⟨by rfl, ?_⟩) ?_ ?_
              rotate_left
              ·intro w'
               go_simp
               with_reducible rfl
              rotate_left
              ·simp only [Act.put, List.setIfInBounds_toArray, List.set_cons_zero, List.set_cons_succ, i64_w, i32_w]
               rfl
              refine pure_ (i := 16) (N := some 482) (v := ?_) (a' := ?_) #[true, true, false, true, true, false, false, true, true, true, true, true, true, true, true, true, true, false] rfl rfl (any_of HT_.out (by kernel_rfl)) (fun _ _ _ h => h) (Or.inl ⟨by rfl, ?_⟩) ?_ ?_
              rotate_left
              ·intro w'
               go_simp
               with_reducible rfl
              rotate_left
              ·simp only [Act.put, List.setIfInBounds_toArray, List.set_cons_zero, List.set_cons_succ, i64_w, i32_w]
               rfl
              refine take_ (i := 2) (N := some 468) (v := ?_) (a' := ?_) #[true, true, true, true, true, false, false, true, true, true, true, true, true, true, true, true, true, false] rfl rfl (take_ofW HT_.out HW_.out (by kernel_rfl)) (fun _ _ _ h => h) (Or.inl ⟨by rfl, ?_⟩) hHeld ?_ ?_
              rotate_left
              ·intro w' _
               go_simp
               with_reducible rfl
              rotate_left
              ·simp only [Act.put, List.setIfInBounds_toArray, List.set_cons_zero, List.set_cons_succ, i64_w, i32_w]
               rfl
              refine take_ (i := 5) (N := some 471) (v := ?_) (a' := ?_) #[true, true, true, true, true, true, false, true, true, true, true, true, true, true, true, true, true, false] rfl rfl (take_ofW HT_.out HW_.out (by kernel_rfl)) (fun _ _ _ h => h) (Or.inl ⟨by rfl, ?_⟩) hHeld ?_ ?_
              rotate_left
              ·intro w' _
               go_simp
               with_reducible rfl
              rotate_left
              ·simp only [Act.put, List.setIfInBounds_toArray, List.set_cons_zero, List.set_cons_succ, i64_w, i32_w]
               rfl
              refine pure_ (i := 6) (N := some 472) (v := ?_) (a' := ?_) #[true, true, true, true, true, true, true, true, true, true, true, true, true, true, true, true, true, false] rfl rfl (any_of HT_.out (by kernel_rfl)) (fun _ _ _ h => h) (Or.inl ⟨by rfl, ?_⟩) ?_ ?_
              rotate_left
              ·intro w'
               go_simp
               with_reducible rfl
              rotate_left
              ·simp only [Act.put, List.setIfInBounds_toArray, List.set_cons_zero, List.set_cons_succ, i64_w, i32_w]
               rfl
              refine pure_ (i := 17) (N := some 483) (v := ?_) (a' := ?_) #[true, true, true, true, true, true, true, true, true, true, true, true, true, true, true, true, true, true] rfl rfl (any_of HT_.out (by kernel_rfl)) (fun _ _ _ h => h) (Or.inl ⟨by rfl, ?_⟩) ?_ ?_
              rotate_left
              ·intro w'
               go_simp
               with_reducible rfl
              rotate_left
              ·simp only [Act.put, List.setIfInBounds_toArray, List.set_cons_zero, List.set_cons_succ, i64_w, i32_w]
               rfl
              refine done_ (done_of HT_.out (by kernel_rfl)) ?_
              try go_wp2
              refine Handed.intro k4 ?measure (hJl3 _ _ _ rfl ?rel)
              case measure => have := HJ26.out; have := HJ94.out; have := HJ121.out; have := HK4.out; omega
              case rel => exact ⟨(x482000_4 + 1), H', ⟨by have := HJ26.out; have := HJ94.out; have := HJ121.out; have := HK4.out; omega⟩, ⟨by (with_reducible repeat (first | apply Kd.N_alloc | apply Kd.N_drewN | apply Kd.N_drew)); exact HO_54.out⟩, ⟨by (with_reducible repeat (first | refine blk_drewN ?_ _ | refine blk_drew ?_ | refine blk_alloc ?_ _)); exact BK481.out⟩, ⟨by repeat (first | (with_reducible first | exact HB.out | apply below_alloc | apply pw_below_drewN | apply below_drew1 | refine below_set ?_ GE481.out) | exact HB.out)⟩⟩
             ·rw [if_neg c145] at H
              have c145b0 : decide ((wrap64 (t457 - 1)) ≤ x482000_4) = false := decide_eq_false c145
              clear c145
              by_cases c149 : (((bt t462 x482000_4) != (bt t456 x482000_4)) != false) = true
              ·rw [if_pos c149] at H; exact absurd H (by simp)
              rw [if_neg c149] at H
              have c149b0 : (((bt t462 x482000_4) != (bt t456 x482000_4)) != false) = false := by simpa using c149
              (try (have c149b1 : decide (((bt t462 x482000_4) != (bt t456 x482000_4)) = false) = true := by simpa using c149))
              (try (have c149b2 : (((bt t462 x482000_4) != (bt t456 x482000_4)) == false) = true := by simpa using c149))
              clear c149
              have H' := Aside0.mk H
              clear H
              try go_wp2_with (first | ((with_reducible refine gate_dst (N := 463) rfl ?_); (try (refine gate_guard (by rfl) ?_; dsimp only)); refine next_event ?hg (N := 463) ?hd (it := 462) (g := gb481) (s := t456) (p := x482000_4) ?hc ?ho ?hi (of_decide_eq_true (by first | (with_reducible assumption) | assumption | (simp only [decide_eq_true_eq]; omega))) (of_decide_eq_true (by first | (with_reducible assumption) | assumption | (simp only [decide_eq_true_eq]; omega))) (of_decide_eq_true (by first | (with_reducible assumption) | assumption | (simp only [decide_eq_true_eq]; omega))) ?_; (case hd => rfl); (case hg => rfl); (case hc => exact (by (with_reducible repeat (first | refine blk_drewN ?_ _ | refine blk_drew ?_ | refine blk_alloc ?_ _)); exact BK481.out)); (case ho => rfl); (case hi => rfl); intro w150 hbox hgr; have n0_ := Aside0.mk (Kd.N_grown (ok := fun k_ => k_ ≠ gb481) (by (with_reducible repeat (first | apply Kd.N_alloc | apply Kd.N_drewN | apply Kd.N_drew)); exact HO_54.out) hgr (fun k_ hk_ e_ => (hk_) (Option.some.inj e_))); have n1_ := Aside0.mk (hbox); have n2_ := Aside0.mk (Below.grown (by repeat (first | (with_reducible first | exact HB.out | apply below_alloc | apply pw_below_drewN | apply below_drew1 | refine below_set ?_ GE481.out) | exact HB.out)) hgr (below_size (by repeat (first | (with_reducible first | exact HB.out | apply below_alloc | apply pw_below_drewN | apply below_drew1 | refine below_set ?_ GE481.out) | exact HB.out))) (fun k_ e_ => by rw [← Option.some.inj e_]; exact GE481.out)); clear HO_54; clear BK481; clear HB; have HO_54 := n0_; have BK481 := n1_; have HB := n2_; clear n0_ n1_ n2_; clear hbox hgr))
              have n0_ := Aside0.mk (Kd.N_drew HO_54.out)
              have n1_ := Aside0.mk (blk_drew BK481.out)
              have n2_ := Aside0.mk (below_drew1 HB.out)
              clear HO_54
              clear BK481
              clear HB
              have HO_54 := n0_
              have BK481 := n1_
              have HB := n2_
              clear n0_ n1_ n2_
              have p142 : 0 ≤ (x482000_4 : Int) := of_decide_eq_true (by first | (with_reducible assumption) | assumption)
              have q142 : x482000_4 < (t462.size : Int) := of_decide_eq_true (by first | (with_reducible assumption) | assumption)
              have hx142 := bt_at t462 x482000_4
              replace p142 := eq_true p142
              replace q142 := eq_true q142
              have p144 : 0 ≤ (x482000_4 : Int) := of_decide_eq_true (by first | (with_reducible assumption) | assumption)
              have q144 : x482000_4 < (t456.size : Int) := of_decide_eq_true (by first | (with_reducible assumption) | assumption)
              have hx144 := bt_at t456 x482000_4
              replace p144 := eq_true p144
              replace q144 := eq_true q144
              refine start_ (n := 18) (S := fun w' => True) (ds := []) #[false, false, false, false, false, false, false, false, false, false, false, false, false, false, false, false, false, false] (by kernel_rfl) rfl rfl trivial (fun hHeld => ?_); refine with_tabW laws_FnOrdersTurn.tab67 laws_FnOrdersTurn.bits67 (fun HT_ HW_ => ?_)
              generalize w150.drew = w151 at HO_54 BK481 HB hHeld ⊢
              refine pure_ (i := 0) (N := some 466) (v := ?_) (a' := ?_) #[true, false, false, false, false, false, false, false, false, false, false, false, false, false, false, false, false, false] rfl rfl (any_of HT_.out (by kernel_rfl)) (fun _ _ _ h => h) (Or.inl ⟨by rfl, ?_⟩) ?_ ?_
              rotate_left
              ·intro w'
               go_simp
               with_reducible rfl
              rotate_left
              ·simp only [Act.put, List.setIfInBounds_toArray, List.set_cons_zero, List.set_cons_succ, i64_w, i32_w]
               rfl
              refine pure_ (i := 1) (N := some 467) (v := ?_) (a' := ?_) #[true, true, false, false, false, false, false, false, false, false, false, false, false, false, false, false, false, false] rfl rfl (any_of HT_.out (by kernel_rfl)) (fun _ _ _ h => h) (Or.inl ⟨by rfl, ?_⟩) ?_ ?_
              rotate_left
              ·intro w'
               go_simp
               with_reducible rfl
              rotate_left
              ·simp only [Act.put, List.setIfInBounds_toArray, List.set_cons_zero, List.set_cons_succ, i64_w, i32_w]
               rfl
              refine pure_ (i := 3) (N := some 469) (v := ?_) (a' := ?_) #[true, true, false, true, false, false, false, false, false, false, false, false, false, false, false, false, false, false] rfl rfl (any_of HT_.out (by kernel_rfl)) (fun _ _ _ h => h) (Or.inl ⟨by rfl, ?_⟩) ?_ ?_
              rotate_left
              ·intro w'
               go_simp
               with_reducible rfl
              rotate_left
              ·simp only [Act.put, List.setIfInBounds_toArray, List.set_cons_zero, List.set_cons_succ, i64_w, i32_w]
               rfl
              refine pure_ (i := 4) (N := some 470) (v := ?_) (a' := ?_) #[true, true, false, true, true, false, false, false, false, false, false, false, false, false, false, false, false, false] rfl rfl (any_of HT_.out (by kernel_rfl)) (fun _ _ _ h => h) (Or.inl ⟨by rfl, ?_⟩) ?_ ?_
              rotate_left
              ·intro w'
               go_simp
               with_reducible rfl
              rotate_left
              ·simp only [Act.put, List.setIfInBounds_toArray, List.set_cons_zero, List.set_cons_succ, i64_w, i32_w]
               rfl
              refine pure_ (i := 7) (N := some 473) (v := ?_) (a' := ?_) #[true, true, false, true, true, false, false, true, false, false, false, false, false, false, false, false, false, false] rfl rfl (any_of HT_.out (by kernel_rfl)) (fun _ _ _ h => h) (Or.inl ⟨by rfl, ?_⟩) ?_ ?_
              rotate_left
              ·intro w'
               go_simp
               with_reducible rfl
              rotate_left
              ·simp only [Act.put, List.setIfInBounds_toArray, List.set_cons_zero, List.set_cons_succ, i64_w, i32_w]
               rfl
              refine pure_ (i := 8) (N := some 474) (v := ?_) (a' := ?_) #[true, true, false, true, true, false, false, true, true, false, false, false, false, false, false, false, false, false] rfl rfl (any_of HT_.out (by kernel_rfl)) (fun _ _ _ h => h) (Or.inl ⟨by rfl, ?_⟩) ?_ ?_
              rotate_left
              ·intro w'
               go_simp
               with_reducible rfl
              rotate_left
              ·simp only [Act.put, List.setIfInBounds_toArray, List.set_cons_zero, List.set_cons_succ, i64_w, i32_w]
               rfl
              refine pure_ (i := 9) (N := some 475) (v := ?_) (a' := ?_) #[true, true, false, true, true, false, false, true, true, true, false, false, false, false, false, false, false, false] rfl rfl (any_of HT_.out (by kernel_rfl)) (fun _ _ _ h => h) (Or.inl ⟨by rfl, ?_⟩) ?_ ?_
              rotate_left
              ·intro w'
               go_simp
               with_reducible rfl
              rotate_left
              ·simp only [Act.put, List.setIfInBounds_toArray, List.set_cons_zero, List.set_cons_succ, i64_w, i32_w]
               rfl
              refine pure_ (i := 10) (N := some 476) (v := ?_) (a' := ?_) #[true, true, false, true, true, false, false, true, true, true, true, false, false, false, false, false, false, false] rfl rfl (any_of HT_.out (by kernel_rfl)) (fun _ _ _ h => h) (Or.inl ⟨by rfl, ?_⟩) ?_ ?_
              rotate_left
              ·intro w'
               go_simp
               with_reducible rfl
              rotate_left
              ·simp only [Act.put, List.setIfInBounds_toArray, List.set_cons_zero, List.set_cons_succ, i64_w, i32_w]
               rfl
              refine pure_ (i := 11) (N := some 477) (v := ?_) (a' := ?_) #[true, true, false, true, true, false, false, true, true, true, true, true, false, false, false, false, false, false] rfl rfl (any_of HT_.out (by kernel_rfl)) (fun _ _ _ h => h) (Or.inl ⟨by rfl, ?_⟩) ?_ ?_
              rotate_left
              ·intro w'
               go_simp
               with_reducible rfl
              rotate_left
              ·simp only [Act.put, List.setIfInBounds_toArray, List.set_cons_zero, List.set_cons_succ, i64_w, i32_w]
               rfl
              refine pure_ (i := 12) (N := some 478) (v := undef) (a' := ?_) #[true, true, false, true, true, false, false, true, true, true, true, true, true, false, false, false, false, false] rfl rfl (any_of HT_.out (by kernel_rfl)) (fun _ _ _ h => h) (Or.inr ⟨by rfl, rfl⟩) ?_ ?_
              rotate_left
              ·simp only [Act.put, List.setIfInBounds_toArray, List.set_cons_zero, List.set_cons_succ, i64_w, i32_w]
               rfl
              refine pure_ (i := 13) (N := some 479) (v := undef) (a' := ?_) #[true, true, false, true, true, false, false, true, true, true, true, true, true, true, false, false, false, false] rfl rfl (any_of HT_.out (by kernel_rfl)) (fun _ _ _ h => h) (Or.inr ⟨by rfl, rfl⟩) ?_ ?_
              rotate_left
              ·simp only [Act.put, List.setIfInBounds_toArray, List.set_cons_zero, List.set_cons_succ, i64_w, i32_w]
               rfl
              refine pure_ (i := 14) (N := some 480) (v := undef) (a' := ?_) #[true, true, false, true, true, false, false, true, true, true, true, true, true, true, true, false, false, false] rfl rfl (any_of HT_.out (by kernel_rfl)) (fun _ _ _ h => h) (Or.inr ⟨by rfl, rfl⟩) ?_ ?_
              rotate_left
              ·simp only [Act.put, List.setIfInBounds_toArray, List.set_cons_zero, List.set_cons_succ, i64_w, i32_w]
               rfl
              refine pure_ (i := 15) (N := some 481) (v := undef) (a' := ?_) #[true, true, false, true, true, false, false, true, true, true, true, true, true, true, true, true, false, false] rfl rfl (any_of HT_.out (by kernel_rfl)) (fun _ _ _ h => h) (Or.inr ⟨by rfl, rfl⟩) ?_ ?_
              rotate_left
              ·simp only [Act.put, List.setIfInBounds_toArray, List.set_cons_zero, List.set_cons_succ, i64_w, i32_w]
               rfl
              refine pure_ (i := 16) (N := some 482) (v := ?_) (a' := ?_) #[true, true, false, true, true, false, false, true, true, true, true, true, true, true, true, true, true, false] rfl rfl (any_of HT_.out (by kernel_rfl)) (fun _ _ _ h => h) (Or.inl ⟨by rfl, ?_⟩) ?_ ?_
              rotate_left
              ·intro w'
               go_simp
               with_reducible rfl
              rotate_left
              ·simp only [Act.put, List.setIfInBounds_toArray, List.set_cons_zero, List.set_cons_succ, i64_w, i32_w]
               rfl
              refine take_ (i := 2) (N := some 468) (v := ?_) (a' := ?_) #[true, true, true, true, true, false, false, true, true, true, true, true, true, true, true, true, true, false] rfl rfl (take_ofW HT_.out HW_.out (by kernel_rfl)) (fun _ _ _ h => h) (Or.inl ⟨by rfl, ?_⟩) hHeld ?_ ?_
              rotate_left
              ·intro w' _
               go_simp
               with_reducible rfl
              rotate_left
              ·simp only [Act.put, List.setIfInBounds_toArray, List.set_cons_zero, List.set_cons_succ, i64_w, i32_w]
               rfl
              refine take_ (i := 5) (N := some 471) (v := ?_) (a' := ?_) #[true, true, true, true, true, true, false, true, true, true, true, true, true, true, true, true, true, false] rfl rfl (take_ofW HT_.out HW_.out (by kernel_rfl)) (fun _ _ _ h => h) (Or.inl ⟨by rfl, ?_⟩) hHeld ?_ ?_
              rotate_left
              ·intro w' _
               go_simp
               with_reducible rfl
              rotate_left
              ·simp only [Act.put, List.setIfInBounds_toArray, List.set_cons_zero, List.set_cons_succ, i64_w, i32_w]
               rfl
              refine pure_ (i := 6) (N := some 472) (v := ?_) (a' := ?_) #[true, true, true, true, true, true, true, true, true, true, true, true, true, true, true, true, true, false] rfl rfl (any_of HT_.out (by kernel_rfl)) (fun _ _ _ h => h) (Or.inl ⟨by rfl, ?_⟩) ?_ ?_
              rotate_left
              ·intro w'
               go_simp
               with_reducible rfl
              rotate_left
              ·simp only [Act.put, List.setIfInBounds_toArray, List.set_cons_zero, List.set_cons_succ, i64_w, i32_w]
               rfl
              refine pure_ (i := 17) (N := some 483) (v := ?_) (a' := ?_) #[true, true, true, true, true, true, true, true, true, true, true, true, true, true, true, true, true, true] rfl rfl (any_of HT_.out (by kernel_rfl)) (fun _ _ _ h => h) (Or.inl ⟨by rfl, ?_⟩) ?_ ?_
              rotate_left
              ·intro w'
               go_simp
               with_reducible rfl
              rotate_left
              ·simp only [Act.put, List.setIfInBounds_toArray, List.set_cons_zero, List.set_cons_succ, i64_w, i32_w]
               rfl
              refine done_ (done_of HT_.out (by kernel_rfl)) ?_
              try go_wp2
              refine Handed.intro k4 ?measure (hJl3 _ _ _ rfl ?rel)
              case measure => have := HJ26.out; have := HJ94.out; have := HJ121.out; have := HK4.out; omega
              case rel => exact ⟨(x482000_4 + 1), H', ⟨by have := HJ26.out; have := HJ94.out; have := HJ121.out; have := HK4.out; omega⟩, ⟨by (with_reducible repeat (first | apply Kd.N_alloc | apply Kd.N_drewN | apply Kd.N_drew)); exact HO_54.out⟩, ⟨by (with_reducible repeat (first | refine blk_drewN ?_ _ | refine blk_drew ?_ | refine blk_alloc ?_ _)); exact BK481.out⟩, ⟨by repeat (first | (with_reducible first | exact HB.out | apply below_alloc | apply pw_below_drewN | apply below_drew1 | refine below_set ?_ GE481.out) | exact HB.out)⟩⟩
            ·rw [if_neg c138] at H
             have c138b0 : decide (x482000_4 < (t456.size : Int)) = false := decide_eq_false c138
             clear c138
             (first | rw [c138b0] | (simp only [i64_w, i32_w]; rw [c138b0]) | skip)
             have H' := Aside0.mk H
             clear H
             go_wp2_with (first | ((with_reducible refine gate_dst (N := 463) rfl ?_); (try (refine gate_guard (by rfl) ?_; dsimp only)); refine next_over ?hg (N := 463) ?hd (it := 462) (g := gb481) (s := t456) (p := x482000_4) ?hc ?ho ?hi (of_decide_eq_false (by first | (with_reducible assumption) | assumption)) ?_; (case hd => rfl); (case hg => rfl); (case hc => exact (by (with_reducible repeat (first | refine blk_drewN ?_ _ | refine blk_drew ?_ | refine blk_alloc ?_ _)); exact BK481.out)); (case ho => rfl); (case hi => rfl)))
             refine Met.intro (hJj7 _ _ rfl ?rel)
             case rel => exact ⟨_, H', ⟨by have := HJ26.out; have := HJ94.out; have := HJ121.out; have := HK4.out; first | omega | exact Nat.le_refl _⟩, ⟨by (with_reducible repeat (first | apply Kd.N_alloc | apply Kd.N_drewN | apply Kd.N_drew)); exact Kd.N_mono HO_54.out (fun _ hk => trivial)⟩, ⟨by repeat (first | (with_reducible first | exact HB.out | apply below_alloc | apply pw_below_drewN | apply below_drew1 | refine below_set ?_ GE481.out) | exact HB.out)⟩⟩
         ·replace c136 := Bool.eq_false_iff.mpr c136
          subst c136
          have H1 : (laws_FnOrdersTurn.j7 kj121 t466 t467 t470 t471) = some true := by rw [if_neg (show ¬ (false = true) by decide)] at H; exact H
          clear H
          have H := H1
          clear H1
          have H' := Aside0.mk H
          clear H
          go_wp2
          refine Met.intro (hJj7 _ _ rfl ?rel)
          case rel => exact ⟨_, H', ⟨by have := HJ26.out; have := HJ94.out; have := HJ121.out; first | omega | exact Nat.le_refl _⟩, ⟨by (with_reducible repeat (first | apply Kd.N_alloc | apply Kd.N_drewN | apply Kd.N_drew)); exact HO_54.out⟩, ⟨by repeat (first | (with_reducible first | exact HB.out | apply below_alloc | apply pw_below_drewN | apply below_drew1) | exact HB.out)⟩⟩
        case rest =>
         clear HC135
         intro V_ wc hcut
         dsimp only [forg]
         (try clear c1); (try clear p1); (try clear q1); (try clear hx1); (try clear c2); (try clear p2); (try clear c3); (try clear c4); (try clear p4); (try clear q4); (try clear hx4); (try clear c5); (try clear c6); (try clear p6); (try clear c8); (try clear c9); (try clear c10); (try clear c11); (try clear p11); (try clear q11); (try clear hx11); (try clear c12); (try clear p12); (try clear q12); (try clear hx12); (try clear c13); (try clear p13); (try clear q13); (try clear hx13); (try clear c14); (try clear p14); (try clear q14); (try clear hx14); (try clear c17); (try clear c17b0); (try clear c17b1); (try clear c17b2); (try clear c18); (try clear c18b0); (try clear c18b1); (try clear c19); (try clear c19b0); (try clear c19b1); (try clear c19b2); (try clear c20); (try clear c21); (try clear c22); (try clear c22b0); (try clear c22b1); (try clear c22b2); (try clear c23); (try clear c23b0)
         (try clear c23b1); (try clear c24); (try clear c24b0); (try clear c24b1); (try clear c24b2); (try clear c25); (try clear c25b0); (try clear c25b1); (try clear c25b2); (try clear c26); (try clear c26b0); (try clear c26b1); (try clear c26b2); (try clear c27); (try clear c28); (try clear c29); (try clear c30); (try clear c41); (try clear c44); (try clear p44); (try clear q44); (try clear hx44); (try clear c45); (try clear c45b0); (try clear c45b1); (try clear c46); (try clear c46b0); (try clear c46b1); (try clear c47); (try clear c48); (try clear c48b0); (try clear c49); (try clear c49b0); (try clear c49b1); (try clear c51); (try clear c52); (try clear c52b0); (try clear c53); (try clear c53b0); (try clear c55); (try clear c55b0); (try clear c56); (try clear c56b0); (try clear c57); (try clear c57b0); (try clear c59); (try clear c61); (try clear c61b0); (try clear c61b1); (try clear c62)
         (try clear c62b0); (try clear c62b1); (try clear p64); (try clear c65); (try clear c66); (try clear c67); (try clear c67b0); (try clear c68); (try clear c68b0); (try clear c85); (try clear c85b0); (try clear c85b1); (try clear c85b2); (try clear c86); (try clear c86b0); (try clear c86b1); (try clear c87); (try clear c87b0); (try clear c87b1); (try clear c87b2); (try clear c88); (try clear c88b0); (try clear c88b1); (try clear c89); (try clear c89b0); (try clear c89b1); (try clear c89b2); (try clear c90); (try clear c90b0); (try clear c90b1); (try clear c91); (try clear c91b0); (try clear c91b1); (try clear c91b2); (try clear c92); (try clear c92b0); (try clear c92b1); (try clear c93); (try clear c93b0); (try clear c93b1); (try clear c93b2); (try clear c94); (try clear c94b0); (try clear c94b1); (try clear c106); (try clear c108); (try clear c108b0); (try clear c109); (try clear c109b0)
         (try clear c110); (try clear c110b0); (try clear c111); (try clear c111b0); (try clear p112); (try clear q112); (try clear hx112); (try clear c113); (try clear c113b0); (try clear p114); (try clear q114); (try clear hx114); (try clear c115); (try clear c115b0); (try clear c116); (try clear c116b0); (try clear c116b1); (try clear c116b2); (try clear c119); (try clear c119b0); (try clear c119b1); (try clear c119b2); (try clear c123); (try clear c125); (try clear c125b0); (try clear c126); (try clear c126b0); (try clear c127); (try clear c127b0); (try clear c128); (try clear c128b0); (try clear p129); (try clear q129); (try clear hx129); (try clear c130); (try clear c130b0); (try clear p131); (try clear q131); (try clear hx131); (try clear c132); (try clear c132b0); (try clear c132b1); (try clear c132b2); (try clear c136); (try clear c138); (try clear c138b0); (try clear c139); (try clear c139b0)
         (try clear c140); (try clear c140b0); (try clear c141); (try clear c141b0); (try clear p142); (try clear q142); (try clear hx142); (try clear c143); (try clear c143b0); (try clear p144); (try clear q144); (try clear hx144); (try clear c145); (try clear c145b0); (try clear c146); (try clear c146b0); (try clear c146b1); (try clear c146b2); (try clear c149); (try clear c149b0); (try clear c149b1); (try clear c149b2); (try clear hx442_0); (try clear p1); (try clear p11); (try clear p112); (try clear p114); (try clear p12); (try clear p129); (try clear p13); (try clear p131); (try clear p142); (try clear p144); (try clear p2); (try clear p4); (try clear p44); (try clear p442); (try clear p6); (try clear p64); (try clear q1); (try clear q11); (try clear q112); (try clear q114); (try clear q12); (try clear q129); (try clear q13); (try clear q131); (try clear q142); (try clear q144); (try clear q4)
         (try clear q44); (try clear q442)
         obtain ⟨kq, HA, HJ134, HO_54, HB⟩ := hcut
         cases kq with
         | zero => exact absurd HA.out (by simp [laws_FnOrdersTurn.j7])
         | succ kj134 =>
          have H := HA.out
          clear HA
          simp only [laws_FnOrdersTurn.j7] at H
          by_cases c152 : t471 = true
          ·subst c152
           have H1 : (laws_FnOrdersTurn.l4 kj134 t470 t466 t467 (t467.length : Int) 0) = some true := by rw [if_pos rfl] at H; exact H
           clear H
           have H := H1
           clear H1
           have H' := Aside0.mk H
           clear H
           go_wp2
           refine wp_loopF [none, none, none, none, some 4, none, none, none, none, none, none, none, none, none, none, none, none, none, none, none, none, none, none, none, none, none, none, none, none, none, none, none, none, none, none, none, none, none, none, none, none, none, none, none, none, none, none, none, none, none, none, none, none, none, none, none, none, none, none, none, none, none, none, none, none, none, none, some 67, none, some 69, some 70, some 71, none, none, none, none, none, none, none, none, none, none, none, none, none, none, none, none, none, none, none, none, none, none, none, none, none, none, none, none, none, none, none, none, none, none, none, none, none, none, none, none, none, none, none, none, none, none, none, none, none, none, none, none, none, none, none, none, none, none, none, none, none, none, none, none, none, none, none, none, none, none, none, none, none, none, none, none, none, none, none, none, none, none, none, none, none, none, none, none, none, none, none, none, none, none, none, none, none, none, none, none, none, none, none, none, none, none, none, none, none, none, none, none, none, none, none, none, none, none, none, none, none, none, none, none, none, none, none, none, none, none, none, none, none, none, none, none, none, none, none, none, none, none, none, none, none, none, none, none, none, none, none, none, none, none, none, none, none, none, none, none, none, none, none, none, none, none, none, none, none, none, none, none, none, none, none, none, none, none, none, none, none, none, none, none, none, none, none, none, none, none, none, none, none, none, none, none, none, none, none, none, none, none, none, none, none, none, none, none, none, none, none, none, none, none, none, none, none, none, none, none, none, none, none, none, none, none, none, none, none, none, none, none, none, none, none, none, none, none, none, none, none, none, none, none, none, none, none, none, none, none, none, none, none, none, none, none, none, none, none, none, none, none, none, none, none, none, none, none, none, none, none, none, none, none, none, none, none, none, none, none, none, none, none, none, none, none, none, none, none, none, none, none, none, none, none, none, none, none, none, none, none, none, none, none, none, none, none, none, none, none, none, none, none, none, none, none, none, none, none, none, none, none, none, none, none, none, none, none, none, none, none, none, none, none, none, none, none, none, none, none, none, none, none, none, none, none, none, none, none, none, none, none, none, none, none, none, none, none, none, none, none, none, none, none, none, none, none, none, none, none, none, none, none, none, none, none, none, none, none, none, none, none, none, none, none, none, none, none, none, none, none, none, none, none, none, none, none, none, none, none, none, none, none, none, none, none, none, none, none, none, none, none, none, none, none, none, some 488, some 489, some 490, some 491, some 492, some 493, some 494, some 495, some 496, some 497, some 498, some 499, some 500, some 501, some 502, some 503, some 504, some 505, some 506, none, none, none] (by kernel_rfl) kj134 (fun kq V_ w' => ∃ (x67_5 : ByteArray) (x488_5 : Int), (V_ 67) = .string x67_5 ∧ (V_ 488) = .int .i64 x488_5 ∧ Aside0 (laws_FnOrdersTurn.l4 kq t470 x67_5 t467 (t467.length : Int) x488_5 = some true) ∧ Aside0 (kq ≤ kj134) ∧ Aside0 (Kd.N (Kd.slice 3 (Kd.int .i64)) 31 w' w.heap.size (fun _ => True) (.slice Ao102 t467.length co102) t467) ∧ Aside0 (Below w.heap.size w w')) (by rfl) ?atStart ?round
           case atStart => exact ⟨(t466), (0), (by first | rfl | (simp; done) | (simp [*]; done)), (by first | rfl | (simp; done) | (simp [*]; done)), H', ⟨Nat.le_refl _⟩, ⟨by (with_reducible repeat (first | apply Kd.N_alloc | apply Kd.N_drewN | apply Kd.N_drew)); exact HO_54.out⟩, ⟨by repeat (first | (with_reducible first | exact HB.out | apply below_alloc | apply pw_below_drewN | apply below_drew1) | exact HB.out)⟩⟩
           case round =>
            clear H'
            intro gk V_ wr hrel _ _ hJl4 _
            dsimp only [forg]
            generalize V_ 67 = u67 at hrel ⊢
            generalize V_ 488 = u488 at hrel ⊢
            (try clear c1); (try clear p1); (try clear q1); (try clear hx1); (try clear c2); (try clear p2); (try clear c3); (try clear c4); (try clear p4); (try clear q4); (try clear hx4); (try clear c5); (try clear c6); (try clear p6); (try clear c8); (try clear c9); (try clear c10); (try clear c11); (try clear p11); (try clear q11); (try clear hx11); (try clear c12); (try clear p12); (try clear q12); (try clear hx12); (try clear c13); (try clear p13); (try clear q13); (try clear hx13); (try clear c14); (try clear p14); (try clear q14); (try clear hx14); (try clear c15); (try clear c17); (try clear c17b0); (try clear c17b1); (try clear c17b2); (try clear c18); (try clear c18b0); (try clear c18b1); (try clear c19); (try clear c19b0); (try clear c19b1); (try clear c19b2); (try clear c20); (try clear c21); (try clear c22); (try clear c22b0); (try clear c22b1); (try clear c22b2); (try clear c23)
            (try clear c23b0); (try clear c23b1); (try clear c24); (try clear c24b0); (try clear c24b1); (try clear c24b2); (try clear c25); (try clear c25b0); (try clear c25b1); (try clear c25b2); (try clear c26); (try clear c26b0); (try clear c26b1); (try clear c26b2); (try clear c27); (try clear c28); (try clear c29); (try clear c30); (try clear c41); (try clear c44); (try clear p44); (try clear q44); (try clear hx44); (try clear c45); (try clear c45b0); (try clear c45b1); (try clear c46); (try clear c46b0); (try clear c46b1); (try clear c47); (try clear c48); (try clear c48b0); (try clear c49); (try clear c49b0); (try clear c49b1); (try clear c51); (try clear c52); (try clear c52b0); (try clear c53); (try clear c53b0); (try clear c55); (try clear c55b0); (try clear c56); (try clear c56b0); (try clear c57); (try clear c57b0); (try clear c59); (try clear c61); (try clear c61b0); (try clear c61b1)
            (try clear c62); (try clear c62b0); (try clear c62b1); (try clear p64); (try clear c65); (try clear c66); (try clear c67); (try clear c67b0); (try clear c68); (try clear c68b0); (try clear c85); (try clear c85b0); (try clear c85b1); (try clear c85b2); (try clear c86); (try clear c86b0); (try clear c86b1); (try clear c87); (try clear c87b0); (try clear c87b1); (try clear c87b2); (try clear c88); (try clear c88b0); (try clear c88b1); (try clear c89); (try clear c89b0); (try clear c89b1); (try clear c89b2); (try clear c90); (try clear c90b0); (try clear c90b1); (try clear c91); (try clear c91b0); (try clear c91b1); (try clear c91b2); (try clear c92); (try clear c92b0); (try clear c92b1); (try clear c93); (try clear c93b0); (try clear c93b1); (try clear c93b2); (try clear c94); (try clear c94b0); (try clear c94b1); (try clear c106); (try clear c108); (try clear c108b0); (try clear c109)
            (try clear c109b0); (try clear c110); (try clear c110b0); (try clear c111); (try clear c111b0); (try clear p112); (try clear q112); (try clear hx112); (try clear c113); (try clear c113b0); (try clear p114); (try clear q114); (try clear hx114); (try clear c115); (try clear c115b0); (try clear c116); (try clear c116b0); (try clear c116b1); (try clear c116b2); (try clear c119); (try clear c119b0); (try clear c119b1); (try clear c119b2); (try clear c123); (try clear c125); (try clear c125b0); (try clear c126); (try clear c126b0); (try clear c127); (try clear c127b0); (try clear c128); (try clear c128b0); (try clear p129); (try clear q129); (try clear hx129); (try clear c130); (try clear c130b0); (try clear p131); (try clear q131); (try clear hx131); (try clear c132); (try clear c132b0); (try clear c132b1); (try clear c132b2); (try clear c136); (try clear c138); (try clear c138b0)
            (try clear c139); (try clear c139b0); (try clear c140); (try clear c140b0); (try clear c141); (try clear c141b0); (try clear p142); (try clear q142); (try clear hx142); (try clear c143); (try clear c143b0); (try clear p144); (try clear q144); (try clear hx144); (try clear c145); (try clear c145b0); (try clear c146); (try clear c146b0); (try clear c146b1); (try clear c146b2); (try clear c149); (try clear c149b0); (try clear c149b1); (try clear c149b2); (try clear c152); (try clear hx442_0); (try clear p1); (try clear p11); (try clear p112); (try clear p114); (try clear p12); (try clear p129); (try clear p13); (try clear p131); (try clear p14); (try clear p142); (try clear p144); (try clear p2); (try clear p4); (try clear p44); (try clear p442); (try clear p6); (try clear p64); (try clear q1); (try clear q11); (try clear q112); (try clear q114); (try clear q12); (try clear q129)
            (try clear q13); (try clear q131); (try clear q14); (try clear q142); (try clear q144); (try clear q4); (try clear q44); (try clear q442)
            obtain ⟨x67_5, x488_5, rfl, rfl, HA, HK5, HO_486, HB⟩ := hrel
            cases gk with
            | zero => exact absurd HA.out (by simp [laws_FnOrdersTurn.l4])
            | succ k5 =>
             have H := HA.out
             clear HA
             simp only [laws_FnOrdersTurn.l4] at H
             by_cases c153 : x488_5 < (t467.length : Int)
             ·rw [if_pos c153] at H
              have c153b0 : decide (x488_5 < (t467.length : Int)) = true := decide_eq_true c153
              clear c153
              by_cases c154 : 0 ≤ x488_5
              rotate_left
              ·rw [if_neg c154] at H; exact absurd H (by simp)
              rw [if_pos c154] at H
              have c154b0 : decide (0 ≤ x488_5) = true := decide_eq_true c154
              clear c154
              by_cases c155 : x488_5 < (t467.length : Int)
              rotate_left
              ·rw [if_neg c155] at H; exact absurd H (by simp)
              rw [if_pos c155] at H
              have c155b0 : decide (x488_5 < (t467.length : Int)) = true := decide_eq_true c155
              clear c155
              by_cases c156 : 0 < ((rd_L3 t467 x488_5).length : Int)
              rotate_left
              ·rw [if_neg c156] at H; exact absurd H (by simp)
              rw [if_pos c156] at H
              have c156b0 : decide (0 < ((rd_L3 t467 x488_5).length : Int)) = true := decide_eq_true c156
              have c156b1 : decide (0 < (rd_L3 t467 x488_5).length) = true := decide_eq_true (by omega)
              clear c156
              by_cases c157 : 1 < ((rd_L3 t467 x488_5).length : Int)
              rotate_left
              ·rw [if_neg c157] at H; exact absurd H (by simp)
              rw [if_pos c157] at H
              have c157b0 : decide (1 < ((rd_L3 t467 x488_5).length : Int)) = true := decide_eq_true c157
              have c157b1 : decide (1 < (rd_L3 t467 x488_5).length) = true := decide_eq_true (by omega)
              clear c157
              replace H := Option.bind_eq_some_iff.mp H
              obtain ⟨⟨t485, t486⟩, A1580, H⟩ := H
              replace H : (if t486 = true then (laws_FnOrdersTurn.l4 k5 t470 t485 t467 (t467.length : Int) (wrap64 (x488_5 + 1))) else (some false)) = some true := H
              have A158 := Aside0.mk A1580
              clear A1580
              by_cases c159 : t486 = true
              rotate_left
              ·rw [if_neg c159] at H; exact absurd H (by simp)
              subst c159
              have H1 : (laws_FnOrdersTurn.l4 k5 t470 t485 t467 (t467.length : Int) (wrap64 (x488_5 + 1))) = some true := by rw [if_pos rfl] at H; exact H
              clear H
              have H := H1
              clear H1
              have H' := Aside0.mk H
              clear H
              have p482 : 0 ≤ (x488_5 : Int) := of_decide_eq_true (by first | (with_reducible assumption) | assumption)
              have q482 : x488_5 < (t467.length : Int) := of_decide_eq_true (by first | (with_reducible assumption) | assumption)
              obtain ⟨ad482, A482_0, c482_0, e482, hx482_0, hl482_0, hi482_0⟩ := at_L3 (Kd.N_reads' HO_486.out).2.2 x488_5 p482 q482
              cases e482
              obtain ⟨ce482, hce482, hMe482, hcc482⟩ := Kd.N_get HO_486.out [] x488_5 p482 (by first | exact q482 | exact of_decide_eq_true (by first | (with_reducible assumption) | assumption) | (have e_ := (Kd.N_reads' HO_486.out).1; omega))
              obtain ⟨ua482_0, uc482_0, rfl, ul482_0, ge482_0⟩ := Kd.FK_slice_open hMe482
              have hv482_0 := hcc482 0 _ rfl
              rw [Nat.add_zero, show ((Kd.slice 3 (Kd.int .i64))).sz = 1 from rfl, Nat.mul_one] at hv482_0
              replace hv482_0 := Option.some.inj (hv482_0.symm.trans hx482_0)
              injection hv482_0 with hva_ hvn_ hvc_
              rw [hva_] at ge482_0
              rw [hvc_] at ul482_0
              have HL482_0 := Aside0.mk (show Kd.V (Kd.int .i64) 3 _ w.heap.size _ _ (rd_L3 t467 x488_5) from Kd.V_mk ul482_0 ge482_0)
              clear hva_ hvn_ hvc_ ge482_0 ul482_0
              clear hcc482 hce482
              have HR482_0 := Aside0.mk hi482_0
              have HC482_0 := Aside0.mk hl482_0
              clear hi482_0 hl482_0
              replace p482 := eq_true p482
              replace q482 := eq_true q482
              try go_wp2
              have n0_ := Aside0.mk (Kd.N_drew HO_486.out)
              have n1_ := Aside0.mk (Kd.V_drew HL482_0.out)
              have n2_ := Aside0.mk (Kd.C_drew HR482_0.out)
              have n3_ := Aside0.mk (below_drew1 HB.out)
              clear HO_486
              clear HL482_0
              clear HR482_0
              clear HB
              have HO_486 := n0_
              have HL482_0 := n1_
              have HR482_0 := n2_
              have HB := n3_
              clear n0_ n1_ n2_ n3_
              have p483 : 0 ≤ (0 : Int) := (by omega)
              have q483 : 0 < ((rd_L3 t467 x488_5).length : Int) := of_decide_eq_true (by first | (with_reducible assumption) | assumption)
              obtain ⟨ad483, e483, hx483_0⟩ := Kd.at_int (by repeat (first | (with_reducible exact HR482_0.out) | (with_reducible refine Kd.C_alloc ?_ _) | (with_reducible refine Kd.C_drewN ?_ _) | (with_reducible refine Kd.C_drew ?_) | exact HR482_0.out)) 0 p483 q483
              cases e483
              have qi483 : (0 < (rd_L3 t467 x488_5).length) = True := eq_true (by omega)
              (try rw [show ((0 : Int)).toNat = 0 from rfl] at hx483_0)
              (try rw [Addr.add_zero'] at hx483_0)
              replace p483 := eq_true p483
              replace q483 := eq_true q483
              have p484 : 0 ≤ (1 : Int) := (by omega)
              have q484 : 1 < ((rd_L3 t467 x488_5).length : Int) := of_decide_eq_true (by first | (with_reducible assumption) | assumption)
              obtain ⟨ad484, e484, hx484_0⟩ := Kd.at_int (by repeat (first | (with_reducible exact HR482_0.out) | (with_reducible refine Kd.C_alloc ?_ _) | (with_reducible refine Kd.C_drewN ?_ _) | (with_reducible refine Kd.C_drew ?_) | exact HR482_0.out)) 1 p484 q484
              obtain rfl : ad483 = ad484 := (by injection e484)
              (try simp only [show (1 : Int).toNat = 1 from rfl, Nat.reduceMul, Nat.reduceEqDiff, Go.Addr.add, ↓reduceIte] at hx484_0)
              have qi484 : (1 < (rd_L3 t467 x488_5).length) = True := eq_true (by omega)
              (try rw [show ((1 : Int)).toNat = 1 from rfl] at hx484_0)
              replace p484 := eq_true p484
              replace q484 := eq_true q484
              refine start_ (n := 13) (S := fun w' => w'.cell? ad483 = some (.int .i64 (rd (rd_L3 t467 x488_5) 0)) ∧ w'.cell? ⟨ad483.block, ad483.off + 1, none⟩ = some (.int .i64 (rd (rd_L3 t467 x488_5) 1))) (ds := []) #[false, false, false, false, false, false, false, false, false, false, false, false, false] (by kernel_rfl) rfl rfl ⟨hx483_0, hx484_0⟩ (fun hHeld => ?_); refine with_tabW laws_FnOrdersTurn.tab74 laws_FnOrdersTurn.bits74 (fun HT_ HW_ => ?_)
              generalize wr.drew = w160 at HO_486 HL482_0 HR482_0 HB hx483_0 hx484_0 hHeld ⊢
              refine pure_ (i := 0) (N := some 493) (v := ?_) (a' := ?_) #[true, false, false, false, false, false, false, false, false, false, false, false, false] rfl rfl (any_of HT_.out (by kernel_rfl)) (fun _ _ _ h => h) (Or.inl ⟨by rfl, ?_⟩) ?_ ?_
              rotate_left
              ·intro w'
               go_simp
               with_reducible rfl
              rotate_left
              ·simp only [Act.put, List.setIfInBounds_toArray, List.set_cons_zero, List.set_cons_succ, i64_w, i32_w]
               rfl
              refine pure_ (i := 1) (N := some 494) (v := ?_) (a' := ?_) #[true, true, false, false, false, false, false, false, false, false, false, false, false] rfl rfl (any_of HT_.out (by kernel_rfl)) (fun _ _ _ h => h) (Or.inl ⟨by rfl, ?_⟩) ?_ ?_
              rotate_left
              ·intro w'
               go_simp
               with_reducible rfl
              rotate_left
              ·simp only [Act.put, List.setIfInBounds_toArray, List.set_cons_zero, List.set_cons_succ, i64_w, i32_w]
               rfl
              refine pure_ (i := 2) (N := some 495) (v := ?_) (a' := ?_) #[true, true, true, false, false, false, false, false, false, false, false, false, false] rfl rfl (any_of HT_.out (by kernel_rfl)) (fun _ _ _ h => h) (Or.inl ⟨by rfl, ?_⟩) ?_ ?_
              rotate_left
              ·intro w'
               go_simp
               with_reducible rfl
              rotate_left
              ·simp only [Act.put, List.setIfInBounds_toArray, List.set_cons_zero, List.set_cons_succ, i64_w, i32_w]
               rfl
              refine pure_ (i := 4) (N := some 497) (v := ?_) (a' := ?_) #[true, true, true, false, true, false, false, false, false, false, false, false, false] rfl rfl (any_of HT_.out (by kernel_rfl)) (fun _ _ _ h => h) (Or.inl ⟨by rfl, ?_⟩) ?_ ?_
              rotate_left
              ·intro w'
               go_simp
               with_reducible rfl
              rotate_left
              ·simp only [Act.put, List.setIfInBounds_toArray, List.set_cons_zero, List.set_cons_succ, i64_w, i32_w]
               rfl
              refine pure_ (i := 5) (N := some 498) (v := ?_) (a' := ?_) #[true, true, true, false, true, true, false, false, false, false, false, false, false] rfl rfl (any_of HT_.out (by kernel_rfl)) (fun _ _ _ h => h) (Or.inl ⟨by rfl, ?_⟩) ?_ ?_
              rotate_left
              ·intro w'
               go_simp
               with_reducible rfl
              rotate_left
              ·simp only [Act.put, List.setIfInBounds_toArray, List.set_cons_zero, List.set_cons_succ, i64_w, i32_w]
               rfl
              refine take_ (i := 3) (N := some 496) (v := ?_) (a' := ?_) #[true, true, true, true, true, true, false, false, false, false, false, false, false] rfl rfl (take_ofW HT_.out HW_.out (by kernel_rfl)) (fun _ _ _ h => h) (Or.inl ⟨by rfl, ?_⟩) hHeld ?_ ?_
              rotate_left
              ·rintro w' ⟨s0, s1⟩
               go_simp
               with_reducible rfl
              rotate_left
              ·simp only [Act.put, List.setIfInBounds_toArray, List.set_cons_zero, List.set_cons_succ, i64_w, i32_w]
               rfl
              refine take_ (i := 6) (N := some 499) (v := ?_) (a' := ?_) #[true, true, true, true, true, true, true, false, false, false, false, false, false] rfl rfl (take_ofW HT_.out HW_.out (by kernel_rfl)) (fun _ _ _ h => h) (Or.inl ⟨by rfl, ?_⟩) hHeld ?_ ?_
              rotate_left
              ·rintro w' ⟨s0, s1⟩
               go_simp
               with_reducible rfl
              rotate_left
              ·simp only [Act.put, List.setIfInBounds_toArray, List.set_cons_zero, List.set_cons_succ, i64_w, i32_w]
               rfl
              refine one_ (i := 7) (N := some 500) #[true, true, true, true, true, true, true, true, false, false, false, false, false] rfl rfl (one_of HT_.out (by kernel_rfl)) (by decide) (fun K hK => ?_)
              refine goes_ Tryd.func20 (by kernel_rfl) rfl #[.string x67_5, .int .i64 (rd (rd_L3 t467 x488_5) 0), .int .i64 (rd (rd_L3 t467 x488_5) 1)] (by rfl) rfl rfl (by (try simp only [List.map_toArray, List.map_cons, List.map_nil]); first | done | rfl | (simp only [List.length_drop, List.length_take]; rfl)) ?_
              with_reducible refine (impl_TurnRun.calls x67_5 (rd (rd_L3 t467 x488_5) 0) (rd (rd_L3 t467 x488_5) 1) t485 true _ ?side1 A158.out).mono ?_
              (case side1 => exact Shd.below HSh.out (by repeat (first | (with_reducible first | exact HB.out | apply below_alloc | apply pw_below_drewN | apply below_drew1) | exact HB.out)))
              rintro e w161 ⟨rfl, hb⟩
              have HS0_ := (hb.cell (World.block_lt_of_cell? _ _ (hHeld.1))).trans (hHeld.1)
              have HS1_ := (hb.cell (World.block_lt_of_cell? _ _ (hHeld.2))).trans (hHeld.2)
              refine ⟨_, rfl, ?_⟩
              have n0_ := Aside0.mk (Kd.N_below (by (with_reducible repeat (first | apply Kd.N_alloc | apply Kd.N_drewN | apply Kd.N_drew)); exact HO_486.out) hb)
              have n1_ := Aside0.mk (Kd.V_below (by (with_reducible repeat (first | apply Kd.V_alloc | apply Kd.V_drewN | apply Kd.V_drew)); exact HL482_0.out) hb)
              have n2_ := Aside0.mk (Kd.C_below (by repeat (first | (with_reducible exact HR482_0.out) | (with_reducible refine Kd.C_alloc ?_ _) | (with_reducible refine Kd.C_drewN ?_ _) | (with_reducible refine Kd.C_drew ?_) | exact HR482_0.out)) hb)
              have n3_ := Aside0.mk (below_step (by repeat (first | (with_reducible first | exact HB.out | apply below_alloc | apply pw_below_drewN | apply below_drew1) | exact HB.out)) hb)
              clear HO_486
              clear HL482_0
              clear HR482_0
              clear HB
              have HO_486 := n0_
              have HL482_0 := n1_
              have HR482_0 := n2_
              have HB := n3_
              clear n0_ n1_ n2_ n3_
              (try clear hb)
              (try clear hb2)
              (try clear hk)
              (try clear hi)
              refine hK.out _ _ ⟨HS0_, HS1_⟩ (fun hHeld => ?_)
              clear hK K
              refine norm_ (a' := ?_) ?_ ?_
              rotate_left
              ·show Act.put _ (some 500) _ = _
               simp only [Act.put, List.setIfInBounds_toArray, List.set_cons_zero, List.set_cons_succ, i64_w, i32_w]
               rfl
              refine pure_ (i := 8) (N := some 492) (v := ?_) (a' := ?_) #[true, true, true, true, true, true, true, true, true, false, false, false, false] rfl rfl (any_of HT_.out (by kernel_rfl)) (fun _ _ _ h => h) (Or.inl ⟨by rfl, ?_⟩) ?_ ?_
              rotate_left
              ·intro w'
               go_simp
               with_reducible rfl
              rotate_left
              ·simp only [Act.put, List.setIfInBounds_toArray, List.set_cons_zero, List.set_cons_succ, i64_w, i32_w]
               rfl
              refine pure_ (i := 9) (N := some 501) (v := ?_) (a' := ?_) #[true, true, true, true, true, true, true, true, true, true, false, false, false] rfl rfl (any_of HT_.out (by kernel_rfl)) (fun _ _ _ h => h) (Or.inl ⟨by rfl, ?_⟩) ?_ ?_
              rotate_left
              ·intro w'
               go_simp
               with_reducible rfl
              rotate_left
              ·simp only [Act.put, List.setIfInBounds_toArray, List.set_cons_zero, List.set_cons_succ, i64_w, i32_w]
               rfl
              refine pure_ (i := 10) (N := some 502) (v := ?_) (a' := ?_) #[true, true, true, true, true, true, true, true, true, true, true, false, false] rfl rfl (any_of HT_.out (by kernel_rfl)) (fun _ _ _ h => h) (Or.inl ⟨by rfl, ?_⟩) ?_ ?_
              rotate_left
              ·intro w'
               go_simp
               with_reducible rfl
              rotate_left
              ·simp only [Act.put, List.setIfInBounds_toArray, List.set_cons_zero, List.set_cons_succ, i64_w, i32_w]
               rfl
              refine pure_ (i := 11) (N := some 70) (v := ?_) (a' := ?_) #[true, true, true, true, true, true, true, true, true, true, true, true, false] rfl rfl (any_of HT_.out (by kernel_rfl)) (fun _ _ _ h => h) (Or.inl ⟨by rfl, ?_⟩) ?_ ?_
              rotate_left
              ·intro w'
               go_simp
               with_reducible rfl
              rotate_left
              ·simp only [Act.put, List.setIfInBounds_toArray, List.set_cons_zero, List.set_cons_succ, i64_w, i32_w]
               rfl
              refine pure_ (i := 12) (N := some 71) (v := ?_) (a' := ?_) #[true, true, true, true, true, true, true, true, true, true, true, true, true] rfl rfl (any_of HT_.out (by kernel_rfl)) (fun _ _ _ h => h) (Or.inl ⟨by rfl, ?_⟩) ?_ ?_
              rotate_left
              ·intro w'
               go_simp
               with_reducible rfl
              rotate_left
              ·simp only [Act.put, List.setIfInBounds_toArray, List.set_cons_zero, List.set_cons_succ, i64_w, i32_w]
               rfl
              refine done_ (done_of HT_.out (by kernel_rfl)) ?_
              try go_wp2
              refine Handed.intro k5 ?measure (hJl4 _ _ _ rfl ?rel)
              case measure => have := HJ26.out; have := HJ94.out; have := HJ121.out; have := HJ134.out; have := HK5.out; omega
              case rel => exact ⟨(t485), (wrap64 (x488_5 + 1)), (by first | rfl | (simp; done) | (simp [*]; done)), (by first | rfl | (simp; done) | (simp [*]; done)), H', ⟨by have := HJ26.out; have := HJ94.out; have := HJ121.out; have := HJ134.out; have := HK5.out; omega⟩, ⟨by (with_reducible repeat (first | apply Kd.N_alloc | apply Kd.N_drewN | apply Kd.N_drew)); exact HO_486.out⟩, ⟨by repeat (first | (with_reducible first | exact HB.out | apply below_alloc | apply pw_below_drewN | apply below_drew1) | exact HB.out)⟩⟩
             ·rw [if_neg c153] at H
              have c153b0 : decide (x488_5 < (t467.length : Int)) = false := decide_eq_false c153
              clear c153
              have HR_ := Aside0.mk (Option.some.inj H)
              clear H
              go_wp2
              go_ret
              exact ⟨by first | rfl | (simp [errW_none, errW_some] <;> rfl) | (rw [HR_.out]; done) | (simp [HR_.out]; done) | (simp [*, errW_none, errW_some] <;> rfl), by repeat (first | (with_reducible first | exact HB.out | apply below_alloc | apply pw_below_drewN | apply below_drew1) | exact HB.out)⟩
          ·replace c152 := Bool.eq_false_iff.mpr c152
           subst c152
           have H1 : (some true) = some true := by rfl
           clear H
           have H := H1
           clear H1
           have HR_ := Aside0.mk (Option.some.inj H)
           clear H
           go_wp2
           go_ret
           exact ⟨by first | rfl | (simp [errW_none, errW_some] <;> rfl) | (rw [HR_.out]; done) | (simp [HR_.out]; done) | (simp [*, errW_none, errW_some] <;> rfl), by repeat (first | (with_reducible first | exact HB.out | apply below_alloc | apply pw_below_drewN | apply below_drew1) | exact HB.out)⟩

/-- THE ONE PURE STATEMENT of laws_FnOrdersTurn: yours. -/
theorem laws_FnOrdersTurn.walk (P : laws_FnOrdersTurn.Pure) (a0 : Option Addr) (len0 cap0 : Nat) (z0 : List Int) (a1 : Option Addr) (len1 cap1 : Nat) (z1 : List Int) (w : World) (w0 : (a0 = none ∧ len0 = 0 ∧ cap0 = 0 ∧ z0 = []) ∨ ∃ x, a0 = some x ∧ len0 ≤ cap0 ∧ cap0 ≤ maxLen ∧ z0.length = cap0 ∧ (∀ i, i < z0.length → w.cell? (x.add i) = some (.int .u8 (z0.getD i 0))) ∧ ∀ n ∈ z0, (Lit.int .u8 n).wf = true) (y0 : len0 * 1 ≤ 140737488351232) (w1 : (a1 = none ∧ len1 = 0 ∧ cap1 = 0 ∧ z1 = []) ∨ ∃ x, a1 = some x ∧ len1 ≤ cap1 ∧ cap1 ≤ maxLen ∧ z1.length = cap1 ∧ (∀ i, i < z1.length → w.cell? (x.add i) = some (.int .u8 (z1.getD i 0))) ∧ ∀ n ∈ z1, (Lit.int .u8 n).wf = true) (y1 : len1 * 1 ≤ 140737488351232)(hSh : Shd w) :
    Calls Tryd.prog 3 #[.slice a0 len0 cap0, .slice a1 len1 cap1] w fun e w' => e = .returned (.bool true) ∧ Below w.heap.size w w' := by
 obtain ⟨l0, rfl, hr0, hm0, hw0, hc0⟩ := ReadsInt.ofRowC w0
 obtain ⟨l1, rfl, hr1, hm1, hw1, hc1⟩ := ReadsInt.ofRowC w1
 obtain ⟨k, h⟩ := P l0 l1 hm0 y0 hw0 hm1 y1 hw1
 refine (laws_FnOrdersTurn.calls k _ _ l0 _ _ l1 w (Kd.C_of_reads (d := (0 : Int)) (h1 := fun _ => rfl) hr0) hc0 (Kd.C_of_reads (d := (0 : Int)) (h1 := fun _ => rfl) hr1) hc1 hSh h).mono ?_
 rintro e w' ⟨rfl, hd⟩
 exact ⟨rfl, hd⟩

end Go.Proofs.YtnlbhlomdcgpeaaDoor.Pr
