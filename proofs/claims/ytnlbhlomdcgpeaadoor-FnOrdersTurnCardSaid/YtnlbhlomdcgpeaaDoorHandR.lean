/- Contracts of this seat's functions of rows that the print does not take: strings.Trim at an ASCII cutset, impl.turned. -/
import Derived.Test.YtnlbhlomdcgpeaaDoorSh
import Derived.Test.YtnlbhlomdcgpeaaDoorShelf
import Derived.Shelf.Strings.SlTrimAscii
import Derived.Shelf.Strings.MapGrows
import Derived.Lib.SlTrimSet
import Derived.Lib.TrimAscii
import Derived.Ground.NamesProg
import Derived.WalkKit
import Derived.WalkMore
import Derived.Below
set_option linter.unusedVariables false
set_option linter.unusedSimpArgs false
namespace Go.Proofs.YtnlbhlomdcgpeaaDoor.Hand
open Go.RowKit Go.Lib Go.Shelf Go.Proofs

def strings_Trim.f (a0 a1 : ByteArray) : Option ByteArray :=
  if a1.data.toList.all (fun b => decide (b.toNat < 128)) = true ∧ a1.size < 4294967281 ∧ a0.size ≤ 9223372036854775807 then some ⟨(Lib.trimS a0.data.toList a1.data.toList).toArray⟩ else none
theorem strings_Trim.calls (a0 a1 : ByteArray) (r : ByteArray) (w : World) (h : strings_Trim.f a0 a1 = some r) :
    Calls Tryd.prog 64 #[.string a0, .string a1] w fun e w' => e = .returned (.string r) ∧ Below w.heap.size w w' := by
  unfold strings_Trim.f at h
  split at h
  case isFalse => exact absurd h (by simp)
  case isTrue hc =>
    injection h with h
    subst h
    exact Any.strings_Trim_laid Tryd.lays160 (by kernel_rfl) a0 a1 w hc.2.2 hc.2.1 (ascii_of_all hc.1)

/-- The other sign, byte by byte. -/
def flipS (l : List UInt8) : List UInt8 := l.map fun b => 122 - b
def impl_turned.f (a0 : ByteArray) : Option ByteArray :=
  if a0.data.toList.all (fun b => b == 60 || b == 62) = true ∧ a0.size < 35184372088832 then some ⟨(flipS a0.data.toList).toArray⟩ else none

theorem flip_mapD : ∀ l : List UInt8, l.all (fun b => b == 60 || b == 62) = true → Lib.mapD (fun r => 122 - r) l = flipS l
  | [], _ => rfl
  | b :: t, h => by
    simp only [List.all_cons, Bool.and_eq_true, Bool.or_eq_true, beq_iff_eq] at h
    have hb : b.toNat < 128 := by rcases h.1 with rfl | rfl <;> decide
    rw [mapD_step _ _ (by simp), decodeL_ascii b t hb]
    simp only [List.drop_succ_cons, List.drop_zero]
    rw [flip_mapD t h.2]
    rcases h.1 with rfl | rfl <;> rfl
set_option maxHeartbeats 1000000 in
set_option maxRecDepth 1000000 in
theorem turned_pays (w : World) : MapGrows Tryd.prog 66 #[] (fun r => 122 - r) w := by
  intro W x hx hb
  show Calls Tryd.prog 66 #[.int .i32 (x : Int)] W _
  have e0 : IntKind.i32.wrap (122 - (x : Int)) = 122 - (x : Int) := by
    rw [IntKind.wrap_i32]
    omega
  go_enter Tryd.func66, Tryd.ntmps66
  go_wp2
  go_ret
  refine ⟨?_, Below.refl _ _⟩
  first | rfl | (simp only [e0]; rfl)
set_option maxHeartbeats 1000000 in
set_option maxRecDepth 1000000 in
theorem impl_turned.calls (a0 : ByteArray) (r : ByteArray) (w : World) (hSh : Shd w) (h : impl_turned.f a0 = some r) :
    Calls Tryd.prog 55 #[.string a0] w fun e w' => e = .returned (.string r) ∧ Below w.heap.size w w' := by
  unfold impl_turned.f at h
  split at h
  case isFalse => exact absurd h (by simp)
  case isTrue hc =>
    injection h with h
    subst h
    have cM : Calls Tryd.prog 65 #[.func (.func 66) #[] #[], .string a0] w _ :=
      Any.strings_Map_grows Tryd.lays230 Tryd.Builder_Extra_230 66 #[] (enters_of Tryd.func66 (by kernel_rfl) rfl) (fun r => 122 - r) a0 w hc.2 (turned_pays w) (fun x hx => by constructor <;> omega) hSh.2
    rw [flip_mapD _ hc.1] at cM
    generalize flipS a0.data.toList = OUT at cM ⊢
    go_enter Tryd.func55, Tryd.ntmps55
    go_wp2_with (go_at_call 65; refine cM.mono ?_; rintro e w' ⟨rfl, hb⟩)
    go_ret
    exact ⟨rfl, hb⟩
end Go.Proofs.YtnlbhlomdcgpeaaDoor.Hand
