/- Rows as lists of Bools (true: '>'), and how strings of signs read: plain laws, no program. -/
import Derived.Test.YtnlbhlomdcgpeaaDoorWMore
import Derived.Lib.Strings
import Derived.Lib.SlTrimSet
import Derived.Lib.SmallJoins
set_option linter.unusedVariables false
set_option linter.unusedSimpArgs false
namespace Go.Proofs.YtnlbhlomdcgpeaaDoor.Row
open Go.RowKit Go.Proofs.YtnlbhlomdcgpeaaDoorW.PrintWords Go.Proofs.YtnlbhlomdcgpeaaDoorW.PrintMore

theorem w64 {n : Int} (h0 : -9223372036854775808 ≤ n) (h1 : n ≤ 9223372036854775807) : wrap64 n = n := by unfold wrap64; omega

def byB (b : Bool) : UInt8 := if b then 62 else 60
def ofB (xs : List Bool) : ByteArray := ⟨(xs.map byB).toArray⟩
@[simp] theorem ofB_data (xs : List Bool) : (ofB xs).data.toList = xs.map byB := by simp [ofB]
@[simp] theorem ofB_list (xs : List Bool) : (ofB xs).toList = xs.map byB := by rw [Lib.toList_data, ofB_data]
@[simp] theorem ofB_size (xs : List Bool) : (ofB xs).size = xs.length := by rw [← data_length, ofB_data, List.length_map]
theorem ba_ext {a b : ByteArray} (h : a.data.toList = b.data.toList) : a = b := by
  cases a; cases b; simp at h; rw [ByteArray.mk.injEq]; exact h
theorem ofB_append (xs ys : List Bool) : ofB xs ++ ofB ys = ofB (xs ++ ys) := ba_ext (by rw [show (ofB xs ++ ofB ys).data.toList = (ofB xs).data.toList ++ (ofB ys).data.toList from by simp [ByteArray.data_append]]; simp)
theorem ofB_extract (xs : List Bool) (i j : Nat) : (ofB xs).extract i j = ofB ((xs.drop i).take (j - i)) := ba_ext (by rw [Lib.extract_data]; simp [List.map_drop, List.map_take])
theorem ofB_gt : (⟨#[62]⟩ : ByteArray) = ofB [true] := rfl
theorem ofB_lt : (⟨#[60]⟩ : ByteArray) = ofB [false] := rfl
theorem ofB_nil : (⟨#[]⟩ : ByteArray) = ofB [] := rfl
def sg (b : Bool) : Int := if b then 62 else 60
theorem bt_ofB (xs : List Bool) (i : Nat) (h : i < xs.length) : bt (ofB xs) (i : Int) = sg (xs.getD i false) := by
  have h' : (i : Int).toNat < (ofB xs).size := by simpa using h
  rw [← bt_at (ofB xs) (i : Int) h']
  have e : (ofB xs)[(i : Int).toNat]'h' = byB (xs.getD i false) := by
    have h2 : i < (ofB xs).data.toList.length := by simpa using h
    have : (ofB xs)[(i : Int).toNat]'h' = (ofB xs).data.toList[i]'h2 := rfl
    rw [this]
    simp [ofB_data, h]
  rw [e]
  cases xs.getD i false <;> rfl
theorem sg_inj {a b : Bool} : sg a = sg b ↔ a = b := by cases a <;> cases b <;> simp [sg]
theorem sg_ne {a b : Bool} : (sg a != sg b) = (a != b) := by cases a <;> cases b <;> rfl
theorem sg_lt (a : Bool) : sg a < 128 := by cases a <;> decide
/-! Strings of signs. -/
def signs (s : ByteArray) : Bool := s.data.toList.all fun b => b == 60 || b == 62
theorem signs_ofB (xs : List Bool) : signs (ofB xs) = true := by
  unfold signs; rw [ofB_data, List.all_map, List.all_eq_true]; intro x _; cases x <;> rfl
theorem of_signs {s : ByteArray} (h : signs s = true) : s = ofB (s.data.toList.map fun b => b == 62) := by
  apply ba_ext
  rw [ofB_data, List.map_map]
  unfold signs at h
  rw [List.all_eq_true] at h
  generalize s.data.toList = l at h
  induction l with
  | nil => rfl
  | cons b t ih =>
    rw [List.map_cons, ← ih (fun x hx => h x (List.mem_cons_of_mem _ hx))]
    have := h b List.mem_cons_self
    simp only [Bool.or_eq_true, beq_iff_eq] at this
    rcases this with rfl | rfl <;> rfl
theorem set_eq (b : UInt8) : ([60, 62] : List UInt8).contains b = (b == 60 || b == 62) := by
  rw [Bool.eq_iff_iff, List.contains_iff_mem, Bool.or_eq_true, beq_iff_eq, beq_iff_eq]
  simp
theorem trim_nil (l : List UInt8) : (Lib.trimS l [60, 62] = []) ↔ l.all (fun b => b == 60 || b == 62) = true := by
  unfold Lib.trimS Lib.trimLeftS Lib.trimRightS
  have dn : ∀ l : List UInt8, l.dropWhile ([60, 62].contains ·) = [] ↔ l.all (fun b => b == 60 || b == 62) = true := by
    intro l
    induction l with
    | nil => simp
    | cons b t ih =>
      rw [List.dropWhile_cons, List.all_cons]
      rw [set_eq]
      cases (b == 60 || b == 62) with
      | true => exact ih
      | false => exact ⟨fun h => absurd h (by simp), fun h => absurd h (by simp)⟩
  constructor
  · intro h
    have h1 := (dn _).1 h
    by_cases hn : l.all (fun b => b == 60 || b == 62) = true
    · exact hn
    · exfalso
      have hne : l.reverse.dropWhile ([60, 62].contains ·) ≠ [] := by
        intro hh
        have := (dn _).1 hh
        rw [List.all_reverse] at this
        exact hn this
      obtain ⟨x, t, hx⟩ := List.exists_cons_of_ne_nil hne
      have hh := List.head?_dropWhile_not ([60, 62].contains ·) l.reverse
      rw [hx] at hh h1
      simp only [List.head?_cons] at hh
      rw [List.all_reverse] at h1
      simp only [List.all_cons, Bool.and_eq_true] at h1
      have := h1.1
      rw [set_eq] at hh
      rw [this] at hh
      exact absurd hh (by simp)
  · intro h
    have h2 : l.reverse.all (fun b => b == 60 || b == 62) = true := by rw [List.all_reverse]; exact h
    rw [(dn _).2 h2]
    rfl
/-- A row of 1 to m signs. -/
def good (m : Nat) (s : ByteArray) : Bool := decide (1 ≤ s.size) && decide (s.size ≤ m) && signs s
theorem good_of {m : Nat} {s : ByteArray} (h : good m s = true) : ∃ xs, s = ofB xs ∧ 1 ≤ xs.length ∧ xs.length ≤ m := by
  unfold good at h
  simp only [Bool.and_eq_true, decide_eq_true_eq] at h
  have e := of_signs h.2
  refine ⟨_, e, ?_, ?_⟩
  · have := congrArg ByteArray.size e; rw [ofB_size] at this; omega
  · have := congrArg ByteArray.size e; rw [ofB_size] at this; omega
theorem good_ofB {m : Nat} {xs : List Bool} (h1 : 1 ≤ xs.length) (h2 : xs.length ≤ m) : good m (ofB xs) = true := by
  unfold good; simp [signs_ofB, h1, h2]
end Go.Proofs.YtnlbhlomdcgpeaaDoor.Row

