/- Rows turned by runs and by first orders: plain laws on lists of Bools. -/
import Derived.Test.YtnlbhlomdcgpeaaDoorRowB
set_option linter.unusedVariables false
set_option linter.unusedSimpArgs false
namespace Go.Proofs.YtnlbhlomdcgpeaaDoor.Row
open Go.RowKit Go.Proofs.YtnlbhlomdcgpeaaDoorW.PrintWords Go.Proofs.YtnlbhlomdcgpeaaDoorW.PrintMore

/-- The soldiers i .. j - 1 look to the other side. -/
def turn (xs : List Bool) (i j : Nat) : List Bool := xs.mapIdx fun m b => if i ≤ m ∧ m < j then !b else b
@[simp] theorem turn_len (xs : List Bool) (i j : Nat) : (turn xs i j).length = xs.length := by simp [turn]
theorem list_ext {xs ys : List Bool} (hl : xs.length = ys.length) (h : ∀ m, m < xs.length → xs.getD m false = ys.getD m false) : xs = ys := by
  apply List.ext_getElem hl
  intro m h1 h2
  have := h m h1
  simpa [h1, h2] using this
theorem turn_getD (xs : List Bool) (i j m : Nat) (hm : m < xs.length) : (turn xs i j).getD m false = if i ≤ m ∧ m < j then !xs.getD m false else xs.getD m false := by
  simp [turn, hm, List.getD_eq_getElem?_getD]
theorem turn_form (xs : List Bool) (i j : Nat) (h : i ≤ j) (hj : j ≤ xs.length) : xs.take i ++ ((xs.drop i).take (j - i)).map (fun b => !b) ++ xs.drop j = turn xs i j := by
  apply List.ext_getElem
  · simp; omega
  intro m h1 h2
  simp only [turn, List.getElem_mapIdx, List.append_assoc]
  have hm : m < xs.length := by simpa using h2
  by_cases c1 : m < i
  · rw [List.getElem_append_left (by simp; omega)]
    rw [if_neg (by omega)]; simp
  · rw [List.getElem_append_right (by simp; omega)]
    simp only [List.length_take]
    have e0 : min i xs.length = i := by omega
    by_cases c2 : m < j
    · rw [List.getElem_append_left (by simp; omega), if_pos ⟨by omega, c2⟩]
      simp only [List.getElem_map, List.getElem_take, List.getElem_drop]
      congr 2
      omega
    · rw [List.getElem_append_right (by simp; omega), if_neg (by omega)]
      simp only [List.getElem_drop, List.length_map, List.length_take, List.length_drop]
      congr 1
      omega
theorem turn_turn (xs : List Bool) (i m j : Nat) (h1 : i ≤ m) (h2 : m ≤ j) : turn (turn xs i m) m j = turn xs i j := by
  apply list_ext (by simp)
  intro q hq
  simp only [turn_len] at hq
  rw [turn_getD _ _ _ _ (by simpa using hq), turn_getD _ _ _ _ hq, turn_getD _ _ _ _ hq]
  by_cases c1 : i ≤ q ∧ q < m
  · rw [if_pos c1, if_neg (by omega), if_pos (by omega)]
  · by_cases c2 : m ≤ q ∧ q < j
    · rw [if_neg c1, if_pos c2, if_pos (by omega)]
    · rw [if_neg c1, if_neg c2, if_neg (by omega)]
theorem turn_none (xs : List Bool) (i : Nat) : turn xs i i = xs := by
  apply list_ext (by simp)
  intro q hq
  rw [turn_getD _ _ _ _ (by simpa using hq), if_neg (by omega)]

/-! Runs: who differs, in runs. -/
def lastOf (out : List (List Int)) : List Int := out.getD (out.length - 1) []
theorem lastOf_mem {out : List (List Int)} (h : 0 < out.length) : lastOf out ∈ out := by
  unfold lastOf
  have : out.length - 1 < out.length := by omega
  simp [List.getD_eq_getElem?_getD, this]
def runsU (D : Nat → Bool) : Nat → List (List Int)
  | 0 => []
  | i + 1 => if D i = true then (if 0 < i ∧ D (i - 1) = true then (runsU D i).set ((runsU D i).length - 1) ((lastOf (runsU D i)).set 1 (i : Int)) else runsU D i ++ [[(i : Int), (i : Int)]]) else runsU D i
theorem runsU_all (D : Nat → Bool) : ∀ i, ∀ r ∈ runsU D i, ∃ f t : Nat, r = [(f : Int), (t : Int)] ∧ f ≤ t ∧ t < i
  | 0, r, h => by simp [runsU] at h
  | i + 1, r, h => by
    rw [runsU] at h
    split at h
    · split at h
      · rename_i hp
        by_cases hl : (runsU D i).length = 0
        · rw [List.eq_nil_of_length_eq_zero hl] at h
          simp at h
        · rcases List.mem_or_eq_of_mem_set h with h | h
          · obtain ⟨f, t, e, h1, h2⟩ := runsU_all D i r h; exact ⟨f, t, e, h1, by omega⟩
          · obtain ⟨f, t, e, h1, h2⟩ := runsU_all D i _ (lastOf_mem (by omega))
            exact ⟨f, i, by rw [h, e]; rfl, by omega, by omega⟩
      · rcases List.mem_append.1 h with h | h
        · obtain ⟨f, t, e, h1, h2⟩ := runsU_all D i r h; exact ⟨f, t, e, h1, by omega⟩
        · simp at h; exact ⟨i, i, h, by omega, by omega⟩
    · obtain ⟨f, t, e, h1, h2⟩ := runsU_all D i r h; exact ⟨f, t, e, h1, by omega⟩
theorem runsU_on (D : Nat → Bool) : ∀ i, 0 < i → D (i - 1) = true → ∃ init, ∃ f : Nat, runsU D i = init ++ [[(f : Int), ((i - 1 : Nat) : Int)]] ∧ f ≤ i - 1
  | 0, h, _ => absurd h (by omega)
  | i + 1, _, hd => by
    simp only [Nat.add_sub_cancel] at hd ⊢
    rw [runsU, if_pos hd]
    split
    · rename_i hp
      obtain ⟨init, f, e, hf⟩ := runsU_on D i hp.1 hp.2
      refine ⟨init, f, ?_, by omega⟩
      rw [e]
      simp [lastOf, List.getD_eq_getElem?_getD]
    · exact ⟨_, _, rfl, by omega⟩
/-- How the loop of the reference tells: the last run ends just before. -/
theorem runsU_last (D : Nat → Bool) (i : Nat) : (0 < (runsU D i).length ∧ rd (lastOf (runsU D i)) 1 = (i : Int) - 1) ↔ (0 < i ∧ D (i - 1) = true) := by
  constructor
  · rintro ⟨h0, h1⟩
    have hm : lastOf (runsU D i) ∈ runsU D i := lastOf_mem h0
    cases i with
    | zero => simp [runsU] at h0
    | succ i =>
      refine ⟨by omega, ?_⟩
      simp only [Nat.add_sub_cancel]
      cases hd : D i with
      | true => rfl
      | false =>
        exfalso
        rw [runsU, hd, if_neg (by simp)] at hm h1
        obtain ⟨f, t, e, _, h2⟩ := runsU_all D i _ hm
        rw [e] at h1
        simp [rd] at h1
        omega
  · rintro ⟨h0, h1⟩
    obtain ⟨init, f, e, hf⟩ := runsU_on D i h0 h1
    rw [e]
    refine ⟨by simp, ?_⟩
    simp [lastOf, rd]
    omega
theorem runsU_len (D : Nat → Bool) (i : Nat) : (runsU D (i + 1)).length = (runsU D i).length + (if D i = true ∧ ¬ (0 < i ∧ D (i - 1) = true) then 1 else 0) := by
  rw [runsU]
  split
  · rename_i h
    split
    · rename_i hp; rw [if_neg (by simp [hp])]; simp
    · rename_i hp; rw [if_pos ⟨h, hp⟩]; simp
  · rename_i h; rw [if_neg (by simp [h])]; rfl

/-! Orders carried out. -/
def okRun (n : Nat) (r : List Int) : Bool := decide (r.length = 2) && decide (0 ≤ rd r 0) && decide (rd r 0 ≤ (n : Int) - 1) && decide (rd r 0 ≤ rd r 1) && decide (rd r 1 ≤ (n : Int) - 1)
def turnRun (xs : List Bool) (r : List Int) : List Bool := turn xs (rd r 0).toNat ((rd r 1).toNat + 1)
def playM : List Bool → List (List Int) → Option (List Bool)
  | xs, [] => some xs
  | xs, r :: t => if okRun xs.length r = true then playM (turnRun xs r) t else none
theorem playM_snoc (r : List Int) : ∀ (l : List (List Int)) (xs : List Bool), playM xs (l ++ [r]) = (playM xs l).bind fun ys => if okRun ys.length r = true then some (turnRun ys r) else none
  | [], xs => by simp [playM]
  | q :: t, xs => by
    simp only [List.cons_append, playM]
    split
    · exact playM_snoc r t _
    · rfl
theorem playM_len : ∀ (l : List (List Int)) (xs ys : List Bool), playM xs l = some ys → ys.length = xs.length
  | [], xs, ys, h => by simp [playM] at h; rw [h]
  | q :: t, xs, ys, h => by
    simp only [playM] at h
    split at h
    · rw [playM_len t _ _ h]; simp [turnRun]
    · exact absurd h (by simp)
theorem okRun_nat (n f t : Nat) : okRun n [(f : Int), (t : Int)] = true ↔ f ≤ t ∧ t < n := by
  simp only [okRun, rd, List.length_cons, List.length_nil, Bool.and_eq_true, decide_eq_true_eq]
  simp
  omega
def xorU (xs : List Bool) (D : Nat → Bool) (i : Nat) : List Bool := xs.mapIdx fun m b => b != (decide (m < i) && D m)
@[simp] theorem xorU_len (xs : List Bool) (D : Nat → Bool) (i : Nat) : (xorU xs D i).length = xs.length := by simp [xorU]
theorem xorU_getD (xs : List Bool) (D : Nat → Bool) (i m : Nat) (hm : m < xs.length) : (xorU xs D i).getD m false = (xs.getD m false != (decide (m < i) && D m)) := by
  simp [xorU, hm, List.getD_eq_getElem?_getD]
theorem xorU_step (xs : List Bool) (D : Nat → Bool) (i : Nat) (hi : i < xs.length) : xorU xs D (i + 1) = if D i = true then turn (xorU xs D i) i (i + 1) else xorU xs D i := by
  apply list_ext (by split <;> simp)
  intro m hm
  simp only [xorU_len] at hm
  rw [xorU_getD _ _ _ _ hm]
  split
  · rename_i hd
    rw [turn_getD _ _ _ _ (by simpa using hm), xorU_getD _ _ _ _ hm]
    by_cases c : m = i
    · subst c; rw [if_pos (by omega)]; simp [hd]
    · rw [if_neg (by omega)]
      have : decide (m < i + 1) = decide (m < i) := by rw [decide_eq_decide]; omega
      rw [this]
  · rename_i hd
    rw [xorU_getD _ _ _ _ hm]
    by_cases c : m = i
    · subst c; simp [hd]
    · have : decide (m < i + 1) = decide (m < i) := by rw [decide_eq_decide]; omega
      rw [this]
theorem play_runs (xs : List Bool) (D : Nat → Bool) : ∀ i, i ≤ xs.length → playM xs (runsU D i) = some (xorU xs D i)
  | 0, _ => by
    simp only [runsU, playM]
    congr 1
    apply list_ext (by simp)
    intro m hm
    rw [xorU_getD _ _ _ _ hm]; simp
  | i + 1, h => by
    have ih := play_runs xs D i (by omega)
    rw [xorU_step xs D i (by omega), runsU]
    by_cases hd : D i = true
    · rw [if_pos hd, if_pos hd]
      split
      · rename_i hp
        obtain ⟨init, f, e, hf⟩ := runsU_on D i hp.1 hp.2
        rw [e] at ih ⊢
        have e2 : (init ++ [[(f : Int), ((i - 1 : Nat) : Int)]]).set ((init ++ [[(f : Int), ((i - 1 : Nat) : Int)]]).length - 1) ((lastOf (init ++ [[(f : Int), ((i - 1 : Nat) : Int)]])).set 1 (i : Int)) = init ++ [[(f : Int), (i : Int)]] := by
          simp [lastOf, List.getD_eq_getElem?_getD]
        rw [e2]
        rw [playM_snoc] at ih ⊢
        cases hz : playM xs init with
        | none => rw [hz] at ih; simp at ih
        | some zs =>
          rw [hz] at ih
          have hl := playM_len _ _ _ hz
          simp only [Option.bind_some] at ih ⊢
          split at ih
          · rw [if_pos ((okRun_nat _ _ _).2 (by omega))]
            injection ih with ih
            rw [← ih]
            congr 1
            simp only [turnRun, rd, List.getD_cons_zero, List.getD_cons_succ, Int.toNat_natCast, Int.reduceToNat]
            rw [show i - 1 + 1 = i by omega, turn_turn _ _ _ _ (by omega) (by omega)]
          · exact absurd ih (by simp)
      · rw [playM_snoc, ih]
        simp only [Option.bind_some]
        rw [if_pos ((okRun_nat _ _ _).2 (by simp; omega))]
        simp [turnRun, rd]
    · rw [if_neg hd, if_neg hd]; exact ih

/-! First orders. -/
def firstsU (D : Nat → Bool) : Nat → List Int
  | 0 => []
  | i + 1 => if (D i != D (i + 1)) = true then firstsU D i ++ [(i : Int) + 1] else firstsU D i
def turnsF (xs : List Bool) (l : List Int) : List Bool := l.foldl (fun xs f => turn xs 0 f.toNat) xs
theorem firstsU_all (D : Nat → Bool) : ∀ i, ∀ f ∈ firstsU D i, ∃ j : Nat, f = (j : Int) + 1 ∧ j < i
  | 0, f, h => by simp [firstsU] at h
  | i + 1, f, h => by
    rw [firstsU] at h
    split at h
    · rcases List.mem_append.1 h with h | h
      · obtain ⟨j, e, hj⟩ := firstsU_all D i f h; exact ⟨j, e, by omega⟩
      · simp at h; exact ⟨i, h, by omega⟩
    · obtain ⟨j, e, hj⟩ := firstsU_all D i f h; exact ⟨j, e, by omega⟩
theorem firstsU_pair (D : Nat → Bool) : ∀ i, (firstsU D i).Pairwise (· < ·)
  | 0 => by simp [firstsU]
  | i + 1 => by
    rw [firstsU]
    split
    · rw [List.pairwise_append]
      refine ⟨firstsU_pair D i, by simp, ?_⟩
      intro a ha b hb
      obtain ⟨j, e, hj⟩ := firstsU_all D i a ha
      simp at hb
      omega
    · exact firstsU_pair D i
theorem turns_firsts (xs : List Bool) (D : Nat → Bool) : ∀ i, i ≤ xs.length → turnsF xs (firstsU D i) = xs.mapIdx fun m b => b != (decide (m < i) && (D m != D i))
  | 0, _ => by
    apply list_ext (by simp [firstsU, turnsF])
    intro m hm
    simp [firstsU, turnsF] at hm ⊢
  | i + 1, h => by
    have ih := turns_firsts xs D i (by omega)
    rw [firstsU]
    split
    · rename_i hd
      unfold turnsF at ih ⊢
      rw [List.foldl_append, ih]
      simp only [List.foldl_cons, List.foldl_nil]
      apply list_ext (by simp)
      intro m hm
      have hm' : m < xs.length := by simpa using hm
      rw [turn_getD _ _ _ _ (by simpa using hm')]
      simp only [List.getD_eq_getElem?_getD, List.getElem?_mapIdx, List.getElem?_eq_getElem hm', Option.map_some, Option.getD_some]
      have ht : ((i : Int) + 1).toNat = i + 1 := by omega
      rw [ht]
      by_cases c1 : m < i
      · rw [if_pos (by omega)]
        have a1 : decide (m < i) = true := by simpa using c1
        have a2 : decide (m < i + 1) = true := by simp; omega
        rw [a1, a2]
        revert hd
        cases xs[m] <;> cases D m <;> cases D i <;> cases D (i + 1) <;> simp
      · by_cases c2 : m = i
        · subst c2
          rw [if_pos (by omega)]
          have a1 : decide (m < m) = false := by simp
          have a2 : decide (m < m + 1) = true := by simp
          rw [a1, a2, hd]
          cases xs[m] <;> rfl
        · rw [if_neg (by omega)]
          have a1 : decide (m < i) = false := by simp; omega
          have a2 : decide (m < i + 1) = false := by simp; omega
          rw [a1, a2]
          rfl
    · rename_i hd
      rw [ih]
      have hd' : D i = D (i + 1) := by revert hd; cases D i <;> cases D (i + 1) <;> simp
      apply list_ext (by simp)
      intro m hm
      have hm' : m < xs.length := by simpa using hm
      simp only [List.getD_eq_getElem?_getD, List.getElem?_mapIdx, List.getElem?_eq_getElem hm', Option.map_some, Option.getD_some]
      by_cases c2 : m = i
      · subst c2
        have a1 : decide (m < m) = false := by simp
        have a2 : decide (m < m + 1) = true := by simp
        rw [a1, a2, ← hd']
        cases xs[m] <;> cases D m <;> rfl
      · have : decide (m < i + 1) = decide (m < i) := by rw [decide_eq_decide]; omega
        rw [this, hd']

/-! How many. -/
def bn (b : Bool) : Nat := if b = true then 1 else 0
theorem two_runs (D : Nat → Bool) : ∀ i, 2 * (runsU D (i + 1)).length = (firstsU D i).length + bn (D 0) + bn (D i)
  | 0 => by
    rw [runsU_len]; simp only [runsU, firstsU, List.length_nil, bn]
    cases D 0 <;> simp
  | i + 1 => by
    have ih := two_runs D i
    rw [runsU_len, firstsU]
    simp only [Nat.add_sub_cancel]
    unfold bn at ih ⊢
    cases h1 : D i <;> cases h2 : D (i + 1) <;> simp [h1, h2] at ih ⊢ <;> omega
theorem runs_firsts (D : Nat → Bool) (n : Nat) (hn : D n = false) : 2 * (runsU D n).length = (firstsU D n).length + bn (D 0) := by
  have := two_runs D n
  rw [runsU_len, hn] at this
  simp [bn] at this
  unfold bn
  omega
theorem runs_most (D : Nat → Bool) : ∀ i, 2 * (runsU D (i + 1)).length ≤ i + 1 + bn (D i)
  | 0 => by
    rw [runsU_len]; simp only [runsU, List.length_nil, bn]
    cases D 0 <;> simp
  | i + 1 => by
    have ih := runs_most D i
    rw [runsU_len]
    simp only [Nat.add_sub_cancel]
    unfold bn at ih ⊢
    cases h1 : D i <;> cases h2 : D (i + 1) <;> simp [h1, h2] at ih ⊢ <;> omega
theorem runs_some (D : Nat → Bool) : ∀ i, bn (D 0) ≤ (runsU D (i + 1)).length
  | 0 => by rw [runsU_len]; simp only [runsU, bn]; cases D 0 <;> simp
  | i + 1 => by rw [runsU_len]; have := runs_some D i; omega
/-- With the first q soldiers turned the changes are one more or less at most. -/
theorem firsts_flip (D E : Nat → Bool) (q : Nat) (hq : 0 < q) (h1 : ∀ m, m < q → E m = !D m) (h2 : ∀ m, q ≤ m → E m = D m) : ∀ i, (i < q → (firstsU E i).length = (firstsU D i).length) ∧ (firstsU E i).length ≤ (firstsU D i).length + 1 ∧ (firstsU D i).length ≤ (firstsU E i).length + 1
  | 0 => by simp [firstsU]
  | i + 1 => by
    have ih := firsts_flip D E q hq h1 h2 i
    have L : ∀ F : Nat → Bool, (firstsU F (i + 1)).length = (firstsU F i).length + bn (F i != F (i + 1)) := by
      intro F; rw [firstsU]; unfold bn; split <;> simp
    rw [L D, L E]
    by_cases c : i + 1 < q
    · rw [h1 i (by omega), h1 (i + 1) c]
      have := ih.1 (by omega)
      have e : ((!D i) != (!D (i + 1))) = (D i != D (i + 1)) := by cases D i <;> cases D (i + 1) <;> rfl
      rw [e]
      refine ⟨fun _ => by omega, by omega, by omega⟩
    · by_cases c2 : i < q
      · rw [h1 i c2, h2 (i + 1) (by omega)]
        have := ih.1 c2
        refine ⟨fun h => absurd h c, ?_, ?_⟩ <;> (unfold bn; cases D i <;> cases D (i + 1) <;> simp <;> omega)
      · rw [h2 i (by omega), h2 (i + 1) (by omega)]
        refine ⟨fun h => absurd h c, by omega, by omega⟩
end Go.Proofs.YtnlbhlomdcgpeaaDoor.Row

