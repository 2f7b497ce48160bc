/- What the printed functions of rows and orders return: plain laws. -/
import Derived.Test.YtnlbhlomdcgpeaaDoorFs
import Derived.Test.YtnlbhlomdcgpeaaDoorDraw
import Derived.Test.YtnlbhlomdcgpeaaDoorOrd
set_option linter.unusedVariables false
set_option linter.unusedSimpArgs false
set_option maxRecDepth 20000
namespace Go.Proofs.YtnlbhlomdcgpeaaDoor.Row
open Go.RowKit Go.Proofs.YtnlbhlomdcgpeaaDoorW.PrintWords Go.Proofs.YtnlbhlomdcgpeaaDoorW.PrintMore Go.Proofs.YtnlbhlomdcgpeaaDoor.Pr Go.Proofs.YtnlbhlomdcgpeaaDoor.Hand

theorem wsucc {i : Nat} (h : i ≤ 1000000) : wrap64 ((i : Int) + 1) = ((i + 1 : Nat) : Int) := by rw [w64 (by omega) (by omega)]; omega
theorem wpred {i : Nat} (h : i ≤ 1000000) (h0 : 0 < i) : wrap64 ((i : Int) - 1) = ((i - 1 : Nat) : Int) := by rw [w64 (by omega) (by omega)]; omega

/-! Rows. -/
theorem in_ok (a b c : Int) : impl_in.f a b c = some (decide (b ≤ a) && decide (a ≤ c)) := by
  unfold impl_in.f; by_cases h : b ≤ a
  · rw [if_pos h]; simp [h]
  · rw [if_neg h]; simp [h]
theorem l1In_ok (a b c : Int) : spec_l1In.f a b c = some (decide (b ≤ a) && decide (a ≤ c)) := by
  unfold spec_l1In.f; by_cases h : b ≤ a
  · rw [if_pos h]; simp [h]
  · rw [if_neg h]; simp [h]
theorem bool_ext {a b : Bool} (h : a = true ↔ b = true) : a = b := by cases a <;> cases b <;> simp_all
theorem isRow_ok {s : ByteArray} (hs : s.size ≤ 200) : impl_isRow.f s = some (good 60 s) := by
  unfold impl_isRow.f
  rw [in_ok]
  simp only [Option.bind_some]
  unfold good
  by_cases h : (decide ((1 : Int) ≤ (s.size : Int)) && decide ((s.size : Int) ≤ 60)) = true
  · rw [if_pos h]
    unfold strings_Trim.f
    rw [if_pos ⟨by decide, by decide, by omega⟩]
    simp only [Option.bind_some]
    congr 1
    simp only [Bool.and_eq_true, decide_eq_true_eq] at h
    have h1 : decide (1 ≤ s.size) = true := by simp; omega
    have h2 : decide (s.size ≤ 60) = true := by simp; omega
    rw [h1, h2]
    apply bool_ext
    simp only [Bool.true_and, beq_iff_eq]
    unfold signs
    rw [← trim_nil, Lib.toList_data]
  · rw [if_neg h]
    congr 1
    symm
    rw [Bool.eq_false_iff]
    intro hh
    simp only [Bool.and_eq_true, decide_eq_true_eq] at hh
    exact h (by simp; omega)
theorem good_40_60 (s : ByteArray) : good 40 s = (good 60 s && decide ((s.size : Int) ≤ 40)) := by
  unfold good
  apply bool_ext
  simp only [Bool.and_eq_true, decide_eq_true_eq]
  constructor
  · rintro ⟨⟨a, b⟩, c⟩; exact ⟨⟨⟨a, by omega⟩, c⟩, by omega⟩
  · rintro ⟨⟨⟨a, b⟩, c⟩, d⟩; exact ⟨⟨a, by omega⟩, c⟩
theorem isOrdered_ok {s : ByteArray} (hs : s.size ≤ 200) : impl_isOrdered.f s = some (good 40 s) := by
  unfold impl_isOrdered.f
  rw [isRow_ok hs, good_40_60]
  simp only [Option.bind_some]
  cases good 60 s <;> simp
def both (a b : ByteArray) : Bool := good 40 a && good 40 b && ((a.size : Int) == (b.size : Int))
theorem areOrdered_ok {a b : ByteArray} (ha : a.size ≤ 200) (hb : b.size ≤ 200) : impl_areOrdered.f a b = some (both a b) := by
  unfold impl_areOrdered.f both
  rw [isOrdered_ok ha, isOrdered_ok hb]
  simp only [Option.bind_some]
  cases good 40 a <;> cases good 40 b <;> simp
theorem rwGood_l0_ok (s : ByteArray) (hs : s.size ≤ 200) : ∀ (m i k : Nat), i + m = s.size → m < k → spec_rwGood.l0 k s (i : Int) = some ((s.data.toList.drop i).all fun b => b == 60 || b == 62)
  | m, i, 0, _, hk => absurd hk (by omega)
  | 0, i, k + 1, hi, _ => by
    rw [spec_rwGood.l0, if_neg (by omega), List.drop_of_length_le (by rw [data_length]; omega)]; rfl
  | m + 1, i, k + 1, hi, hk => by
    have hlt : i < s.data.toList.length := by rw [data_length]; omega
    have hb : bt s (i : Int) = ((s.data.toList[i]'hlt).toNat : Int) := by
      have h' : (i : Int).toNat < s.size := by simp; omega
      rw [← bt_at s (i : Int) h']; rfl
    rw [spec_rwGood.l0, if_pos (by omega), if_pos (by omega), List.drop_eq_getElem_cons hlt, List.all_cons, hb, wsucc (by omega)]
    by_cases h1 : (s.data.toList[i]'hlt) = 60
    · rw [if_pos (by rw [h1]; rfl), rwGood_l0_ok s hs m (i + 1) k (by omega) (by omega), h1]; simp
    · by_cases h2 : (s.data.toList[i]'hlt) = 62
      · rw [if_neg (by rw [h2]; decide), if_pos (by rw [h2]; rfl), rwGood_l0_ok s hs m (i + 1) k (by omega) (by omega), h2]; simp
      · have n1 : ¬ (((s.data.toList[i]'hlt).toNat : Int) = 60) := fun h => h1 (UInt8.toNat_inj.1 (by show _ = 60; omega))
        have n2 : ¬ (((s.data.toList[i]'hlt).toNat : Int) = 62) := fun h => h2 (UInt8.toNat_inj.1 (by show _ = 62; omega))
        rw [if_neg n1, if_neg n2]
        have e1 : ((s.data.toList[i]'hlt) == 60) = false := by simpa using h1
        have e2 : ((s.data.toList[i]'hlt) == 62) = false := by simpa using h2
        rw [e1, e2]; rfl
theorem rwGood_ok {s : ByteArray} (hs : s.size ≤ 200) {k : Nat} (hk : 202 ≤ k) : spec_rwGood.f k s = some (good 60 s) := by
  unfold spec_rwGood.f
  rw [l1In_ok]
  simp only [Option.bind_some]
  unfold good
  by_cases h : (decide ((1 : Int) ≤ (s.size : Int)) && decide ((s.size : Int) ≤ 60)) = true
  · rw [if_pos h]
    have := rwGood_l0_ok s hs s.size 0 k (by omega) (by omega)
    rw [show ((0 : Nat) : Int) = 0 from rfl] at this
    rw [this]
    simp only [Bool.and_eq_true, decide_eq_true_eq] at h
    have h1 : decide (1 ≤ s.size) = true := by simp; omega
    have h2 : decide (s.size ≤ 60) = true := by simp; omega
    rw [h1, h2]; rfl
  · rw [if_neg h]
    congr 1
    symm
    rw [Bool.eq_false_iff]
    intro hh
    simp only [Bool.and_eq_true, decide_eq_true_eq] at hh
    exact h (by simp; omega)
theorem odGood_ok {s : ByteArray} (hs : s.size ≤ 200) {k : Nat} (hk : 202 ≤ k) : spec_odGood.f k s = some (good 40 s) := by
  unfold spec_odGood.f
  rw [rwGood_ok hs hk, good_40_60]
  simp only [Option.bind_some]
  cases good 60 s <;> simp
theorem odTwo_ok {a b : ByteArray} (ha : a.size ≤ 200) (hb : b.size ≤ 200) {k : Nat} (hk : 202 ≤ k) : spec_odTwo.f k a b = some (both a b) := by
  unfold spec_odTwo.f both
  rw [odGood_ok ha hk, odGood_ok hb hk]
  simp only [Option.bind_some]
  cases good 40 a <;> cases good 40 b <;> simp

/-! Who differs. -/
def dif (xs ys : List Bool) (m : Nat) : Bool := xs.getD m false != ys.getD m false
def dfl (xs ys : List Bool) : List Bool := (List.range xs.length).map (dif xs ys)
@[simp] theorem dfl_len (xs ys : List Bool) : (dfl xs ys).length = xs.length := by simp [dfl]
theorem dfl_getD (xs ys : List Bool) (h : xs.length = ys.length) (m : Nat) : (dfl xs ys).getD m false = dif xs ys m := by
  by_cases hm : m < xs.length
  · simp [dfl, hm, List.getD_eq_getElem?_getD]
  · have hm' : ¬ m < ys.length := by omega
    simp [dfl, dif, hm, hm', List.getD_eq_getElem?_getD, List.getElem?_eq_none (by omega : xs.length ≤ m), List.getElem?_eq_none (by omega : ys.length ≤ m)]
theorem differ_l0_ok (xs ys : List Bool) (h : xs.length = ys.length) (hn : xs.length ≤ 200) : ∀ (m i k : Nat) (st : List Bool), i + m = xs.length → m < k → st.length = xs.length → (∀ j, j < i → st.getD j false = dif xs ys j) → impl_differ.l0 k (ofB xs) (ofB ys) st (xs.length : Int) (i : Int) = some (dfl xs ys)
  | m, i, 0, _, _, hk, _, _ => absurd hk (by omega)
  | 0, i, k + 1, st, hi, _, hl, hd => by
    rw [impl_differ.l0, if_neg (by omega)]
    congr 1
    apply list_ext (by simp [hl])
    intro j hj
    rw [dfl_getD _ _ h, hd j (by omega)]
  | m + 1, i, k + 1, st, hi, hk, hl, hd => by
    rw [impl_differ.l0, if_pos (by omega), if_pos (by omega), if_pos (by simp; omega), if_pos (by simp; omega), if_pos (by omega), wsucc (by omega), bt_ofB _ _ (by omega), bt_ofB _ _ (by omega), sg_ne]
    apply differ_l0_ok xs ys h hn m (i + 1) k _ (by omega) (by omega) (by simp [hl])
    intro j hj
    simp only [Int.toNat_natCast]
    by_cases c : j = i
    · subst c
      have hj2 : j < st.length := by omega
      simp [List.getD_eq_getElem?_getD, List.getElem?_set, hj2, dif]
    · have := hd j (by omega)
      simp only [List.getD_eq_getElem?_getD, List.getElem?_set] at this ⊢
      rw [if_neg (fun e => c e.symm)]
      exact this
theorem differ_ok {xs ys : List Bool} (h : xs.length = ys.length) (hn : xs.length ≤ 200) {k : Nat} (hk : 202 ≤ k) : impl_differ.f k (ofB xs) (ofB ys) = some (dfl xs ys) := by
  unfold impl_differ.f
  rw [ofB_size, if_pos (by omega), if_pos (by simp; omega)]
  simp only [Option.bind_some, Int.toNat_natCast, List.length_replicate]
  exact differ_l0_ok xs ys h hn xs.length 0 k _ (by omega) (by omega) (by simp) (fun j hj => absurd hj (by omega))

/-! Runs. -/
theorem runsU_le (D : Nat → Bool) : ∀ i, (runsU D i).length ≤ i
  | 0 => by simp [runsU]
  | i + 1 => by rw [runsU_len]; have := runsU_le D i; split <;> omega
theorem parts_l0_ok (d : List Bool) (hn : d.length ≤ 200) : ∀ (m i k : Nat), i + m = d.length → m < k → impl_parts.l0 k d (runsU (fun j => d.getD j false) i) d (d.length : Int) (i : Int) = some (runsU (fun j => d.getD j false) d.length)
  | m, i, 0, _, hk => absurd hk (by omega)
  | 0, i, k + 1, hi, _ => by
    rw [impl_parts.l0, if_neg (by omega), show i = d.length by omega]
  | m + 1, i, k + 1, hi, hk => by
    have ih := parts_l0_ok d hn m (i + 1) k (by omega) (by omega)
    rw [runsU] at ih
    have hle := runsU_le (fun j => d.getD j false) i
    rw [impl_parts.l0, if_pos (by omega), if_pos (by omega), if_pos (by omega), wsucc (by omega)]
    have er : ∀ j : Nat, rdOf false d (j : Int) = d.getD j false := fun j => rfl
    rw [er]
    by_cases hd : d.getD i false = true
    · rw [if_pos hd]
      rw [if_pos hd] at ih
      by_cases h0 : i = 0
      · subst h0
        rw [if_pos (show ((0 : Nat) : Int) = 0 from rfl), if_pos (by omega)]
        rw [if_neg (by omega)] at ih
        exact ih
      · rw [if_neg (by omega), wpred (by omega) (by omega), if_pos (by omega), if_pos (by omega), er]
        by_cases hp : d.getD (i - 1) false = true
        · rw [if_pos hp]
          rw [if_pos ⟨by omega, hp⟩] at ih
          obtain ⟨init, f, e, hf⟩ := runsU_on (fun j => d.getD j false) i (by omega) hp
          have hlen : 0 < (runsU (fun j => d.getD j false) i).length := by rw [e]; simp
          rw [wpred (by omega) hlen, if_pos (by omega), if_pos (by omega)]
          have el : rd_L3 (runsU (fun j => d.getD j false) i) (((runsU (fun j => d.getD j false) i).length - 1 : Nat) : Int) = lastOf (runsU (fun j => d.getD j false) i) := rfl
          rw [el]
          have h2 : (lastOf (runsU (fun j => d.getD j false) i)).length = 2 := by
            obtain ⟨f, t, e2, _⟩ := runsU_all (fun j => d.getD j false) i _ (lastOf_mem hlen)
            rw [e2]; rfl
          rw [if_pos (by omega)]
          exact ih
        · rw [if_neg hp, if_pos (by omega)]
          rw [if_neg (by rintro ⟨_, h⟩; exact hp h)] at ih
          exact ih
    · rw [if_neg hd]
      rw [if_neg hd] at ih
      exact ih
theorem parts_ok {d : List Bool} (hn : d.length ≤ 200) {k : Nat} (hk : 202 ≤ k) : impl_parts.f k d = some (runsU (fun j => d.getD j false) d.length) :=
  parts_l0_ok d hn d.length 0 k (by omega) (by omega)
theorem odRuns_l0_ok (xs ys : List Bool) (h : xs.length = ys.length) (hn : xs.length ≤ 200) : ∀ (m i k : Nat), i + m = xs.length → m < k → spec_odRuns.l0 k (ofB xs) (ofB ys) (runsU (dif xs ys) i) (i : Int) (ofB xs) = some (runsU (dif xs ys) xs.length)
  | m, i, 0, _, hk => absurd hk (by omega)
  | 0, i, k + 1, hi, _ => by
    rw [spec_odRuns.l0, if_neg (by simp; omega), show i = xs.length by omega]
  | m + 1, i, k + 1, hi, hk => by
    have ih := odRuns_l0_ok xs ys h hn m (i + 1) k (by omega) (by omega)
    rw [runsU] at ih
    have hle := runsU_le (dif xs ys) i
    rw [spec_odRuns.l0, if_pos (by simp; omega), if_pos (by omega), if_pos (by rw [bt_ofB _ _ (by omega)]; exact sg_lt _), if_pos (by simp; omega), if_pos (by simp; omega), bt_ofB _ _ (by omega), bt_ofB _ _ (by omega), show (i : Int) + 1 = ((i + 1 : Nat) : Int) by omega]
    by_cases hd : dif xs ys i = true
    · have hne : ¬ (sg (xs.getD i false) = sg (ys.getD i false)) := by
        rw [sg_inj]; intro e; unfold dif at hd; rw [e] at hd; simp at hd
      rw [if_neg hne]
      rw [if_pos hd] at ih
      have hlast := runsU_last (dif xs ys) i
      by_cases h0 : 0 < (runsU (dif xs ys) i).length
      · rw [if_pos (by omega), wpred (by omega) h0, if_pos (by omega), if_pos (by omega)]
        have el : rd_L3 (runsU (dif xs ys) i) (((runsU (dif xs ys) i).length - 1 : Nat) : Int) = lastOf (runsU (dif xs ys) i) := rfl
        rw [el]
        have h2 : (lastOf (runsU (dif xs ys) i)).length = 2 := by
          obtain ⟨f, t, e2, _⟩ := runsU_all (dif xs ys) i _ (lastOf_mem h0)
          rw [e2]; rfl
        rw [if_pos (by omega)]
        have ew : wrap64 ((i : Int) - 1) = (i : Int) - 1 := w64 (by omega) (by omega)
        rw [ew]
        by_cases hl : rd (lastOf (runsU (dif xs ys) i)) 1 = (i : Int) - 1
        · rw [if_pos hl]
          rw [if_pos (hlast.1 ⟨h0, hl⟩)] at ih
          exact ih
        · rw [if_neg hl, if_pos (by omega)]
          rw [if_neg (fun hp => hl (hlast.2 hp).2)] at ih
          exact ih
      · rw [if_neg (by omega), if_pos (by omega)]
        rw [if_neg (fun hp => h0 (hlast.2 hp).1)] at ih
        exact ih
    · have heq : sg (xs.getD i false) = sg (ys.getD i false) := by
        rw [sg_inj]; unfold dif at hd; exact (show ∀ a b : Bool, ¬ ((a != b) = true) → a = b from by decide) _ _ hd
      rw [if_pos heq]
      rw [if_neg hd] at ih
      exact ih
theorem odRuns_ok {xs ys : List Bool} (h : xs.length = ys.length) (hn : xs.length ≤ 200) {k : Nat} (hk : 202 ≤ k) : spec_odRuns.f k (ofB xs) (ofB ys) = some (runsU (dif xs ys) xs.length) :=
  odRuns_l0_ok xs ys h hn xs.length 0 k (by omega) (by omega)
theorem funD {xs ys : List Bool} (h : xs.length = ys.length) : (fun j => (dfl xs ys).getD j false) = dif xs ys := funext fun j => dfl_getD xs ys h j

/-! First orders. -/
theorem firstsU_le (D : Nat → Bool) : ∀ i, (firstsU D i).length ≤ i
  | 0 => by simp [firstsU]
  | i + 1 => by rw [firstsU]; have := firstsU_le D i; split <;> simp <;> omega
theorem firstsTo_l0_ok (d : List Bool) (hn : d.length ≤ 200) : ∀ (m i k : Nat), i + m = d.length → m < k → impl_FirstsTo.l0 k (firstsU (fun j => d.getD j false) i) (d ++ [false]) (d.length : Int) (i : Int) = some (firstsU (fun j => d.getD j false) d.length, true)
  | m, i, 0, _, hk => absurd hk (by omega)
  | 0, i, k + 1, hi, _ => by
    rw [impl_FirstsTo.l0, if_neg (by omega), show i = d.length by omega]
  | m + 1, i, k + 1, hi, hk => by
    have ih := firstsTo_l0_ok d hn m (i + 1) k (by omega) (by omega)
    rw [firstsU] at ih
    have hle := firstsU_le (fun j => d.getD j false) i
    have er : ∀ j : Nat, rdOf false (d ++ [false]) (j : Int) = d.getD j false := by
      intro j
      show (d ++ [false]).getD j false = _
      by_cases hj : j < d.length
      · simp [List.getD_eq_getElem?_getD, List.getElem?_append_left hj]
      · by_cases hj2 : j = d.length
        · subst hj2; simp [List.getD_eq_getElem?_getD]
        · simp [List.getD_eq_getElem?_getD, List.getElem?_eq_none (by simp; omega : (d ++ [false]).length ≤ j), List.getElem?_eq_none (by omega : d.length ≤ j)]
    rw [impl_FirstsTo.l0, if_pos (by omega), if_pos (by omega), if_pos (by simp; omega), wsucc (by omega), if_pos (by omega), if_pos (by simp; omega), er, er]
    by_cases hd : (d.getD i false != d.getD (i + 1) false) = true
    · rw [if_pos hd, if_pos (by omega)]
      rw [if_pos hd] at ih
      exact ih
    · rw [if_neg hd]
      rw [if_neg hd] at ih
      exact ih
theorem odFirsts_l0_ok (xs ys : List Bool) (h : xs.length = ys.length) (hn : xs.length ≤ 200) : ∀ (m i k : Nat), i + m = xs.length → m < k → spec_odFirsts.l0 k (ofB xs) (ofB ys) (firstsU (dif xs ys) i) (i : Int) (ofB xs) = some (firstsU (dif xs ys) xs.length)
  | m, i, 0, _, hk => absurd hk (by omega)
  | 0, i, k + 1, hi, _ => by
    rw [spec_odFirsts.l0, if_neg (by simp; omega), show i = xs.length by omega]
  | m + 1, i, k + 1, hi, hk => by
    have ih := odFirsts_l0_ok xs ys h hn m (i + 1) k (by omega) (by omega)
    rw [firstsU] at ih
    have hle := firstsU_le (dif xs ys) i
    rw [spec_odFirsts.l0, if_pos (by simp; omega), if_pos (by omega), if_pos (by rw [bt_ofB _ _ (by omega)]; exact sg_lt _), if_pos (by simp; omega), if_pos (by simp; omega), wsucc (by omega), bt_ofB _ _ (by omega), bt_ofB _ _ (by omega), sg_ne, show (i : Int) + 1 = ((i + 1 : Nat) : Int) by omega]
    by_cases hl : i + 1 < xs.length
    · rw [if_pos (by simp; omega), if_pos (by omega), if_pos (by simp; omega), bt_ofB _ _ (by omega), bt_ofB _ _ (by omega), sg_ne]
      by_cases hd : (dif xs ys i != dif xs ys (i + 1)) = true
      · rw [if_pos hd] at ih
        unfold dif at hd
        rw [if_pos hd, if_pos (by omega)]
        exact ih
      · rw [if_neg hd] at ih
        unfold dif at hd
        rw [if_neg hd]
        exact ih
    · rw [if_neg (by simp; omega)]
      have e0 : dif xs ys (i + 1) = false := by
        simp [dif, List.getD_eq_getElem?_getD, List.getElem?_eq_none (by omega : xs.length ≤ i + 1), List.getElem?_eq_none (by omega : ys.length ≤ i + 1)]
      rw [e0] at ih
      by_cases hd : (dif xs ys i != false) = true
      · rw [if_pos hd] at ih
        unfold dif at hd
        rw [if_pos hd, if_pos (by omega)]
        exact ih
      · rw [if_neg hd] at ih
        unfold dif at hd
        rw [if_neg hd]
        exact ih
theorem odFirsts_ok {xs ys : List Bool} (h : xs.length = ys.length) (hn : xs.length ≤ 200) {k : Nat} (hk : 202 ≤ k) : spec_odFirsts.f k (ofB xs) (ofB ys) = some (firstsU (dif xs ys) xs.length) :=
  odFirsts_l0_ok xs ys h hn xs.length 0 k (by omega) (by omega)

/-! Turned. -/
theorem turned_ok {xs : List Bool} (hn : xs.length ≤ 200) : impl_turned.f (ofB xs) = some (ofB (xs.map fun b => !b)) := by
  unfold impl_turned.f
  rw [if_pos ⟨signs_ofB xs, by simp; omega⟩]
  congr 1
  apply ba_ext
  rw [ofB_data, ofB_data]
  simp only [flipS, List.map_map]
  apply List.map_congr_left
  intro b _
  cases b <;> rfl
theorem turnAll_ok {xs : List Bool} (hn : xs.length ≤ 200) (i j : Nat) (hi : i ≤ j + 1) (hj : j + 1 ≤ xs.length) : impl_turnAll.f (ofB xs) (i : Int) (j : Int) = some (ofB (turn xs i (j + 1))) := by
  unfold impl_turnAll.f
  rw [wsucc (by omega), if_pos (by omega), if_pos (by simp; omega), if_pos (by omega), if_pos (by simp; omega)]
  simp only [Int.toNat_natCast]
  rw [ofB_extract, ofB_extract, ofB_extract, turned_ok (by simp; omega)]
  simp only [Option.bind_some, ofB_append]
  rw [if_pos (by simp; omega), if_pos (by omega), if_pos (by simp; omega)]
  congr 2
  rw [← turn_form xs i (j + 1) hi hj]
  rw [List.take_of_length_le (l := List.drop (j + 1) xs) (by simp)]
  simp
theorem odTurn_l0_ok (xs : List Bool) (hn : xs.length ≤ 200) (i j : Nat) (hj : j + 1 ≤ xs.length) : ∀ (m q k : Nat), q + m = j + 1 → m < k → i ≤ q → spec_odTurn.l0 k (ofB (turn xs i q)) (j : Int) (q : Int) = some (ofB (turn xs i (j + 1)))
  | m, q, 0, _, hk, _ => absurd hk (by omega)
  | 0, q, k + 1, hq, _, _ => by
    rw [spec_odTurn.l0, if_neg (by omega), show q = j + 1 by omega]
  | m + 1, q, k + 1, hq, hk, hi => by
    have hqn : q < xs.length := by omega
    have ih := odTurn_l0_ok xs hn i j hj m (q + 1) k (by omega) (by omega) (by omega)
    rw [spec_odTurn.l0, if_pos (by omega), if_pos (by omega), if_pos (by simp; omega), if_pos (by simp; omega), bt_ofB _ _ (by simp; omega)]
    have eo : spec_rwOther.f (sg ((turn xs i q).getD q false)) = some (ofB [!(turn xs i q).getD q false]) := by
      unfold spec_rwOther.f; cases (turn xs i q).getD q false <;> rfl
    rw [eo, wsucc (by omega)]
    simp only [Option.bind_some, Int.toNat_natCast]
    rw [ofB_extract, ofB_extract, ofB_append, ofB_append]
    rw [if_pos (by simp; omega), if_pos (by omega), if_pos (by simp; omega), if_pos (by simp; omega)]
    rw [← ih]
    congr 2
    rw [← turn_turn xs i q (q + 1) hi (by omega), ← turn_form (turn xs i q) q (q + 1) (by omega) (by simp; omega)]
    have e1 : ((turn xs i q).drop q).take (q + 1 - q) = [(turn xs i q).getD q false] := by
      have hl : q < (turn xs i q).length := by simp; omega
      rw [List.drop_eq_getElem_cons hl, show q + 1 - q = 1 by omega, List.take_succ_cons, List.take_zero, List.getD_eq_getElem?_getD, List.getElem?_eq_getElem hl, Option.getD_some]
    rw [e1, List.take_of_length_le (l := List.drop (q + 1) (turn xs i q)) (by simp)]
    simp
theorem odTurn_ok {xs : List Bool} (hn : xs.length ≤ 200) (i j : Nat) (hi : i ≤ j + 1) (hj : j + 1 ≤ xs.length) {k : Nat} (hk : 202 ≤ k) : spec_odTurn.f k (ofB xs) (i : Int) (j : Int) = some (ofB (turn xs i (j + 1))) := by
  unfold spec_odTurn.f
  have := odTurn_l0_ok xs hn i j hj (j + 1 - i) i k (by omega) (by omega) (by omega)
  rw [turn_none] at this
  exact this

/-! Orders. -/
theorem okRun_of {n : Nat} {r : List Int} (h : okRun n r = true) : r.length = 2 ∧ ∃ f t : Nat, rd r 0 = (f : Int) ∧ rd r 1 = (t : Int) ∧ f ≤ t ∧ t < n := by
  simp only [okRun, Bool.and_eq_true, decide_eq_true_eq] at h
  exact ⟨h.1.1.1.1, (rd r 0).toNat, (rd r 1).toNat, by omega, by omega, by omega, by omega⟩
theorem isRun_ok (xs : List Bool) (hn : xs.length ≤ 200) (f t : Int) : impl_isRun.f (ofB xs) f t = some ((decide (0 ≤ f) && decide (f ≤ (xs.length : Int) - 1)) && (decide (f ≤ t) && decide (t ≤ (xs.length : Int) - 1))) := by
  unfold impl_isRun.f
  rw [ofB_size, w64 (by omega) (by omega), in_ok, in_ok]
  simp only [Option.bind_some]
  cases h : (decide (0 ≤ f) && decide (f ≤ (xs.length : Int) - 1)) <;> simp
theorem okRun_bool (n : Nat) (r : List Int) (h : r.length = 2) : okRun n r = ((decide (0 ≤ rd r 0) && decide (rd r 0 ≤ (n : Int) - 1)) && (decide (rd r 0 ≤ rd r 1) && decide (rd r 1 ≤ (n : Int) - 1))) := by
  unfold okRun; rw [h]; simp [Bool.and_assoc]
def endOf (o : Option (List Bool)) : ByteArray × Bool := match o with | some ys => (ofB ys, true) | none => (ofB [], false)
theorem implPlay_l0_ok (parts : List (List Int)) (hp : parts.length ≤ 200) : ∀ (m j k : Nat) (xs : List Bool), xs.length ≤ 200 → j + m = parts.length → m < k → impl_PlayRuns.l0 k (ofB xs) parts (parts.length : Int) (j : Int) = some (endOf (playM xs (parts.drop j)))
  | m, j, 0, _, _, _, hk => absurd hk (by omega)
  | 0, j, k + 1, xs, hn, hj, _ => by
    rw [impl_PlayRuns.l0, if_neg (by omega), List.drop_of_length_le (by omega)]; rfl
  | m + 1, j, k + 1, xs, hn, hj, hk => by
    have hlt : j < parts.length := by omega
    rw [impl_PlayRuns.l0, if_pos (by omega), if_pos (by omega), if_pos (by omega), List.drop_eq_getElem_cons hlt]
    have er : rd_L3 parts (j : Int) = parts[j] := by unfold rd_L3; simp [List.getD_eq_getElem?_getD, hlt]
    rw [er]
    simp only [playM]
    generalize parts[j] = r
    by_cases h2 : r.length = 2
    · rw [if_pos (by omega), if_pos (by omega), if_pos (by omega), isRun_ok xs hn, ← okRun_bool _ _ h2]
      simp only [Option.bind_some]
      by_cases ho : okRun xs.length r = true
      · rw [if_pos ho, if_pos ho]
        obtain ⟨_, f, t, ef, et, hft, ht⟩ := okRun_of ho
        rw [ef, et, turnAll_ok hn f t (by omega) (by omega)]
        simp only [Option.bind_some]
        rw [wsucc (by omega), implPlay_l0_ok parts hp m (j + 1) k _ (by simp; omega) (by omega) (by omega)]
        unfold turnRun
        rw [ef, et]; rfl
      · rw [if_neg ho, if_neg ho]; rfl
    · rw [if_neg (by omega), if_neg (by unfold okRun; simp [h2])]; rfl
theorem specPlay_l0_ok (parts : List (List Int)) (hp : parts.length ≤ 200) : ∀ (m j k : Nat) (xs : List Bool), xs.length ≤ 200 → j + m = parts.length → m + 202 < k → spec_PlayRuns.l0 k (ofB xs) parts (parts.length : Int) (j : Int) = some (endOf (playM xs (parts.drop j)))
  | m, j, 0, _, _, _, hk => absurd hk (by omega)
  | 0, j, k + 1, xs, hn, hj, _ => by
    rw [spec_PlayRuns.l0, if_neg (by omega), List.drop_of_length_le (by omega)]; rfl
  | m + 1, j, k + 1, xs, hn, hj, hk => by
    have hlt : j < parts.length := by omega
    rw [spec_PlayRuns.l0, if_pos (by omega), if_pos (by omega), if_pos (by omega), List.drop_eq_getElem_cons hlt]
    have er : rd_L3 parts (j : Int) = parts[j] := by unfold rd_L3; simp [List.getD_eq_getElem?_getD, hlt]
    rw [er]
    simp only [playM]
    generalize parts[j] = r
    by_cases h2 : r.length = 2
    · rw [if_pos (by omega), if_pos (by omega), ofB_size, w64 (by omega) (by omega), l1In_ok, l1In_ok]
      simp only [Option.bind_some]
      have ob := okRun_bool xs.length r h2
      by_cases h1 : (decide (0 ≤ rd r 0) && decide (rd r 0 ≤ (xs.length : Int) - 1)) = true
      · rw [if_pos h1, if_pos (by omega)]
        by_cases h3 : (decide (rd r 0 ≤ rd r 1) && decide (rd r 1 ≤ (xs.length : Int) - 1)) = true
        · have ho : okRun xs.length r = true := by rw [ob, h1, h3]; rfl
          rw [if_pos h3, if_pos ho]
          obtain ⟨_, f, t, ef, et, hft, ht⟩ := okRun_of ho
          rw [ef, et, odTurn_ok hn f t (by omega) (by omega) (by omega)]
          simp only [Option.bind_some]
          rw [wsucc (by omega), specPlay_l0_ok parts hp m (j + 1) k _ (by simp; omega) (by omega) (by omega)]
          unfold turnRun
          rw [ef, et]; rfl
        · have ho : ¬ okRun xs.length r = true := by rw [ob, h1]; simpa using h3
          rw [if_neg h3, if_neg ho]; rfl
      · have ho : ¬ okRun xs.length r = true := by
          rw [ob]; intro hh; exact h1 (by rw [Bool.and_eq_true] at hh; exact hh.1)
        rw [if_neg h1, if_neg ho]; rfl
    · rw [if_neg (by omega), if_neg (by unfold okRun; simp [h2])]; rfl
/-- What both PlayRuns tell. -/
def playB (s : ByteArray) (parts : List (List Int)) : ByteArray × Bool := if good 40 s = true ∧ parts.length ≤ 100 then endOf (playM (s.data.toList.map fun b => b == 62) parts) else (ofB [], false)
theorem back_ofB (xs : List Bool) : ((ofB xs).data.toList.map fun b => b == 62) = xs := by
  rw [ofB_data, List.map_map]
  have : ((fun b : UInt8 => b == 62) ∘ byB) = id := by funext b; cases b <;> rfl
  rw [this, List.map_id]
theorem implPlay_ok {s : ByteArray} (hs : s.size ≤ 200) (parts : List (List Int)) {k : Nat} (hk : 205 ≤ k) : impl_PlayRuns.f k s parts = some (playB s parts) := by
  obtain ⟨k, rfl⟩ : ∃ q, k = q + 1 := ⟨k - 1, by omega⟩
  unfold impl_PlayRuns.f playB
  rw [isOrdered_ok hs]
  simp only [Option.bind_some]
  by_cases hg : good 40 s = true
  · rw [if_pos hg, impl_PlayRuns.j0]
    obtain ⟨xs, rfl, h1, h2⟩ := good_of hg
    by_cases hp : parts.length ≤ 100
    · rw [if_neg (by simp; omega), if_pos ⟨hg, hp⟩, back_ofB]
      exact implPlay_l0_ok parts (by omega) parts.length 0 k xs (by omega) (by omega) (by omega)
    · rw [if_pos (by simp; omega), if_neg (by rintro ⟨_, h⟩; exact hp h)]; rfl
  · rw [if_neg hg, impl_PlayRuns.j0, if_pos rfl, if_neg (by rintro ⟨h, _⟩; exact hg h)]; rfl
theorem specPlay_ok {s : ByteArray} (hs : s.size ≤ 200) (parts : List (List Int)) {k : Nat} (hk : 410 ≤ k) : spec_PlayRuns.f k s parts = some (playB s parts) := by
  obtain ⟨k, rfl⟩ : ∃ q, k = q + 1 := ⟨k - 1, by omega⟩
  unfold spec_PlayRuns.f playB
  rw [odGood_ok hs (by omega)]
  simp only [Option.bind_some]
  by_cases hg : good 40 s = true
  · rw [if_pos hg, spec_PlayRuns.j0]
    obtain ⟨xs, rfl, h1, h2⟩ := good_of hg
    by_cases hp : parts.length ≤ 100
    · rw [if_neg (by simp; omega), if_pos ⟨hg, hp⟩, back_ofB]
      exact specPlay_l0_ok parts (by omega) parts.length 0 k xs (by omega) (by omega) (by omega)
    · rw [if_pos (by simp; omega), if_neg (by rintro ⟨_, h⟩; exact hp h)]; rfl
  · rw [if_neg hg, spec_PlayRuns.j0, if_pos rfl, if_neg (by rintro ⟨h, _⟩; exact hg h)]; rfl
end Go.Proofs.YtnlbhlomdcgpeaaDoor.Row
