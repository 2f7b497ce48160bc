/- The law FnOrdersTurn, in plain Lean: the first half, and the whole. -/
import Derived.Test.YtnlbhlomdcgpeaaDoorOrdL
set_option linter.unusedVariables false
set_option linter.unusedSimpArgs false
set_option maxRecDepth 20000
namespace Go.Proofs.YtnlbhlomdcgpeaaDoor.Row
open Go.RowKit Go.Proofs.YtnlbhlomdcgpeaaDoorW.PrintWords Go.Proofs.YtnlbhlomdcgpeaaDoorW.PrintMore Go.Proofs.YtnlbhlomdcgpeaaDoor.Pr Go.Proofs.YtnlbhlomdcgpeaaDoor.Hand

theorem both_of {a b : ByteArray} (h : both a b = true) : ∃ xs ys, a = ofB xs ∧ b = ofB ys ∧ xs.length = ys.length ∧ 1 ≤ xs.length ∧ xs.length ≤ 40 := by
  unfold both at h
  simp only [Bool.and_eq_true, beq_iff_eq] at h
  obtain ⟨xs, rfl, h1, h2⟩ := good_of h.1.1
  obtain ⟨ys, rfl, h3, h4⟩ := good_of h.1.2
  have h5 := h.2
  rw [ofB_size, ofB_size] at h5
  exact ⟨xs, ys, rfl, rfl, by omega, h1, h2⟩
theorem both_mk {xs ys : List Bool} (h : xs.length = ys.length) (h1 : 1 ≤ xs.length) (h2 : xs.length ≤ 40) : both (ofB xs) (ofB ys) = true := by
  unfold both
  rw [good_ofB h1 h2, good_ofB (by omega) (by omega), ofB_size, ofB_size, h]; simp
section
variable {xs ys : List Bool} (h : xs.length = ys.length) (h1 : 1 ≤ xs.length) (h2 : xs.length ≤ 40) {k : Nat} (hk : 300 ≤ k)
include h h1 h2 hk
theorem implRuns_ok : impl_RunsTo.f k (ofB xs) (ofB ys) = some (runsU (dif xs ys) xs.length, true) := by
  unfold impl_RunsTo.f
  rw [areOrdered_ok (by simp; omega) (by simp; omega), both_mk h h1 h2]
  simp only [Option.bind_some]
  rw [if_pos trivial, differ_ok h (by omega) (by omega)]
  simp only [Option.bind_some]
  rw [parts_ok (by simp; omega) (by omega), funD h, dfl_len]; rfl
theorem specRuns_ok : spec_RunsTo.f k (ofB xs) (ofB ys) = some (runsU (dif xs ys) xs.length, true) := by
  unfold spec_RunsTo.f
  rw [odTwo_ok (by simp; omega) (by simp; omega) (by omega), both_mk h h1 h2]
  simp only [Option.bind_some]
  rw [if_pos trivial, odRuns_ok h (by omega) (by omega)]; rfl
theorem implFew_ok : impl_FewestRuns.f k (ofB xs) (ofB ys) = some (((runsU (dif xs ys) xs.length).length : Int), true) := by
  unfold impl_FewestRuns.f
  rw [implRuns_ok h h1 h2 hk]; rfl
theorem specFew_ok : spec_FewestRuns.f k (ofB xs) (ofB ys) = some (((runsU (dif xs ys) xs.length).length : Int), true) := by
  unfold spec_FewestRuns.f
  rw [odTwo_ok (by simp; omega) (by simp; omega) (by omega), both_mk h h1 h2]
  simp only [Option.bind_some]
  rw [if_pos trivial, odRuns_ok h (by omega) (by omega)]; rfl
theorem implFirsts_ok : impl_FirstsTo.f k (ofB xs) (ofB ys) = some (firstsU (dif xs ys) xs.length, true) := by
  unfold impl_FirstsTo.f
  rw [areOrdered_ok (by simp; omega) (by simp; omega), both_mk h h1 h2]
  simp only [Option.bind_some]
  rw [if_pos trivial, differ_ok h (by omega) (by omega)]
  simp only [Option.bind_some]
  have := firstsTo_l0_ok (dfl xs ys) (by simp; omega) (dfl xs ys).length 0 k (by omega) (by simp; omega)
  rw [funD h, dfl_len] at this
  rw [if_pos (by simp; omega), ofB_size]
  exact this
theorem specFirsts_ok : spec_FirstsTo.f k (ofB xs) (ofB ys) = some (firstsU (dif xs ys) xs.length, true) := by
  unfold spec_FirstsTo.f
  rw [odTwo_ok (by simp; omega) (by simp; omega) (by omega), both_mk h h1 h2]
  simp only [Option.bind_some]
  rw [if_pos trivial, odFirsts_ok h (by omega) (by omega)]; rfl
theorem implLeast_ok : impl_FewestFirst.f k (ofB xs) (ofB ys) = some (((firstsU (dif xs ys) xs.length).length : Int), true) := by
  unfold impl_FewestFirst.f
  rw [implFirsts_ok h h1 h2 hk]; rfl
theorem specLeast_ok : spec_FewestFirst.f k (ofB xs) (ofB ys) = some (((firstsU (dif xs ys) xs.length).length : Int), true) := by
  unfold spec_FewestFirst.f
  rw [odTwo_ok (by simp; omega) (by simp; omega) (by omega), both_mk h h1 h2]
  simp only [Option.bind_some]
  rw [if_pos trivial, odFirsts_ok h (by omega) (by omega)]; rfl
end
theorem xor_all {xs ys : List Bool} (h : xs.length = ys.length) : xorU xs (dif xs ys) xs.length = ys := by
  apply list_ext (by simp [h])
  intro m hm
  simp only [xorU_len] at hm
  rw [xorU_getD _ _ _ _ hm]
  have : decide (m < xs.length) = true := decide_eq_true hm
  rw [this]
  unfold dif
  cases xs.getD m false <;> cases ys.getD m false <;> rfl
theorem dif_end {xs ys : List Bool} (h : xs.length = ys.length) : dif xs ys xs.length = false := by
  have e1 : xs[xs.length]? = none := List.getElem?_eq_none (Nat.le_refl _)
  have e2 : ys[xs.length]? = none := List.getElem?_eq_none (by omega)
  simp [dif, List.getD_eq_getElem?_getD, e1, e2]
theorem turns_all {xs ys : List Bool} (h : xs.length = ys.length) : turnsF xs (firstsU (dif xs ys) xs.length) = ys := by
  rw [turns_firsts xs _ xs.length (Nat.le_refl _)]
  rw [dif_end h]
  refine Eq.trans ?_ (xor_all h)
  unfold xorU
  congr 1
  funext m b
  simp

/-- The orders one after the other lead to the other row; what follows. -/
theorem l0_end {l : List Int} (hl : Bytes l) (xs ys : List Bool) (h : xs.length = ys.length) (h1 : 1 ≤ xs.length) (h2 : xs.length ≤ 40) (L : List Int) {k : Nat} (hk : 1100 ≤ k) (j : Nat) (hj : L.length ≤ j) :
    laws_FnOrdersTurn.l0 k l (ofB xs) (ofB ys) ((runsU (dif xs ys) xs.length).length : Int) (ofB ys) L (L.length : Int) (j : Int) = some true := by
  obtain ⟨k, rfl⟩ : ∃ q, k = q + 1 := ⟨k - 1, by omega⟩
  rw [laws_FnOrdersTurn.l0, if_neg (by omega), if_pos rfl]
  have hj1 := j1_ok hl (k := k) (by omega)
  have hle := runsU_le (dif xs ys) xs.length
  by_cases h3 : ((ofB xs).size : Int) > 1
  · rw [if_pos h3, implTurn_ok (by simp; omega)]
    simp only [Option.bind_some, ofB_size]
    rw [ofB_size] at h3
    have ew : wrap64 ((xs.length : Int) / 2) = ((xs.length / 2 : Nat) : Int) := by rw [w64 (by omega) (by omega)]; omega
    rw [ew]
    have et : turnB (ofB xs) 0 ((xs.length / 2 : Nat) : Int) = (ofB (turn xs 0 (xs.length / 2 + 1)), true) := by
      unfold turnB
      have ho := (okRun_nat (ofB xs).size 0 (xs.length / 2)).2 (by rw [ofB_size]; omega)
      rw [if_pos ⟨good_ofB h1 h2, ho⟩, back_ofB]; rfl
    rw [et]
    have hlen : (turn xs 0 (xs.length / 2 + 1)).length = ys.length := by simp [h]
    have ef := implFew_ok (xs := turn xs 0 (xs.length / 2 + 1)) (ys := ys) hlen (by simp; omega) (by simp; omega) (k := k) (by omega)
    simp only [ef, Option.bind_some]
    rw [if_pos trivial, if_pos trivial]
    rw [turn_len]
    have hfl := firsts_flip (dif xs ys) (dif (turn xs 0 (xs.length / 2 + 1)) ys) (xs.length / 2 + 1) (by omega)
      (fun m hm => by unfold dif; rw [turn_getD _ _ _ _ (by omega), if_pos (by omega)]; cases xs.getD m false <;> cases ys.getD m false <;> rfl)
      (fun m hm => by
        unfold dif
        by_cases hmn : m < xs.length
        · rw [turn_getD _ _ _ _ hmn, if_neg (by omega)]
        · have e1 : xs[m]? = none := List.getElem?_eq_none (by omega)
          have e2 : (turn xs 0 (xs.length / 2 + 1))[m]? = none := List.getElem?_eq_none (by simp; omega)
          simp [List.getD_eq_getElem?_getD, e1, e2])
      xs.length
    have a1 := runs_firsts (dif xs ys) xs.length (dif_end h)
    have a2 := runs_firsts (dif (turn xs 0 (xs.length / 2 + 1)) ys) xs.length (by have := dif_end hlen; rw [turn_len] at this; exact this)
    have b1 : bn (dif xs ys 0) ≤ 1 := by unfold bn; split <;> omega
    have b2 : bn (dif (turn xs 0 (xs.length / 2 + 1)) ys 0) ≤ 1 := by unfold bn; split <;> omega
    rw [w64 (n := ((runsU (dif xs ys) xs.length).length : Int) - 1) (by omega) (by omega), w64 (n := ((runsU (dif xs ys) xs.length).length : Int) + 1) (by omega) (by omega)]
    rw [if_neg (by omega), if_neg (by omega)]
    exact hj1
  · rw [if_neg h3]; exact hj1
theorem l0_ok {l : List Int} (hl : Bytes l) (xs ys : List Bool) (h : xs.length = ys.length) (h1 : 1 ≤ xs.length) (h2 : xs.length ≤ 40) (L : List Int) (hL : ∀ f ∈ L, ∃ j : Nat, f = (j : Int) + 1 ∧ j < xs.length) (hL2 : L.length ≤ 200) :
    ∀ (m j k : Nat) (now : List Bool), now.length = xs.length → j + m = L.length → m + 1101 ≤ k → turnsF now (L.drop j) = ys → laws_FnOrdersTurn.l0 k l (ofB xs) (ofB ys) ((runsU (dif xs ys) xs.length).length : Int) (ofB now) L (L.length : Int) (j : Int) = some true
  | m, j, 0, _, _, _, hk, _ => absurd hk (by omega)
  | 0, j, k + 1, now, hn, hj, hk, hm => by
    rw [List.drop_of_length_le (by omega)] at hm
    have hm' : now = ys := hm
    subst hm'
    exact l0_end hl xs now h h1 h2 L (by omega) j (by omega)
  | m + 1, j, k + 1, now, hn, hj, hk, hm => by
    have hlt : j < L.length := by omega
    rw [List.drop_eq_getElem_cons hlt] at hm
    have er : rd L (j : Int) = L[j] := by unfold rd; simp [List.getD_eq_getElem?_getD, hlt]
    obtain ⟨f, ef, hf⟩ := hL _ (List.getElem_mem hlt)
    rw [laws_FnOrdersTurn.l0, if_pos (by omega), if_pos (by omega), if_pos (by omega), er, ef, implFirst_ok (by simp; omega)]
    simp only [Option.bind_some]
    have e : firstB (ofB now) ((f : Int) + 1) = (ofB (turn now 0 (f + 1)), true) := by
      unfold firstB
      rw [if_pos ⟨good_ofB (by omega) (by omega), by omega, by simp; omega⟩, back_ofB]
      congr 2
    rw [e, wsucc (by omega)]
    rw [if_pos rfl]
    refine l0_ok hl xs ys h h1 h2 L hL hL2 m (j + 1) k _ (by simp [hn]) (by omega) (by omega) ?_
    have : turnsF now (L[j] :: L.drop (j + 1)) = turnsF (turn now 0 (L[j]).toNat) (L.drop (j + 1)) := rfl
    rw [this, ef, show ((f : Int) + 1).toNat = f + 1 by omega] at hm
    exact hm

theorem laws_ok : laws_FnOrdersTurn.Pure := by
  intro l0 l1 _ _ hw0 _ _ hw1
  refine ⟨2000, ?_⟩
  unfold laws_FnOrdersTurn.f
  have hb : ∃ b, laws_big.f l0 l1 = some b := by unfold laws_big.f; split <;> exact ⟨_, rfl⟩
  obtain ⟨b, hb⟩ := hb
  rw [hb]
  simp only [Option.bind_some]
  by_cases hbt : b = true
  · rw [if_pos hbt]
  rw [if_neg hbt]
  obtain ⟨a, c, s, t, er, ha, hc⟩ := rows_ok (l := l0) hw0 2000 (by omega)
  have ed : spec_DrawRunsTo.f 2000 l0 = some (a, c) := by
    unfold spec_DrawRunsTo.f spec_DrawFewestRuns.f
    rw [er]; rfl
  rw [ed]
  simp only [Option.bind_some]
  have hj1 := j1_ok (l := l1) hw1 (k := 2000) (by omega)
  have ha1 := ha.1
  have hc1 := hc.1
  have ne : ∀ b : Bool, ¬ ((b != b) = true) := by decide
  by_cases hbo : both a c = true
  · obtain ⟨xs, ys, rfl, rfl, h, h1, h2⟩ := both_of hbo
    rw [implRuns_ok h h1 h2 (by omega), specRuns_ok h h1 h2 (by omega)]
    simp only [Option.bind_some]
    rw [implFew_ok h h1 h2 (by omega), specFew_ok h h1 h2 (by omega)]
    simp only [Option.bind_some]
    rw [implFirsts_ok h h1 h2 (by omega), specFirsts_ok h h1 h2 (by omega)]
    simp only [Option.bind_some]
    rw [implLeast_ok h h1 h2 (by omega), specLeast_ok h h1 h2 (by omega)]
    simp only [Option.bind_some]
    have hle := runsU_le (dif xs ys) xs.length
    have hlf := firstsU_le (dif xs ys) xs.length
    have hall := runsU_all (dif xs ys) xs.length
    rw [if_neg (ne _), mRows_ok (by omega) (fun r hr => by obtain ⟨f, t, e, _⟩ := hall r hr; rw [e]; simp) (by omega)]
    simp only [Option.bind_some]
    rw [if_pos trivial, if_neg (ne _), if_pos trivial, if_neg (ne _), mSame_ok (by omega) (by omega)]
    simp only [Option.bind_some]
    rw [if_pos trivial, if_neg (ne _), if_pos trivial, if_neg (ne _), if_neg (ne _), if_neg (ne _), if_pos trivial]
    have hpl : playB (ofB xs) (runsU (dif xs ys) xs.length) = (ofB ys, true) := by
      unfold playB
      rw [if_pos ⟨good_ofB h1 h2, by omega⟩, back_ofB, play_runs xs _ xs.length (Nat.le_refl _), xor_all h]; rfl
    rw [implPlay_ok (by simp; omega) _ (by omega), hpl, implMost_ok]
    simp only [Option.bind_some]
    have hms : mostB ((ofB xs).size : Int) = ((((xs.length + 1) / 2 : Nat) : Int), true) := by
      unfold mostB
      rw [ofB_size, if_pos (by simp; omega), w64 (n := (xs.length : Int) + 1) (by omega) (by omega), Int.tdiv_eq_ediv_of_nonneg (by omega), w64 (by omega) (by omega)]
      congr 1
    rw [hms]
    rw [if_pos trivial, if_pos trivial, if_pos trivial, if_pos (show ((((xs.length + 1) / 2 : Nat) : Int), true).2 = true from rfl)]
    have a1 := runs_firsts (dif xs ys) xs.length (dif_end h)
    obtain ⟨n, hn⟩ : ∃ n, xs.length = n + 1 := ⟨xs.length - 1, by omega⟩
    have a2 := runs_most (dif xs ys) n
    have a3 := runs_some (dif xs ys) n
    rw [← hn] at a2 a3
    have b1 : bn (dif xs ys 0) ≤ 1 := by unfold bn; split <;> omega
    have b2 : bn (dif xs ys n) ≤ 1 := by unfold bn; split <;> omega
    rw [if_neg (show ¬ (((runsU (dif xs ys) xs.length).length : Int) > (((xs.length + 1) / 2 : Nat) : Int)) by omega), if_pos trivial, mRises_ok (by omega) (firstsU_pair _ _) (by omega)]
    simp only [Option.bind_some]
    rw [if_pos trivial, w64 (n := 2 * ((runsU (dif xs ys) xs.length).length : Int)) (by omega) (by omega), if_neg (by omega), if_neg (by omega)]
    exact l0_ok hw1 xs ys h h1 h2 _ (firstsU_all _ _) (by omega) (firstsU (dif xs ys) xs.length).length 0 2000 xs rfl (by omega) (by omega) (turns_all h)
  · have e1 : impl_RunsTo.f 2000 a c = some ([], false) := by
      unfold impl_RunsTo.f
      rw [areOrdered_ok (by omega) (by omega)]; simp only [Option.bind_some]; rw [if_neg hbo]
    have e2 : spec_RunsTo.f 2000 a c = some ([], false) := by
      unfold spec_RunsTo.f
      rw [odTwo_ok (by omega) (by omega) (by omega)]; simp only [Option.bind_some]; rw [if_neg hbo]
    have e3 : impl_FewestRuns.f 2000 a c = some (0, false) := by
      unfold impl_FewestRuns.f; rw [e1]; rfl
    have e4 : spec_FewestRuns.f 2000 a c = some (0, false) := by
      unfold spec_FewestRuns.f
      rw [odTwo_ok (by omega) (by omega) (by omega)]; simp only [Option.bind_some]; rw [if_neg hbo]
    have e5 : impl_FirstsTo.f 2000 a c = some ([], false) := by
      unfold impl_FirstsTo.f
      rw [areOrdered_ok (by omega) (by omega)]; simp only [Option.bind_some]; rw [if_neg hbo]
    have e6 : spec_FirstsTo.f 2000 a c = some ([], false) := by
      unfold spec_FirstsTo.f
      rw [odTwo_ok (by omega) (by omega) (by omega)]; simp only [Option.bind_some]; rw [if_neg hbo]
    have e7 : impl_FewestFirst.f 2000 a c = some (0, false) := by
      unfold impl_FewestFirst.f; rw [e5]; rfl
    have e8 : spec_FewestFirst.f 2000 a c = some (0, false) := by
      unfold spec_FewestFirst.f
      rw [odTwo_ok (by omega) (by omega) (by omega)]; simp only [Option.bind_some]; rw [if_neg hbo]
    rw [e1, e2]
    simp only [Option.bind_some]
    rw [e3, e4]
    simp only [Option.bind_some]
    rw [e5, e6]
    simp only [Option.bind_some]
    rw [e7, e8]
    simp only [Option.bind_some]
    rw [if_neg (ne _), mRows_ok (by simp) (by simp) (by simp)]
    simp only [Option.bind_some]
    rw [if_pos trivial, if_neg (ne _), if_pos trivial, if_neg (ne _), mSame_ok (by simp) (by simp)]
    simp only [Option.bind_some]
    rw [if_pos trivial, if_neg (ne _), if_pos trivial, if_neg (ne _), if_neg (ne _), if_neg (ne _), if_neg (by simp)]
    exact hj1
end Go.Proofs.YtnlbhlomdcgpeaaDoor.Row
