/- The law FnOrdersTurn, in plain Lean: what its functions return answers 'true' at all bytes. -/
import Derived.Test.YtnlbhlomdcgpeaaDoorPr12D
import Derived.Test.YtnlbhlomdcgpeaaDoorOrdF
set_option linter.unusedVariables false
set_option linter.unusedSimpArgs false
set_option maxRecDepth 20000
namespace Go.Proofs.YtnlbhlomdcgpeaaDoor.Row
open Go.RowKit Go.Proofs.YtnlbhlomdcgpeaaDoorW.PrintWords Go.Proofs.YtnlbhlomdcgpeaaDoorW.PrintMore Go.Proofs.YtnlbhlomdcgpeaaDoor.Pr Go.Proofs.YtnlbhlomdcgpeaaDoor.Hand

/-! Lists compared with themselves. -/
theorem mSame_l0_ok (l : List Int) (hl : l.length ≤ 1000) : ∀ (m i k : Nat), i + m = l.length → m < k → laws_mSame.l0 k l l (l.length : Int) (i : Int) = some true
  | m, i, 0, _, hk => absurd hk (by omega)
  | 0, i, k + 1, hi, _ => by rw [laws_mSame.l0, if_neg (by omega)]
  | m + 1, i, k + 1, hi, hk => by
    rw [laws_mSame.l0, if_pos (by omega), if_pos (by omega), if_pos (by omega), if_pos (by omega), if_pos rfl, wsucc (by omega)]
    exact mSame_l0_ok l hl m (i + 1) k (by omega) (by omega)
theorem mSame_ok {l : List Int} (hl : l.length ≤ 1000) {k : Nat} (hk : l.length < k) : laws_mSame.f k l l = some true := by
  unfold laws_mSame.f
  rw [if_pos rfl]
  exact mSame_l0_ok l hl l.length 0 k (by omega) hk
theorem mRows_l0_ok (l : List (List Int)) (hl : l.length ≤ 1000) (hr : ∀ r ∈ l, r.length ≤ 10) : ∀ (m i k : Nat), i + m = l.length → m + 11 < k → laws_mRows.l0 k l l (l.length : Int) (i : Int) = some true
  | m, i, 0, _, hk => absurd hk (by omega)
  | 0, i, k + 1, hi, _ => by rw [laws_mRows.l0, if_neg (by omega)]
  | m + 1, i, k + 1, hi, hk => by
    have hlt : i < l.length := by omega
    have er : rd_L3 l (i : Int) = l[i] := by unfold rd_L3; simp [List.getD_eq_getElem?_getD, hlt]
    have h10 := hr _ (List.getElem_mem hlt)
    rw [laws_mRows.l0, if_pos (by omega), if_pos (by omega), if_pos (by omega), if_pos (by omega), er, mSame_ok (by omega) (by omega)]
    simp only [Option.bind_some]
    rw [if_pos trivial, wsucc (by omega)]
    exact mRows_l0_ok l hl hr m (i + 1) k (by omega) (by omega)
theorem mRows_ok {l : List (List Int)} (hl : l.length ≤ 1000) (hr : ∀ r ∈ l, r.length ≤ 10) {k : Nat} (hk : l.length + 11 < k) : laws_mRows.f k l l = some true := by
  unfold laws_mRows.f
  rw [if_pos rfl]
  exact mRows_l0_ok l hl hr l.length 0 k (by omega) hk
theorem mRises_l0_ok (l : List Int) (hl : l.length ≤ 1000) (hp : l.Pairwise (· < ·)) : ∀ (m i k : Nat), i + m = l.length + 1 → 0 < i → m < k → laws_mRises.l0 k l (i : Int) = some true
  | m, i, 0, _, _, hk => absurd hk (by omega)
  | m, i, k + 1, hi, h0, hk => by
    rw [laws_mRises.l0]
    by_cases hlt : i < l.length
    · obtain ⟨m, rfl⟩ : ∃ q, m = q + 1 := ⟨m - 1, by omega⟩
      rw [if_pos (by omega), wpred (by omega) h0, if_pos (by omega), if_pos (by omega), if_pos (by omega)]
      have hlt2 : i - 1 < l.length := by omega
      have e1 : rd l ((i - 1 : Nat) : Int) = l[i - 1] := by unfold rd; simp [List.getD_eq_getElem?_getD, hlt2]
      have e2 : rd l (i : Int) = l[i] := by unfold rd; simp [List.getD_eq_getElem?_getD, hlt]
      have := List.pairwise_iff_getElem.1 hp (i - 1) i hlt2 hlt (by omega)
      rw [e1, e2, if_neg (by omega), wsucc (by omega)]
      exact mRises_l0_ok l hl hp m (i + 1) k (by omega) (by omega) (by omega)
    · rw [if_neg (by omega)]
theorem mRises_ok {l : List Int} (hl : l.length ≤ 1000) (hp : l.Pairwise (· < ·)) {k : Nat} (hk : l.length + 1 < k) : laws_mRises.f k l = some true := by
  unfold laws_mRises.f
  exact mRises_l0_ok l hl hp l.length 1 k (by omega) (by omega) (by omega)

/-! Single orders. -/
def turnB (s : ByteArray) (f t : Int) : ByteArray × Bool := if good 40 s = true ∧ okRun s.size [f, t] = true then (ofB (turn (s.data.toList.map fun b => b == 62) f.toNat (t.toNat + 1)), true) else (ofB [], false)
theorem implTurn_ok {s : ByteArray} (hs : s.size ≤ 200) (f t : Int) : impl_TurnRun.f s f t = some (turnB s f t) := by
  unfold impl_TurnRun.f turnB
  rw [isOrdered_ok hs]
  simp only [Option.bind_some]
  by_cases hg : good 40 s = true
  · rw [if_pos hg]
    obtain ⟨xs, rfl, h1, h2⟩ := good_of hg
    have ob := okRun_bool xs.length [f, t] rfl
    have e0 : rd [f, t] 0 = f := rfl
    have e1 : rd [f, t] 1 = t := rfl
    rw [e0, e1] at ob
    rw [isRun_ok xs (by omega), ← ob]
    simp only [Option.bind_some, ofB_size]
    by_cases ho : okRun xs.length [f, t] = true
    · obtain ⟨_, a, b, ea, eb, hab, hb⟩ := okRun_of ho
      rw [if_pos ho, if_pos (show good 40 (ofB xs) = true ∧ okRun xs.length [f, t] = true from ⟨hg, ho⟩)]
      rw [e0] at ea
      rw [e1] at eb
      subst ea
      subst eb
      rw [turnAll_ok (by omega) a b (by omega) (by omega), back_ofB]
      rfl
    · rw [if_neg ho, if_neg (show ¬ (good 40 (ofB xs) = true ∧ okRun xs.length [f, t] = true) from fun h => ho h.2)]
      rfl
  · rw [if_neg hg, if_neg (fun h => hg h.1)]; rfl
theorem specTurn_ok {s : ByteArray} (hs : s.size ≤ 200) (f t : Int) {k : Nat} (hk : 210 ≤ k) : spec_TurnRun.f k s f t = some (turnB s f t) := by
  unfold spec_TurnRun.f turnB
  rw [odGood_ok hs (by omega)]
  simp only [Option.bind_some]
  by_cases hg : good 40 s = true
  · rw [if_pos hg]
    obtain ⟨xs, rfl, h1, h2⟩ := good_of hg
    have ob := okRun_bool xs.length [f, t] rfl
    rw [ofB_size, w64 (by omega) (by omega), l1In_ok, l1In_ok]
    simp only [Option.bind_some]
    have e0 : rd [f, t] 0 = f := rfl
    have e1 : rd [f, t] 1 = t := rfl
    rw [e0, e1] at ob
    by_cases c1 : (decide (0 ≤ f) && decide (f ≤ (xs.length : Int) - 1)) = true
    · rw [if_pos c1]
      by_cases c2 : (decide (f ≤ t) && decide (t ≤ (xs.length : Int) - 1)) = true
      · rw [c1, c2] at ob
        have ho : okRun xs.length [f, t] = true := ob
        rw [if_pos c2, if_pos (show good 40 (ofB xs) = true ∧ okRun xs.length [f, t] = true from ⟨hg, ho⟩)]
        obtain ⟨_, a, b, ea, eb, hab, hb⟩ := okRun_of ho
        rw [e0] at ea
        rw [e1] at eb
        subst ea
        subst eb
        rw [odTurn_ok (by omega) a b (by omega) (by omega) (by omega), back_ofB]
        rfl
      · rw [Bool.not_eq_true] at c2
        rw [c1, c2] at ob
        have ho : okRun xs.length [f, t] = false := ob
        rw [c2, if_neg (by simp), if_neg (show ¬ (good 40 (ofB xs) = true ∧ okRun xs.length [f, t] = true) by rw [ho]; simp)]; rfl
    · rw [Bool.not_eq_true] at c1
      rw [c1] at ob
      have ho : okRun xs.length [f, t] = false := ob
      rw [c1, if_neg (by simp), if_neg (show ¬ (good 40 (ofB xs) = true ∧ okRun xs.length [f, t] = true) by rw [ho]; simp)]; rfl
  · rw [if_neg hg, if_neg (fun h => hg h.1)]; rfl
def firstB (s : ByteArray) (m : Int) : ByteArray × Bool := if good 40 s = true ∧ 1 ≤ m ∧ m ≤ (s.size : Int) then (ofB (turn (s.data.toList.map fun b => b == 62) 0 m.toNat), true) else (ofB [], false)
theorem implFirst_ok {s : ByteArray} (hs : s.size ≤ 200) (m : Int) : impl_TurnFirst.f s m = some (firstB s m) := by
  unfold impl_TurnFirst.f firstB
  rw [isOrdered_ok hs, in_ok]
  simp only [Option.bind_some]
  by_cases hg : good 40 s = true
  · rw [if_pos hg]
    obtain ⟨xs, rfl, h1, h2⟩ := good_of hg
    rw [ofB_size]
    by_cases hm : 1 ≤ m ∧ m ≤ (xs.length : Int)
    · rw [if_pos (by simp; omega), if_pos ⟨hg, hm⟩, w64 (by omega) (by omega)]
      have := turnAll_ok (xs := xs) (by omega) 0 (m.toNat - 1) (by omega) (by omega)
      rw [show ((m.toNat - 1 : Nat) : Int) = m - 1 by omega, show ((0 : Nat) : Int) = 0 from rfl] at this
      rw [this, back_ofB, show m.toNat - 1 + 1 = m.toNat by omega]; rfl
    · rw [if_neg (by simp; omega), if_neg (fun h => hm h.2)]; rfl
  · rw [if_neg hg, if_neg (fun h => hg h.1)]; rfl
theorem specFirst_ok {s : ByteArray} (hs : s.size ≤ 200) (m : Int) {k : Nat} (hk : 210 ≤ k) : spec_TurnFirst.f k s m = some (firstB s m) := by
  unfold spec_TurnFirst.f firstB
  rw [odGood_ok hs (by omega), l1In_ok]
  simp only [Option.bind_some]
  by_cases hg : good 40 s = true
  · rw [if_pos hg]
    obtain ⟨xs, rfl, h1, h2⟩ := good_of hg
    rw [ofB_size]
    by_cases hm : 1 ≤ m ∧ m ≤ (xs.length : Int)
    · rw [if_pos (by simp; omega), if_pos ⟨hg, hm⟩, w64 (by omega) (by omega)]
      have := odTurn_ok (xs := xs) (by omega) 0 (m.toNat - 1) (by omega) (by omega) (k := k) (by omega)
      rw [show ((m.toNat - 1 : Nat) : Int) = m - 1 by omega, show ((0 : Nat) : Int) = 0 from rfl] at this
      rw [this, back_ofB, show m.toNat - 1 + 1 = m.toNat by omega]; rfl
    · rw [if_neg (by simp; omega), if_neg (fun h => hm h.2)]; rfl
  · rw [if_neg hg, if_neg (fun h => hg h.1)]; rfl
def aroundB (s : ByteArray) (m : Int) : ByteArray × Bool := if good 40 s = true ∧ 0 ≤ m ∧ m ≤ (s.size : Int) - 1 then (ofB (turn (s.data.toList.map fun b => b == 62) (m.toNat - 1) (min (m.toNat + 2) s.size)), true) else (ofB [], false)
theorem implAround_ok {s : ByteArray} (hs : s.size ≤ 200) (m : Int) : impl_TurnAround.f s m = some (aroundB s m) := by
  unfold impl_TurnAround.f aroundB
  rw [isOrdered_ok hs, in_ok]
  simp only [Option.bind_some]
  by_cases hg : good 40 s = true
  · rw [if_pos hg]
    obtain ⟨xs, rfl, h1, h2⟩ := good_of hg
    rw [ofB_size]
    have en : wrap64 ((xs.length : Int) - 1) = (xs.length : Int) - 1 := w64 (by omega) (by omega)
    rw [en]
    by_cases hm : 0 ≤ m ∧ m ≤ (xs.length : Int) - 1
    · rw [if_pos (by simp; omega), if_pos ⟨hg, hm⟩]
      unfold impl_turnAround.f
      rw [ofB_size, en, w64 (n := m - 1) (by omega) (by omega), w64 (n := m + 1) (by omega) (by omega)]
      have e1 : mx (m - 1) 0 = ((m.toNat - 1 : Nat) : Int) := by unfold mx; split <;> omega
      have e2 : mn (m + 1) ((xs.length : Int) - 1) = ((min (m.toNat + 2) xs.length - 1 : Nat) : Int) := by unfold mn; split <;> omega
      rw [e1, e2, turnAll_ok (by omega) _ _ (by omega) (by omega), back_ofB, show min (m.toNat + 2) xs.length - 1 + 1 = min (m.toNat + 2) xs.length by omega]; rfl
    · rw [if_neg (by simp; omega), if_neg (fun h => hm h.2)]; rfl
  · rw [if_neg hg, if_neg (fun h => hg h.1)]; rfl
theorem specAround_ok {s : ByteArray} (hs : s.size ≤ 200) (m : Int) {k : Nat} (hk : 210 ≤ k) : spec_TurnAround.f k s m = some (aroundB s m) := by
  unfold spec_TurnAround.f aroundB
  rw [odGood_ok hs (by omega), l1In_ok]
  simp only [Option.bind_some]
  by_cases hg : good 40 s = true
  · rw [if_pos hg]
    obtain ⟨xs, rfl, h1, h2⟩ := good_of hg
    rw [ofB_size]
    have en : wrap64 ((xs.length : Int) - 1) = (xs.length : Int) - 1 := w64 (by omega) (by omega)
    rw [en]
    by_cases hm : 0 ≤ m ∧ m ≤ (xs.length : Int) - 1
    · rw [if_pos (by simp; omega), if_pos ⟨hg, hm⟩]
      unfold spec_odAround.f
      rw [ofB_size, en, w64 (n := m - 1) (by omega) (by omega), w64 (n := m + 1) (by omega) (by omega)]
      have e1 : spec_l1Most.f 0 (m - 1) = some ((m.toNat - 1 : Nat) : Int) := by unfold spec_l1Most.f; split <;> (congr 1; omega)
      have e2 : spec_l1Least.f ((xs.length : Int) - 1) (m + 1) = some ((min (m.toNat + 2) xs.length - 1 : Nat) : Int) := by unfold spec_l1Least.f; split <;> (congr 1; omega)
      rw [e1, e2]
      simp only [Option.bind_some]
      rw [odTurn_ok (by omega) _ _ (by omega) (by omega) (by omega), back_ofB, show min (m.toNat + 2) xs.length - 1 + 1 = min (m.toNat + 2) xs.length by omega]; rfl
    · rw [if_neg (by simp; omega), if_neg (fun h => hm h.2)]; rfl
  · rw [if_neg hg, if_neg (fun h => hg h.1)]; rfl
def mostB (n : Int) : Int × Bool := if (decide (1 ≤ n) && decide (n ≤ 40)) = true then (wrap64 (Int.tdiv (wrap64 (n + 1)) 2), true) else (0, false)
theorem implMost_ok (n : Int) : impl_MostRuns.f n = some (mostB n) := by
  unfold impl_MostRuns.f impl_isOrderedMany.f mostB
  rw [in_ok]; simp only [Option.bind_some]; split <;> rfl
theorem specMost_ok (n : Int) : spec_MostRuns.f n = some (mostB n) := by
  unfold spec_MostRuns.f spec_odSoldiers.f mostB
  rw [l1In_ok]; simp only [Option.bind_some]; split <;> rfl

/-! The draws of the second half. -/
theorem Drawn.on {α β : Type} {o : Option (α × Int × Int)} {v : α} {s t : Int} {f : α × Int × Int → Option β} {r : Option β} (e : o = some (v, s, t)) (h : ∀ p : α × Int × Int, p.1 = v → p.2.1 = s → p.2.2 = t → f p = r) : o.bind f = r := by
  rw [e]; exact h _ rfl rfl rfl
theorem drawTurnRun_ok {l : List Int} (hl : Bytes l) {k : Nat} (hk : 230 ≤ k) : ∃ row f t, spec_DrawTurnRun.f k l = some (row, f, t) ∧ Asc row := by
  unfold spec_DrawTurnRun.f
  obtain ⟨row, s1, t1, e1, hr, hs0, hs1⟩ := row_ok hl (n := 0) (s := 0) k 0 14 (by omega) (by omega) (by omega) (by omega) (by omega) (by omega)
  have hr1 := hr.1
  obtain ⟨v2, s2, t2, e2, hv2, hs20, hs21⟩ := pick_ok hl t1 ((row.size : Int) + 2) hs0 hs1 (by omega) (by omega)
  obtain ⟨v3, s3, t3, e3, hv3, hs30, hs31⟩ := pick_ok hl t2 ((row.size : Int) + 1) hs20 hs21 (by omega) (by omega)
  obtain ⟨v4, s4, t4, e4, hv4, hs40, hs41⟩ := pick_ok hl t3 8 hs30 hs31 (by omega) (by omega)
  refine ⟨row, wrap64 (v2 - 1), wrap64 ((wrap64 ((wrap64 (v2 - 1)) + v3)) - (wrap64 (Int.tdiv v4 7))), ?_, hr⟩
  refine Drawn.on e1 fun p h1 h2 h3 => ?_
  rw [h1, h2, h3, w64 (n := (row.size : Int) + 2) (by omega) (by omega), w64 (n := (row.size : Int) + 1) (by omega) (by omega)]
  refine Drawn.on e2 fun p h1 h2 h3 => ?_
  rw [h1, h2, h3]
  refine Drawn.on e3 fun p h1 h2 h3 => ?_
  rw [h1, h2, h3]
  refine Drawn.on e4 fun p h1 h2 h3 => ?_
  rw [h1]
theorem drawTurnFirst_ok {l : List Int} (hl : Bytes l) {k : Nat} (hk : 230 ≤ k) : ∃ row m, spec_DrawTurnFirst.f k l = some (row, m) ∧ Asc row := by
  unfold spec_DrawTurnFirst.f
  obtain ⟨row, s1, t1, e1, hr, hs0, hs1⟩ := row_ok hl (n := 0) (s := 0) k 0 14 (by omega) (by omega) (by omega) (by omega) (by omega) (by omega)
  have hr1 := hr.1
  obtain ⟨v2, s2, t2, e2, hv2, hs20, hs21⟩ := pick_ok hl t1 ((row.size : Int) + 3) hs0 hs1 (by omega) (by omega)
  refine ⟨row, wrap64 (v2 - 1), ?_, hr⟩
  refine Drawn.on e1 fun p h1 h2 h3 => ?_
  rw [h1, h2, h3, w64 (n := (row.size : Int) + 3) (by omega) (by omega)]
  refine Drawn.on e2 fun p h1 h2 h3 => ?_
  rw [h1]
theorem drawPlay_end {l : List Int} (hl : Bytes l) (c : ByteArray) (ps : List (List Int)) (hp : ps.length ≤ 100) (y : Int) {s n : Int} (t : Int) (h0 : 0 ≤ s) (h1 : s ≤ n) (hn : n ≤ 800000) (k : Nat) (hk : 0 < k) :
    ∃ qs, spec_DrawPlayRuns.j1 k c ps y false l s t = some (c, qs) ∧ qs.length ≤ 101 := by
  obtain ⟨k, rfl⟩ : ∃ q, k = q + 1 := ⟨k - 1, by omega⟩
  rw [spec_DrawPlayRuns.j1, if_neg (by simp)]
  obtain ⟨v, s1, t1, e1, _, hs0, hs1⟩ := one_ok hl t 8 h0 h1 (by omega) (by omega)
  rw [e1]
  simp only [Option.bind_some]
  by_cases hv : v = true
  · rw [if_pos hv]
    obtain ⟨v2, s2, t2, e2, hv2, hs20, hs21⟩ := pick_ok hl t1 6 hs0 hs1 (by omega) (by omega)
    rw [e2]
    simp only [Option.bind_some]
    rw [if_pos hv2.1, if_pos (by simp; omega), if_pos (by omega)]
    exact ⟨_, rfl, by simp; omega⟩
  · rw [if_neg hv]
    exact ⟨_, rfl, by omega⟩
theorem drawPlay_l0_ok {l : List Int} (hl : Bytes l) (c : ByteArray) (hc : Asc c) : ∀ (x k : Nat) (ps : List (List Int)) (s t n : Int), 2 * x + 2 < k → ps.length + x ≤ 100 → 0 ≤ s → s ≤ n → n + 4 * x ≤ 700000 → ∃ qs, spec_DrawPlayRuns.l0 k c ps (x : Int) l s t = some (c, qs) ∧ qs.length ≤ 101
  | 0, k, ps, s, t, n, hk, hp, h0, h1, hn => by
    obtain ⟨k, rfl⟩ : ∃ q, k = q + 1 := ⟨k - 1, by omega⟩
    rw [spec_DrawPlayRuns.l0, if_neg (by omega)]
    exact drawPlay_end hl c ps (by omega) _ t h0 h1 (by omega) k (by omega)
  | x + 1, k, ps, s, t, n, hk, hp, h0, h1, hn => by
    obtain ⟨k, rfl⟩ : ∃ q, k = q + 2 := ⟨k - 2, by omega⟩
    have hc1 := hc.1
    rw [spec_DrawPlayRuns.l0, if_pos (by omega)]
    by_cases hz : (c.size : Int) > 0
    · rw [show decide ((c.size : Int) > 0) = true from decide_eq_true hz, spec_DrawPlayRuns.j1, if_pos rfl]
      obtain ⟨v1, s1, t1, e1, hv1, hs0, hs1⟩ := pick_ok hl t (c.size : Int) h0 h1 (by omega) (by omega)
      rw [e1]
      simp only [Option.bind_some]
      rw [w64 (n := (c.size : Int) - v1) (by omega) (by omega)]
      obtain ⟨v2, s2, t2, e2, hv2, hs20, hs21⟩ := pick_ok hl t1 ((c.size : Int) - v1) hs0 hs1 (by omega) (by omega)
      rw [e2]
      simp only [Option.bind_some]
      rw [if_pos (by omega), w64 (n := ((x + 1 : Nat) : Int) - 1) (by omega) (by omega), show ((x + 1 : Nat) : Int) - 1 = (x : Int) by omega]
      exact drawPlay_l0_ok hl c hc x k _ s2 t2 (n + 4) (by omega) (by simp; omega) hs20 (by omega) (by omega)
    · rw [show decide ((c.size : Int) > 0) = false from decide_eq_false hz]
      exact drawPlay_end hl c ps (by omega) _ t h0 h1 (by omega) (k + 1) (by omega)
theorem drawPlay_ok {l : List Int} (hl : Bytes l) {k : Nat} (hk : 230 ≤ k) : ∃ c ps, spec_DrawPlayRuns.f k l = some (c, ps) ∧ Asc c ∧ ps.length ≤ 101 := by
  unfold spec_DrawPlayRuns.f
  obtain ⟨row, s1, t1, e1, hr, hs0, hs1⟩ := row_ok hl (n := 0) (s := 0) k 0 14 (by omega) (by omega) (by omega) (by omega) (by omega) (by omega)
  rw [e1]
  simp only [Option.bind_some]
  obtain ⟨v2, s2, t2, e2, hv2, hs20, hs21⟩ := pick_ok hl t1 5 hs0 hs1 (by omega) (by omega)
  rw [e2]
  simp only [Option.bind_some]
  have := drawPlay_l0_ok hl row hr v2.toNat k [] s2 t2 _ (by omega) (by simp; omega) hs20 hs21 (by omega)
  rw [show ((v2.toNat : Nat) : Int) = v2 by omega] at this
  obtain ⟨qs, e, hq⟩ := this
  exact ⟨_, _, e, hr, hq⟩
theorem drawMost_ok {l : List Int} (hl : Bytes l) : ∃ n, spec_DrawMostRuns.f l = some n := by
  unfold spec_DrawMostRuns.f spec_DrawCountByNeighbours.f
  obtain ⟨v, s, t, e, _⟩ := among_ok hl (n := 0) (s := 0) 0 [1, 2, 3, 4, 5, 6, 8, 11, 40, 41, 0, (-1)] (by decide) (by decide) (by omega) (by omega) (by omega)
  rw [e]
  simp only [Option.bind_some]
  exact ⟨_, rfl⟩

/-! The second half of the law. -/
theorem l4_ok (parts : List (List Int)) (ys : List Bool) (hp : parts.length ≤ 100) : ∀ (m j k : Nat) (xs : List Bool), 1 ≤ xs.length → xs.length ≤ 40 → j + m = parts.length → m < k → playM xs (parts.drop j) = some ys → laws_FnOrdersTurn.l4 k (ofB ys) (ofB xs) parts (parts.length : Int) (j : Int) = some true
  | m, j, 0, _, _, _, _, hk, _ => absurd hk (by omega)
  | 0, j, k + 1, xs, h1, h2, hj, _, hm => by
    rw [List.drop_of_length_le (by omega)] at hm
    simp only [playM, Option.some.injEq] at hm
    subst hm
    rw [laws_FnOrdersTurn.l4, if_neg (by omega)]
    simp
  | m + 1, j, k + 1, xs, h1, h2, hj, hk, hm => by
    have hlt : j < parts.length := by omega
    rw [List.drop_eq_getElem_cons hlt] at hm
    have er : rd_L3 parts (j : Int) = parts[j] := by unfold rd_L3; simp [List.getD_eq_getElem?_getD, hlt]
    rw [laws_FnOrdersTurn.l4, if_pos (by omega), if_pos (by omega), if_pos (by omega), er]
    simp only [playM] at hm
    generalize parts[j] = r at hm
    split at hm
    · rename_i ho
      obtain ⟨hr, f, t, ef, et, hft, ht⟩ := okRun_of ho
      rw [if_pos (by omega), if_pos (by omega), implTurn_ok (by simp; omega)]
      simp only [Option.bind_some]
      have hok : okRun (ofB xs).size [rd r 0, rd r 1] = true := by
        rw [ofB_size, ef, et, okRun_nat]; omega
      have e : turnB (ofB xs) (rd r 0) (rd r 1) = (ofB (turnRun xs r), true) := by
        unfold turnB
        rw [if_pos ⟨good_ofB h1 h2, hok⟩, back_ofB]; rfl
      rw [e, wsucc (by omega)]
      rw [if_pos rfl]
      exact l4_ok parts ys hp m (j + 1) k _ (by simp [turnRun]; omega) (by simp [turnRun]; omega) (by omega) (by omega) hm
    · exact absurd hm (by simp)
theorem j7_ok (c : ByteArray) (hc : c.size ≤ 200) (parts : List (List Int)) {k : Nat} (hk : 300 ≤ k) : laws_FnOrdersTurn.j7 k c parts (playB c parts).1 (playB c parts).2 = some true := by
  obtain ⟨k, rfl⟩ : ∃ q, k = q + 1 := ⟨k - 1, by omega⟩
  rw [laws_FnOrdersTurn.j7]
  unfold playB
  by_cases h : good 40 c = true ∧ parts.length ≤ 100
  · rw [if_pos h]
    obtain ⟨xs, rfl, h1, h2⟩ := good_of h.1
    rw [back_ofB]
    cases hm : playM xs parts with
    | none => rw [if_neg (show ¬ ((endOf none).2 = true) by simp [endOf])]
    | some ys =>
      rw [if_pos (show (endOf (some ys)).2 = true from rfl)]
      exact l4_ok parts ys h.2 parts.length 0 k xs h1 h2 (by omega) (by omega) hm
  · rw [if_neg h, if_neg (show ¬ (((ofB [], false) : ByteArray × Bool).2 = true) by simp)]
theorem l3_ok (xs : List Bool) (h1 : 1 ≤ xs.length) (h2 : xs.length ≤ 40) (q : Int) (hq0 : 0 ≤ q) (hq : q ≤ (xs.length : Int) - 1) (c : ByteArray) (hc : c.size ≤ 200) (parts : List (List Int)) :
    ∀ (m i k : Nat), i + m = xs.length → m + 310 < k → laws_FnOrdersTurn.l3 k (ofB xs) q (ofB (turn xs (q.toNat - 1) (min (q.toNat + 2) xs.length))) c parts (playB c parts).1 (playB c parts).2 (i : Int) (ofB xs) = some true
  | m, i, 0, _, hk => absurd hk (by omega)
  | 0, i, k + 1, hi, hk => by
    rw [laws_FnOrdersTurn.l3, if_neg (by simp; omega)]
    exact j7_ok c hc parts (by omega)
  | m + 1, i, k + 1, hi, hk => by
    have ih := l3_ok xs h1 h2 q hq0 hq c hc parts m (i + 1) k (by omega) (by omega)
    have hx : i < xs.length := by omega
    rw [laws_FnOrdersTurn.l3, if_pos (by simp; omega), if_pos (by omega), if_pos (by rw [bt_ofB _ _ hx]; exact sg_lt _), if_pos (by simp; omega), if_pos (by simp; omega), bt_ofB _ _ (by simp; omega), bt_ofB _ _ hx, sg_ne, w64 (n := q - 1) (by omega) (by omega), w64 (n := q + 1) (by omega) (by omega), show (i : Int) + 1 = ((i + 1 : Nat) : Int) by omega]
    by_cases c1 : (i : Int) ≥ q - 1
    · rw [if_pos c1]
      by_cases c2 : (i : Int) ≤ q + 1
      · rw [turn_getD _ _ _ _ hx, if_pos (show q.toNat - 1 ≤ i ∧ i < min (q.toNat + 2) xs.length by omega), decide_eq_true c2, if_neg (by cases xs.getD i false <;> simp)]
        exact ih
      · rw [turn_getD _ _ _ _ hx, if_neg (show ¬ (q.toNat - 1 ≤ i ∧ i < min (q.toNat + 2) xs.length) by omega), decide_eq_false c2, if_neg (by cases xs.getD i false <;> simp)]
        exact ih
    · rw [if_neg c1, turn_getD _ _ _ _ hx, if_neg (show ¬ (q.toNat - 1 ≤ i ∧ i < min (q.toNat + 2) xs.length) by omega), if_neg (by cases xs.getD i false <;> simp)]
      exact ih
theorem j5_ok (s : ByteArray) (hs : s.size ≤ 200) (q : Int) (c : ByteArray) (hc : c.size ≤ 200) (parts : List (List Int)) {k : Nat} (hk : 400 ≤ k) : laws_FnOrdersTurn.j5 k s q (aroundB s q).1 (aroundB s q).2 c parts (playB c parts).1 (playB c parts).2 = some true := by
  obtain ⟨k, rfl⟩ : ∃ q, k = q + 1 := ⟨k - 1, by omega⟩
  rw [laws_FnOrdersTurn.j5]
  unfold aroundB
  by_cases h : good 40 s = true ∧ 0 ≤ q ∧ q ≤ (s.size : Int) - 1
  · rw [if_pos h]
    obtain ⟨xs, rfl, h1, h2⟩ := good_of h.1
    have h3 := h.2
    rw [ofB_size] at h3
    simp only [back_ofB, ofB_size]
    rw [if_pos trivial]
    exact l3_ok xs h1 h2 q h3.1 h3.2 c hc parts xs.length 0 k (by omega) (by omega)
  · rw [if_neg h, if_neg (show ¬ (((ofB [], false) : ByteArray × Bool).2 = true) by simp)]
    exact j7_ok c hc parts (by omega)
theorem l2_ok (xs : List Bool) (h1 : 1 ≤ xs.length) (h2 : xs.length ≤ 40) (q : Int) (hq0 : 1 ≤ q) (hq : q ≤ (xs.length : Int)) (c : ByteArray) (hc : c.size ≤ 200) (parts : List (List Int)) :
    ∀ (m i k : Nat), i + m = xs.length → m + 410 < k → laws_FnOrdersTurn.l2 k (ofB xs) q (ofB (turn xs 0 q.toNat)) (aroundB (ofB xs) q).1 (aroundB (ofB xs) q).2 c parts (playB c parts).1 (playB c parts).2 (i : Int) (ofB xs) = some true
  | m, i, 0, _, hk => absurd hk (by omega)
  | 0, i, k + 1, hi, hk => by
    rw [laws_FnOrdersTurn.l2, if_neg (by simp; omega)]
    exact j5_ok (ofB xs) (by simp; omega) q c hc parts (by omega)
  | m + 1, i, k + 1, hi, hk => by
    have ih := l2_ok xs h1 h2 q hq0 hq c hc parts m (i + 1) k (by omega) (by omega)
    have hx : i < xs.length := by omega
    rw [laws_FnOrdersTurn.l2, if_pos (by simp; omega), if_pos (by omega), if_pos (by rw [bt_ofB _ _ hx]; exact sg_lt _), if_pos (by simp; omega), if_pos (by simp; omega), bt_ofB _ _ (by simp; omega), bt_ofB _ _ hx, sg_ne, show (i : Int) + 1 = ((i + 1 : Nat) : Int) by omega]
    by_cases c2 : (i : Int) < q
    · rw [turn_getD _ _ _ _ hx, if_pos (show 0 ≤ i ∧ i < q.toNat by omega), decide_eq_true c2, if_neg (by cases xs.getD i false <;> simp)]
      exact ih
    · rw [turn_getD _ _ _ _ hx, if_neg (show ¬ (0 ≤ i ∧ i < q.toNat) by omega), decide_eq_false c2, if_neg (by cases xs.getD i false <;> simp)]
      exact ih
theorem j3_ok (s : ByteArray) (hs : s.size ≤ 200) (q : Int) (c : ByteArray) (hc : c.size ≤ 200) (parts : List (List Int)) {k : Nat} (hk : 500 ≤ k) : laws_FnOrdersTurn.j3 k s q (firstB s q).1 (firstB s q).2 (aroundB s q).1 (aroundB s q).2 c parts (playB c parts).1 (playB c parts).2 = some true := by
  obtain ⟨k, rfl⟩ : ∃ q, k = q + 1 := ⟨k - 1, by omega⟩
  rw [laws_FnOrdersTurn.j3]
  unfold firstB
  by_cases h : good 40 s = true ∧ 1 ≤ q ∧ q ≤ (s.size : Int)
  · rw [if_pos h]
    obtain ⟨xs, rfl, h1, h2⟩ := good_of h.1
    have h3 := h.2
    rw [ofB_size] at h3
    simp only [back_ofB]
    rw [if_pos trivial]
    exact l2_ok xs h1 h2 q h3.1 h3.2 c hc parts xs.length 0 k (by omega) (by omega)
  · rw [if_neg h, if_neg (show ¬ (((ofB [], false) : ByteArray × Bool).2 = true) by simp)]
    exact j5_ok s hs q c hc parts (by omega)
theorem l1_ok (xs : List Bool) (h1 : 1 ≤ xs.length) (h2 : xs.length ≤ 40) (f t : Nat) (hft : f ≤ t) (ht : t < xs.length) (s : ByteArray) (hs : s.size ≤ 200) (q : Int) (c : ByteArray) (hc : c.size ≤ 200) (parts : List (List Int)) :
    ∀ (m i k : Nat), i + m = xs.length → m + 510 < k → laws_FnOrdersTurn.l1 k (ofB xs) (f : Int) (t : Int) (ofB (turn xs f (t + 1))) s q (firstB s q).1 (firstB s q).2 (aroundB s q).1 (aroundB s q).2 c parts (playB c parts).1 (playB c parts).2 (i : Int) (ofB xs) = some true
  | m, i, 0, _, hk => absurd hk (by omega)
  | 0, i, k + 1, hi, hk => by
    rw [laws_FnOrdersTurn.l1, if_neg (by simp; omega)]
    exact j3_ok s hs q c hc parts (by omega)
  | m + 1, i, k + 1, hi, hk => by
    have ih := l1_ok xs h1 h2 f t hft ht s hs q c hc parts m (i + 1) k (by omega) (by omega)
    have hx : i < xs.length := by omega
    rw [laws_FnOrdersTurn.l1, if_pos (by simp; omega), if_pos (by omega), if_pos (by rw [bt_ofB _ _ hx]; exact sg_lt _), if_pos (by simp; omega), if_pos (by simp; omega), bt_ofB _ _ (by simp; omega), bt_ofB _ _ hx, sg_ne, show (i : Int) + 1 = ((i + 1 : Nat) : Int) by omega]
    by_cases c1 : (i : Int) ≥ (f : Int)
    · rw [if_pos c1]
      by_cases c2 : (i : Int) ≤ (t : Int)
      · rw [turn_getD _ _ _ _ hx, if_pos (show f ≤ i ∧ i < t + 1 by omega), decide_eq_true c2, if_neg (by cases xs.getD i false <;> simp)]
        exact ih
      · rw [turn_getD _ _ _ _ hx, if_neg (show ¬ (f ≤ i ∧ i < t + 1) by omega), decide_eq_false c2, if_neg (by cases xs.getD i false <;> simp)]
        exact ih
    · rw [if_neg c1, turn_getD _ _ _ _ hx, if_neg (show ¬ (f ≤ i ∧ i < t + 1) by omega), if_neg (by cases xs.getD i false <;> simp)]
      exact ih
theorem j1_ok {l : List Int} (hl : Bytes l) {k : Nat} (hk : 1000 ≤ k) : laws_FnOrdersTurn.j1 k l = some true := by
  obtain ⟨k, rfl⟩ : ∃ q, k = q + 1 := ⟨k - 1, by omega⟩
  obtain ⟨row, f, t, e1, hr⟩ := drawTurnRun_ok hl (k := k) (by omega)
  obtain ⟨s, q, e2, hs⟩ := drawTurnFirst_ok hl (k := k) (by omega)
  obtain ⟨c, parts, e3, hc, hp⟩ := drawPlay_ok hl (k := k) (by omega)
  obtain ⟨n, e4⟩ := drawMost_ok hl
  have s1 := hr.1
  have s2 := hs.1
  have s3 := hc.1
  rw [laws_FnOrdersTurn.j1, e1]
  simp only [Option.bind_some]
  rw [implTurn_ok (by omega), specTurn_ok (by omega) _ _ (by omega)]
  simp only [Option.bind_some]
  rw [e2]
  simp only [Option.bind_some]
  rw [implFirst_ok (by omega), specFirst_ok (by omega) _ (by omega), implAround_ok (by omega), specAround_ok (by omega) _ (by omega)]
  simp only [Option.bind_some]
  rw [e3]
  simp only [Option.bind_some]
  rw [implPlay_ok (by omega) parts (by omega), specPlay_ok (by omega) parts (by omega), e4]
  simp only [Option.bind_some]
  rw [implMost_ok, specMost_ok]
  simp only [Option.bind_some]
  have ne : ∀ b : Bool, ¬ ((b != b) = true) := by decide
  rw [if_neg (ne _), if_pos trivial, if_neg (ne _), if_pos trivial, if_neg (ne _), if_pos trivial, if_neg (ne _), if_pos trivial, if_neg (ne _), if_pos trivial]
  unfold turnB
  by_cases h : good 40 row = true ∧ okRun row.size [f, t] = true
  · rw [if_pos h]
    obtain ⟨xs, rfl, h1, h2⟩ := good_of h.1
    have ho := h.2
    rw [ofB_size] at ho
    obtain ⟨_, a, b, ea, eb, hab, hb⟩ := okRun_of ho
    have ea' : f = (a : Int) := ea
    have eb' : t = (b : Int) := eb
    subst ea' eb'
    simp only [back_ofB]
    rw [if_pos trivial]
    exact l1_ok xs h1 h2 a b hab hb s (by omega) q c (by omega) parts xs.length 0 k (by omega) (by omega)
  · rw [if_neg h, if_neg (show ¬ (((ofB [], false) : ByteArray × Bool).2 = true) by simp)]
    exact j3_ok s (by omega) q c (by omega) parts (by omega)
end Go.Proofs.YtnlbhlomdcgpeaaDoor.Row
