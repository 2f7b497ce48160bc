/- The draws of rows out of bytes: they return, and what they hand out is small. Plain laws. -/
import Derived.Test.YtnlbhlomdcgpeaaDoorFs
import Derived.Test.YtnlbhlomdcgpeaaDoorRowB
import Derived.Laws.BitsAllLaws
set_option linter.unusedVariables false
set_option linter.unusedSimpArgs false
set_option maxRecDepth 20000
namespace Go.Proofs.YtnlbhlomdcgpeaaDoor.Row
open Go.RowKit Go.Proofs.YtnlbhlomdcgpeaaDoorW.PrintWords Go.Proofs.YtnlbhlomdcgpeaaDoorW.PrintMore Go.Proofs.YtnlbhlomdcgpeaaDoor.Pr

def Bytes (l : List Int) : Prop := ∀ x ∈ l, (Lit.int .u8 x).wf = true
theorem byte_rd {l : List Int} (h : Bytes l) (i : Int) : 0 ≤ rd l i ∧ rd l i ≤ 255 := by
  unfold rd
  by_cases hi : i.toNat < l.length
  · have := h (l.getD i.toNat 0) (by simp [hi])
    simp only [Lit.wf, IntKind.min, IntKind.max, IntKind.signed, IntKind.bits, Bool.and_eq_true, decide_eq_true_eq] at this
    simpa using this
  · simp [hi]

/-- What a draw hands back: a value with P, and the place, at most n. -/
def Drawn {α : Type} (n : Int) (P : α → Prop) (o : Option (α × Int × Int)) : Prop := ∃ v s t, o = some (v, s, t) ∧ P v ∧ 0 ≤ s ∧ s ≤ n
theorem Drawn.mono {α : Type} {n m : Int} {P Q : α → Prop} {o : Option (α × Int × Int)} (h : Drawn n P o) (hn : n ≤ m) (hp : ∀ v, P v → Q v) : Drawn m Q o := by
  obtain ⟨v, s, t, e, hv, h0, h1⟩ := h
  exact ⟨v, s, t, e, hp v hv, h0, by omega⟩
theorem and255 (x : Int) : 0 ≤ wrap64 (Go.bits .and .u64 ((IntKind.u64.wrap x) / 1099511627776) 255) ∧ wrap64 (Go.bits .and .u64 ((IntKind.u64.wrap x) / 1099511627776) 255) ≤ 255 := by
  have e : IntKind.u64.wrap x = x % 18446744073709551616 := IntKind.wrap_u64 x
  rw [e, u64_and _ _ (by omega) (by omega) (by omega) (by omega)]
  have := @Nat.and_le_right ((x % 18446744073709551616 / 1099511627776).toNat) ((255 : Int).toNat)
  rw [w64 (by omega) (by omega)]
  omega
theorem next_ok {l : List Int} (hl : Bytes l) {s n : Int} (t : Int) (h0 : 0 ≤ s) (h1 : s ≤ n) (hn : n ≤ 1000000) : Drawn (n + 1) (fun v : Int => 0 ≤ v ∧ v ≤ 255) (spec_l1Cur_next.f l s t) := by
  unfold spec_l1Cur_next.f
  have e : wrap64 (s + 1) = s + 1 := w64 (by omega) (by omega)
  have hr := byte_rd hl s
  have er : wrap64 (rd l s) = rd l s := w64 (by omega) (by omega)
  simp only [e, er]
  by_cases hlt : s < (l.length : Int)
  · rw [if_pos hlt, if_pos h0]
    split
    · exact ⟨_, _, _, rfl, hr, by omega, by omega⟩
    · exact ⟨_, _, _, rfl, and255 _, by omega, by omega⟩
  · rw [if_neg hlt, if_neg (by omega)]
    exact ⟨_, _, _, rfl, and255 _, by omega, by omega⟩
theorem pick_ok {l : List Int} (hl : Bytes l) {s n : Int} (t a : Int) (h0 : 0 ≤ s) (h1 : s ≤ n) (hn : n ≤ 900000) (ha : a ≤ 100000) : Drawn (n + 2) (fun v : Int => 0 ≤ v ∧ (v < a ∨ v = 0)) (spec_l1Cur_pick.f l s t a) := by
  unfold spec_l1Cur_pick.f
  split
  · exact ⟨_, _, _, rfl, by omega, h0, by omega⟩
  · obtain ⟨v, s1, t1, e1, hv, hs0, hs1⟩ := next_ok hl t h0 h1 (by omega)
    rw [e1]
    simp only [Option.bind_some]
    split
    · obtain ⟨v2, s2, t2, e2, hv2, hs20, hs21⟩ := next_ok hl t1 hs0 hs1 (by omega)
      rw [e2]
      simp only [Option.bind_some]
      rw [if_neg (by omega)]
      rw [w64 (n := v * 256) (by omega) (by omega), w64 (n := v * 256 + v2) (by omega) (by omega)]
      refine ⟨_, _, _, rfl, ⟨Int.tmod_nonneg _ (by omega), .inl (Int.tmod_lt_of_pos _ (by omega))⟩, hs20, by omega⟩
    · rw [if_neg (by omega)]
      refine ⟨_, _, _, rfl, ⟨Int.tmod_nonneg _ (by omega), .inl (Int.tmod_lt_of_pos _ (by omega))⟩, hs0, by omega⟩
theorem of_ok {l : List Int} (hl : Bytes l) {s n : Int} (t : Int) (xs : List ByteArray) (hx : 0 < xs.length) (hx1 : xs.length ≤ 100) (h0 : 0 ≤ s) (h1 : s ≤ n) (hn : n ≤ 900000) : Drawn (n + 2) (fun v : ByteArray => v ∈ xs) (spec_l1Cur_of.f l s t xs) := by
  unfold spec_l1Cur_of.f
  obtain ⟨v, s1, t1, e1, hv, hs0, hs1⟩ := pick_ok hl t (xs.length : Int) h0 h1 hn (by omega)
  rw [e1]
  simp only [Option.bind_some]
  have hlt : v < (xs.length : Int) := by omega
  rw [if_pos hv.1, if_pos hlt]
  refine ⟨_, _, _, rfl, ?_, hs0, hs1⟩
  unfold rdOf
  have : v.toNat < xs.length := by omega
  simp [this]
theorem two_signs {v : ByteArray} (h : v ∈ ([(⟨#[60]⟩ : ByteArray), (⟨#[62]⟩ : ByteArray)] : List ByteArray)) : ∃ b : Bool, v = ofB [b] := by
  simp only [List.mem_cons, List.not_mem_nil, or_false] at h
  rcases h with rfl | rfl
  · exact ⟨false, rfl⟩
  · exact ⟨true, rfl⟩
theorem sureRow_l0_ok {l : List Int} (hl : Bytes l) : ∀ (x k : Nat) (ys : List Bool) (s t n : Int), x < k → ys.length + x ≤ 100000 → 0 ≤ s → s ≤ n → n + 2 * x ≤ 900000 → Drawn (n + 2 * x) (fun v : ByteArray => ∃ zs, v = ofB zs ∧ zs.length = ys.length + x) (spec_l1Cur_sureRow.l0 k (ofB ys) (x : Int) l s t)
  | x, 0, _, _, _, _, hk, _, _, _, _ => absurd hk (by omega)
  | 0, k + 1, ys, s, t, n, _, _, h0, h1, _ => by
    rw [spec_l1Cur_sureRow.l0, if_neg (by omega)]
    exact ⟨_, _, _, rfl, ⟨ys, rfl, rfl⟩, h0, by omega⟩
  | x + 1, k + 1, ys, s, t, n, hk, hy, h0, h1, hn => by
    rw [spec_l1Cur_sureRow.l0, if_pos (by omega)]
    obtain ⟨v, s1, t1, e1, hv, hs0, hs1⟩ := of_ok hl t ([(⟨#[60]⟩ : ByteArray), (⟨#[62]⟩ : ByteArray)]) (by simp) (by simp) h0 h1 (by omega)
    obtain ⟨b, rfl⟩ := two_signs hv
    rw [e1]
    simp only [Option.bind_some]
    rw [if_pos (by simp only [ofB_size, List.length_cons, List.length_nil]; omega), ofB_append, w64 (by omega) (by omega), show ((x + 1 : Nat) : Int) - 1 = (x : Int) by omega]
    refine (sureRow_l0_ok hl x k (ys ++ [b]) s1 t1 (n + 2) (by omega) (by simp; omega) hs0 hs1 (by omega)).mono (by omega) ?_
    rintro w ⟨zs, rfl, hz⟩
    exact ⟨zs, rfl, by rw [hz]; simp; omega⟩
theorem sureRow_ok {l : List Int} (hl : Bytes l) {s n : Int} (k : Nat) (t a : Int) (ha : 1 ≤ a) (ha1 : a ≤ 200) (hk : 202 ≤ k) (h0 : 0 ≤ s) (h1 : s ≤ n) (hn : n ≤ 800000) : Drawn (n + 402) (fun v : ByteArray => ∃ zs, v = ofB zs ∧ (zs.length : Int) ≤ a ∧ 1 ≤ zs.length) (spec_l1Cur_sureRow.f k l s t a) := by
  unfold spec_l1Cur_sureRow.f
  obtain ⟨v, s1, t1, e1, hv, hs0, hs1⟩ := pick_ok hl t a h0 h1 (by omega) (by omega)
  rw [e1]
  simp only [Option.bind_some]
  rw [w64 (by omega) (by omega), show (1 : Int) + v = ((v.toNat + 1 : Nat) : Int) by omega]
  refine (sureRow_l0_ok hl (v.toNat + 1) k [] s1 t1 (n + 2) (by omega) (by simp; omega) hs0 hs1 (by omega)).mono (by omega) ?_
  rintro w ⟨zs, rfl, hz⟩
  exact ⟨zs, rfl, by simp at hz; omega, by simp at hz; omega⟩
/-- A short text of ASCII signs. -/
def Asc (s : ByteArray) : Prop := s.size ≤ 200 ∧ ∀ b ∈ s.data.toList, b.toNat < 128
theorem Asc.bt {s : ByteArray} (h : Asc s) (i : Int) : bt s i < 128 := by
  by_cases hi : i.toNat < s.size
  · rw [← bt_at s i hi]
    have := h.2 (s[i.toNat]'hi) (by
      have e : s[i.toNat]'hi = s.data.toList[i.toNat]'(by rw [data_length]; exact hi) := rfl
      rw [e]; exact List.getElem_mem _)
    omega
  · unfold Go.Proofs.YtnlbhlomdcgpeaaDoorW.PrintWords.bt; rw [dif_neg hi]; decide
theorem asc_ofB {xs : List Bool} (h : xs.length ≤ 200) : Asc (ofB xs) := by
  refine ⟨by simpa using h, fun b hb => ?_⟩
  simp only [ofB_data, List.mem_map] at hb
  obtain ⟨x, _, rfl⟩ := hb
  cases x <;> decide
theorem asc_of {s : ByteArray} (h1 : s.size ≤ 200) (h : s.data.toList.all (fun b => decide (b.toNat < 128)) = true) : Asc s := ⟨h1, fun b hb => of_decide_eq_true (List.all_eq_true.1 h b hb)⟩
theorem row_l0_ok {l : List Int} (hl : Bytes l) (a : Int) (ha : 1 ≤ a) (ha1 : a ≤ 200) : ∀ (x k : Nat) (ys : List Bool) (s t n : Int), x + 203 ≤ k → ys.length + 2 * x ≤ 200 → 0 ≤ s → s ≤ n → n ≤ 800000 → Drawn (n + 402) Asc (spec_l1Cur_row.l0 k a (ofB ys) (x : Int) l s t)
  | x, 0, _, _, _, _, hk, _, _, _, _ => absurd hk (by omega)
  | 0, k + 1, ys, s, t, n, hk, hy, h0, h1, hn => by
    rw [spec_l1Cur_row.l0, if_neg (by omega)]
    split
    · exact ⟨_, _, _, rfl, asc_ofB (by omega), h0, by omega⟩
    · obtain ⟨v, s1, t1, e1, ⟨zs, rfl, hz, _⟩, hs0, hs1⟩ := sureRow_ok hl k t a ha ha1 (by omega) h0 h1 hn
      rw [e1]
      simp only [Option.bind_some]
      exact ⟨_, _, _, rfl, asc_ofB (by omega), hs0, hs1⟩
  | x + 1, k + 1, ys, s, t, n, hk, hy, h0, h1, hn => by
    rw [spec_l1Cur_row.l0, if_pos (by omega), ofB_gt, ofB_lt, ofB_append, ofB_append]
    simp only [ofB_size, List.length_cons, List.length_nil, List.length_append]
    rw [if_pos (by omega), if_pos (by omega), w64 (by omega) (by omega), show ((x + 1 : Nat) : Int) - 1 = (x : Int) by omega]
    exact row_l0_ok hl a ha ha1 x k _ s t n (by omega) (by simp; omega) h0 h1 hn
theorem row_ok {l : List Int} (hl : Bytes l) {s n : Int} (k : Nat) (t a : Int) (ha : 1 ≤ a) (ha1 : a ≤ 200) (hk : 220 ≤ k) (h0 : 0 ≤ s) (h1 : s ≤ n) (hn : n ≤ 700000) : Drawn (n + 406) Asc (spec_l1Cur_row.f k l s t a) := by
  unfold spec_l1Cur_row.f
  obtain ⟨v, s1, t1, e1, hv, hs0, hs1⟩ := pick_ok hl t 14 h0 h1 (by omega) (by omega)
  rw [e1]
  simp only [Option.bind_some]
  split
  · obtain ⟨v2, s2, t2, e2, hv2, hs20, hs21⟩ := of_ok hl t1 ([(⟨#[]⟩ : ByteArray), (⟨#[120]⟩ : ByteArray), (⟨#[60, 61]⟩ : ByteArray), (⟨#[62, 32]⟩ : ByteArray), (⟨#[60, 60, 60, 60, 60, 60, 60, 60, 60, 60, 60, 60, 60, 60, 60, 60, 60, 60, 60, 60, 60, 60, 60, 60, 60, 60, 60, 60, 60, 60, 60, 60, 60, 60, 60, 60, 60, 60, 60, 60, 60, 60, 60, 60, 60, 60, 60, 60, 60, 60, 60, 60, 60, 60, 60, 60, 60, 60, 60, 60, 60]⟩ : ByteArray), (⟨#[62, 62, 60, 60, 76, 82]⟩ : ByteArray)]) (by decide) (by decide) hs0 hs1 (by omega)
    rw [e2]
    simp only [Option.bind_some]
    refine ⟨_, _, _, rfl, ?_, hs20, by omega⟩
    simp only [List.mem_cons, List.not_mem_nil, or_false] at hv2
    rcases hv2 with rfl | rfl | rfl | rfl | rfl | rfl
    all_goals exact asc_of (by decide) (by decide)
  · split
    · obtain ⟨v2, s2, t2, e2, hv2, hs20, hs21⟩ := pick_ok hl t1 8 hs0 hs1 (by omega) (by omega)
      rw [e2]
      simp only [Option.bind_some]
      rw [w64 (by omega) (by omega), show (2 : Int) + v2 = ((v2.toNat + 2 : Nat) : Int) by omega, ofB_nil]
      exact (row_l0_ok hl a ha ha1 (v2.toNat + 2) k [] s2 t2 (n + 4) (by omega) (by simp; omega) hs20 (by omega) (by omega)).mono (by omega) (fun _ h => h)
    · obtain ⟨v2, s2, t2, e2, ⟨zs, rfl, hz, _⟩, hs20, hs21⟩ := sureRow_ok hl k t1 a ha ha1 (by omega) hs0 hs1 (by omega)
      rw [e2]
      simp only [Option.bind_some]
      exact ⟨_, _, _, rfl, asc_ofB (by omega), hs20, by omega⟩
theorem one_ok {l : List Int} (hl : Bytes l) {s n : Int} (t a : Int) (h0 : 0 ≤ s) (h1 : s ≤ n) (hn : n ≤ 900000) (ha : a ≤ 100000) : Drawn (n + 2) (fun _ : Bool => True) (spec_l1Cur_one.f l s t a) := by
  unfold spec_l1Cur_one.f
  obtain ⟨v, s1, t1, e1, hv, hs0, hs1⟩ := pick_ok hl t a h0 h1 hn ha
  rw [e1]
  exact ⟨_, _, _, rfl, trivial, hs0, hs1⟩
theorem rows_l0_ok {l : List Int} (hl : Bytes l) (a : ByteArray) (ha : Asc a) : ∀ (x k : Nat) (i : Nat) (ys : List Bool) (s t n : Int), i + x = a.size → x < k → ys.length + x ≤ 200 → 0 ≤ s → s ≤ n → n + 2 * x ≤ 900000 →
    ∃ b s' t', spec_l1Cur_rows.l0 k a (ofB ys) l s t (i : Int) a = some (a, b, s', t') ∧ Asc b
  | x, 0, _, _, _, _, _, _, hk, _, _, _, _ => absurd hk (by omega)
  | 0, k + 1, i, ys, s, t, n, hi, _, hy, h0, h1, _ => by
    rw [spec_l1Cur_rows.l0, if_neg (by omega)]
    exact ⟨_, _, _, rfl, asc_ofB (by omega)⟩
  | x + 1, k + 1, i, ys, s, t, n, hi, hk, hy, h0, h1, hn => by
    rw [spec_l1Cur_rows.l0, if_pos (by omega), if_pos (by omega), if_pos (ha.bt _)]
    obtain ⟨v, s1, t1, e1, hv, hs0, hs1⟩ := of_ok hl t ([(⟨#[60]⟩ : ByteArray), (⟨#[62]⟩ : ByteArray)]) (by simp) (by simp) h0 h1 (by omega)
    obtain ⟨b, rfl⟩ := two_signs hv
    rw [e1]
    simp only [Option.bind_some]
    rw [if_pos (by simp only [ofB_size, List.length_cons, List.length_nil]; omega), ofB_append, show (i : Int) + 1 = ((i + 1 : Nat) : Int) by omega]
    exact rows_l0_ok hl a ha x k (i + 1) (ys ++ [b]) s1 t1 (n + 2) (by omega) (by omega) (by simp; omega) hs0 hs1 (by omega)
theorem rows_ok {l : List Int} (hl : Bytes l) (k : Nat) (hk : 230 ≤ k) : ∃ a b s t, spec_l1Cur_rows.f k l 0 0 = some (a, b, s, t) ∧ Asc a ∧ Asc b := by
  unfold spec_l1Cur_rows.f
  obtain ⟨a, s1, t1, e1, ha, hs0, hs1⟩ := row_ok hl (n := 0) (s := 0) k 0 14 (by omega) (by omega) (by omega) (by omega) (by omega) (by omega)
  rw [e1]
  simp only [Option.bind_some]
  obtain ⟨v, s2, t2, e2, _, hs20, hs21⟩ := one_ok hl t1 12 hs0 hs1 (by omega) (by omega)
  rw [e2]
  simp only [Option.bind_some]
  split
  · obtain ⟨b, s3, t3, e3, hb, _, _⟩ := row_ok hl k t2 14 (by omega) (by omega) (by omega) hs20 hs21 (by omega)
    rw [e3]
    exact ⟨_, _, _, _, rfl, ha, hb⟩
  · obtain ⟨b, s', t', e, hb⟩ := rows_l0_ok hl a ha a.size k 0 [] s2 t2 _ (by omega) (by have := ha.1; omega) (by have := ha.1; simp; omega) hs20 hs21 (by have := ha.1; omega)
    exact ⟨_, _, _, _, e, ha, hb⟩
theorem among_ok {l : List Int} (hl : Bytes l) {s n : Int} (t : Int) (xs : List Int) (hx : 0 < xs.length) (hx1 : xs.length ≤ 100) (h0 : 0 ≤ s) (h1 : s ≤ n) (hn : n ≤ 900000) : Drawn (n + 2) (fun v : Int => v ∈ xs) (spec_l1Cur_among.f l s t xs) := by
  unfold spec_l1Cur_among.f
  obtain ⟨v, s1, t1, e1, hv, hs0, hs1⟩ := pick_ok hl t (xs.length : Int) h0 h1 hn (by omega)
  rw [e1]
  simp only [Option.bind_some]
  have hlt : v < (xs.length : Int) := by omega
  rw [if_pos hv.1, if_pos hlt]
  refine ⟨_, _, _, rfl, ?_, hs0, hs1⟩
  unfold rd
  have : v.toNat < xs.length := by omega
  simp [this]
end Go.Proofs.YtnlbhlomdcgpeaaDoor.Row
