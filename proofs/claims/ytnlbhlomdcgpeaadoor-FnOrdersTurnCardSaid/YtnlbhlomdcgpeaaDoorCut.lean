/- A cut and a loop over a great frame: what is forgotten stands behind one function of the slots, not behind a row of letters. -/
import Derived.Deep.DeepCutAuto
import Derived.Deep.LoopGhost
namespace Go.Proofs.YtnlbhlomdcgpeaaDoor.Hand
open Go

/-- The frame, each forgotten slot by its own number. -/
def forg (V : Nat → Value) : List (Option Nat) → List Value → List Value
  | some i :: m, _ :: es => V i :: forg V m es
  | none :: m, e :: es => e :: forg V m es
  | _, es => es
/-- The frame, each forgotten slot as another frame has it. -/
def mixL : List (Option Nat) → List Value → List Value → List Value
  | some _ :: m, u :: us, _ :: es => u :: mixL m us es
  | none :: m, _ :: us, e :: es => e :: mixL m us es
  | _, _, es => es
/-- The mask's numbers are the places. -/
def numbered : Nat → List (Option Nat) → Bool
  | _, [] => true
  | i, none :: m => numbered (i + 1) m
  | i, some j :: m => i == j && numbered (i + 1) m

theorem forg_of (us0 : List Value) : ∀ (m : List (Option Nat)) (i : Nat) (us es : List Value), numbered i m = true → (∀ j, us.getD j (.bool false) = us0.getD (i + j) (.bool false)) → us = mixL m us es → us = forg (fun i => us0.getD i (.bool false)) m es
  | [], _, us, es, _, _, h => by
    unfold mixL at h
    unfold forg
    exact h
  | o :: m, i, [], e :: es, _, _, h => by
    unfold mixL at h
    exact absurd h (by cases o <;> simp)
  | o :: m, i, us, [], _, _, h => by
    have h' : us = [] := by
      cases o <;> cases us <;> simp [mixL] at h ⊢
    subst h'
    cases o <;> simp [forg]
  | none :: m, i, u :: us, e :: es, hn, hv, h => by
    unfold mixL at h
    obtain ⟨h1, h2⟩ := List.cons.inj h
    have ih := forg_of us0 m (i + 1) us es (by simpa [numbered] using hn) (fun j => by have := hv (j + 1); simp only [List.getD_cons_succ] at this; rw [this]; congr 1; omega) h2
    unfold forg
    rw [← h1, ← ih]
  | some k :: m, i, u :: us, e :: es, hn, hv, h => by
    unfold mixL at h
    obtain ⟨_, h2⟩ := List.cons.inj h
    simp only [numbered, Bool.and_eq_true, beq_iff_eq] at hn
    have ih := forg_of us0 m (i + 1) us es hn.2 (fun j => by have := hv (j + 1); simp only [List.getD_cons_succ] at this; rw [this]; congr 1; omega) h2
    have h0 := hv 0
    simp only [List.getD_cons_zero, Nat.add_zero] at h0
    unfold forg
    rw [← hn.1, ← h0, ← ih]

/-- A cut around a statement. -/
theorem wp_cutF {P : Program} {s : Code} {K : Act → World → Prop} {Q' : Exit → Act → World → Prop} {elems : List Value} {d : List Deferred} {w : World} (m : List (Option Nat)) (hm : numbered 0 m = true) (rel : (Nat → Value) → World → Prop)
    (first : ∀ (J K' : Act → World → Prop), (∀ us w', us = mixL m us elems → rel (fun i => us.getD i (.bool false)) w' → J ⟨us.toArray, d⟩ w') → (∀ a' w', Met J a' w' → K' a' w') → s.wp P (Exit.then K' Q') ⟨elems.toArray, d⟩ w)
    (rest : ∀ V w', rel V w' → K ⟨(forg V m elems).toArray, d⟩ w') : s.wp P (Exit.then K Q') ⟨elems.toArray, d⟩ w := by
  refine wp_cut (fun a' w' => ∃ us, us = mixL m us elems ∧ rel (fun i => us.getD i (.bool false)) w' ∧ a' = ⟨us.toArray, d⟩) ?_ ?_
  · rintro a' w' ⟨us, hu, hr, rfl⟩
    have e := forg_of us m 0 us elems hm (fun j => by rw [Nat.zero_add]) hu
    have := rest _ _ hr
    rw [← e] at this
    exact this
  · intro J K' hJ hK
    exact first J K' (fun us w' hu hr => hJ _ _ ⟨us, hu, hr, rfl⟩) hK

/-- A loop. -/
theorem wp_loopF {P : Program} {c : Code} {Q : Exit → Act → World → Prop} {elems : List Value} {d : List Deferred} {w : World} (m : List (Option Nat)) (hm : numbered 0 m = true) (n0 : Nat) (rel : Nat → (Nat → Value) → World → Prop)
    (hs : elems = mixL m elems elems) (atStart : rel n0 (fun i => elems.getD i (.bool false)) w)
    (round : ∀ n V w', rel n V w' → ∀ (J : Nat → Act → World → Prop) (K : Act → World → Prop), (∀ k us w', us = mixL m us elems → rel k (fun i => us.getD i (.bool false)) w' → J k ⟨us.toArray, d⟩ w') → (∀ a' w', Handed J n a' w' → K a' w') → c.wp P (Exit.then K Q) ⟨(forg V m elems).toArray, d⟩ w') : (Code.loop c).wp P Q ⟨elems.toArray, d⟩ w := by
  refine wp_loop_ghost_k (fun n a' w' => ∃ us, us = mixL m us elems ∧ rel n (fun i => us.getD i (.bool false)) w' ∧ a' = ⟨us.toArray, d⟩) n0 ⟨elems, hs, atStart, rfl⟩ ?_
  rintro n a' w' ⟨us, hu, hr, rfl⟩ J K hJ hK
  have e := forg_of us m 0 us elems hm (fun j => by rw [Nat.zero_add]) hu
  have := round n _ w' hr J K (fun k us' w'' hu' hr' => hJ k _ _ ⟨us', hu', hr', rfl⟩) hK
  rw [← e] at this
  exact this
end Go.Proofs.YtnlbhlomdcgpeaaDoor.Hand
