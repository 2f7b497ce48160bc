/- Short words for the printed walks of this seat, a string's iterator as one step, and the world fact 'Shd' that the library's contracts ask. -/
import Derived.Test.YtnlbhlomdcgpeaaDoorWWords
import Derived.Test.YtnlbhlomdcgpeaaDoorWApart
import Derived.Test.YtnlbhlomdcgpeaaDoorWMore
import Derived.Laws.RangeString
import Derived.Lib.OthersKept
import Derived.ChangeAgain
import Derived.ShapedOpen
import Derived.Shelf.Unicode.DecodeSlow
import Derived.Test.YtnlbhlomdcgpeaaDoorProg
set_option linter.unusedVariables false
set_option linter.unusedSimpArgs false
namespace Go.Proofs.YtnlbhlomdcgpeaaDoor.Hand
open Go.RowKit Go.Lib Go.Proofs.YtnlbhlomdcgpeaaDoorW.PrintWords Go.Proofs.YtnlbhlomdcgpeaaDoorW.PrintLast Go.Proofs.YtnlbhlomdcgpeaaDoorW.PrintMore

theorem rbR {α : Type} {d : Kd α} {e base : Nat} {W w1 : World} {ok : Nat → Prop} {v : Value} {xs : List α} (hb : Below W.heap.size W w1) (h : Aside0 (Kd.R d e W base ok v xs)) : Aside0 (Kd.R d e w1 base ok v xs) := ⟨Kd.R_below h.out hb⟩
/-! A block that holds no cells is none of a row's. -/
namespace Kd
section
variable {α : Type} {d : Go.Proofs.YtnlbhlomdcgpeaaDoorW.PrintWords.Kd α} {e : Nat} {w : World} {base : Nat} {ok : Nat → Prop} {v : Value} {xs : List α}
theorem R_typesI (h : Go.Proofs.YtnlbhlomdcgpeaaDoorW.PrintWords.Kd.R d e w base ok v xs) {g : Nat} {o : Obj} (hb : w.heap[g]? = some o) (hn : ∀ c t f, o ≠ .cells c t f) : Go.Proofs.YtnlbhlomdcgpeaaDoorW.PrintWords.Kd.R d e w base (fun k => ok k ∧ k ≠ g) v xs :=
  Go.Proofs.YtnlbhlomdcgpeaaDoorW.PrintWords.Kd.R_mono (Go.Proofs.YtnlbhlomdcgpeaaDoorW.PrintWords.Kd.R_bound h) (fun k hk => ⟨hk.1, by
    obtain ⟨_, _, _, q, hq, cells', hc⟩ := hk
    rintro rfl
    rw [hc] at hb
    injection hb with hb
    exact hn _ _ _ hb.symm⟩)
theorem S_typesI (h : Go.Proofs.YtnlbhlomdcgpeaaDoorW.PrintWords.Kd.S d e w base ok v xs) {g : Nat} {o : Obj} (hb : w.heap[g]? = some o) (hn : ∀ c t f, o ≠ .cells c t f) : Go.Proofs.YtnlbhlomdcgpeaaDoorW.PrintWords.Kd.S d e w base (fun k => ok k ∧ k ≠ g) v xs :=
  Go.Proofs.YtnlbhlomdcgpeaaDoorW.PrintWords.Kd.S_mono (Go.Proofs.YtnlbhlomdcgpeaaDoorW.PrintWords.Kd.S_bound h) (fun k hk => ⟨hk.1, by
    obtain ⟨_, _, _, q, hq, cells', hc⟩ := hk
    rintro rfl
    rw [hc] at hb
    injection hb with hb
    exact hn _ _ _ hb.symm⟩)
theorem R_neI (h : Go.Proofs.YtnlbhlomdcgpeaaDoorW.PrintWords.Kd.R d e w base ok v xs) {g : Nat} {o : Obj} (hb : w.heap[g]? = some o) (hn : ∀ c t f, o ≠ .cells c t f) : some g ≠ v.ownBlock := fun he => ((R_typesI h hb hn).1 g he.symm).2 rfl
theorem S_neI (h : Go.Proofs.YtnlbhlomdcgpeaaDoorW.PrintWords.Kd.S d e w base ok v xs) {g : Nat} {o : Obj} (hb : w.heap[g]? = some o) (hn : ∀ c t f, o ≠ .cells c t f) : some g ≠ v.ownBlock := R_neI (Go.Proofs.YtnlbhlomdcgpeaaDoorW.PrintWords.Kd.S_R h) hb hn
end
end Kd
/-! A string's iterator, as one step. -/
section
variable {P : Program} {ops : Array Oper} {rest : List Oper} {o : Oper} {a : Act} {Q : Exit → Act → World → Prop}
theorem range_event {W : World} (hgd : o.guard = none) {N : Tmp} (_hd : o.dst = some N) {s : ByteArray}
    (hrun : (execOp a.eval o).run P W = .ok (.value (.pointer (some ⟨W.heap.size, 0, none⟩))) (W.alloc (.stringIter s 0)))
    (h : ∀ g, g = W.heap.size → ∀ w1, w1.heap[g]? = some (.stringIter s (0 : Int).toNat) → Below W.heap.size W w1 → wpList P ops Q rest (a.put o.dst (.pointer (some ⟨g, 0, none⟩))) w1) : wpList P ops Q (o :: rest) a W :=
  Kd.event_run hgd hrun (h _ rfl _ (blk_new W _) (below_alloc (Below.refl _ _) _))
theorem iter_grown {W : World} {g : Nat} {s : ByteArray} (n : Nat) : W.grownBy (W.iterAt g s n) (some g) :=
  ⟨rfl, rfl, rfl, by rw [iterAt_size]; exact Nat.le_refl _, fun i _ hi => iterAt_other W g i s n (fun e => hi (by rw [e]))⟩
theorem next_event {W : World} (hgd : o.guard = none) {N : Tmp} (_hd : o.dst = some N) {g : Nat} {s : ByteArray} {p : Int} {it : Tmp}
    (hc : W.heap[g]? = some (.stringIter s p.toNat)) (ho : o.op = .next (.tmp it) true) (hi : a.eval (.tmp it) = .pointer (some ⟨g, 0, none⟩)) (h0 : 0 ≤ p) (h1 : p < (s.size : Int)) (ha : bt s p < 128)
    (h : ∀ w1, w1.heap[g]? = some (.stringIter s (p + 1).toNat) → W.grownBy w1 (some g) → wpList P ops Q rest (a.put o.dst (.tuple #[.bool true, .int .i64 p, .int .i32 (bt s p)])) w1) : wpList P ops Q (o :: rest) a W := by
  have hlt : p.toNat < s.size := by omega
  have hb := bt_at s p hlt
  have hrun := run_next_ascii_at (P := P) W g s p.toNat o.type hc hlt (by omega)
  have e1 : ((p.toNat : Nat) : Int) = p := by omega
  have e2 : (p + 1).toNat = p.toNat + 1 := by omega
  rw [hb, e1] at hrun
  refine Kd.event_run (v := .tuple #[.bool true, .int .i64 p, .int .i32 (bt s p)]) (w1 := W.iterAt g s (p.toNat + 1)) hgd ?_ (h _ (by rw [e2]; exact iterAt_heap W g s p.toNat _ hc) (iter_grown _))
  unfold execOp
  simp only [ho, hi, Sem.run_bind, Sem.run_pure, hrun, Result.andThen_ok]
theorem next_over {W : World} (hgd : o.guard = none) {N : Tmp} (_hd : o.dst = some N) {g : Nat} {s : ByteArray} {p : Int} {it : Tmp}
    (hc : W.heap[g]? = some (.stringIter s p.toNat)) (ho : o.op = .next (.tmp it) true) (hi : a.eval (.tmp it) = .pointer (some ⟨g, 0, none⟩)) (h1 : ¬ p < (s.size : Int))
    (h : wpList P ops Q rest (a.put o.dst (.tuple #[.bool false])) W) : wpList P ops Q (o :: rest) a W := by
  have hrun := run_next_end_at (P := P) W g s p.toNat o.type hc (by omega)
  refine Kd.event_run (v := .tuple #[.bool false]) (w1 := W) hgd ?_ h
  unfold execOp
  simp only [ho, hi, Sem.run_bind, Sem.run_pure, hrun, Result.andThen_ok]
end

/-! What the library's contracts ask of the world. -/
def Shd (w : World) : Prop := w.ShapedOpen Tryd.prog ∧ Lib.Utf8Tabs 0 1 w
theorem Shd.below {w w1 : World} (h : Shd w) (hb : Below w.heap.size w w1) : Shd w1 := ⟨World.ShapedOpen.keptBut h.1 (hb.frame (fun _ => False)) (fun _ hp => hp.elim), Utf8Tabs_below h.2 hb⟩
end Go.Proofs.YtnlbhlomdcgpeaaDoor.Hand

