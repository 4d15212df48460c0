/- The tail of a drawn region: a new variable, a store into it, assignments. -/
import Derived.Test.YtjcoajaoofjjmaaReg
import Derived.WalkKit
namespace Go.Proofs.Ytjcoajaoofjjmaa
set_option linter.unusedSimpArgs false
set_option linter.unusedVariables false
open Go.RowKit

section
variable {P : Program} {ops : Array Oper} {w0 : World} {Q : Act → (World → Prop) → Prop} {a : Act} {o : Oper} {rest : List Oper} {F : World → Prop}

theorem heap_grow {w w' : World} {b : Nat} {x : Obj} (h : w.heap[b]? = some x) (hb : Below w.heap.size w w') : w'.heap[b]? = some x := by
  have : b < w.heap.size := (Array.getElem?_eq_some_iff.1 h).1
  rw [hb.block b this]; exact h

theorem cellB {w w' : World} {p : Addr} {v : Value} (hb : Below w.heap.size w w') (h : w.cell? p = some v) : w'.cell? p = some v := (hb.cell (World.block_lt_of_cell? w _ h)).trans h

theorem up_block (b : Nat) (x : Obj) : Up (fun w => w.heap[b]? = some x) := fun _ _ h hb => heap_grow h hb
theorem up_true : Up (fun _ => True) := fun _ _ _ _ => trivial

theorem wpT_pure {v : Value} (hU : Up F) (hg : o.guard = none) (hrun : ∀ w, (execOp a.eval o).run P w = .ok (.value v) w) (h : wpT P ops (InC w0) Q rest (a.put o.dst v) F) : wpT P ops (InC w0) Q (o :: rest) a F := by
  refine wpT_step fun K hK => ?_
  rw [if_pos (by simp [Region.wanted, hg])]
  refine ⟨(· = v), fun _ => F, fun _ _ => hU, fun w hC hF => ?_, fun u hu => by subst hu; exact hK _ _ h⟩
  unfold mAt
  rw [hrun w]
  exact ⟨rfl, hC, hF⟩

theorem wpT_alloc {C : Array Value} {T : TypeId} (hg : o.guard = none) (hrun : ∀ w, (execOp a.eval o).run P w = .ok (.value (.pointer (some ⟨w.heap.size, 0, none⟩))) (w.alloc (.cells C T)))
    (h : ∀ b, w0.heap.size ≤ b → wpT P ops (InC w0) Q rest (a.put o.dst (.pointer (some ⟨b, 0, none⟩))) (fun w => w.heap[b]? = some (.cells C T (0, 0)))) : wpT P ops (InC w0) Q (o :: rest) a F := by
  refine wpT_step fun K hK => ?_
  rw [if_pos (by simp [Region.wanted, hg])]
  refine ⟨fun v => ∃ b, w0.heap.size ≤ b ∧ v = .pointer (some ⟨b, 0, none⟩), fun v w => ∀ b, v = .pointer (some ⟨b, 0, none⟩) → w.heap[b]? = some (.cells C T (0, 0)), fun v _ w w' hw hb b hv => heap_grow (hw b hv) hb, fun w hC _ => ?_, fun v hv => ?_⟩
  · unfold mAt
    rw [hrun w]
    refine ⟨⟨w.heap.size, (below_of_inC hC).size, rfl⟩, hC.trans ((Below.refl _ _).alloc (Nat.le_refl _) _), fun b hb => ?_⟩
    have : w.heap.size = b := by injection hb with h1; injection h1 with h1; injection h1
    subst this
    show (w.heap.push _)[w.heap.size]? = _
    simp
  · obtain ⟨b, hb, rfl⟩ := hv
    have := hK _ _ (h b hb)
    have e : (fun w : World => ∀ b', Value.pointer (some ⟨b, 0, none⟩) = .pointer (some ⟨b', 0, none⟩) → w.heap[b']? = some (.cells C T (0, 0))) = fun w => w.heap[b]? = some (.cells C T (0, 0)) := by
      funext w
      apply propext
      constructor
      · intro h; exact h b rfl
      · intro h b' hb'
        have : b = b' := by injection hb' with h1; injection h1 with h1; injection h1
        subst this; exact h
    show K _ (fun w : World => ∀ b', Value.pointer (some ⟨b, 0, none⟩) = .pointer (some ⟨b', 0, none⟩) → w.heap[b']? = some (.cells C T (0, 0)))
    rw [e]
    exact this

theorem wpT_store {C C' : Array Value} {T : TypeId} {b : Nat} (hg : o.guard = none) (hb : w0.heap.size ≤ b)
    (hrun : ∀ w, w.heap[b]? = some (.cells C T (0, 0)) → ∃ w', (execOp a.eval o).run P w = .ok .skip w' ∧ w'.heap[b]? = some (.cells C' T (0, 0)) ∧ Below b w w')
    (h : wpT P ops (InC w0) Q rest (a.put o.dst undef) (fun w => w.heap[b]? = some (.cells C' T (0, 0)))) : wpT P ops (InC w0) Q (o :: rest) a (fun w => w.heap[b]? = some (.cells C T (0, 0))) := by
  refine wpT_step fun K hK => ?_
  rw [if_pos (by simp [Region.wanted, hg])]
  refine ⟨fun v => v = undef, fun _ w => w.heap[b]? = some (.cells C' T (0, 0)), fun _ _ => up_block _ _, fun w hC hF => ?_, fun v hv => by subst hv; exact hK _ _ h⟩
  obtain ⟨w', h1, h2, h3⟩ := hrun w hF
  unfold mAt
  rw [h1]
  exact ⟨rfl, inC_of_below ((below_of_inC hC).trans (h3.mono hb)), h2⟩

theorem wpT_end {Qe : Exit → Act → World → Prop} (h : ∀ w, Below w0.heap.size w0 w → F w → Qe .normal a w) : wpT P ops (InC w0) (Qc Qe (InC w0)) [] a F :=
  fun w hC hF => h w (below_of_inC hC) hF

theorem setCell_block {w : World} {b i : Nat} {C : Array Value} {T : TypeId} {fz : Nat × Nat} {v : Value} (h : w.heap[b]? = some (.cells C T fz)) :
    (w.setCell ⟨b, i, none⟩ v).heap[b]? = some (.cells (C.setIfInBounds i v) T fz) := by
  simp [World.setCell, Array.getElem?_modify, h]

theorem below_set (w : World) (b i : Nat) (v : Value) : Below b w (w.setCell ⟨b, i, none⟩ v) := (Below.refl b w).setCell (p := ⟨b, i, none⟩) (Nat.le_refl b) v

theorem cell_of_block {w : World} {b : Nat} {C : Array Value} {T : TypeId} {fz : Nat × Nat} (h : w.heap[b]? = some (.cells C T fz)) (o : Nat) : w.cell? ⟨b, o, none⟩ = C[o]? := by
  simp [World.cell?, h]
theorem frozen_of_block {w : World} {b : Nat} {C : Array Value} {T : TypeId} (h : w.heap[b]? = some (.cells C T (0, 0))) (o : Nat) : w.frozen? ⟨b, o, none⟩ = false := by
  simp [World.frozen?, h]

theorem store_two {w : World} {b : Nat} {x y x0 y0 : Value} {T : TypeId} (h : w.heap[b]? = some (.cells #[x0, y0] T (0, 0))) :
    ((w.setCell ⟨b, 0, none⟩ x).setCell ⟨b, 1, none⟩ y).heap[b]? = some (.cells #[x, y] T (0, 0)) ∧ Below b w ((w.setCell ⟨b, 0, none⟩ x).setCell ⟨b, 1, none⟩ y) :=
  ⟨by simpa using setCell_block (i := 1) (v := y) (setCell_block (i := 0) (v := x) h), (below_set w b 0 x).trans (below_set _ b 1 y)⟩
theorem store_three {w : World} {b : Nat} {x y z x0 y0 z0 : Value} {T : TypeId} (h : w.heap[b]? = some (.cells #[x0, y0, z0] T (0, 0))) :
    (((w.setCell ⟨b, 0, none⟩ x).setCell ⟨b, 1, none⟩ y).setCell ⟨b, 2, none⟩ z).heap[b]? = some (.cells #[x, y, z] T (0, 0)) ∧ Below b w (((w.setCell ⟨b, 0, none⟩ x).setCell ⟨b, 1, none⟩ y).setCell ⟨b, 2, none⟩ z) :=
  ⟨by simpa using setCell_block (i := 2) (v := z) (setCell_block (i := 1) (v := y) (setCell_block (i := 0) (v := x) h)), ((below_set w b 0 x).trans (below_set _ b 1 y)).trans (below_set _ b 2 z)⟩
end

end Go.Proofs.Ytjcoajaoofjjmaa
