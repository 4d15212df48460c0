/- A net with its pipes turned. -/
import Derived.Test.YtamadhdnblmfhaaWout
namespace Go.Proofs.Ytamadhdnblmfhaa
set_option linter.unusedSimpArgs false
set_option linter.unusedVariables false
open Go.RowKit

def swp (t : T3) : T3 := (t.2.1, t.1, t.2.2)
def turnM (p : Int) (ts : List T3) : List T3 := if netOk p ts then ts.map swp else ts
theorem turn_length (p : Int) (ts : List T3) : (turnM p ts).length = ts.length := by unfold turnM; split <;> simp

/-- The first k pipes turned. -/
def turnK (ts : List T3) (k : Nat) : List T3 := (ts.take k).map swp ++ ts.drop k
theorem turnK_length (ts : List T3) (k : Nat) (h : k ≤ ts.length) : (turnK ts k).length = ts.length := by simp [turnK]; omega
theorem turnK_getD (ts : List T3) (k : Nat) (h : k < ts.length) : (turnK ts k).getD k default = ts.getD k default := by
  have hl : ((ts.take k).map swp).length = k := by simp; omega
  rw [List.getD_eq_getElem?_getD, turnK, List.getElem?_append_right (by omega), hl, Nat.sub_self, List.getElem?_drop]
  simp [List.getD_eq_getElem?_getD]
theorem turnK_step (ts : List T3) (k : Nat) (h : k < ts.length) : (turnK ts k).set k (swp (ts.getD k default)) = turnK ts (k + 1) := by
  have hl : ((ts.take k).map swp).length = k := by simp; omega
  rw [turnK, List.set_append_right _ _ (by omega), hl, Nat.sub_self, drop_getD3 ts k h, List.set_cons_zero, turnK, List.take_succ_eq_append_getElem h, List.map_append, List.append_assoc]
  simp [List.getD_eq_getElem?_getD, h]
theorem flat_set1 : ∀ (ts : List T3) (j : Nat) (y : Int), (flat ts).set (j * 3 + 1) y = flat (ts.set j ((ts.getD j default).1, y, (ts.getD j default).2.2))
  | [], j, y => by simp [flat]
  | t :: r, 0, y => by simp [flat]
  | t :: r, j + 1, y => by
    have := flat_set1 r j y
    rw [show (j + 1) * 3 + 1 = (j * 3 + 1) + 3 by omega]
    simp only [flat, List.set_cons_succ, List.set_cons_zero, List.cons.injEq, true_and]
    simpa using this
theorem turn_flat (ts : List T3) (k : Nat) (h : k < ts.length) : ((flat (turnK ts k)).set (k * 3) (ts.getD k default).2.1).set (k * 3 + 1) (ts.getD k default).1 = flat (turnK ts (k + 1)) := by
  have hl := turnK_length ts k (by omega)
  rw [flat_set0, flat_set1, turnK_getD ts k h, ← turnK_step ts k h]
  congr 1
  rw [List.set_set]
  congr 1
  simp [List.getD_eq_getElem?_getD, hl, h, swp]

/-! Worlds that part from the first in one block alone. -/
structure Rx where
  d : Nat
  x : Obj
  os : Array Obj

instance : Inhabited Rx := ⟨⟨0, .cells #[] 0, #[]⟩⟩

def grewX (w : World) (g : Nat) (p : Rx) : World := { w with heap := w.heap.setIfInBounds g p.x ++ p.os, drawn := p.d }
abbrev InX (w0 : World) (g : Nat) (w : World) : Prop := ∃ p : Rx, w = grewX w0 g p

theorem block_grewX (w : World) (g : Nat) (p : Rx) (k : Nat) (hne : k ≠ g) (hk : k < w.heap.size) : (grewX w g p).heap[k]? = w.heap[k]? := by
  simp only [grewX]
  rw [Array.getElem?_append_left (by simpa using hk), Array.getElem?_setIfInBounds_ne (Ne.symm hne)]
theorem cell_grewX (w : World) (g : Nat) (p : Rx) (b o : Nat) (hne : b ≠ g) (h : b < w.heap.size) : (grewX w g p).cell? ⟨b, o, none⟩ = w.cell? ⟨b, o, none⟩ :=
  World.cell?_of_block (w := w) (block_grewX w g p b hne h)
theorem inX_of {w w' : World} {g : Nat} (hg : g < w.heap.size) (h : w.grownBy w' (some g)) : InX w g w' := by
  have hgs : g < w'.heap.size := Nat.lt_of_lt_of_le hg h.size
  refine ⟨⟨w'.drawn, w'.heap[g], w'.heap.extract w.heap.size w'.heap.size⟩, ?_⟩
  have e1 := h.os
  have e2 := h.tape
  have e3 := h.output
  have hs := h.size
  have hb := h.block
  obtain ⟨heap', tape', drawn', os', output'⟩ := w'
  simp only at e1 e2 e3 hs hb hgs
  subst e1 e2 e3
  simp only [grewX]
  congr 1
  apply Array.ext_getElem?
  intro k
  by_cases hk : k < w.heap.size
  · rw [Array.getElem?_append_left (by simpa using hk)]
    by_cases e : g = k
    · subst e; rw [Array.getElem?_setIfInBounds_self_of_lt hk]; simp [hgs]
    · rw [Array.getElem?_setIfInBounds_ne e]; exact hb k hk (by simpa using Ne.symm e)
  · rw [Array.getElem?_append_right (by simp; omega), Array.getElem?_extract, Array.size_setIfInBounds]
    by_cases hk2 : k < heap'.size
    · rw [if_pos (by omega)]; congr 1; omega
    · rw [if_neg (by omega), Array.getElem?_eq_none (by omega)]
theorem inX_grown {w w' : World} {g : Nat} (h : InX w g w') : w.grownBy w' (some g) := by
  obtain ⟨p, rfl⟩ := h
  exact ⟨rfl, rfl, rfl, by simp [grewX], fun k hk hne => block_grewX w g p k (by simpa using hne) hk⟩
theorem grownBy_belowT {w w' w'' : World} {r : Option Nat} (h : w.grownBy w' r) (hb : Below w'.heap.size w' w'') : w.grownBy w'' r :=
  ⟨hb.os.trans h.os, hb.tape.trans h.tape, hb.output.trans h.output, Nat.le_trans h.size hb.size, fun k hk hr => (hb.block k (Nat.lt_of_lt_of_le hk h.size)).trans (h.block k hk hr)⟩
theorem up_inX {w : World} {g : Nat} (hg : g < w.heap.size) : Up (InX w g) := fun _ _ h hb => inX_of hg (grownBy_belowT (inX_grown h) hb)

/-- What is known of the block that is written to. -/
def OwnX (w0 : World) (g : Nat) (T : TypeId) (xs : List Int) (w : World) : Prop := w0.grownBy w (some g) ∧ OwnP w g T xs
theorem up_ownX {w0 : World} (g : Nat) (T : TypeId) (xs : List Int) : Up (OwnX w0 g T xs) := fun _ _ h hb => ⟨grownBy_belowT h.1 hb, h.2.below hb⟩

theorem wpT_setX {P : Program} {ops : Array Oper} {w0 : World} {g j : Nat} {T : TypeId} {xs : List Int} {x : Int} {Q : Act → (World → Prop) → Prop} {a : Act} {o : Oper} {rest : List Oper}
    (hg : g < w0.heap.size) (hgd : o.guard = none)
    (hrun : ∀ w, OwnP w g T xs → (execOp a.eval o).run P w = .ok .skip (w.setCell ⟨g, j, none⟩ (.int .i64 x)))
    (h : wpT P ops (InX w0 g) Q rest (a.put o.dst undef) (OwnX w0 g T (xs.set j x))) : wpT P ops (InX w0 g) Q (o :: rest) a (OwnX w0 g T xs) := by
  refine wpT_step fun K hK => ?_
  rw [if_pos (by simp [Region.wanted, hgd])]
  refine ⟨fun v => v = undef, fun _ w => OwnX w0 g T (xs.set j x) w, fun _ _ => up_ownX _ _ _, fun w hC hF => ?_, fun v hv => by subst hv; exact hK _ _ h⟩
  unfold mAt
  rw [hrun w hF.2]
  have hst := grownBy_trans hF.1 (grownBy_set w g j (.int .i64 x))
  exact ⟨rfl, inX_of hg hst, hst, hF.2.set j x⟩

end Go.Proofs.Ytamadhdnblmfhaa
