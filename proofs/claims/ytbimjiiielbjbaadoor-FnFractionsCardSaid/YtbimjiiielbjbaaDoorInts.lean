/- Slices of ints: what is read, what is owned; contracts of the small loops over them. -/
import Derived.Test.YtbimjiiielbjbaaDoorBase
import Derived.Test.YtbimjiiielbjbaaDoorReg2
import Derived.Laws.MakeOwn
namespace Go.Proofs.YtbimjiiielbjbaaDoor
set_option linter.unusedSimpArgs false
set_option linter.unusedVariables false
open Go.RowKit

/-- At the slice's address a lie the numbers xs. -/
def Rd (w : World) (a : Option Addr) (xs : List Int) : Prop :=
  ∀ j, j < xs.length → ∃ b off, a = some ⟨b, off, none⟩ ∧ w.cell? ⟨b, off + j, none⟩ = some (.int .i64 (xs.getD j 0))

theorem Rd.below {w w' : World} {a : Option Addr} {xs : List Int} (h : Rd w a xs) (hb : Below w.heap.size w w') : Rd w' a xs := by
  intro j hj
  obtain ⟨b, off, ha, hc⟩ := h j hj
  exact ⟨b, off, ha, by rw [hb.cell (World.block_lt_of_cell? w _ hc)]; exact hc⟩

theorem rd_of_row {w : World} {x : Addr} {len : Nat} {zs : List Int} (hl : len ≤ zs.length) (h : ∀ i, i < zs.length → w.cell? (x.add i) = some (.int .i64 (zs.getD i 0))) : Rd w (some x) (zs.take len) := by
  intro j hj
  have hj' : j < len := by simp at hj; omega
  obtain ⟨b, off, spot⟩ := x
  have h0 := h 0 (by omega)
  have hs : spot = none := by simpa [Addr.add] using World.cell?_spot h0
  subst hs
  refine ⟨b, off, rfl, ?_⟩
  have h1 := h j (by omega)
  have e : (zs.take len).getD j 0 = zs.getD j 0 := by simp [List.getD_eq_getElem?_getD, List.getElem?_take, hj']
  rw [e]
  simp only [Addr.add] at h1
  split at h1
  · rename_i h2; subst h2; simpa using h1
  · exact h1

theorem getD_mem' {xs : List Int} {k : Nat} (h : k < xs.length) : xs.getD k 0 ∈ xs := by simp [List.getD_eq_getElem?_getD, h]

theorem drop_getD (xs : List Int) (k : Nat) (h : k < xs.length) : xs.drop k = xs.getD k 0 :: xs.drop (k + 1) := by
  rw [List.drop_eq_getElem_cons h]; simp [List.getD_eq_getElem?_getD, h]

/-- Block g, the call's own, holds the numbers xs. -/
def OwnI (w : World) (g : Nat) (T : TypeId) (xs : List Int) : Prop := w.heap[g]? = some (.cells (xs.map (Value.int .i64)).toArray T (0, 0))

theorem OwnI.cell {w : World} {g : Nat} {T : TypeId} {xs : List Int} (h : OwnI w g T xs) (j : Nat) (hj : j < xs.length) : w.cell? ⟨g, j, none⟩ = some (.int .i64 (xs.getD j 0)) := by
  rw [cell_of_block h]; simp [hj, List.getD_eq_getElem?_getD]

theorem OwnI.rd {w : World} {g : Nat} {T : TypeId} {xs : List Int} (h : OwnI w g T xs) : Rd w (some ⟨g, 0, none⟩) xs :=
  fun j hj => ⟨g, 0, rfl, by simpa using h.cell j hj⟩

theorem OwnI.set {w : World} {g : Nat} {T : TypeId} {xs : List Int} (h : OwnI w g T xs) (j : Nat) (x : Int) : OwnI (w.setCell ⟨g, j, none⟩ (.int .i64 x)) g T (xs.set j x) := by
  have := setCell_block (i := j) (v := .int .i64 x) h
  unfold OwnI
  rw [this]
  simp [List.map_set]

theorem OwnI.below {w w' : World} {g : Nat} {T : TypeId} {xs : List Int} (h : OwnI w g T xs) (hb : Below w.heap.size w w') : OwnI w' g T xs := heap_grow h hb
theorem OwnI.lt {w : World} {g : Nat} {T : TypeId} {xs : List Int} (h : OwnI w g T xs) : g < w.heap.size := (Array.getElem?_eq_some_iff.1 h).1
theorem OwnI.other {w : World} {g : Nat} {T : TypeId} {xs : List Int} (h : OwnI w g T xs) (p : Addr) (hp : p.block ≠ g) (v : Value) : OwnI (w.setCell p v) g T xs := by
  unfold OwnI at *
  rw [Below.heap_setCell w p v g (Ne.symm hp)]; exact h

def allB (xs : List Int) (lo hi : Int) : Bool := xs.all fun x => inB x lo hi



theorem zeros_eq (n : Nat) : madeCells #[Value.int .i64 0] n = ((List.replicate n (0 : Int)).map (Value.int .i64)).toArray := by
  apply Array.toList_inj.1
  rw [toList_madeCells_one]; simp


end Go.Proofs.YtbimjiiielbjbaaDoor
