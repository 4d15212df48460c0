/- Slices of structs of three ints: what is read, what is owned. -/
import Derived.Test.YtjcoajaoofjjmaaInts2
import Derived.IntWalk
namespace Go.Proofs.Ytjcoajaoofjjmaa
set_option linter.unusedSimpArgs false
set_option linter.unusedVariables false
open Go.RowKit

abbrev T3 := Int × Int × Int

/-- At the slice's address a lie the structs ts, three numbers each. -/
def Rd3 (w : World) (a : Option Addr) (ts : List T3) : Prop :=
  ∀ j, j < ts.length → ∃ b off, a = some ⟨b, off, none⟩ ∧ w.cell? ⟨b, off + j * 3, none⟩ = some (.int .i64 (ts.getD j default).1)
    ∧ w.cell? ⟨b, off + j * 3 + 1, none⟩ = some (.int .i64 (ts.getD j default).2.1) ∧ w.cell? ⟨b, off + j * 3 + 2, none⟩ = some (.int .i64 (ts.getD j default).2.2)

theorem Rd3.below {w w' : World} {a : Option Addr} {ts : List T3} (h : Rd3 w a ts) (hb : Below w.heap.size w w') : Rd3 w' a ts := by
  intro j hj
  obtain ⟨b, off, ha, hc, hc1, hc2⟩ := h j hj
  refine ⟨b, off, ha, ?_, ?_, ?_⟩
  · rw [hb.cell (World.block_lt_of_cell? w _ hc)]; exact hc
  · rw [hb.cell (World.block_lt_of_cell? w _ hc1)]; exact hc1
  · rw [hb.cell (World.block_lt_of_cell? w _ hc2)]; exact hc2

theorem drop_getD3 (ts : List T3) (k : Nat) (h : k < ts.length) : ts.drop k = ts.getD k default :: ts.drop (k + 1) := by
  rw [List.drop_eq_getElem_cons h]; simp [List.getD_eq_getElem?_getD, h]

def agg3 (t : T3) : Value := .agg #[.int .i64 t.1, .int .i64 t.2.1, .int .i64 t.2.2]

def flat : List T3 → List Int
  | [] => []
  | t :: r => t.1 :: t.2.1 :: t.2.2 :: flat r

theorem flat_length : ∀ ts : List T3, (flat ts).length = ts.length * 3
  | [] => rfl
  | t :: r => by simp [flat, flat_length r]; omega
theorem flat_append : ∀ ts us : List T3, flat (ts ++ us) = flat ts ++ flat us
  | [], us => rfl
  | t :: r, us => by simp [flat, flat_append r us]
theorem flat_get0 : ∀ (ts : List T3) (j : Nat), (flat ts).getD (j * 3) 0 = (ts.getD j default).1
  | [], j => by simp [flat]; rfl
  | t :: r, 0 => by simp [flat]
  | t :: r, j + 1 => by simpa [flat, Nat.add_mul] using flat_get0 r j
theorem flat_get1 : ∀ (ts : List T3) (j : Nat), (flat ts).getD (j * 3 + 1) 0 = (ts.getD j default).2.1
  | [], j => by simp [flat]; rfl
  | t :: r, 0 => by simp [flat]
  | t :: r, j + 1 => by have := flat_get1 r j; rw [show (j + 1) * 3 + 1 = j * 3 + 1 + 3 by omega]; simpa [flat] using this
theorem flat_get2 : ∀ (ts : List T3) (j : Nat), (flat ts).getD (j * 3 + 2) 0 = (ts.getD j default).2.2
  | [], j => by simp [flat]; rfl
  | t :: r, 0 => by simp [flat]
  | t :: r, j + 1 => by have := flat_get2 r j; rw [show (j + 1) * 3 + 2 = j * 3 + 2 + 3 by omega]; simpa [flat] using this
theorem flat_set : ∀ (ts : List T3) (j : Nat) (x y z : Int), (((flat ts).set (j * 3) x).set (j * 3 + 1) y).set (j * 3 + 2) z = flat (ts.set j (x, y, z))
  | [], j, x, y, z => by simp [flat]
  | t :: r, 0, x, y, z => by simp [flat]
  | t :: r, j + 1, x, y, z => by
    have := flat_set r j x y z
    rw [show (j + 1) * 3 = j * 3 + 3 by omega]
    simp only [flat, List.set_cons_succ, List.set_cons_zero, List.cons.injEq, true_and]
    exact this
theorem flat_set0 : ∀ (ts : List T3) (j : Nat) (x : Int), (flat ts).set (j * 3) x = flat (ts.set j (x, (ts.getD j default).2))
  | [], j, x => by simp [flat]
  | t :: r, 0, x => by simp [flat]
  | t :: r, j + 1, x => by
    have := flat_set0 r j x
    rw [show (j + 1) * 3 = j * 3 + 3 by omega]
    simp only [flat, List.set_cons_succ, List.set_cons_zero, List.cons.injEq, true_and]
    simpa using this

theorem OwnP.cell0 {w : World} {g : Nat} {T : TypeId} {ts : List T3} (h : OwnP w g T (flat ts)) (j : Nat) (hj : j < ts.length) : w.cell? ⟨g, j * 3, none⟩ = some (.int .i64 (ts.getD j default).1) := by
  rw [← flat_get0]; exact h.cell _ (by rw [flat_length]; omega)
theorem OwnP.cell1 {w : World} {g : Nat} {T : TypeId} {ts : List T3} (h : OwnP w g T (flat ts)) (j : Nat) (hj : j < ts.length) : w.cell? ⟨g, j * 3 + 1, none⟩ = some (.int .i64 (ts.getD j default).2.1) := by
  rw [← flat_get1]; exact h.cell _ (by rw [flat_length]; omega)
theorem OwnP.cell2 {w : World} {g : Nat} {T : TypeId} {ts : List T3} (h : OwnP w g T (flat ts)) (j : Nat) (hj : j < ts.length) : w.cell? ⟨g, j * 3 + 2, none⟩ = some (.int .i64 (ts.getD j default).2.2) := by
  rw [← flat_get2]; exact h.cell _ (by rw [flat_length]; omega)
theorem OwnP.rd3 {w : World} {g : Nat} {T : TypeId} {ts : List T3} (h : OwnP w g T (flat ts)) : Rd3 w (some ⟨g, 0, none⟩) ts :=
  fun j hj => ⟨g, 0, rfl, by simpa using h.cell0 j hj, by simpa using h.cell1 j hj, by simpa using h.cell2 j hj⟩
theorem OwnP.set3 {w : World} {g : Nat} {T : TypeId} {ts : List T3} (h : OwnP w g T (flat ts)) (j : Nat) (x y z : Int) :
    OwnP (((w.setCell ⟨g, j * 3, none⟩ (.int .i64 x)).setCell ⟨g, j * 3 + 1, none⟩ (.int .i64 y)).setCell ⟨g, j * 3 + 2, none⟩ (.int .i64 z)) g T (flat (ts.set j (x, y, z))) := by
  rw [← flat_set]; exact ((h.set _ x).set _ y).set _ z
theorem rd3_grown {w w' : World} {a : Option Addr} {ts : List T3} {g : Nat} (h : Rd3 w a ts) (hb : w.grownBy w' (some g)) (hne : ∀ x, a = some x → x.block ≠ g) : Rd3 w' a ts := by
  intro j hj
  obtain ⟨b, off, ha, hc, hc1, hc2⟩ := h j hj
  have hn := hne _ ha
  exact ⟨b, off, ha, hb.cell hc (by simpa using hn), hb.cell hc1 (by simpa using hn), hb.cell hc2 (by simpa using hn)⟩

theorem fill_step3 (ts : List T3) (k : Nat) (h : k < ts.length) (n : Nat) (hn : n = ts.length) :
    (ts.take k ++ List.replicate (n - k) ((0 : Int), (0 : Int), (0 : Int))).set k (ts.getD k default) = ts.take (k + 1) ++ List.replicate (n - (k + 1)) (0, 0, 0) := by
  subst hn
  have hl : (ts.take k).length = k := by simp; omega
  rw [show ts.length - k = (ts.length - (k + 1)) + 1 by omega, List.replicate_succ, List.set_append_right _ _ (by omega), hl, Nat.sub_self, List.set_cons_zero,
    List.take_succ_eq_append_getElem h, List.append_assoc]
  simp only [List.cons_append, List.nil_append]
  congr 2
  simp [List.getD_eq_getElem?_getD, h]

theorem beq_drop3 (xs ys : List T3) (k : Nat) (h : k < xs.length) (h' : k < ys.length) : (xs.drop k == ys.drop k) = ((xs.getD k default == ys.getD k default) && (xs.drop (k + 1) == ys.drop (k + 1))) := by
  rw [drop_getD3 xs k h, drop_getD3 ys k h']; rfl

theorem flat_zero : ∀ n : Nat, flat (List.replicate n ((0 : Int), (0 : Int), (0 : Int))) = List.replicate (n * 3) 0
  | 0 => rfl
  | n + 1 => by rw [List.replicate_succ, show (n + 1) * 3 = n * 3 + 1 + 1 + 1 by omega, List.replicate_succ, List.replicate_succ, List.replicate_succ, flat, flat_zero n]

theorem zeros3_eq (n : Nat) : madeCells #[Value.int .i64 0, .int .i64 0, .int .i64 0] (n * 3) = ((flat (List.replicate n ((0 : Int), (0 : Int), (0 : Int)))).map (Value.int .i64)).toArray := by
  apply Array.toList_inj.1
  rw [flat_zero]
  apply List.ext_getElem
  · simp [size_madeCells]
  · intro k h1 h2
    have hk : k % 3 = 0 ∨ k % 3 = 1 ∨ k % 3 = 2 := by omega
    rcases hk with e | e | e <;> simp [madeCells, e]

theorem own_newP (w : World) (T : TypeId) (xs : List Int) : OwnP (w.alloc (.cells (xs.map (Value.int .i64)).toArray T)) w.heap.size T xs :=
  OwnI.ownP (by show (w.heap.push _)[w.heap.size]? = _; simp)

end Go.Proofs.Ytjcoajaoofjjmaa
