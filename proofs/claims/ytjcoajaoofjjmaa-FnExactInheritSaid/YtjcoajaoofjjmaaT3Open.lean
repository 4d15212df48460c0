/- A slice of structs of three ints that comes in as an argument, opened. -/
import Derived.Test.YtjcoajaoofjjmaaT3
import Derived.Deep.Slices
import Derived.Deep.Strs
import Derived.ChangeSame
namespace Go.Proofs.Ytjcoajaoofjjmaa
set_option linter.unusedSimpArgs false
set_option linter.unusedVariables false
open Go.RowKit Go.ChangeShapes Go.WideShapes Go.Deep

section
variable {H : Type} {enc : TypeId × Value → H} {P : Program} {w : World} {base : Nat} {spare : Nat → Bool} {held : Bool}

theorem add_two {a : Addr} (hs : a.spot = none) (i j : Nat) : (a.add i).add j = ⟨a.block, a.off + i + j, none⟩ := by
  obtain ⟨b, o, s⟩ := a
  simp only at hs
  subst hs
  simp only [Addr.add]
  split <;> split <;> simp_all

/-- Where each element reads as three numbers. -/
theorem open_rows3 {t e : TypeId} {fuel : Nat} {a : Option Addr} {len cap : Nat} {x : DataW H × List MemPlace} (ht : P.underlying t = some (.slice e)) (hC : P.cellsOf e = 3)
    (hel : ∀ (n : Nat) (cs : List Value) (d : DataW H × List MemPlace), cs.length = 3 → DataW.trod enc P w base spare held n e cs = some d → ∃ x y z : Int, cs = [.int .i64 x, .int .i64 y, .int .i64 z])
    (h : DataW.trod enc P w base spare held fuel t [.slice a len cap] = some x) : ∃ ts : List T3, Rd3 w a ts ∧ ts.length = len ∧ len ≤ 9223372036854775807 := by
  rcases open_slice ht h with ⟨hcs, _⟩ | ⟨b, l, c, m, n, D, Pl, hcs, _, hl, hm, hmm, _, hi⟩
  · simp at hcs
    obtain ⟨rfl, rfl, rfl⟩ := hcs
    exact ⟨[], fun j hj => by simp at hj, rfl, by omega⟩
  · simp at hcs
    obtain ⟨rfl, rfl, rfl⟩ := hcs
    unfold maxLen at hm
    have hml : len ≤ m := by rw [hmm]; split <;> omega
    obtain ⟨V, hV⟩ := choose_lt (α := T3) (n := m) (p := fun i v => ∀ j, j < 3 → w.cell? ((b.add (i * 3)).add j) = [Value.int .i64 v.1, .int .i64 v.2.1, .int .i64 v.2.2][j]?) (fun i him => by
      obtain ⟨cs', hc, hd⟩ := hi i him
      rw [hC] at hc
      obtain ⟨_, h3, hcell⟩ := World.cells?_some hc
      obtain ⟨x, y, z, rfl⟩ := hel _ _ _ h3 hd
      exact ⟨(x, y, z), hcell⟩)
    refine ⟨(List.range len).map V, fun j hj => ?_, by simp, by omega⟩
    have hj' : j < len := by simpa using hj
    have hx : ((List.range len).map V).getD j default = V j := by simp [List.getD_eq_getElem?_getD, hj']
    rw [hx]
    have h0 := hV j (by omega) 0 (by omega)
    have h1 := hV j (by omega) 1 (by omega)
    have h2 := hV j (by omega) 2 (by omega)
    have hs : b.spot = none := by
      have hh := hV 0 (by omega) 0 (by omega)
      rw [show b.add (0 * 3) = b from rfl, show b.add 0 = b from rfl] at hh
      exact World.cell?_spot hh
    rw [add_two hs] at h0 h1 h2
    exact ⟨b.block, b.off, by obtain ⟨bb, bo, bs⟩ := b; simp only at hs; subst hs; rfl, by simpa using h0, by simpa using h1, by simpa using h2⟩

theorem open_rows3v {t e : TypeId} {fuel : Nat} {v : Value} {x : DataW H × List MemPlace} (ht : P.underlying t = some (.slice e)) (hC : P.cellsOf e = 3)
    (hel : ∀ (n : Nat) (cs : List Value) (d : DataW H × List MemPlace), cs.length = 3 → DataW.trod enc P w base spare held n e cs = some d → ∃ x y z : Int, cs = [.int .i64 x, .int .i64 y, .int .i64 z])
    (h : DataW.trod enc P w base spare held fuel t [v] = some x) : ∃ (a : Option Addr) (cap : Nat) (ts : List T3), v = .slice a ts.length cap ∧ Rd3 w a ts ∧ ts.length ≤ 9223372036854775807 := by
  have hv : ∃ a len cap, v = .slice a len cap := by
    rcases open_slice ht h with ⟨hcs, _⟩ | ⟨b, l, c, m, n, D, Pl, hcs, _⟩
    · simp at hcs; exact ⟨_, _, _, hcs⟩
    · simp at hcs; exact ⟨_, _, _, hcs⟩
  obtain ⟨a, len, cap, rfl⟩ := hv
  obtain ⟨ts, h1, h2, h3⟩ := open_rows3 ht hC hel h
  subst h2
  exact ⟨a, cap, ts, rfl, h1, h3⟩

theorem elem3 {e : TypeId} {f0 f1 f2 : Field} (he : P.underlying e = some (.struct #[f0, f1, f2])) (u0 : P.underlying f0.type = some (.int .i64)) (u1 : P.underlying f1.type = some (.int .i64)) (u2 : P.underlying f2.type = some (.int .i64))
    (o : f0.offset = 0 ∧ f1.offset = 1 ∧ f2.offset = 2) (c : P.cellsOf f0.type = 1 ∧ P.cellsOf f1.type = 1 ∧ P.cellsOf f2.type = 1)
    (n : Nat) (cs : List Value) (d : DataW H × List MemPlace) (hl : cs.length = 3) (h : DataW.trod enc P w base spare held n e cs = some d) : ∃ x y z : Int, cs = [.int .i64 x, .int .i64 y, .int .i64 z] := by
  obtain ⟨y0, y1, y2, m, _, _, h0, h1, h2⟩ := trod_struct3 he h
  rw [o.1, c.1] at h0
  rw [o.2.1, c.2.1] at h1
  rw [o.2.2, c.2.2] at h2
  match cs, hl with
  | [c0, c1, c2], _ =>
    obtain ⟨x, hx, _⟩ := DataW.trod_int u0 h0
    obtain ⟨y, hy, _⟩ := DataW.trod_int u1 h1
    obtain ⟨z, hz, _⟩ := DataW.trod_int u2 h2
    simp at hx hy hz
    subst hx hy hz
    exact ⟨x, y, z, rfl⟩

/-- A struct of an int and a struct of two ints. -/
theorem elem12 {e : TypeId} {f0 f1 g0 g1 : Field} (he : P.underlying e = some (.struct #[f0, f1])) (he' : P.underlying f1.type = some (.struct #[g0, g1])) (u0 : P.underlying f0.type = some (.int .i64)) (u1 : P.underlying g0.type = some (.int .i64)) (u2 : P.underlying g1.type = some (.int .i64))
    (o : f0.offset = 0 ∧ f1.offset = 1 ∧ g0.offset = 0 ∧ g1.offset = 1) (c : P.cellsOf f0.type = 1 ∧ P.cellsOf f1.type = 2 ∧ P.cellsOf g0.type = 1 ∧ P.cellsOf g1.type = 1)
    (n : Nat) (cs : List Value) (d : DataW H × List MemPlace) (hl : cs.length = 3) (h : DataW.trod enc P w base spare held n e cs = some d) : ∃ x y z : Int, cs = [.int .i64 x, .int .i64 y, .int .i64 z] := by
  obtain ⟨y0, y1, m, _, _, h0, h1⟩ := trod_struct2 he h
  rw [o.1, c.1] at h0
  rw [o.2.1, c.2.1] at h1
  match cs, hl with
  | [c0, c1, c2], _ =>
    obtain ⟨z0, z1, m', _, _, k0, k1⟩ := trod_struct2 he' h1
    rw [o.2.2.1, c.2.2.1] at k0
    rw [o.2.2.2, c.2.2.2] at k1
    obtain ⟨x, hx, _⟩ := DataW.trod_int u0 h0
    obtain ⟨y, hy, _⟩ := DataW.trod_int u1 k0
    obtain ⟨z, hz, _⟩ := DataW.trod_int u2 k1
    simp at hx hy hz
    subst hx hy hz
    exact ⟨x, y, z, rfl⟩
end

end Go.Proofs.Ytjcoajaoofjjmaa
