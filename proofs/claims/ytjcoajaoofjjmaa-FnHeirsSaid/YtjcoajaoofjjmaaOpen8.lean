/- A slice of bytes that comes in as an argument, opened. -/
import Derived.Test.YtjcoajaoofjjmaaCur
import Derived.OpenShut
namespace Go.Proofs.Ytjcoajaoofjjmaa
set_option linter.unusedSimpArgs false
set_option linter.unusedVariables false
open Go.RowKit Go.ChangeShapes Go.WideShapes

section
variable {H : Type} {enc : TypeId × Value → H} {P : Program} {w : World} {base : Nat} {spare : Nat → Bool} {held : Bool}

theorem open_bytes8 {t e : TypeId} {fuel : Nat} {a : Option Addr} {len cap : Nat} {x : DataW H × List MemPlace} (ht : P.underlying t = some (.slice e)) (he : P.underlying e = some (.int .u8)) (hc : P.cellsOf e = 1)
    (h : DataW.trod enc P w base spare held fuel t [.slice a len cap] = some x) : ∃ bs : List Int, Rd8 w a bs ∧ bs.length = len ∧ len ≤ 9223372036854775807 := by
  rcases open_ints ht he hc h with ⟨hcs, _⟩ | ⟨b, l, c, zs, hcs, _, hl, hm, hz, _, hcell, hwz⟩
  · simp at hcs
    obtain ⟨rfl, rfl, rfl⟩ := hcs
    exact ⟨[], fun j hj => by simp at hj, rfl, by omega⟩
  · simp at hcs
    obtain ⟨rfl, rfl, rfl⟩ := hcs
    unfold maxLen at hm
    have hzl : len ≤ zs.length := by rw [hz]; split <;> omega
    refine ⟨zs.take len, fun j hj => ?_, by simp; omega, by omega⟩
    have hj' : j < len := by simp at hj; omega
    obtain ⟨bb, off, spot⟩ := b
    have h0 := hcell 0 (by omega)
    have hs : spot = none := by simpa [Addr.add] using World.cell?_spot h0
    subst hs
    have h1 := hcell j (by omega)
    have e : (zs.take len).getD j 0 = zs.getD j 0 := by simp [List.getD_eq_getElem?_getD, List.getElem?_take, hj']
    have hmem : zs.getD j 0 ∈ zs := getD_mem' (by omega)
    have hw := hwz _ hmem
    refine ⟨bb, off, rfl, ?_, ?_⟩
    · rw [e]
      simp only [Addr.add] at h1
      split at h1
      · rename_i h2; subst h2; simpa using h1
      · exact h1
    · rw [e]; simpa [Lit.wf, IntKind.min, IntKind.max, IntKind.signed, IntKind.bits] using hw
end

end Go.Proofs.Ytjcoajaoofjjmaa
