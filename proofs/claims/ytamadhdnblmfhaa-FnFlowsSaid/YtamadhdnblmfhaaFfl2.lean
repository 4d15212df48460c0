/- FindFlow: the reference's. -/
import Derived.Test.YtamadhdnblmfhaaFfl
import Derived.Test.YtamadhdnblmfhaaSrch
namespace Go.Proofs.Ytamadhdnblmfhaa
set_option linter.unusedSimpArgs false
set_option linter.unusedVariables false
open Go.RowKit

theorem way_less {n : Nat} {ts : List T3} {fs : List Int} {x z : Int} {s : St} (h : BInv n ts fs x s) (hm : z ∈ s.1) (hz : z ≠ x) : s.1.idxOf (prevOf ts (s.2.getD z.toNat 0)) < s.1.idxOf z := by
  obtain ⟨i, hi, rfl⟩ := mem_getDI hm
  obtain ⟨j, hji, _, e, _⟩ := wayM_step (n := i) h hi (Nat.le_refl _) hz
  have I : ∀ k, k < s.1.length → s.1.idxOf (s.1.getD k 0) = k := fun k hk => by
    simp only [List.getD_eq_getElem?_getD, List.getElem?_eq_getElem hk, Option.getD_some]
    exact h.nodup.idxOf_getElem k hk
  rw [← e, I i hi, I j (by omega)]
  exact hji

theorem WayAt.prefix_ {n : Nat} {ts : List T3} {fs : List Int} {x y z : Int} {s : St} {l : List Int} (h : WayAt n ts fs x s y l z) (hy : y ∈ s.1) : ∃ W : List Int, W.Nodup ∧ (∀ c ∈ W, 0 ≤ c ∧ (c / 2).toNat < ts.length) ∧ l = W.take l.length := by
  obtain ⟨j, hj, e⟩ := mem_getDI hy
  have hl := nodup_len n s.1 h.inv.nodup h.inv.rng
  refine ⟨wayM ts s.2 x n y, ?_, ?_, ?_⟩
  · have := (wayM_spec h.inv j n hj (by omega)).1
    rw [e] at this; exact this
  · intro c hc
    rw [← e] at hc
    have := way_codes h.inv hj (by omega) c hc
    exact ⟨this.1, this.2.1⟩
  · rw [h.way]; simp


end Go.Proofs.Ytamadhdnblmfhaa
