/- Slices of ints that a call makes itself: appended to, handed back. -/
import Derived.Test.YtnemccmjaanmnaaInts2
import Derived.ArgAppend
namespace Go.Proofs.Ytnemccmjaanmnaa
set_option linter.unusedSimpArgs false
set_option linter.unusedVariables false
open Go.RowKit

/-- v is a slice of the numbers xs that the call itself made (its blocks from base on). -/
def OwnsI (base : Nat) (w : World) (v : Value) (xs : List Int) : Prop := w.ownsRow base 3 1 v xs.length (xs.map (Value.int .i64))

theorem OwnsI.nil (base : Nat) (w : World) : OwnsI base w (.slice none 0 0) [] := World.ownsRow_nil w base _ 1
theorem OwnsI.empty (base : Nat) (w : World) (h : base ≤ w.heap.size) : OwnsI base (w.alloc (.cells #[] 3)) (.slice (some ⟨w.heap.size, 0, none⟩) 0 0) [] :=
  World.ownsRow_made w #[] 0 h (by unfold maxLen; omega) rfl
theorem OwnsI.below {base : Nat} {w w' : World} {v : Value} {xs : List Int} (h : OwnsI base w v xs) (hb : Below w.heap.size w w') : OwnsI base w' v xs :=
  World.ownsRow.kept h (row := none) ⟨hb.os, hb.tape, hb.output, hb.size, fun k hk _ => hb.block k hk⟩ (by
    cases hv : v.ownBlock with
    | none => exact .inl rfl
    | some k => exact .inr (by simp))
theorem OwnsI.mono {base base' : Nat} {w : World} {v : Value} {xs : List Int} (h : OwnsI base w v xs) (hb : base' ≤ base) : OwnsI base' w v xs := by
  obtain ⟨h1, h2⟩ := h
  refine ⟨h1, h2.imp id ?_⟩
  rintro ⟨g, cap, cur, hv, hg, r⟩
  exact ⟨g, cap, cur, hv, by omega, r⟩

/-- Nil and empty, or at the head of a block of the call's own. -/
theorem OwnsI.cases {base : Nat} {w : World} {v : Value} {xs : List Int} (h : OwnsI base w v xs) :
    (v = .slice none 0 0 ∧ xs = []) ∨ ∃ g cap, v = .slice (some ⟨g, 0, none⟩) xs.length cap ∧ base ≤ g ∧ OwnP w g 3 xs := by
  obtain ⟨h1, h2⟩ := h
  rcases h2 with ⟨hv, hn⟩ | ⟨g, cap, cur, hv, hg, hh, hnc, hm, hcs, ht⟩
  · exact .inl ⟨hv, List.length_eq_zero_iff.1 hn⟩
  · exact .inr ⟨g, cap, hv, hg, cur.toList, by simpa using hh, by simpa using ht⟩

theorem OwnsI.slice {base : Nat} {w : World} {v : Value} {xs : List Int} (h : OwnsI base w v xs) : ∃ a cap, v = .slice a xs.length cap ∧ Rd w a xs := by
  rcases h.cases with ⟨hv, hx⟩ | ⟨g, cap, hv, _, ho⟩
  · subst hx; exact ⟨none, 0, hv, fun j hj => by simp at hj⟩
  · exact ⟨_, cap, hv, ho.rd⟩

theorem OwnsI.lt {base : Nat} {w : World} {v : Value} {xs : List Int} (h : OwnsI base w v xs) (k : Nat) (hk : v.ownBlock = some k) : base ≤ k ∧ k < w.heap.size := World.ownsRow.lt h k hk


/-- v is a slice of the numbers xs that the call itself made, or an empty one without room (whose block is never written). -/
def OwnsE (base : Nat) (w : World) (v : Value) (xs : List Int) : Prop := OwnsI base w v xs ∨ (xs = [] ∧ ∃ g, v = .slice (some ⟨g, 0, none⟩) 0 0)

theorem OwnsE.below {base : Nat} {w w' : World} {v : Value} {xs : List Int} (h : OwnsE base w v xs) (hb : Below w.heap.size w w') : OwnsE base w' v xs := h.imp (·.below hb) id


end Go.Proofs.Ytnemccmjaanmnaa
