/- A drawn region that ends in 'out = append(out, x)', out a slice of the call's own. -/
import Derived.Test.YtnemccmjaanmnaaApp
namespace Go.Proofs.Ytnemccmjaanmnaa
set_option linter.unusedSimpArgs false
set_option linter.unusedVariables false
open Go.RowKit

/-- Below block B the world is as it was. -/
def grewB (w : World) (B : Nat) (p : Rg) : World := { w with heap := w.heap.extract 0 B ++ p.os, drawn := p.d }

abbrev InB (w0 : World) (B : Nat) (w : World) : Prop := ∃ p : Rg, w = grewB w0 B p

theorem block_grewB (w : World) (B : Nat) (p : Rg) (hB : B ≤ w.heap.size) (k : Nat) (hk : k < B) : (grewB w B p).heap[k]? = w.heap[k]? := by
  simp only [grewB]
  rw [Array.getElem?_append_left (by simp; omega), Array.getElem?_extract]
  simp [hk]
  omega

theorem cell_grewB (w : World) (B : Nat) (p : Rg) (b o : Nat) (hB : B ≤ w.heap.size) (h : b < B) : (grewB w B p).cell? ⟨b, o, none⟩ = w.cell? ⟨b, o, none⟩ :=
  World.cell?_of_block (w := w) (block_grewB w B p hB b h)

theorem inB_of {w w' : World} {B : Nat} (h1 : w'.os = w.os) (h2 : w'.tape = w.tape) (h3 : w'.output = w.output) (h4 : B ≤ w'.heap.size) (h5 : ∀ k, k < B → w'.heap[k]? = w.heap[k]?) : InB w B w' := by
  refine ⟨⟨w'.drawn, w'.heap.extract B w'.heap.size⟩, ?_⟩
  obtain ⟨heap', tape', drawn', os', output'⟩ := w'
  simp only at h1 h2 h3 h4 h5
  subst h1 h2 h3
  simp only [grewB]
  congr 1
  apply Array.ext_getElem?
  intro k
  by_cases hk : k < B
  · rw [h5 k hk]
    by_cases hk2 : k < w.heap.size
    · rw [Array.getElem?_append_left (by simp; omega), Array.getElem?_extract]; simp [hk]; omega
    · have e := h5 k hk
      rw [Array.getElem?_eq_none (show w.heap.size ≤ k by omega)] at e
      have : k < heap'.size := by omega
      simp [this] at e
  · have hs : w.heap.size < B ∨ B ≤ w.heap.size := by omega
    rcases hs with hs | hs
    · exfalso
      have e := h5 w.heap.size hs
      rw [Array.getElem?_eq_none (Nat.le_refl _)] at e
      have : w.heap.size < heap'.size := by omega
      simp [this] at e
    · have hl : (w.heap.extract 0 B).size = B := by simp; omega
      rw [Array.getElem?_append_right (by omega), Array.getElem?_extract, hl]
      by_cases hk2 : k < heap'.size
      · rw [if_pos (by omega)]; congr 1; omega
      · rw [if_neg (by omega), Array.getElem?_eq_none (by omega)]

theorem inB_below {w w' : World} {B : Nat} (hB : B ≤ w.heap.size) (h : Below B w w') : InB w B w' :=
  inB_of h.os h.tape h.output (Nat.le_trans hB h.size) h.block

theorem inB_parts {w w' : World} {B : Nat} (hB : B ≤ w.heap.size) (h : InB w B w') : w'.os = w.os ∧ w'.tape = w.tape ∧ w'.output = w.output ∧ B ≤ w'.heap.size ∧ ∀ k, k < B → w'.heap[k]? = w.heap[k]? := by
  obtain ⟨p, rfl⟩ := h
  exact ⟨rfl, rfl, rfl, by simp [grewB]; omega, fun k hk => block_grewB w B p hB k hk⟩

theorem inB_step {w w' w'' : World} {B : Nat} (hB : B ≤ w.heap.size) (h : InB w B w') (hb : Below B w' w'') : InB w B w'' := by
  obtain ⟨h1, h2, h3, h4, h5⟩ := inB_parts hB h
  exact inB_of (hb.os.trans h1) (hb.tape.trans h2) (hb.output.trans h3) (Nat.le_trans h4 hb.size) (fun k hk => (hb.block k hk).trans (h5 k hk))

theorem up_inB {w : World} {B : Nat} (hB : B ≤ w.heap.size) : Up (InB w B) := fun w' w'' h hb => by
  obtain ⟨h1, h2, h3, h4, h5⟩ := inB_parts hB h
  exact inB_step hB h (hb.mono h4)

section
variable {P : Program} {ops : Array Oper} {U : World → Prop} {Q : Act → (World → Prop) → Prop} {a : Act} {o : Oper} {rest : List Oper} {F : World → Prop}

theorem wpT_pureU {v : Value} (hU : Up F) (hg : o.guard = none) (hrun : ∀ w, (execOp a.eval o).run P w = .ok (.value v) w) (h : wpT P ops U Q rest (a.put o.dst v) F) : wpT P ops U Q (o :: rest) a F := by
  refine wpT_step fun K hK => ?_
  rw [if_pos (by simp [Region.wanted, hg])]
  refine ⟨(· = v), fun _ => F, fun _ _ => hU, fun w hC hF => ?_, fun u hu => by subst hu; exact hK _ _ h⟩
  unfold mAt
  rw [hrun w]
  exact ⟨rfl, hC, hF⟩
end

/-- What is known of the slice that is appended to. -/
def OwnF (w0 : World) (B base : Nat) (v : Value) (xs : List Int) (w : World) : Prop := Below B w0 w ∧ OwnsE base w v xs

theorem up_ownF {w0 : World} {B base : Nat} (hB : B ≤ w0.heap.size) (v : Value) (xs : List Int) : Up (OwnF w0 B base v xs) :=
  fun w w' h hb => ⟨h.1.trans (hb.mono (Nat.le_trans hB h.1.size)), h.2.below hb⟩


end Go.Proofs.Ytnemccmjaanmnaa
