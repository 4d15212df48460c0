/- A drawn region that ends in 'out = append(out, x)', out a slice of the call's own. -/
import Derived.Test.YtjcoajaoofjjmaaApp
namespace Go.Proofs.Ytjcoajaoofjjmaa
set_option linter.unusedSimpArgs false
set_option linter.unusedVariables false
open Go.RowKit

/-- Below block B the world is as it was. -/
def grewB (w : World) (B : Nat) (p : Rg) : World := { w with heap := w.heap.extract 0 B ++ p.os, drawn := p.d }

abbrev InB (w0 : World) (B : Nat) (w : World) : Prop := ∃ p : Rg, w = grewB w0 B p

theorem block_grewB (w : World) (B : Nat) (p : Rg) (hB : B ≤ w.heap.size) (k : Nat) (hk : k < B) : (grewB w B p).heap[k]? = w.heap[k]? := by
  simp only [grewB]
  rw [Array.getElem?_append_left (by simp; omega), Array.getElem?_extract]
  simp [hk]
  omega

theorem cell_grewB (w : World) (B : Nat) (p : Rg) (b o : Nat) (hB : B ≤ w.heap.size) (h : b < B) : (grewB w B p).cell? ⟨b, o, none⟩ = w.cell? ⟨b, o, none⟩ :=
  World.cell?_of_block (w := w) (block_grewB w B p hB b h)

theorem inB_of {w w' : World} {B : Nat} (h1 : w'.os = w.os) (h2 : w'.tape = w.tape) (h3 : w'.output = w.output) (h4 : B ≤ w'.heap.size) (h5 : ∀ k, k < B → w'.heap[k]? = w.heap[k]?) : InB w B w' := by
  refine ⟨⟨w'.drawn, w'.heap.extract B w'.heap.size⟩, ?_⟩
  obtain ⟨heap', tape', drawn', os', output'⟩ := w'
  simp only at h1 h2 h3 h4 h5
  subst h1 h2 h3
  simp only [grewB]
  congr 1
  apply Array.ext_getElem?
  intro k
  by_cases hk : k < B
  · rw [h5 k hk]
    by_cases hk2 : k < w.heap.size
    · rw [Array.getElem?_append_left (by simp; omega), Array.getElem?_extract]; simp [hk]; omega
    · have e := h5 k hk
      rw [Array.getElem?_eq_none (show w.heap.size ≤ k by omega)] at e
      have : k < heap'.size := by omega
      simp [this] at e
  · have hs : w.heap.size < B ∨ B ≤ w.heap.size := by omega
    rcases hs with hs | hs
    · exfalso
      have e := h5 w.heap.size hs
      rw [Array.getElem?_eq_none (Nat.le_refl _)] at e
      have : w.heap.size < heap'.size := by omega
      simp [this] at e
    · have hl : (w.heap.extract 0 B).size = B := by simp; omega
      rw [Array.getElem?_append_right (by omega), Array.getElem?_extract, hl]
      by_cases hk2 : k < heap'.size
      · rw [if_pos (by omega)]; congr 1; omega
      · rw [if_neg (by omega), Array.getElem?_eq_none (by omega)]

theorem inB_below {w w' : World} {B : Nat} (hB : B ≤ w.heap.size) (h : Below B w w') : InB w B w' :=
  inB_of h.os h.tape h.output (Nat.le_trans hB h.size) h.block

theorem inB_parts {w w' : World} {B : Nat} (hB : B ≤ w.heap.size) (h : InB w B w') : w'.os = w.os ∧ w'.tape = w.tape ∧ w'.output = w.output ∧ B ≤ w'.heap.size ∧ ∀ k, k < B → w'.heap[k]? = w.heap[k]? := by
  obtain ⟨p, rfl⟩ := h
  exact ⟨rfl, rfl, rfl, by simp [grewB]; omega, fun k hk => block_grewB w B p hB k hk⟩

theorem inB_step {w w' w'' : World} {B : Nat} (hB : B ≤ w.heap.size) (h : InB w B w') (hb : Below B w' w'') : InB w B w'' := by
  obtain ⟨h1, h2, h3, h4, h5⟩ := inB_parts hB h
  exact inB_of (hb.os.trans h1) (hb.tape.trans h2) (hb.output.trans h3) (Nat.le_trans h4 hb.size) (fun k hk => (hb.block k hk).trans (h5 k hk))

theorem up_inB {w : World} {B : Nat} (hB : B ≤ w.heap.size) : Up (InB w B) := fun w' w'' h hb => by
  obtain ⟨h1, h2, h3, h4, h5⟩ := inB_parts hB h
  exact inB_step hB h (hb.mono h4)

section
variable {P : Program} {ops : Array Oper} {U : World → Prop} {Q : Act → (World → Prop) → Prop} {a : Act} {o : Oper} {rest : List Oper} {F : World → Prop}

theorem wpT_pureU {v : Value} (hU : Up F) (hg : o.guard = none) (hrun : ∀ w, (execOp a.eval o).run P w = .ok (.value v) w) (h : wpT P ops U Q rest (a.put o.dst v) F) : wpT P ops U Q (o :: rest) a F := by
  refine wpT_step fun K hK => ?_
  rw [if_pos (by simp [Region.wanted, hg])]
  refine ⟨(· = v), fun _ => F, fun _ _ => hU, fun w hC hF => ?_, fun u hu => by subst hu; exact hK _ _ h⟩
  unfold mAt
  rw [hrun w]
  exact ⟨rfl, hC, hF⟩
end

/-- What is known of the slice that is appended to. -/
def OwnF (w0 : World) (B base : Nat) (v : Value) (xs : List Int) (w : World) : Prop := Below B w0 w ∧ OwnsE base w v xs

theorem up_ownF {w0 : World} {B base : Nat} (hB : B ≤ w0.heap.size) (v : Value) (xs : List Int) : Up (OwnF w0 B base v xs) :=
  fun w w' h hb => ⟨h.1.trans (hb.mono (Nat.le_trans hB h.1.size)), h.2.below hb⟩

theorem wpT_app {ops : Array Oper} {w0 : World} {B base : Nat} {Q : Act → (World → Prop) → Prop} {a : Act} {o1 o2 : Oper} {rest : List Oper} {v : Value} {xs : List Int} {y : Int}
    (hB : B ≤ w0.heap.size) (hb : B ≤ base) (hbase : base ≤ w0.heap.size) (hn : xs.length ≤ 100000000) (hg1 : o1.guard = none) (hg2 : o2.guard = none)
    (hrun : ∀ w, (execOp a.eval o1).run Try.prog w = .ok (.value (.slice (some ⟨w.heap.size, 0, none⟩) 1 1)) (w.alloc (.cells #[.int .i64 y] 3)))
    (s x : Operand) (ho : o2.op = .call { callee := .builtin .append, args := #[s, x], argTypes := #[35, 35] })
    (hs : ∀ b : Nat, (a.put o1.dst (.slice (some ⟨b, 0, none⟩) 1 1)).eval s = v) (hx : ∀ b : Nat, (a.put o1.dst (.slice (some ⟨b, 0, none⟩) 1 1)).eval x = .slice (some ⟨b, 0, none⟩) 1 1)
    (h : ∀ (b : Nat) v', wpT Try.prog ops (InB w0 B) Q rest ((a.put o1.dst (.slice (some ⟨b, 0, none⟩) 1 1)).put o2.dst v') (OwnF w0 B base v' (xs ++ [y]))) :
    wpT Try.prog ops (InB w0 B) Q (o1 :: o2 :: rest) a (OwnF w0 B base v xs) := by
  refine wpT_step fun K hK => ?_
  rw [if_pos (by simp [Region.wanted, hg1])]
  refine ⟨fun u => ∃ b : Nat, u = .slice (some ⟨b, 0, none⟩) 1 1, fun u w => OwnF w0 B base v xs w ∧ ∀ b, u = .slice (some ⟨b, 0, none⟩) 1 1 → w.heap[b]? = some (.cells #[.int .i64 y] 3 (0, 0)), fun u _ w w' hw hb' => ⟨up_ownF hB v xs _ _ hw.1 hb', fun b hb'' => heap_grow (hw.2 b hb'') hb'⟩, fun w hC hF => ?_, fun u hu => ?_⟩
  · unfold mAt
    rw [hrun w]
    have hal : Below w.heap.size w (w.alloc (.cells #[.int .i64 y] 3)) := (Below.refl _ _).alloc (Nat.le_refl _) _
    refine ⟨⟨_, rfl⟩, up_inB hB _ _ hC hal, up_ownF hB v xs _ _ hF hal, fun b hb' => ?_⟩
    have : w.heap.size = b := by injection hb' with h1; injection h1 with h1; injection h1
    subst this
    show (w.heap.push _)[w.heap.size]? = _
    simp
  · obtain ⟨b, rfl⟩ := hu
    refine hK _ _ ?_
    refine wpT_step fun K' hK' => ?_
    rw [if_pos (by simp [Region.wanted, hg2])]
    refine ⟨fun _ => True, fun v' w => OwnF w0 B base v' (xs ++ [y]) w, fun v' _ => up_ownF hB v' _, fun w hC hF => ?_, fun v' _ => hK' _ _ (h b v')⟩
    obtain ⟨⟨hbel, hown⟩, hblk⟩ := hF
    have hbl := hblk b rfl
    obtain ⟨v', w', hrun', hown', hbw'⟩ := run_app1 o2.type y b hown hn (Nat.le_trans hbase hbel.size) hbl
    have hbw : Below B w w' := hbw'.mono hb
    unfold mAt
    have hrr : (execOp (a.put o1.dst (.slice (some ⟨b, 0, none⟩) 1 1)).eval o2).run Try.prog w = .ok (.value v') w' := by
      unfold execOp
      simp only [ho, resolve, invoke, builtin, Sem.run_bind, Sem.run_pure, Result.andThen_ok, List.map_toArray, List.map_cons, List.map_nil, hs, hx, hrun']
    rw [hrr]
    exact ⟨trivial, inB_step hB hC hbw, hbel.trans hbw, .inl hown'⟩

end Go.Proofs.Ytjcoajaoofjjmaa
