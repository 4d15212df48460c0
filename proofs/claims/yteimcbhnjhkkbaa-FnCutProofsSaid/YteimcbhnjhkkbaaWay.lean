/- The way back as the program keeps it: a slice of steps; and plain laws of the way. -/
import Derived.Test.YteimcbhnjhkkbaaCame
import Derived.Test.YteimcbhnjhkkbaaAppL
namespace Go.Proofs.Yteimcbhnjhkkbaa
set_option linter.unusedSimpArgs false
set_option linter.unusedVariables false
open Go.RowKit

/-- The steps over the codes, two cells each. -/
def stepCells : List Int → List Value
  | [] => []
  | c :: l => .int .i64 (c / 2) :: .bool (decide (c % 2 ≠ 0)) :: stepCells l
theorem stepCells_length : ∀ l : List Int, (stepCells l).length = l.length * 2
  | [] => rfl
  | c :: l => by simp [stepCells, stepCells_length l]; omega
theorem stepCells_append : ∀ l m : List Int, stepCells (l ++ m) = stepCells l ++ stepCells m
  | [], m => rfl
  | c :: l, m => by simp [stepCells, stepCells_append l m]
theorem stepCells_get0 : ∀ (l : List Int) (j : Nat), j < l.length → (stepCells l)[j * 2]? = some (.int .i64 (l.getD j 0 / 2))
  | [], j, h => by simp at h
  | c :: l, 0, _ => by simp [stepCells]
  | c :: l, j + 1, h => by
    have := stepCells_get0 l j (by simpa using h)
    rw [show (j + 1) * 2 = j * 2 + 2 by omega]
    simpa [stepCells] using this
theorem stepCells_get1 : ∀ (l : List Int) (j : Nat), j < l.length → (stepCells l)[j * 2 + 1]? = some (.bool (decide (l.getD j 0 % 2 ≠ 0)))
  | [], j, h => by simp at h
  | c :: l, 0, _ => by simp [stepCells]
  | c :: l, j + 1, h => by
    have := stepCells_get1 l j (by simpa using h)
    rw [show (j + 1) * 2 + 1 = j * 2 + 1 + 2 by omega]
    simpa [stepCells] using this
theorem stepCells_one : ∀ (l : List Int), ∀ u ∈ stepCells l, u.oneCell' = true
  | [], u, h => by simp [stepCells] at h
  | c :: l, u, h => by
    simp only [stepCells, List.mem_cons] at h
    rcases h with rfl | rfl | h
    · rfl
    · rfl
    · exact stepCells_one l u h

def OwnsW (base : Nat) (w : World) (v : Value) (l : List Int) : Prop := w.ownsRow base 72 2 v l.length (stepCells l)
theorem OwnsW.nil (base : Nat) (w : World) : OwnsW base w (.slice none 0 0) [] := World.ownsRow_nil w base _ 2
theorem OwnsW.kept {base : Nat} {w w' : World} {v : Value} {xs : List Int} {r : Option Nat} (h : OwnsW base w v xs) (hg : w.grownBy w' r) (hne : v.ownBlock = none ∨ v.ownBlock ≠ r) : OwnsW base w' v xs := World.ownsRow.kept h hg hne
theorem OwnsW.below {base : Nat} {w w' : World} {v : Value} {xs : List Int} (h : OwnsW base w v xs) (hb : Below w.heap.size w w') : OwnsW base w' v xs :=
  World.ownsRow.kept h (row := none) ⟨hb.os, hb.tape, hb.output, hb.size, fun k hk _ => hb.block k hk⟩ (by
    cases hv : v.ownBlock with
    | none => exact .inl rfl
    | some k => exact .inr (by simp))
theorem OwnsW.lt {base : Nat} {w : World} {v : Value} {xs : List Int} (h : OwnsW base w v xs) (k : Nat) (hk : v.ownBlock = some k) : base ≤ k ∧ k < w.heap.size := World.ownsRow.lt h k hk
theorem OwnsW.cases {base : Nat} {w : World} {v : Value} {l : List Int} (h : OwnsW base w v l) :
    (v = .slice none 0 0 ∧ l = []) ∨ ∃ g cap, v = .slice (some ⟨g, 0, none⟩) l.length cap ∧ base ≤ g ∧ ∀ j, j < l.length → w.cell? ⟨g, j * 2, none⟩ = some (.int .i64 (l.getD j 0 / 2)) ∧ w.cell? ⟨g, j * 2 + 1, none⟩ = some (.bool (decide (l.getD j 0 % 2 ≠ 0))) := by
  obtain ⟨h1, h2⟩ := h
  rcases h2 with ⟨hv, hn⟩ | ⟨g, cap, cur, hv, hg, hh, hnc, hm, hcs, ht⟩
  · exact .inl ⟨hv, List.length_eq_zero_iff.1 hn⟩
  · refine .inr ⟨g, cap, hv, hg, fun j hj => ?_⟩
    have G : ∀ i, i < l.length * 2 → cur[i]? = (stepCells l)[i]? := by
      intro i hi
      rw [← ht, List.getElem?_take, if_pos hi]; simp
    rw [cell_of_block hh, cell_of_block hh, G _ (by omega), G _ (by omega)]
    exact ⟨stepCells_get0 l j hj, stepCells_get1 l j hj⟩

theorem infoStep : (Try.prog.info? 72).map (fun i => (i.zero, i.size, i.bytes)) = some (some (.agg #[.int .i64 0, .bool false]), 2, 16) := by kernel_rfl

/-- 'append(way, s)'. -/
theorem appendW {ops : Array Oper} {rest : List Oper} {o : Oper} {a : Act} {Q : Exit → Act → World → Prop} {w : World} (hgd : o.guard = none) (s x : Operand)
    (ho : o.op = .call { callee := .builtin .append, args := #[s, x], argTypes := #[74, 74] })
    (base : Nat) (v : Value) (xs : List Int) (c : Int) (p : Int) (k : Bool) (hp : p = c / 2) (hk : k = decide (c % 2 ≠ 0)) (B : Nat) (hB : B = w.heap.size) (hown : OwnsW base w v xs) (hs : a.eval s = v) (hx : a.eval x = .slice (some ⟨B, 0, none⟩) 1 1)
    (hn : xs.length ≤ 10000000) (hb : base ≤ w.heap.size)
    (h : ∀ v' w', OwnsW base w' v' (xs ++ [c]) → w.grownBy w' v.ownBlock → wpList Try.prog ops Q rest (a.put o.dst v') w') :
    wpList Try.prog ops Q (o :: rest) a (w.alloc (.cells #[.int .i64 p, .bool k] 72)) := by
  subst hB hp hk
  obtain ⟨i0, hi, hz0, hz1, hz2⟩ := info_parts infoStep
  have ht := Try.underlying74
  have hal : w.grownBy (w.alloc (.cells #[.int .i64 (c / 2), .bool (decide (c % 2 ≠ 0))] 72)) v.ownBlock := grownR ((Below.refl _ _).alloc (Nat.le_refl _) _)
  have hbk : (w.alloc (.cells #[.int .i64 (c / 2), .bool (decide (c % 2 ≠ 0))] 72)).heap[w.heap.size]? = some (.cells #[.int .i64 (c / 2), .bool (decide (c % 2 ≠ 0))] 72 (0, 0)) := by
    show (w.heap.push _)[w.heap.size]? = _
    simp
  refine wpList_append_own _ hgd s x 74 ho base 72 i0 (.agg #[.int .i64 0, .bool false]) 2 16 ht hi hz0 hz1 hz2 rfl (by decide) v xs.length (stepCells xs) hs (hown.below ((Below.refl _ _).alloc (Nat.le_refl _) _)) ⟨w.heap.size, 0, none⟩ 1 1 (stepCells [c]) hx (by simp [stepCells]) ?_ ?_ ?_ ?_ ?_ ?_
  · intro j u hj
    match j, hj with
    | 0, hj => simp [stepCells] at hj; subst hj; rw [show (⟨w.heap.size, 0, none⟩ : Addr).add 0 = ⟨w.heap.size, 0, none⟩ from rfl, cell_of_block hbk]; simp
    | 1, hj => simp [stepCells] at hj; subst hj; rw [show (⟨w.heap.size, 0, none⟩ : Addr).add 1 = ⟨w.heap.size, 1, none⟩ from rfl, cell_of_block hbk]; simp
  · exact stepCells_one [c]
  · unfold maxLen; omega
  · omega
  · simp; omega
  · intro v' w' h1 h2 _
    refine h v' w' ?_ (grownBy_trans hal h2)
    unfold OwnsW
    rw [stepCells_append]; simpa using h1

/-! ### plain -/
theorem roomM_snoc (ts : List T3) (fs : List Int) : ∀ (l : List Int) (c r : Int), roomM ts fs (l ++ [c]) r = min (roomM ts fs l r) (roomOf ts fs c)
  | [], c, r => rfl
  | d :: l, c, r => by simp only [List.cons_append, roomM]; exact roomM_snoc ts fs l c _
theorem augM_snoc (r : Int) : ∀ (l fs : List Int) (c : Int), augM r (l ++ [c]) fs = augOne r (augM r l fs) c
  | [], fs, c => rfl
  | d :: l, fs, c => by simp only [List.cons_append, augM]; exact augM_snoc r l _ c
theorem take_snoc (l : List Int) (k : Nat) (h : k < l.length) : l.take (k + 1) = l.take k ++ [l.getD k 0] := by
  rw [List.take_succ_eq_append_getElem h]; simp [List.getD_eq_getElem?_getD, h]

/-- Where the walk back stands at place z behind the codes l. -/
structure WayAt (n : Nat) (ts : List T3) (fs : List Int) (x : Int) (s : St) (y : Int) (l : List Int) (z : Int) : Prop where
  inv : BInv n ts fs x s
  len : l.length ≤ n
  idx : ∃ i, i < s.1.length ∧ i ≤ n - l.length ∧ s.1.getD i 0 = z
  way : wayM ts s.2 x n y = l ++ wayM ts s.2 x (n - l.length) z
  cod : ∀ c ∈ l, 0 ≤ c ∧ (c / 2).toNat < ts.length ∧ 1 ≤ roomOf ts fs c

theorem WayAt.start {n : Nat} {ts : List T3} {fs : List Int} {x y : Int} {s : St} (h : BInv n ts fs x s) (hy : y ∈ s.1) : WayAt n ts fs x s y [] y := by
  obtain ⟨i, hi, e⟩ := mem_getDI hy
  have := nodup_len n s.1 h.nodup h.rng
  exact ⟨h, by simp, ⟨i, hi, by simp; omega, e⟩, by simp, by simp⟩

/-- The walk's next code. -/
theorem WayAt.next {n : Nat} {ts : List T3} {fs : List Int} {x y z : Int} {s : St} {l : List Int} (h : WayAt n ts fs x s y l z) (hz : z ≠ x) :
    z ∈ s.1 ∧ 0 ≤ z ∧ z < n ∧ 0 ≤ s.2.getD z.toNat 0 ∧ (s.2.getD z.toNat 0 / 2).toNat < ts.length ∧ 1 ≤ roomOf ts fs (s.2.getD z.toNat 0) ∧ l.length < n ∧ WayAt n ts fs x s y (l ++ [s.2.getD z.toNat 0]) (prevOf ts (s.2.getD z.toNat 0)) := by
  obtain ⟨hinv, hlen, ⟨i, hi, hil, rfl⟩, hway, hcod⟩ := h
  have hm := getD_memI hi
  have hr := hinv.rng _ hm
  obtain ⟨j, hji, hjl, e, hw⟩ := wayM_step hinv hi hil hz
  obtain ⟨a, b, _, d, _⟩ := step_parts (hinv.step i (by omega) hi)
  refine ⟨hm, hr.1, hr.2, a, b, d, by omega, hinv, by simp; omega, ⟨j, by omega, by simp; omega, e⟩, ?_, ?_⟩
  · rw [hway, hw, e, List.append_assoc]
    simp only [List.length_append, List.length_singleton, List.cons_append, List.nil_append]
    rw [show n - (l.length + 1) = n - l.length - 1 by omega]
  · intro c hc
    rcases List.mem_append.1 hc with hc | hc
    · exact hcod c hc
    · simp at hc; subst hc; exact ⟨a, b, d⟩

/-- At the start the way is whole. -/
theorem WayAt.done {n : Nat} {ts : List T3} {fs : List Int} {x y : Int} {s : St} {l : List Int} (h : WayAt n ts fs x s y l x) : wayM ts s.2 x n y = l := by
  have := h.way
  rw [this]
  cases n - l.length with
  | zero => simp [wayM]
  | succ m => simp [wayM]

theorem room_bd {ts : List T3} {fs : List Int} {l : List Int} (h : ∀ c ∈ l, 1 ≤ roomOf ts fs c) : 1 ≤ roomM ts fs l 1000 ∧ roomM ts fs l 1000 ≤ 1000 := by
  have := roomM_spec ts fs l 1000 (by omega) (by omega) h
  exact ⟨this.1, this.2.1⟩

/-- While the flow is laid along the way its numbers stay small. -/
theorem aug_bd {ts : List T3} {fs : List Int} {l : List Int} {r : Int} (hf : fitsP ts fs) (hw : ∀ t ∈ ts, t.2.2 ≤ 1000) (hn : l.Nodup) (hc : ∀ c ∈ l, 0 ≤ c ∧ (c / 2).toNat < ts.length) (h1 : 1 ≤ r) (h2 : r ≤ 1000) (k j : Nat) (hj : j < ts.length) :
    -1000 ≤ (augM r (l.take k) fs).getD j 0 ∧ (augM r (l.take k) fs).getD j 0 ≤ 2000 := by
  have hsub : List.Sublist (l.take k) l := List.take_sublist _ _
  rw [aug_getD r j (l.take k) fs (hsub.nodup hn) (fun c hc' => by have := hc c (hsub.subset hc'); have := hf.1; omega)]
  have b := hf.2 j hj
  have := hw (ts.getD j default) (by simp [List.getD_eq_getElem?_getD, hj])
  split <;> split <;> omega

end Go.Proofs.Yteimcbhnjhkkbaa
