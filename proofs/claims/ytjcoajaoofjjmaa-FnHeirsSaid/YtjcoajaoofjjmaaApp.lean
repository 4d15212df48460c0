/- Slices of ints that a call makes itself: appended to, handed back. -/
import Derived.Test.YtjcoajaoofjjmaaInts2
import Derived.ArgAppend
namespace Go.Proofs.Ytjcoajaoofjjmaa
set_option linter.unusedSimpArgs false
set_option linter.unusedVariables false
open Go.RowKit

/-- v is a slice of the numbers xs that the call itself made (its blocks from base on). -/
def OwnsI (base : Nat) (w : World) (v : Value) (xs : List Int) : Prop := w.ownsRow base 3 1 v xs.length (xs.map (Value.int .i64))

theorem OwnsI.nil (base : Nat) (w : World) : OwnsI base w (.slice none 0 0) [] := World.ownsRow_nil w base _ 1
theorem OwnsI.empty (base : Nat) (w : World) (h : base ≤ w.heap.size) : OwnsI base (w.alloc (.cells #[] 3)) (.slice (some ⟨w.heap.size, 0, none⟩) 0 0) [] :=
  World.ownsRow_made w #[] 0 h (by unfold maxLen; omega) rfl
theorem OwnsI.below {base : Nat} {w w' : World} {v : Value} {xs : List Int} (h : OwnsI base w v xs) (hb : Below w.heap.size w w') : OwnsI base w' v xs :=
  World.ownsRow.kept h (row := none) ⟨hb.os, hb.tape, hb.output, hb.size, fun k hk _ => hb.block k hk⟩ (by
    cases hv : v.ownBlock with
    | none => exact .inl rfl
    | some k => exact .inr (by simp))
theorem OwnsI.mono {base base' : Nat} {w : World} {v : Value} {xs : List Int} (h : OwnsI base w v xs) (hb : base' ≤ base) : OwnsI base' w v xs := by
  obtain ⟨h1, h2⟩ := h
  refine ⟨h1, h2.imp id ?_⟩
  rintro ⟨g, cap, cur, hv, hg, r⟩
  exact ⟨g, cap, cur, hv, by omega, r⟩

/-- Nil and empty, or at the head of a block of the call's own. -/
theorem OwnsI.cases {base : Nat} {w : World} {v : Value} {xs : List Int} (h : OwnsI base w v xs) :
    (v = .slice none 0 0 ∧ xs = []) ∨ ∃ g cap, v = .slice (some ⟨g, 0, none⟩) xs.length cap ∧ base ≤ g ∧ OwnP w g 3 xs := by
  obtain ⟨h1, h2⟩ := h
  rcases h2 with ⟨hv, hn⟩ | ⟨g, cap, cur, hv, hg, hh, hnc, hm, hcs, ht⟩
  · exact .inl ⟨hv, List.length_eq_zero_iff.1 hn⟩
  · exact .inr ⟨g, cap, hv, hg, cur.toList, by simpa using hh, by simpa using ht⟩

theorem OwnsI.slice {base : Nat} {w : World} {v : Value} {xs : List Int} (h : OwnsI base w v xs) : ∃ a cap, v = .slice a xs.length cap ∧ Rd w a xs := by
  rcases h.cases with ⟨hv, hx⟩ | ⟨g, cap, hv, _, ho⟩
  · subst hx; exact ⟨none, 0, hv, fun j hj => by simp at hj⟩
  · exact ⟨_, cap, hv, ho.rd⟩

theorem OwnsI.lt {base : Nat} {w : World} {v : Value} {xs : List Int} (h : OwnsI base w v xs) (k : Nat) (hk : v.ownBlock = some k) : base ≤ k ∧ k < w.heap.size := World.ownsRow.lt h k hk

theorem append1 {ops : Array Oper} {rest : List Oper} {o : Oper} {a : Act} {Q : Exit → Act → World → Prop} {w : World} (hgd : o.guard = none) (s x : Operand)
    (ho : o.op = .call { callee := .builtin .append, args := #[s, x], argTypes := #[35, 35] })
    (base : Nat) (v : Value) (xs : List Int) (y : Int) (hown : OwnsI base w v xs) (hs : a.eval s = v) (hx : a.eval x = .slice (some ⟨w.heap.size, 0, none⟩) 1 1)
    (hn : xs.length ≤ 100000000) (hb : base ≤ w.heap.size)
    (h : ∀ v' w', OwnsI base w' v' (xs ++ [y]) → Below base w w' → wpList Try.prog ops Q rest (a.put o.dst v') w') :
    wpList Try.prog ops Q (o :: rest) a (w.alloc (.cells #[.int .i64 y] 3)) := by
  obtain ⟨i0, hi, hz0, hz1, hz2⟩ := info_parts infoInt
  have ht := Try.underlying35
  refine wpList_append_own _ hgd s x 35 ho base 3 i0 (.int .i64 0) 1 8 ht hi hz0 hz1 hz2 rfl (by decide) v xs.length (xs.map (Value.int .i64)) hs (World.ownsRow.alloc hown _) ⟨w.heap.size, 0, none⟩ 1 1 [.int .i64 y] hx rfl ?_ ?_ ?_ ?_ ?_ ?_
  · intro j u hj
    match j, hj with
    | 0, hj => simp at hj; subst hj; simp [Addr.add]
  · intro u hu; simp at hu; subst hu; rfl
  · unfold maxLen; omega
  · omega
  · simp; omega
  · intro v' w' h1 h2 _
    refine h v' w' ?_ ?_
    · unfold OwnsI
      simpa using h1
    · have h3 : Below base w (w.alloc (.cells #[.int .i64 y] 3)) := (Below.refl _ _).alloc hb _
      exact h3.grown h2 (by simp; omega) (fun k hk => (OwnsI.lt hown k hk).1)

/-- v is a slice of the numbers xs that the call itself made, or an empty one without room (whose block is never written). -/
def OwnsE (base : Nat) (w : World) (v : Value) (xs : List Int) : Prop := OwnsI base w v xs ∨ (xs = [] ∧ ∃ g, v = .slice (some ⟨g, 0, none⟩) 0 0)

theorem OwnsE.below {base : Nat} {w w' : World} {v : Value} {xs : List Int} (h : OwnsE base w v xs) (hb : Below w.heap.size w w') : OwnsE base w' v xs := h.imp (·.below hb) id

theorem run_app1 {w : World} {base : Nat} {v : Value} {xs : List Int} (ty : TypeId) (y : Int) (b : Nat) (hown : OwnsE base w v xs) (hn : xs.length ≤ 100000000) (hbase : base ≤ w.heap.size) (hbl : w.heap[b]? = some (.cells #[.int .i64 y] 3 (0, 0))) :
    ∃ v' w', (Builtin.append_ #[35, 35] ty #[v, .slice (some ⟨b, 0, none⟩) 1 1]).run Try.prog w = .ok v' w' ∧ OwnsI base w' v' (xs ++ [y]) ∧ Below base w w' := by
  obtain ⟨i0, hi, hz0, hz1, hz2⟩ := info_parts infoInt
  have ht := Try.underlying35
  have hcell : ∀ (j : Nat) (u : Value), [Value.int .i64 y][j]? = some u → w.cell? ((⟨b, 0, none⟩ : Addr).add j) = some u := by
    intro j u hj
    match j, hj with
    | 0, hj => simp at hj; subst hj; rw [show (⟨b, 0, none⟩ : Addr).add 0 = ⟨b, 0, none⟩ from rfl, cell_of_block hbl]; rfl
  have hone : ∀ u ∈ [Value.int .i64 y], u.oneCell' = true := by intro u hu; simp at hu; subst hu; rfl
  rcases hown with hown | ⟨rfl, g, rfl⟩
  · obtain ⟨v', w', hrun', hown', hgr, _⟩ := run_append_own (P := Try.prog) (w := w) base 35 ty 3 i0 (.int .i64 0) 1 8 ht hi hz0 hz1 hz2 rfl (by decide) v xs.length (xs.map (Value.int .i64)) hown ⟨b, 0, none⟩ 1 1 [.int .i64 y] rfl
      hcell hone (by unfold maxLen; omega) (by omega) hbase
    exact ⟨v', w', hrun', by unfold OwnsI; simpa using hown', (Below.refl base w).grown hgr hbase (fun k hk => (OwnsI.lt hown k hk).1)⟩
  · obtain ⟨v', w', hrun', hown', hgr⟩ := run_append_arg_grows (P := Try.prog) w 35 ty 3 i0 (.int .i64 0) 1 8 ht hi hz0 hz1 hz2 rfl (by decide) ⟨g, 0, none⟩ 0 0 [] rfl (by intro j u hj; simp at hj) ⟨b, 0, none⟩ 1 1 [.int .i64 y] rfl
      hcell (by omega) (by unfold maxLen; omega) (by omega)
    exact ⟨v', w', hrun', OwnsI.mono (base := w.heap.size) (by unfold OwnsI; simpa using hown') hbase, (Below.refl base w).grown hgr hbase (fun k hk => by cases hk)⟩

theorem append1e {ops : Array Oper} {rest : List Oper} {o : Oper} {a : Act} {Q : Exit → Act → World → Prop} {w : World} (hgd : o.guard = none) (s x : Operand)
    (ho : o.op = .call { callee := .builtin .append, args := #[s, x], argTypes := #[35, 35] })
    (base : Nat) (v : Value) (xs : List Int) (y : Int) (hown : OwnsE base w v xs) (hs : a.eval s = v) (hx : a.eval x = .slice (some ⟨w.heap.size, 0, none⟩) 1 1)
    (hn : xs.length ≤ 100000000) (hb : base ≤ w.heap.size)
    (h : ∀ v' w', OwnsI base w' v' (xs ++ [y]) → Below base w w' → wpList Try.prog ops Q rest (a.put o.dst v') w') :
    wpList Try.prog ops Q (o :: rest) a (w.alloc (.cells #[.int .i64 y] 3)) := by
  have hal : Below w.heap.size w (w.alloc (.cells #[.int .i64 y] 3)) := (Below.refl _ _).alloc (Nat.le_refl _) _
  obtain ⟨v', w', hrun', hown', hbel⟩ := run_app1 (w := w.alloc (.cells #[.int .i64 y] 3)) o.type y w.heap.size (hown.below hal) hn (by simp; omega) (by show (w.heap.push _)[w.heap.size]? = _; simp)
  refine wpList_plain hgd fun K hK => ?_
  unfold Oper.wp execOp
  simp only [ho, resolve, invoke, builtin, Sem.run_bind, Sem.run_pure, Result.andThen_ok, List.map_toArray, List.map_cons, List.map_nil, hs, hx, hrun']
  exact hK _ _ (h v' w' hown' ((hal.mono hb).trans hbel))

end Go.Proofs.Ytjcoajaoofjjmaa
