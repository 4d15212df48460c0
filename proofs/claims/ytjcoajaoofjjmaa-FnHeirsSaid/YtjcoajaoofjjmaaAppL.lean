/- Slices of the call's own, appended to and stored into: which block turns. -/
import Derived.Test.YtjcoajaoofjjmaaApp
import Derived.Deep.AppendLies
namespace Go.Proofs.Ytjcoajaoofjjmaa
set_option linter.unusedSimpArgs false
set_option linter.unusedVariables false
open Go.RowKit

theorem grownR {w W : World} {r : Option Nat} (h : Below w.heap.size w W) : w.grownBy W r := ⟨h.os, h.tape, h.output, h.size, fun k hk _ => h.block k hk⟩

theorem append1L {ops : Array Oper} {rest : List Oper} {o : Oper} {a : Act} {Q : Exit → Act → World → Prop} {w : World} (hgd : o.guard = none) (s x : Operand)
    (ho : o.op = .call { callee := .builtin .append, args := #[s, x], argTypes := #[35, 35] })
    (base : Nat) (v : Value) (xs : List Int) (n : Nat) (y : Int) (hown : OwnsI base w v xs) (hln : xs.length = n) (hs : a.eval s = v) (hx : a.eval x = .slice (some ⟨w.heap.size, 0, none⟩) 1 1)
    (hn : n ≤ 100000000) (hb : base ≤ w.heap.size)
    (h : ∀ g cap w', OwnsI base w' (.slice (some ⟨g, 0, none⟩) (n + 1) cap) (xs ++ [y]) → w.grownBy w' v.ownBlock → (v.ownBlock = some g ∨ w.heap.size ≤ g) → wpList Try.prog ops Q rest (a.put o.dst (.slice (some ⟨g, 0, none⟩) (n + 1) cap)) w') :
    wpList Try.prog ops Q (o :: rest) a (w.alloc (.cells #[.int .i64 y] 3)) := by
  subst hln
  obtain ⟨i0, hi, hz0, hz1, hz2⟩ := info_parts infoInt
  have ht := Try.underlying35
  refine wpList_append_lies _ hgd s x 35 ho base 3 i0 (.int .i64 0) 1 8 ht hi hz0 hz1 hz2 rfl (by decide) v xs.length (xs.map (Value.int .i64)) hs (World.ownsRow.alloc hown _) ⟨w.heap.size, 0, none⟩ 1 1 [.int .i64 y] hx rfl ?_ ?_ (by decide) ?_ ?_ ?_ _ rfl ?_
  · intro j u hj
    match j, hj with
    | 0, hj => simp at hj; subst hj; simp [Addr.add]
  · intro u hu; simp at hu; subst hu; rfl
  · unfold maxLen; omega
  · omega
  · simp; omega
  · intro g cap w' h1 h2 h3 _
    refine h g cap w' ?_ ?_ ?_
    · unfold OwnsI
      simpa using h1
    · exact grownBy_trans (b := w.alloc (.cells #[.int .i64 y] 3)) (grownR ((Below.refl w.heap.size w).alloc (Nat.le_refl _) _)) h2
    · rcases h3 with h3 | h3
      · exact .inl h3
      · right; simp at h3; omega

theorem append1B {ops : Array Oper} {rest : List Oper} {o : Oper} {a : Act} {Q : Exit → Act → World → Prop} {w : World} (hgd : o.guard = none) (s x : Operand)
    (ho : o.op = .call { callee := .builtin .append, args := #[s, x], argTypes := #[35, 35] })
    (base : Nat) (v : Value) (xs : List Int) (n : Nat) (y : Int) (B : Nat) (hB : B = w.heap.size) (hown : OwnsI base w v xs) (hln : xs.length = n) (hs : a.eval s = v) (hx : a.eval x = .slice (some ⟨B, 0, none⟩) 1 1)
    (hn : n ≤ 100000000) (hb : base ≤ w.heap.size)
    (h : ∀ g cap w', OwnsI base w' (.slice (some ⟨g, 0, none⟩) (n + 1) cap) (xs ++ [y]) → w.grownBy w' v.ownBlock → (v.ownBlock = some g ∨ w.heap.size ≤ g) → wpList Try.prog ops Q rest (a.put o.dst (.slice (some ⟨g, 0, none⟩) (n + 1) cap)) w') :
    wpList Try.prog ops Q (o :: rest) a (w.alloc (.cells #[.int .i64 y] 3)) := by
  subst hB
  exact append1L hgd s x ho base v xs n y hown hln hs hx hn hb h

theorem OwnsI.kept {base : Nat} {w w' : World} {v : Value} {xs : List Int} {r : Option Nat} (h : OwnsI base w v xs) (hg : w.grownBy w' r) (hne : v.ownBlock = none ∨ v.ownBlock ≠ r) : OwnsI base w' v xs := World.ownsRow.kept h hg hne

theorem OwnsI.ownP {base : Nat} {w : World} {g n cap : Nat} {xs : List Int} (h : OwnsI base w (.slice (some ⟨g, 0, none⟩) n cap) xs) : base ≤ g ∧ n = xs.length ∧ OwnP w g 3 xs := by
  rcases h.cases with ⟨hv, _⟩ | ⟨g', cap', hv, hg, ho⟩
  · cases hv
  · cases hv
    exact ⟨hg, rfl, ho⟩

theorem OwnsI.stored {base : Nat} {w : World} {g cap : Nat} {xs : List Int} (h : OwnsI base w (.slice (some ⟨g, 0, none⟩) xs.length cap) xs) (j : Nat) (x : Int) :
    OwnsI base (w.setCell ⟨g, j, none⟩ (.int .i64 x)) (.slice (some ⟨g, 0, none⟩) xs.length cap) (xs.set j x) := by
  have := World.ownsRow.stored h j (.int .i64 x)
  unfold OwnsI
  rw [List.length_set, List.map_set]
  exact this.1

theorem own_none {base : Nat} {w : World} {v : Value} {xs : List Int} (h : OwnsI base w v xs) (k : Nat) (hk : v.ownBlock = some k) : k < w.heap.size := (h.lt k hk).2

theorem bel_own {base : Nat} {w0 w w' : World} {v : Value} {xs : List Int} (h : Below base w0 w) (hb : base ≤ w0.heap.size) (ho : OwnsI base w v xs) (hg : w.grownBy w' v.ownBlock) : Below base w0 w' :=
  h.grown hg (Nat.le_trans hb h.size) (fun k hk => (OwnsI.lt ho k hk).1)

theorem two_go1 {base : Nat} {w0 wr w1 : World} {v u : Value} {A R : List Int} {g1 : Nat} (o1 : OwnsI base wr v A) (o2 : OwnsI base wr u R) (t2 : u.ownBlock = none ∨ u.ownBlock ≠ v.ownBlock) (bel : Below base w0 wr) (hb : base ≤ w0.heap.size)
    (gr : wr.grownBy w1 v.ownBlock) (sh : v.ownBlock = some g1 ∨ wr.heap.size ≤ g1) : OwnsI base w1 u R ∧ (u.ownBlock = none ∨ u.ownBlock ≠ some g1) ∧ Below base w0 w1 := by
  refine ⟨o2.kept gr t2, ?_, bel_own bel hb o1 gr⟩
  rcases sh with sh | sh
  · rw [← sh]; exact t2
  · cases e : u.ownBlock with
    | none => exact .inl rfl
    | some k => right; have := (o2.lt k e).2; intro e2; injection e2; omega

theorem two_go2 {base : Nat} {w0 w1 w2 : World} {u : Value} {A R : List Int} {g1 g2 c1 n : Nat} (o1 : OwnsI base w1 (.slice (some ⟨g1, 0, none⟩) n c1) A) (o2 : OwnsI base w1 u R) (t2 : u.ownBlock = none ∨ u.ownBlock ≠ some g1) (bel : Below base w0 w1) (hb : base ≤ w0.heap.size)
    (gr : w1.grownBy w2 u.ownBlock) (sh : u.ownBlock = some g2 ∨ w1.heap.size ≤ g2) : OwnsI base w2 (.slice (some ⟨g1, 0, none⟩) n c1) A ∧ g1 ≠ g2 ∧ Below base w0 w2 := by
  have hl := (o1.lt g1 rfl).2
  refine ⟨o1.kept gr ?_, ?_, bel_own bel hb o2 gr⟩
  · right
    show some g1 ≠ _
    rcases t2 with t | t
    · rw [t]; simp
    · exact fun e => t e.symm
  · rintro rfl
    rcases sh with sh | sh
    · rcases t2 with t | t
      · rw [t] at sh; cases sh
      · exact t sh
    · omega

theorem snoc_getD (A : List Int) (d : Int) (k : Nat) (h : A.length = k) : (A ++ [d]).getD k 0 = d := by
  subst h; simp [List.getD_eq_getElem?_getD]

theorem OwnsI.stored' {base : Nat} {w : World} {g n cap : Nat} {xs : List Int} (h : OwnsI base w (.slice (some ⟨g, 0, none⟩) n cap) xs) (hn : xs.length = n) (j : Nat) (x : Int) :
    OwnsI base (w.setCell ⟨g, j, none⟩ (.int .i64 x)) (.slice (some ⟨g, 0, none⟩) n cap) (xs.set j x) := by
  subst hn; exact h.stored j x

theorem mulb {x y X Y : Int} (hx : 0 ≤ x) (hx' : x ≤ X) (hy : 0 ≤ y) (hy' : y ≤ Y) : 0 ≤ x * y ∧ x * y ≤ X * Y :=
  ⟨Int.mul_nonneg hx hy, Int.mul_le_mul hx' hy' hy (Int.le_trans hx hx')⟩

/-- A cell of a block that is not the one written. -/
theorem grown_cell {w w' : World} {r : Option Nat} (h : w.grownBy w' r) {b i : Nat} {v : Value} (hc : w.cell? ⟨b, i, none⟩ = some v) (hr : r ≠ some b) : w'.cell? ⟨b, i, none⟩ = some v := by
  have hl := World.block_lt_of_cell? _ _ hc
  have e := h.block b hl (fun e => hr e.symm)
  rw [← hc]
  unfold World.cell?
  rw [e]
theorem grown_heap {w w' : World} {r : Option Nat} (h : w.grownBy w' r) {b : Nat} {x : Obj} (hc : w.heap[b]? = some x) (hr : r ≠ some b) : w'.heap[b]? = some x := by
  have hl : b < w.heap.size := (Array.getElem?_eq_some_iff.1 hc).1
  rw [h.block b hl (fun e => hr e.symm)]; exact hc

end Go.Proofs.Ytjcoajaoofjjmaa
