/- The reference's SellShare. -/
import Derived.Test.YtjcoajaoofjjmaaSell
namespace Go.Proofs.Ytjcoajaoofjjmaa
set_option linter.unusedSimpArgs false
set_option linter.unusedVariables false
set_option linter.unnecessarySimpa false
open Go.RowKit

theorem rd3_cells {w : World} {ad : Addr} {ts : List T3} (h : Rd3 w (some ad) ts) : ∀ i u, (cellsT ts)[i]? = some u → w.cell? (ad.add i) = some u := fun i u hi => rd3_get h i u hi

theorem RowT.empty (T : TypeId) (w : World) : RowT T (w.alloc (.cells #[] T)) w.heap.size 0 [] :=
  ⟨⟨#[], blk_new w _ _, rfl, rfl⟩, by simp, by unfold maxLen; omega⟩

theorem RowT.empty' (T : TypeId) (w : World) (B : Nat) (hB : w.heap.size = B) : RowT T (w.alloc (.cells #[] T)) B 0 [] := by subst hB; exact RowT.empty T w

theorem run_appRow {w : World} {g c : Nat} {ts : List T3} (ty : TypeId) (h : RowT 56 w g c ts) (n : Nat) (hl : ts.length = n) (us : List T3) (m cm : Nat) (hm : us.length = m) (ad : Addr)
    (hsrc : ∀ i u, (cellsT us)[i]? = some u → w.cell? (ad.add i) = some u) (hn : n + m ≤ 10000000) :
    ∃ g' c' w', (Builtin.append_ #[28, 28] ty #[.slice (some ⟨g, 0, none⟩) n c, .slice (some ad) m cm]).run Try.prog w = .ok (.slice (some ⟨g', 0, none⟩) (n + m) c') w' ∧ RowT 56 w' g' c' (ts ++ us) ∧ w.grownBy w' (some g) ∧ (g' = g ∨ g' = w.heap.size) := by
  subst hl hm
  obtain ⟨z, hinf, hzc⟩ := infRz
  obtain ⟨i0, hi, hz0, hz1, hz2⟩ := info_parts hinf
  by_cases h0 : us = []
  · subst h0
    refine ⟨g, c, w, ?_, by simpa using h, grownBy_refl _ _, .inl rfl⟩
    exact run_append_nothing w 28 28 ty 56 i0 Try.underlying28 hi (some ⟨g, 0, none⟩) ts.length c h.room _ (Src.ofSlice w Try.underlying28 ad 0 cm [] (by simp) (by simp) (by simp))
  · have hm0 : 0 < us.length := List.length_pos_iff.2 h0
    obtain ⟨g', c', w', hrun, h1, h2, h3, h4⟩ := run_append_lies (P := Try.prog) w 28 ty 0 56 i0 z 3 24 Try.underlying28 hi hz0 hz1 hz2 (by rw [hzc]; rfl) (by decide) _ ts.length (cellsT ts) (h.owns (Nat.zero_le _)) ad us.length cm (cellsT us) (cellsT_length us) hsrc (cellsT_one us) hm0 (by unfold maxLen; omega) (by omega) (Nat.zero_le _) _ rfl
    have h5 : OwnsT 56 0 w' (.slice (some ⟨g', 0, none⟩) (ts.length + us.length) c') (ts ++ us) := by
      unfold OwnsT; rw [flat_append]; simpa [cellsT] using h1
    refine ⟨g', c', w', hrun, h5.row.1, h2, ?_⟩
    rcases h3 with h3 | h3
    · left; injection h3 with h3; exact h3.symm
    · exact .inr h3

theorem step_appRow {ops : Array Oper} {o : Oper} {a : Act} {w : World} {K : Act → World → Prop} {Q : Exit → Act → World → Prop} {E : Prop} {g c : Nat} {ts : List T3}
    (hg : o.guard = none) (s x : Operand) (hop : o.op = Op.call { callee := Callee.builtin Builtin.append, args := #[s, x], argTypes := #[28, 28] })
    (h : RowT 56 w g c ts) (n : Nat) (hl : ts.length = n) (us : List T3) (m cm : Nat) (hm : us.length = m) (ad : Addr) (hs : a.eval s = .slice (some ⟨g, 0, none⟩) n c) (hx : a.eval x = .slice (some ad) m cm)
    (hsrc : ∀ i u, (cellsT us)[i]? = some u → w.cell? (ad.add i) = some u) (hn : n + m ≤ 10000000) (nm : Nat) (hnm : n + m = nm)
    (hK : ∀ g' c' w', RowT 56 w' g' c' (ts ++ us) → w.grownBy w' (some g) → (g' = g ∨ g' = w.heap.size) → K (a.put o.dst (.slice (some ⟨g', 0, none⟩) nm c')) w') :
    if Region.wanted o (yielded ops a.tmps) = true then Oper.wp Try.prog o a w K Q else E := by
  have hw : Region.wanted o (yielded ops a.tmps) = true := by simp [Region.wanted, hg]
  rw [if_pos hw]
  subst hnm
  obtain ⟨g', c', w', hrun, h1, h2, h3⟩ := run_appRow o.type h n hl us m cm hm ad hsrc hn
  unfold Oper.wp
  simp [execOp, hop, resolve, invoke, builtin, hs, hx, hrun, Result.andThen]
  exact hK _ _ _ h1 h2 h3


/-- append(s, x..) at a row, as one step of the walk; nothing may be appended. -/
theorem appRow {ops : Array Oper} {rest : List Oper} {o : Oper} {a : Act} {Q : Exit → Act → World → Prop} {w : World} {g c : Nat} {ts : List T3} (hgd : o.guard = none) (s x : Operand)
    (ho : o.op = .call { callee := .builtin .append, args := #[s, x], argTypes := #[28, 28] })
    (h : RowT 56 w g c ts) (n : Nat) (hl : ts.length = n) (us : List T3) (m cm : Nat) (hm : us.length = m) (ad : Addr) (hs : a.eval s = .slice (some ⟨g, 0, none⟩) n c) (hx : a.eval x = .slice (some ad) m cm)
    (hsrc : ∀ i u, (cellsT us)[i]? = some u → w.cell? (ad.add i) = some u) (hn : n + m ≤ 10000000) (nm : Nat) (hnm : n + m = nm)
    (hK : ∀ g' c' w', RowT 56 w' g' c' (ts ++ us) → w.grownBy w' (some g) → (g' = g ∨ g' = w.heap.size) → wpList Try.prog ops Q rest (a.put o.dst (.slice (some ⟨g', 0, none⟩) nm c')) w') :
    wpList Try.prog ops Q (o :: rest) a w := by
  subst hnm
  obtain ⟨g', c', w', hrun, h1, h2, h3⟩ := run_appRow o.type h n hl us m cm hm ad hsrc hn
  refine wpList_plain hgd fun K hK' => ?_
  unfold Oper.wp execOp
  simp only [ho, resolve, invoke, builtin, Sem.run_bind, Sem.run_pure, Result.andThen_ok, List.map_toArray, List.map_cons, List.map_nil, hs, hx, hrun]
  exact hK' _ _ (hK _ _ _ h1 h2 h3)

/-- append(s, x..) at a row of the call's own, as one step of a region; what stood below a world wr stands. -/
theorem step_appB {ops : Array Oper} {o : Oper} {a : Act} {w : World} {K : Act → World → Prop} {Q : Exit → Act → World → Prop} {E : Prop} {g c : Nat} {ts : List T3} (wr : World) (hW : Below wr.heap.size wr w) (hB : wr.heap.size ≤ g)
    (hg : o.guard = none) (s x : Operand) (hop : o.op = Op.call { callee := Callee.builtin Builtin.append, args := #[s, x], argTypes := #[28, 28] })
    (h : RowT 56 w g c ts) (n : Nat) (hl : ts.length = n) (us : List T3) (m cm : Nat) (hm : us.length = m) (ad : Addr) (hs : a.eval s = .slice (some ⟨g, 0, none⟩) n c) (hx : a.eval x = .slice (some ad) m cm)
    (hsrc : ∀ i u, (cellsT us)[i]? = some u → w.cell? (ad.add i) = some u) (hn : n + m ≤ 10000000) (nm : Nat) (hnm : n + m = nm)
    (hK : ∀ g' c' w', RowT 56 w' g' c' (ts ++ us) → Below wr.heap.size wr w' → wr.heap.size ≤ g' → w.grownBy w' (some g) → (g' = g ∨ w.heap.size ≤ g') → w.heap.size ≤ w'.heap.size → K (a.put o.dst (.slice (some ⟨g', 0, none⟩) nm c')) w') :
    if Region.wanted o (yielded ops a.tmps) = true then Oper.wp Try.prog o a w K Q else E :=
  step_appRow hg s x hop h n hl us m cm hm ad hs hx hsrc hn nm hnm fun g' c' w' h1 h2 h3 => by
    have hws := hW.size
    exact hK g' c' w' h1 (belG hW h2 hB) (by omega) h2 (by omega) h2.size

theorem blk_two (w : World) (o : Obj) (C : Array Value) (T : TypeId) : ((w.alloc o).alloc (.cells C T)).heap[w.heap.size + 1]? = some (.cells C T (0, 0)) := by
  have e := blk_new (w.alloc o) C T
  rwa [show (w.alloc o).heap.size = w.heap.size + 1 by simp] at e

theorem RowT.src_first {T : TypeId} {wr W : World} {g c : Nat} {ts : List T3} (h : RowT T wr g c ts) (k : Nat) (ad : Addr) (ha : ad = ⟨g, 0, none⟩) (hb : Below wr.heap.size wr W) : ∀ i u, (cellsT (ts.take k))[i]? = some u → W.cell? (ad.add i) = some u := by
  intro i u hi
  subst ha
  have e : (⟨g, 0, none⟩ : Addr).add i = ⟨g, i, none⟩ := by simp only [Addr.add]; split <;> simp_all
  rw [e]
  exact ((h.below hb).first k).at i u hi

end Go.Proofs.Ytjcoajaoofjjmaa
