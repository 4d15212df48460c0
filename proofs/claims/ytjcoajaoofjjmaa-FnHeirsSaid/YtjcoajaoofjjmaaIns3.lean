/- slices.Insert of one right, at any place. -/
import Derived.Test.YtjcoajaoofjjmaaIns2
import Derived.Deep.AppendLies
namespace Go.Proofs.Ytjcoajaoofjjmaa
set_option linter.unusedSimpArgs false
set_option linter.unusedVariables false
set_option linter.unnecessarySimpa false
open Go.RowKit

theorem RowT.grown_own {T : TypeId} {w w' : World} {g c : Nat} {ts : List T3} {r : Option Nat} (h : RowT T w g c ts) (hg : w.grownBy w' r) (hne : r ≠ some g) : RowT T w' g c ts := h.kept hg (Ne.symm hne)

/-- append(s, x) at a row, as one step. -/
theorem appendRow {ops : Array Oper} {rest : List Oper} {o : Oper} {a : Act} {Q : Exit → Act → World → Prop} {w : World} {g c : Nat} {ts : List T3} (hgd : o.guard = none) (s x : Operand)
    (ho : o.op = .call { callee := .builtin .append, args := #[s, x], argTypes := #[28, 28] })
    (h : RowT 56 w g c ts) (n : Nat) (hl : ts.length = n) (us : List T3) (m cm : Nat) (hm : us.length = m) (hm0 : 0 < m) (ad : Addr) (hs : a.eval s = .slice (some ⟨g, 0, none⟩) n c) (hx : a.eval x = .slice (some ad) m cm)
    (hsrc : ∀ i u, (cellsT us)[i]? = some u → w.cell? (ad.add i) = some u) (hn : n + m ≤ 10000000)
    (hK : ∀ g' c' w', RowT 56 w' g' c' (ts ++ us) → w.grownBy w' (some g) → (g' = g ∨ g' = w.heap.size) → wpList Try.prog ops Q rest (a.put o.dst (.slice (some ⟨g', 0, none⟩) (n + m) c')) w') :
    wpList Try.prog ops Q (o :: rest) a w := by
  subst hl hm
  obtain ⟨z, hinf, hzc⟩ := infRz
  obtain ⟨i0, hi, hz0, hz1, hz2⟩ := info_parts hinf
  refine wpList_append_lies _ hgd s x 28 ho 0 56 i0 z 3 24 Try.underlying28 hi hz0 hz1 hz2 (by rw [hzc]; rfl) (by decide) _ ts.length (cellsT ts) hs (h.owns (Nat.zero_le _)) ad us.length cm (cellsT us) hx (cellsT_length us) hsrc (cellsT_one us) hm0 (by unfold maxLen; omega) (by omega) (Nat.zero_le _) _ rfl ?_
  intro g' c' w' h1 h2 h3 h4
  have h5 : OwnsT 56 0 w' (.slice (some ⟨g', 0, none⟩) (ts.length + us.length) c') (ts ++ us) := by
    unfold OwnsT; rw [flat_append]; simpa [cellsT] using h1
  refine hK g' c' w' h5.row.1 h2 ?_
  rcases h3 with h3 | h3
  · left; injection h3 with h3; exact h3.symm
  · exact .inr h3

set_option maxHeartbeats 1000000 in
theorem insEnd_any (g c n gx : Nat) (ts : List T3) (x y z : Int) (w : World) (h : RowT 56 w g c ts) (hl : ts.length = n) (hn : n ≤ 1048576)
    (hx : w.heap[gx]? = some (.cells #[.int .i64 x, .int .i64 y, .int .i64 z] 56 (0, 0))) :
    Calls Try.prog 87 #[.slice (some ⟨g, 0, none⟩) n c, .int .i64 n, .slice (some ⟨gx, 0, none⟩) 1 1] w fun e w' =>
      ∃ g' c', e = .returned (.slice (some ⟨g', 0, none⟩) (n + 1) c') ∧ RowT 56 w' g' c' (ts ++ [(x, y, z)]) ∧ w.grownBy w' (some g) ∧ (g' = g ∨ g' = w.heap.size) := by
  have hrm := h.room
  have hsm := h.small
  unfold maxLen at hsm
  have SX := hide (one_src hx)
  have HR := hide h
  have HL := hide hl
  have hcn : (n : Int) ≤ (c : Int) := by omega
  clear h hl hx
  by_cases hc : c = n
  · subst hc
    go_enter Try.func87, Try.ntmps87
    go_wp2_with (refine appendRow rfl _ _ rfl HR.out c HL.out [(x, y, z)] 1 1 rfl (by decide) ⟨gx, 0, none⟩ rfl rfl SX.out (by omega) (fun g' c' w' hr hg hs => ?_))
    go_ret
    exact ⟨g', c', rfl, hr, hg, hs⟩
  · go_enter Try.func87, Try.ntmps87
    go_wp2_with (refine appendRow rfl _ _ rfl HR.out n HL.out [(x, y, z)] 1 1 rfl (by decide) ⟨gx, 0, none⟩ rfl rfl SX.out (by omega) (fun g' c' w' hr hg hs => ?_))
    go_ret
    exact ⟨g', c', rfl, hr, hg, hs⟩

theorem insert_any (g c n i gx : Nat) (ts : List T3) (x y z : Int) (w : World) (h : RowT 56 w g c ts) (hl : ts.length = n) (hi : i ≤ n) (hn : n ≤ 1048576)
    (hx : w.heap[gx]? = some (.cells #[.int .i64 x, .int .i64 y, .int .i64 z] 56 (0, 0))) (hne : gx ≠ g) :
    Calls Try.prog 87 #[.slice (some ⟨g, 0, none⟩) n c, .int .i64 i, .slice (some ⟨gx, 0, none⟩) 1 1] w fun e w' =>
      ∃ g' c', e = .returned (.slice (some ⟨g', 0, none⟩) (n + 1) c') ∧ RowT 56 w' g' c' (insM ts i (x, y, z)) ∧ w.grownBy w' (some g) ∧ (g' = g ∨ g' = w.heap.size) := by
  rcases Nat.lt_or_ge i n with hi | hi
  · rcases Nat.lt_or_ge c (n + 1) with hc | hc
    · refine (insGrow_any g c i n gx ts x y z w h hl hi hc hn hx).mono ?_
      rintro e w' ⟨c', rfl, hr, hb⟩
      exact ⟨_, c', rfl, hr, grownR hb, .inr rfl⟩
    · refine (insShift_any g c i n gx ts x y z w h hl hi hc hx hne).mono ?_
      rintro e w' ⟨rfl, hr, hb⟩
      exact ⟨_, _, rfl, hr, hb, .inl rfl⟩
  · have : i = n := by omega
    subst this
    refine (insEnd_any g c i gx ts x y z w h hl hn hx).mono ?_
    rintro e w' ⟨g', c', rfl, hr, hb, hs⟩
    refine ⟨g', c', rfl, ?_, hb, hs⟩
    have e : insM ts i (x, y, z) = ts ++ [(x, y, z)] := by
      unfold insM
      rw [List.take_of_length_le (by omega), List.drop_of_length_le (by omega)]
    rw [e]; exact hr

end Go.Proofs.Ytjcoajaoofjjmaa
