/- slices.Insert of one right: at the end, and where there is no room. -/
import Derived.Test.YtjcoajaoofjjmaaIns
import Derived.Lib.AppendZerosOnto
namespace Go.Proofs.Ytjcoajaoofjjmaa
set_option linter.unusedSimpArgs false
set_option linter.unusedVariables false
set_option linter.unnecessarySimpa false
open Go.RowKit

theorem zrow (n : Nat) (z : Value) (hzc : z.cells = #[.int .i64 0, .int .i64 0, .int .i64 0]) : (Builtin.zeroCells z.cells n).toList = cellsT (List.replicate n (0, 0, 0)) := by
  rw [hzc, cellsT, flat_zero]
  apply List.ext_getElem
  · simp [Builtin.zeroCells]
  · intro i x1 x2
    simp only [Builtin.zeroCells, Array.getElem_toList, Array.getElem_ofFn]
    have h4 : i % 3 < 3 := Nat.mod_lt _ (by omega)
    simp
    have : i % 3 = 0 ∨ i % 3 = 1 ∨ i % 3 = 2 := by omega
    rcases this with e | e | e <;> simp [e]

/-- append(s[:i], make([]Right, k)...) where there is no room: a new row. -/
theorem grow_zeros {w : World} {g c : Nat} {ts : List T3} (h : RowT 56 w g c ts) (i n : Nat) (hl : ts.length = n) (hi : i < n) (hc : c < n + 1) (hn : n ≤ 1048576) :
    ∃ c' w1, n + 1 ≤ c' ∧ c' ≤ maxLen ∧ (∀ ty, (Builtin.append_ #[28, 3] ty #[.slice (some ⟨g, 0, none⟩) i c, .int .i64 ((n : Int) + 1 - (i : Int))]).run Try.prog w = .ok (.slice (some ⟨w.heap.size, 0, none⟩) (n + 1) c') w1)
      ∧ RowT 56 w1 w.heap.size c' (ts.take i ++ List.replicate (n + 1 - i) (0, 0, 0)) ∧ Below w.heap.size w w1 := by
  obtain ⟨z, hinf, hzc⟩ := infRz
  obtain ⟨i0, hi0, hz0, hzs, hzb⟩ := info_parts hinf
  have hik : i + (n + 1 - i) = n + 1 := by omega
  have hkk : (n : Int) + 1 - (i : Int) = ((n + 1 - i : Nat) : Int) := by omega
  have hti : (ts.take i).length = i := by rw [List.length_take]; omega
  have hold : (Builtin.firstCells i0.size i (.slice (some ⟨g, 0, none⟩) i c)).run Try.prog w.drew = .ok (cellsT (ts.take i)).toArray w.drew := by
    rw [hzs]
    exact run_firstCells_some w.drew 3 i ⟨g, 0, none⟩ i c (cellsT (ts.take i)) (by rw [cellsT_length, hti]) (fun j v hj => by
      have e : (⟨g, 0, none⟩ : Addr).add j = ⟨g, j, none⟩ := by simp only [Addr.add]; split <;> simp_all
      rw [e]
      exact ((h.below (belD (Below.refl _ _))).first i).at j v hj)
  have hrun := fun ty => Lib.run_append_grow_zeros w 28 3 ty 56 i0 z .i64 .i64 Try.underlying28 Try.underlying3 hi0 hz0 (some ⟨g, 0, none⟩) i c _ hold (n + 1 - i) (by omega) (by omega) (by omega) (by omega) (by rw [hzb]; omega) (by rw [hzb, hik]; exact growslice_fits hc (by omega))
  rw [hik] at hrun
  have hge := grownCap_ge w (n + 1) c 56
  have hle := grownCap_le_maxLen w (n + 1) c 56 (by unfold maxLen; omega)
  generalize grownCap w (n + 1) c 56 = G at *
  refine ⟨G, _, hge, hle, fun ty => by rw [hkk]; exact hrun ty, ?_, (belD (Below.refl _ _)).alloc (Nat.le_refl _) _⟩
  refine ⟨⟨_, blk_new w.drew _ _, ?_, ?_⟩, by simp [hti]; omega, hle⟩
  · have e1 := congrArg List.length (zrow (n + 1 - i) z hzc)
    have e2 := congrArg List.length (zrow (G - (n + 1)) z hzc)
    rw [cellsT_length] at e1 e2
    simp only [List.length_replicate, Array.length_toList] at e1 e2
    simp only [Array.size_append, List.size_toArray, cellsT_length, hti, e1, e2]
    omega
  · simp only [Array.toList_append, List.toList_toArray, zrow _ z hzc]
    rw [← cellsT_append]
    refine List.take_left' ?_
    rw [cellsT_length]

set_option maxHeartbeats 1000000 in
theorem insGrow_any (g c i n gx : Nat) (ts : List T3) (x y z : Int) (w : World) (h : RowT 56 w g c ts) (hl : ts.length = n) (hi : i < n) (hroom : c < n + 1) (hn : n ≤ 1048576)
    (hx : w.heap[gx]? = some (.cells #[.int .i64 x, .int .i64 y, .int .i64 z] 56 (0, 0))) :
    Calls Try.prog 87 #[.slice (some ⟨g, 0, none⟩) n c, .int .i64 i, .slice (some ⟨gx, 0, none⟩) 1 1] w fun e w' =>
      ∃ c', e = .returned (.slice (some ⟨w.heap.size, 0, none⟩) (n + 1) c') ∧ RowT 56 w' w.heap.size c' (insM ts i (x, y, z)) ∧ Below w.heap.size w w' := by
  obtain ⟨c', w1, hc1, hc2, hrun, hr1, hb1⟩ := grow_zeros h i n hl hi hroom hn
  have hg := h.lt
  have hgx : gx < w.heap.size := (Array.getElem?_eq_some_iff.1 hx).1
  have hrm := h.room
  unfold maxLen at hc2
  have HB := hide hb1
  have HS := hide (show ∀ W, w1.grownBy W (some w.heap.size) → W.heap[gx]? = some (.cells #[.int .i64 x, .int .i64 y, .int .i64 z] 56 (0, 0)) from fun W hW =>
    grown_heap hW (by rw [hb1.block gx hgx]; exact hx) (by intro e; injection e with e; omega))
  have HG := hide (show ∀ W, w1.grownBy W (some w.heap.size) → RowT 56 W g c ts from fun W hW => (h.below hb1).kept hW (by intro e; injection e with e; omega))
  have SX := hide (one_src (HS.out w1 (grownBy_refl _ _)))
  have HR := hide hr1
  have HRUN := hide hrun
  have HL := hide hl
  have HI := hide (show splc (splc (ts.take i ++ List.replicate (n + 1 - i) (0, 0, 0)) i [(x, y, z)]) (i + 1) (ts.drop i) = insM ts i (x, y, z) from splc_grow ts i n _ _ hl hi)
  have HLEN := hide (show (ts.take i ++ List.replicate (n + 1 - i) ((0 : Int), (0 : Int), (0 : Int))).length = n + 1 by simp; omega)
  have HS2 := hide (show (splc (ts.take i ++ List.replicate (n + 1 - i) ((0 : Int), (0 : Int), (0 : Int))) i [(x, y, z)]).length = n + 1 by rw [splc_length _ _ _ (by rw [HLEN.out]; simp; omega)]; exact HLEN.out)
  have HU := hide (show (ts.drop i).length = n - i by rw [List.length_drop, hl])
  have HT := hide (show ∀ W, w1.grownBy W (some w.heap.size) → Below w.heap.size w W from fun W hW => by
    refine hb1.grown hW hb1.size (fun k hk => ?_)
    injection hk with hk
    omega)
  have hz2 : ¬ ((i : Int) = (n : Int)) := by omega
  have hw1 : IntKind.i64.wrap ((i : Int) + 1) = (i : Int) + 1 := by rw [IntKind.wrap_i64]; omega
  have hw2 : IntKind.i64.wrap ((n : Int) + 1) = (n : Int) + 1 := by rw [IntKind.wrap_i64]; omega
  have hw3 : IntKind.i64.wrap ((n : Int) + 1 - (i : Int)) = (n : Int) + 1 - (i : Int) := by rw [IntKind.wrap_i64]; omega
  have hbb1 : (0 : Int) ≤ (i : Int) + 1 := by omega
  have hin : i ≤ n := by omega
  have hini : (i : Int) ≤ (n : Int) := by omega
  have hcin : (i : Int) ≤ (c : Int) := by omega
  have hbb3 : (i : Int) ≤ (n : Int) + 1 := by omega
  have hbb4 : ¬ (c = i) := by omega
  have hbb5 : (c : Int) < (n : Int) + 1 := by omega
  have hbb7 : (i : Int) + 1 ≤ (n : Int) + 1 := by omega
  have hGi : ¬ (c' = i) := by omega
  have hGim : ¬ (c' = i + 1) := by omega
  have hbl : i ≤ n + 1 := by omega
  clear hl h hx hb1 hr1 hrun
  go_enter Try.func87, Try.ntmps87
  go_wp2_with (first
    | (refine Lib.wpList_append_run _ rfl _ _ _ _ rfl _ _ rfl rfl _ _ (HRUN.out _) ?_)
    | (refine copyR rfl _ _ rfl HR.out i (n + 1 - i) (c' - i) ⟨gx, 0, none⟩ 1 1 (by go_simp) (by go_simp) [(x, y, z)] (by simp only [Nat.min_def]; split <;> simp <;> omega) SX.out (by rw [HLEN.out]; omega) (by simp; omega) (fun v2 w2 hr2 hg2 => ?_)))
  go_region_law (refine step_copyT rfl _ _ rfl (hr2.below (belD (Below.refl _ _))) (i + 1) (n + 1 - (i + 1)) (c' - (i + 1)) ⟨g, i * 3, none⟩ (n - i) (c - i) (by go_simp) (by go_simp) (ts.drop i) (by rw [HU.out]; simp only [Nat.min_def]; split <;> omega) (((HG.out _ hg2).below (belD (Below.refl _ _))).drop_at i) (by rw [HS2.out]; omega) (by rw [HU.out]; omega) (fun v3 w3 hr3 hg3 => ?_))
  all_goals
    go_wp2
    go_ret
    exact ⟨_, rfl, by rw [← HI.out]; exact hr3, HT.out _ (grownBy_trans hg2 (grownBy_trans (grownR (belD (Below.refl _ _))) hg3))⟩

end Go.Proofs.Ytjcoajaoofjjmaa
