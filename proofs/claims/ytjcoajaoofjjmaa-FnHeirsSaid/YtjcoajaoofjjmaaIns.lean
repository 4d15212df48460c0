/- slices.Insert of one right. -/
import Derived.Test.YtjcoajaoofjjmaaDel
namespace Go.Proofs.Ytjcoajaoofjjmaa
set_option linter.unusedSimpArgs false
set_option linter.unusedVariables false
set_option linter.unnecessarySimpa false
open Go.RowKit

theorem sizR : (Try.prog.info? 56).map (·.size) = some 3 := by
  obtain ⟨z, hinf, hzc⟩ := infRight
  obtain ⟨i0, hi, hz0, hz1, hz2⟩ := info_parts hinf
  rw [hi]; simp [hz1]

theorem step_copyT {ops : Array Oper} {o : Oper} {a : Act} {w : World} {K : Act → World → Prop} {Q : Exit → Act → World → Prop} {E : Prop} {g c : Nat} {ts : List T3}
    (hg : o.guard = none) (d x : Operand) (hop : o.op = Op.call { callee := Callee.builtin Builtin.copy, args := #[d, x], argTypes := #[28, 28] })
    (h : RowT 56 w g c ts) (j dLen dCap : Nat) (ad : Addr) (sLen sCap : Nat) (hd : a.eval d = .slice (some ⟨g, j * 3, none⟩) dLen dCap) (hx : a.eval x = .slice (some ad) sLen sCap)
    (us : List T3) (hl : us.length = Nat.min sLen dLen) (hsrc : ∀ i u, (cellsT us)[i]? = some u → w.cell? (ad.add i) = some u) (hj : j ≤ ts.length) (hr : j + us.length ≤ c)
    (hK : ∀ v w', RowT 56 w' g c (splc ts j us) → w.grownBy w' (some g) → K (a.put o.dst v) w') :
    if Region.wanted o (yielded ops a.tmps) = true then Oper.wp Try.prog o a w K Q else E := by
  have hw : Region.wanted o (yielded ops a.tmps) = true := by simp [Region.wanted, hg]
  rw [if_pos hw]
  obtain ⟨w', hrun, h1, h2⟩ := run_copyT h 28 28 o.type Try.underlying28 sizR j dLen dCap ad sLen sCap us hl hsrc hj hr
  unfold Oper.wp
  simp [execOp, hop, resolve, invoke, builtin, hd, hx, hrun, Result.andThen]
  exact hK _ _ h1 h2

theorem copyR {ops : Array Oper} {rest : List Oper} {o : Oper} {a : Act} {Q : Exit → Act → World → Prop} {w : World} {g c : Nat} {ts : List T3} (hgd : o.guard = none) (d x : Operand)
    (ho : o.op = .call { callee := .builtin .copy, args := #[d, x], argTypes := #[28, 28] })
    (h : RowT 56 w g c ts) (j dLen dCap : Nat) (ad : Addr) (sLen sCap : Nat) (hd : a.eval d = .slice (some ⟨g, j * 3, none⟩) dLen dCap) (hx : a.eval x = .slice (some ad) sLen sCap)
    (us : List T3) (hl : us.length = Nat.min sLen dLen) (hsrc : ∀ i u, (cellsT us)[i]? = some u → w.cell? (ad.add i) = some u) (hj : j ≤ ts.length) (hr : j + us.length ≤ c)
    (hK : ∀ v w', RowT 56 w' g c (splc ts j us) → w.grownBy w' (some g) → wpList Try.prog ops Q rest (a.put o.dst v) w') :
    wpList Try.prog ops Q (o :: rest) a w := by
  obtain ⟨w', hrun, h1, h2⟩ := run_copyT h 28 28 o.type Try.underlying28 sizR j dLen dCap ad sLen sCap us hl hsrc hj hr
  refine wpList_plain hgd fun K hK' => ?_
  unfold Oper.wp execOp
  simp only [ho, resolve, invoke, builtin, Sem.run_bind, Sem.run_pure, Result.andThen_ok, List.map_toArray, List.map_cons, List.map_nil, hd, hx, hrun]
  exact hK' _ _ (hK _ w' h1 h2)

theorem one_src {w : World} {gx : Nat} {x y z : Int} {T : TypeId} (hx : w.heap[gx]? = some (.cells #[.int .i64 x, .int .i64 y, .int .i64 z] T (0, 0))) :
    ∀ i u, (cellsT [(x, y, z)])[i]? = some u → w.cell? ((⟨gx, 0, none⟩ : Addr).add i) = some u := by
  intro i u hi
  have e : (⟨gx, 0, none⟩ : Addr).add i = ⟨gx, i, none⟩ := by simp only [Addr.add]; split <;> simp_all
  rw [e, cell_of_block hx]
  match i, hi with
  | 0, hi => simpa [cellsT, flat] using hi
  | 1, hi => simpa [cellsT, flat] using hi
  | 2, hi => simpa [cellsT, flat] using hi
  | k + 3, hi => simp [cellsT, flat] at hi

theorem splc_shift (ts : List T3) (i : Nat) (x : T3) (hi : i < ts.length) : splc (splc ts (i + 1) (ts.drop i)) i [x] = insM ts i x := by
  have l1 : (ts.take (i + 1)).length = i + 1 := by rw [List.length_take]; omega
  have e1 : splc ts (i + 1) (ts.drop i) = ts.take (i + 1) ++ ts.drop i := by
    unfold splc
    rw [List.drop_of_length_le (l := ts) (i := i + 1 + (ts.drop i).length) (by rw [List.length_drop]; omega), List.append_nil]
  rw [e1]
  unfold splc insM
  rw [List.take_append_of_le_length (by omega), List.take_take, Nat.min_eq_left (by omega)]
  rw [List.drop_left' (by simpa using l1)]
  simp

theorem splc_grow (ts : List T3) (i n : Nat) (x z : T3) (hl : ts.length = n) (hi : i < n) : splc (splc (ts.take i ++ List.replicate (n + 1 - i) z) i [x]) (i + 1) (ts.drop i) = insM ts i x := by
  have l1 : (ts.take i).length = i := by rw [List.length_take]; omega
  have e1 : splc (ts.take i ++ List.replicate (n + 1 - i) z) i [x] = ts.take i ++ [x] ++ List.replicate (n - i) z := by
    unfold splc
    rw [List.take_left' l1]
    congr 1
    rw [List.drop_append, l1, List.drop_of_length_le (l := List.take i ts) (by rw [l1]; simp), List.nil_append, List.drop_replicate]
    congr 1
    simp
    omega
  rw [e1]
  have l2 : (ts.take i ++ [x]).length = i + 1 := by rw [List.length_append, l1]; rfl
  unfold splc insM
  rw [List.take_left' l2, List.drop_of_length_le (l := List.take i ts ++ [x] ++ List.replicate (n - i) z) (by rw [List.length_append, l2, List.length_replicate, List.length_drop]; omega)]
  simp

set_option maxHeartbeats 1000000 in
theorem insShift_any (g c i n gx : Nat) (ts : List T3) (x y z : Int) (w : World) (h : RowT 56 w g c ts) (hl : ts.length = n) (hi : i < n) (hroom : n + 1 ≤ c)
    (hx : w.heap[gx]? = some (.cells #[.int .i64 x, .int .i64 y, .int .i64 z] 56 (0, 0))) (hne : gx ≠ g) :
    Calls Try.prog 87 #[.slice (some ⟨g, 0, none⟩) n c, .int .i64 i, .slice (some ⟨gx, 0, none⟩) 1 1] w fun e w' =>
      e = .returned (.slice (some ⟨g, 0, none⟩) (n + 1) c) ∧ RowT 56 w' g c (insM ts i (x, y, z)) ∧ w.grownBy w' (some g) := by
  have hsm := h.small
  unfold maxLen at hsm
  obtain ⟨cur, hcur, hcs, _⟩ := h.cells
  have hsa : w.shape? gx = some (56, 3) := by simp [World.shape?, hx]
  have hsb : w.shape? g = some (56, c * 3) := by simp [World.shape?, hcur, hcs]
  have hfa := frozen_of_block hx 0
  have hfe := frozen_of_block hx 3
  have hz : ∀ W, (Go.sizeOf 56).run Try.prog W = .ok 3 W := by
    intro W
    obtain ⟨z, hinf, hzc⟩ := infRight
    obtain ⟨i0, hi, hz0, hz1, hz2⟩ := info_parts hinf
    simp [sizeOf, typeInfo, hi, hz1]
  have hov : ∀ lb cb, (callFunc 91 #[.slice (some ⟨gx, 0, none⟩) 1 1, .slice (some ⟨g, (i + 1) * 3, none⟩) lb cb]).run Try.prog w = .ok (.value (.bool false)) w := fun lb cb => by
    rw [run_callFunc_extern Try.func91 (by kernel_rfl) (by kernel_rfl) (by kernel_rfl) (e := Extern.SlicesOverlaps.overlaps #[28, 28] #[4]) (by kernel_rfl),
      Lib.run_overlaps_apart w 28 4 56 Try.underlying28 3 hz ⟨gx, 0, none⟩ ⟨g, (i + 1) * 3, none⟩ 1 1 lb cb hne 56 56 3 (c * 3) hsa hsb (by omega) hfa hfe]
    rfl
  have hd : RowT 56 w.drew g c ts := h.below (belD (Below.refl _ _))
  have HD := hide hd
  have HX := hide (show ∀ W, w.grownBy W (some g) → W.heap[gx]? = some (.cells #[.int .i64 x, .int .i64 y, .int .i64 z] 56 (0, 0)) from fun W hW => grown_heap hW hx (by intro e; injection e with e; exact hne e.symm))
  have HB := hide (show w.grownBy w.drew (some g) from grownR (r := some g) (belD (Below.refl _ _)))
  have HL := hide hl
  have HI := hide (show splc (splc ts (i + 1) (ts.drop i)) i [(x, y, z)] = insM ts i (x, y, z) from splc_shift ts i _ (by omega))
  have HU := hide (show (ts.drop i).length = n - i by rw [List.length_drop, hl])
  have HS := hide (show (splc ts (i + 1) (ts.drop i)).length = n + 1 by unfold splc; simp; omega)
  have hz2 : ¬ ((i : Int) = (n : Int)) := by omega
  have hw1 : IntKind.i64.wrap ((i : Int) + 1) = (i : Int) + 1 := by rw [IntKind.wrap_i64]; omega
  have hw2 : IntKind.i64.wrap ((n : Int) + 1) = (n : Int) + 1 := by rw [IntKind.wrap_i64]; omega
  have hb1 : (0 : Int) ≤ (i : Int) + 1 := by omega
  have hb0 : (0 : Int) ≤ (n : Int) + 1 := by omega
  have hin : i ≤ n := by omega
  have hini : (i : Int) ≤ (n : Int) := by omega
  have hb2 : ¬ (c = i + 1) := by omega
  have hb3 : (i : Int) ≤ (n : Int) + 1 := by omega
  have hb4 : ¬ (c = i) := by omega
  have hb5 : ¬ ((c : Int) < (n : Int) + 1) := by omega
  have hb6 : (n : Int) + 1 ≤ (c : Int) := by omega
  have hb7 : (i : Int) + 1 ≤ (n : Int) + 1 := by omega
  clear hl hd hx hcur
  go_enter Try.func87, Try.ntmps87
  go_wp2_with (simp only [hov])
  go_region_law (refine step_copyT rfl _ _ rfl HD.out (i + 1) (n + 1 - (i + 1)) (c - (i + 1)) ⟨g, i * 3, none⟩ (n + 1 - i) (c - i) (by go_simp) (by go_simp) (ts.drop i) (by rw [HU.out]; simp only [Nat.min_def]; split <;> omega) (HD.out.drop_at i) (by rw [HL.out]; omega) (by rw [HU.out]; omega) (fun v1 w1 hr1 hg1 => ?_))
  all_goals
    have b1 := grownBy_trans HB.out hg1
    have hx1 := HX.out w1 b1
    have SR := hide (one_src hx1)
    go_wp2_with (refine copyR rfl _ _ rfl hr1 i (n + 1 - i) (c - i) ⟨gx, 0, none⟩ 1 1 (by go_simp) (by go_simp) [(x, y, z)] (by simp only [Nat.min_def]; split <;> simp <;> omega) SR.out (by rw [HS.out]; omega) (by simp; omega) (fun v2 w2 hr2 hg2 => ?_))
    go_wp2
    go_ret
    exact ⟨rfl, by rw [← HI.out]; exact hr2, grownBy_trans b1 hg2⟩

end Go.Proofs.Ytjcoajaoofjjmaa
