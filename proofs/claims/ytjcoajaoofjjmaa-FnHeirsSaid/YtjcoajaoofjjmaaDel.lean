/- slices.Delete and slices.Insert at rows of rights. -/
import Derived.Test.YtjcoajaoofjjmaaIdx
import Derived.Test.YtjcoajaoofjjmaaSlc
import Derived.Lib.Overlaps
import Derived.Lib.AppendZerosOnto
import Derived.StillTailTactics
namespace Go.Proofs.Ytjcoajaoofjjmaa
set_option linter.unusedSimpArgs false
set_option linter.unusedVariables false
set_option linter.unnecessarySimpa false
open Go.RowKit

theorem splc_erase (ts : List T3) (k : Nat) (hk : k < ts.length) : (splc ts k (ts.drop (k + 1))).take (ts.length - 1) = ts.eraseIdx k := by
  unfold splc
  have e : (ts.take k ++ ts.drop (k + 1)).length = ts.length - 1 := by simp; omega
  rw [List.take_left' e, List.eraseIdx_eq_take_drop_succ]

/-- append(s[:j], x..) where there is room, as one step of a drawn region. -/
theorem step_appT {ops : Array Oper} {o : Oper} {a : Act} {w : World} {K : Act → World → Prop} {Q : Exit → Act → World → Prop} {E : Prop} {g c : Nat} {ts : List T3}
    (hg : o.guard = none) (s x : Operand) (hop : o.op = Op.call { callee := Callee.builtin Builtin.append, args := #[s, x], argTypes := #[28, 28] })
    (h : RowT 56 w g c ts) (j : Nat) (hs : a.eval s = .slice (some ⟨g, 0, none⟩) j c) (ad : Addr) (sLen sCap : Nat) (hx : a.eval x = .slice (some ad) sLen sCap)
    (us : List T3) (hl : us.length = sLen) (hsrc : ∀ i u, (cellsT us)[i]? = some u → w.cell? (ad.add i) = some u) (hj : j ≤ ts.length) (hr : j + us.length ≤ c) (m : Nat) (hm : j + sLen = m)
    (hK : ∀ w', RowT 56 w' g c (splc ts j us) → w.grownBy w' (some g) → K (a.put o.dst (.slice (some ⟨g, 0, none⟩) m c)) w') :
    if Region.wanted o (yielded ops a.tmps) = true then Oper.wp Try.prog o a w K Q else E := by
  have hw : Region.wanted o (yielded ops a.tmps) = true := by simp [Region.wanted, hg]
  rw [if_pos hw]
  subst hm
  obtain ⟨z, hinf, hzc⟩ := infRight
  obtain ⟨i0, hi, hz0, hz1, hz2⟩ := info_parts hinf
  obtain ⟨w', hrun, h1, h2⟩ := run_appT h 28 o.type Try.underlying28 i0 hi hz1 j ad sLen sCap us hl hsrc hj hr
  unfold Oper.wp
  simp [execOp, hop, resolve, invoke, builtin, hs, hx, hrun, Result.andThen]
  exact hK _ h1 h2

theorem infR0 : Try.prog.info? 56 |>.isSome := by kernel_rfl
theorem infRz : ∃ z : Value, (Try.prog.info? 56).map (fun i => (i.zero, i.size, i.bytes)) = some (some z, 3, 24) ∧ z.cells = #[.int .i64 0, .int .i64 0, .int .i64 0] := by
  first
    | exact ⟨.agg #[.int .i64 0, .int .i64 0, .int .i64 0], by kernel_rfl, rfl⟩
    | exact ⟨.agg #[.int .i64 0, .agg #[.int .i64 0, .int .i64 0]], by kernel_rfl, rfl⟩

/-- clear(s[j:n]) behind the elements. -/
theorem clearR {ops : Array Oper} {rest : List Oper} {o : Oper} {a : Act} {Q : Exit → Act → World → Prop} {w : World} {g c : Nat} {ts : List T3} (hgd : o.guard = none) (s : Operand)
    (ho : o.op = .call { callee := .builtin .clear, args := #[s], argTypes := #[28] })
    (h : RowT 56 w g c ts) (j n cap : Nat) (hj : j = ts.length) (hr : j + n ≤ c) (hn : 0 < n) (hs : a.eval s = .slice (some ⟨g, j * 3, none⟩) n cap)
    (hK : ∀ w', RowT 56 w' g c ts → w.grownBy w' (some g) → wpList Try.prog ops Q rest (a.put o.dst (.tuple #[])) w') :
    wpList Try.prog ops Q (o :: rest) a w := by
  obtain ⟨z, hinf, hzc⟩ := infRz
  obtain ⟨i0, hi, hz0, hz1, hz2⟩ := info_parts hinf
  obtain ⟨w', hrun, h1, h2⟩ := run_clearT h 28 o.type Try.underlying28 i0 hi z hz0 hzc j n cap hj hr hn
  refine wpList_plain hgd fun K hK' => ?_
  unfold Oper.wp execOp
  simp only [ho, resolve, invoke, builtin, Sem.run_bind, Sem.run_pure, Result.andThen_ok, List.map_toArray, List.map_cons, List.map_nil, hs, hrun]
  exact hK' _ _ (hK w' h1 h2)

set_option maxHeartbeats 1000000 in
theorem delete_any (g c k m : Nat) (ts : List T3) (w : World) (h : RowT 56 w g c ts) (hk : k < ts.length) (hn : ts.length ≤ 1048576) (hm : ts.length = m + 1) :
    Calls Try.prog 73 #[.slice (some ⟨g, 0, none⟩) ts.length c, .int .i64 k, .int .i64 ((k : Int) + 1)] w fun e w' =>
      e = .returned (.slice (some ⟨g, 0, none⟩) m c) ∧ RowT 56 w' g c (ts.eraseIdx k) ∧ w.grownBy w' (some g) := by
  have hroom := h.room
  have h1 : (k : Int) ≤ (ts.length : Int) := by omega
  have h2 : ((k + 1 : Nat) : Int) ≤ (ts.length : Int) := by omega
  have h3 : (k : Int) ≤ ((k + 1 : Nat) : Int) := by omega
  have h4 : ¬ ((k : Int) = ((k + 1 : Nat) : Int)) := by omega
  have h5 : (ts.length : Int) ≤ (c : Int) := by omega
  have h6 : k ≤ c := by omega
  have h8 : (k : Int) ≤ (k : Int) + 1 := by omega
  have h9 : 0 ≤ (k : Int) + 1 ∧ (k : Int) + 1 ≤ (ts.length : Int) := by omega
  have h7 : k + 1 ≤ c := by omega
  have g1 : (m : Int) ≤ (ts.length : Int) := by omega
  have g2 : ¬ c = m := by omega
  have g3 : m ≤ ts.length := by omega
  have hsm := h.small
  have hd : RowT 56 w.drew g c ts := h.below (belD (Below.refl _ _))
  have HD := hide hd
  have HE := hide (show (splc ts k (ts.drop (k + 1))).take m = ts.eraseIdx k by have := splc_erase ts k hk; rwa [hm, Nat.add_sub_cancel] at this)
  have HL2 := hide (show m = (ts.eraseIdx k).length by rw [List.length_eraseIdx]; simp [hk]; omega)
  have HB := hide (show w.grownBy w.drew (some g) from grownR (r := some g) (belD (Below.refl _ _)))
  have HM := hide hm
  clear hd hm
  have TAIL : ∀ w1, RowT 56 w1 g c (splc ts k (ts.drop (k + 1))) → w.drew.grownBy w1 (some g) → RowT 56 w1 g c (ts.eraseIdx k) ∧ w.grownBy w1 (some g) := fun w1 a1 a2 =>
    ⟨by have := a1.first m; rwa [HE.out] at this, grownBy_trans HB.out a2⟩
  by_cases hcc : c = k + 1
  · subst hcc
    have HL := hide (show (ts.drop (k + 1)).length = 0 by simp; omega)
    have hsrc : ∀ i u, (cellsT (ts.drop (k + 1)))[i]? = some u → w.drew.cell? ((⟨g, 0, none⟩ : Addr).add i) = some u := by
      intro i u hi
      rw [List.drop_of_length_le (by omega)] at hi
      simp [cellsT, flat] at hi
    go_enter Try.func73, Try.ntmps73
    go_wp2
    go_region_law (refine step_appT rfl _ _ rfl HD.out k (by go_simp) ⟨g, 0, none⟩ 0 0 (by go_simp) (ts.drop (k + 1)) HL.out hsrc (by omega) (by rw [HL.out]; omega) m (by have := HM.out; omega) (fun w1 hr1 hg1 => ?_))
    all_goals
      obtain ⟨r1, r2⟩ := TAIL w1 hr1 hg1
      clear TAIL hr1 hg1 hsrc HL
      go_wp2_with (refine clearR rfl _ rfl r1 m (ts.length - m) (k + 1 - m) HL2.out (by have := HM.out; omega) (by have := HM.out; omega) (by go_simp) (fun w2 hr2 hg2 => ?_))
      go_wp2
      go_ret
      exact ⟨rfl, hr2, grownBy_trans r2 hg2⟩
  · have hsrc : ∀ i u, (cellsT (ts.drop (k + 1)))[i]? = some u → w.drew.cell? ((⟨g, (k + 1) * 3, none⟩ : Addr).add i) = some u := fun i u hi => HD.out.drop_at (k + 1) i u hi
    have HL := hide (show (ts.drop (k + 1)).length = ts.length - (k + 1) by simp)
    go_enter Try.func73, Try.ntmps73
    go_wp2
    go_region_law (refine step_appT rfl _ _ rfl HD.out k (by go_simp) ⟨g, (k + 1) * 3, none⟩ (ts.length - (k + 1)) (c - (k + 1)) (by go_simp) (ts.drop (k + 1)) HL.out hsrc (by omega) (by rw [HL.out]; omega) m (by have := HM.out; omega) (fun w1 hr1 hg1 => ?_))
    all_goals
      obtain ⟨r1, r2⟩ := TAIL w1 hr1 hg1
      clear TAIL hr1 hg1 hsrc HL
      go_wp2_with (refine clearR rfl _ rfl r1 m (ts.length - m) (c - m) HL2.out (by have := HM.out; omega) (by have := HM.out; omega) (by go_simp) (fun w2 hr2 hg2 => ?_))
      go_wp2
      go_ret
      exact ⟨rfl, hr2, grownBy_trans r2 hg2⟩

end Go.Proofs.Ytjcoajaoofjjmaa
