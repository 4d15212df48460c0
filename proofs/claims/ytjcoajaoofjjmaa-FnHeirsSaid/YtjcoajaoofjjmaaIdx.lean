/- The place of an owner's right; copies of rights. -/
import Derived.Test.YtjcoajaoofjjmaaSellM
import Derived.Test.YtjcoajaoofjjmaaT3b
import Derived.Test.YtjcoajaoofjjmaaRgtAll
import Derived.Test.YtjcoajaoofjjmaaRgt2
import Derived.Test.YtjcoajaoofjjmaaAppL
import Derived.Deep.AppendSrc
import Derived.Deep.Upon
namespace Go.Proofs.Ytjcoajaoofjjmaa
set_option linter.unusedSimpArgs false
set_option linter.unusedVariables false
set_option linter.unnecessarySimpa false
open Go.RowKit

theorem owner1_any (x y z o : Int) (b : Nat) (w : World) (k2 : w.cell? ⟨b, 0, none⟩ = some (.int .i64 o)) :
    Calls Try.prog 86 (#[.agg #[.int .i64 x, .int .i64 y, .int .i64 z]] ++ #[.pointer (some ⟨b, 0, none⟩)]) w fun e w' => Rets w (.bool (decide (x = o))) e w' := by
  have l2 := World.block_lt_of_cell? _ _ k2
  simp at l2
  go_enter Try.func86, Try.ntmps86
  go_wp2
  go_returns
  exact ⟨ret_bool (by first | rfl | simp), (by repeat first | exact Below.refl _ _ | assumption | (refine belA ?_) | (refine belD ?_) | (refine belN ?_) | (refine belS ?_ (by simp <;> omega)) | (refine belT ?_ (by assumption)))⟩

def idxV (o : Int) (ts : List T3) : Int := if idxO o ts < ts.length then (idxO o ts : Int) else -1

set_option maxHeartbeats 1000000 in
theorem indexFunc_any (a : Option Addr) (cap : Nat) (ts : List T3) (o : Int) (b : Nat) (w : World) (hc : Rd3 w a ts) (hn : ts.length ≤ 1048576) (k2 : w.cell? ⟨b, 0, none⟩ = some (.int .i64 o)) :
    Calls Try.prog 85 #[.slice a ts.length cap, .func (.func 86) #[] #[.pointer (some ⟨b, 0, none⟩)]] w fun e w' => Rets w (.int .i64 (idxV o ts)) e w' := by
  have HM := hide (show idxV o ts = if idxO o ts < ts.length then (idxO o ts : Int) else -1 from rfl)
  go_enter Try.func85, Try.ntmps85
  go_wp2
  go_loopw [8] (fun i wr => ∃ (k : Nat), k ≤ ts.length ∧ i = .int .i64 k ∧ idxO o ts = k + idxO o (ts.drop k) ∧ Below w.heap.size w wr) (fun i _ => ts.length - (intOf i).toNat)
  case atStart => exact ⟨0, Nat.zero_le _, rfl, by simp, Below.refl _ _⟩
  case round =>
    obtain ⟨k, hk, rfl, hr, hbel⟩ := hrel
    have HR := hide hr
    clear hr
    by_cases hlt : k < ts.length
    · obtain ⟨b1, off, rfl, hcell, hcell1, hcell2⟩ := hc.below hbel k hlt
      have HS := hide (idxO_step o ts k hlt)
      have kb := cellB hbel k2
      generalize ts.getD k default = x at *
      obtain ⟨x0, x1, x2⟩ := x
      simp only at hcell hcell1 hcell2 HS
      by_cases hq : x0 = o
      · have HC := hide (show ∀ W, W.cell? ⟨b, 0, none⟩ = some (.int .i64 o) → Calls Try.prog 86 #[.agg #[.int .i64 x0, .int .i64 x1, .int .i64 x2], .pointer (some ⟨b, 0, none⟩)] W fun e w' => Rets W (.bool true) e w' from fun W hW => by
          have := owner1_any x0 x1 x2 o b W hW
          rw [show decide (x0 = o) = true by simpa using hq] at this
          exact this)
        have HQ := hide hq
        clear hq
        go_wp2_with fail
        (with_reducible refine (HC.out _ (by assumption)).mono ?_)
        rintro e w2 ⟨rfl, hb2⟩
        go_wp2
        go_ret
        have e1 : idxO o ts = k := by rw [HR.out, HS.out, if_pos HQ.out]; omega
        exact ⟨ret_int (by rw [HM.out, e1, if_pos hlt]), (by repeat first | exact Below.refl _ _ | assumption | (refine belA ?_) | (refine belD ?_) | (refine belN ?_) | (refine belS ?_ (by simp <;> omega)) | (refine belT ?_ (by assumption)))⟩
      · have HC := hide (show ∀ W, W.cell? ⟨b, 0, none⟩ = some (.int .i64 o) → Calls Try.prog 86 #[.agg #[.int .i64 x0, .int .i64 x1, .int .i64 x2], .pointer (some ⟨b, 0, none⟩)] W fun e w' => Rets W (.bool false) e w' from fun W hW => by
          have := owner1_any x0 x1 x2 o b W hW
          rw [show decide (x0 = o) = false by simpa using hq] at this
          exact this)
        have HQ := hide hq
        clear hq
        go_wp2_with fail
        (with_reducible refine (HC.out _ (by assumption)).mono ?_)
        rintro e w2 ⟨rfl, hb2⟩
        go_wp2
        go_roundw
        case rel => exact ⟨k + 1, by omega, by go_num, by rw [HR.out, HS.out, if_neg HQ.out]; omega, (by repeat first | exact Below.refl _ _ | assumption | (refine belA ?_) | (refine belD ?_) | (refine belN ?_) | (refine belS ?_ (by simp <;> omega)) | (refine belT ?_ (by assumption)))⟩
        case measure => simp [intOf]; omega
    · have hkk : k = ts.length := by omega
      have e1 : idxO o ts = ts.length := by rw [HR.out, List.drop_of_length_le (by omega)]; simp [idxO]; omega
      go_wp2
      go_ret
      exact ⟨ret_int (by rw [HM.out, e1, if_neg (by omega)]), hbel⟩

theorem rightOf_any (a : Option Addr) (cap : Nat) (ts : List T3) (o : Int) (w : World) (hc : Rd3 w a ts) (hn : ts.length ≤ 1048576) :
    Calls Try.prog 70 #[.slice a ts.length cap, .int .i64 o] w fun e w' => Rets w (.int .i64 (idxV o ts)) e w' := by
  have HC := hide (fun W b hc k => indexFunc_any a cap ts o b W hc hn k)
  go_enter Try.func70, Try.ntmps70
  go_wp2_with fail
  have B1 : Below w.heap.size w (w.alloc (.cells #[.int .i64 o] 3)) := (Below.refl _ _).alloc (Nat.le_refl _) _
  (with_reducible refine (HC.out _ _ (hc.below B1) ?_).mono ?_)
  · have := cell_of_block (blk_new w #[.int .i64 o] 3) 0
    simpa using this
  rintro e w2 ⟨rfl, hb2⟩
  go_wp2
  go_ret
  exact ⟨rfl, (by repeat first | exact Below.refl _ _ | assumption | (refine belA ?_) | (refine belD ?_) | (refine belN ?_) | (refine belS ?_ (by simp <;> omega)) | (refine belT ?_ (by assumption)))⟩

/-- 'append(out, l...)', out the call's own, l a slice of rights or nil. -/
theorem run_appendR {w : World} (ty : TypeId) (base : Nat) (v : Value) (xs ys : List T3) (a : Option Addr) (cap : Nat) (hown : OwnsT 56 base w v xs) (hr : Rd3 w a ys) (hn : xs.length + ys.length ≤ 100000000) (hb : base ≤ w.heap.size) :
    ∃ v' w', (Builtin.append_ #[28, 28] ty #[v, .slice a ys.length cap]).run Try.prog w = .ok v' w' ∧ OwnsT 56 base w' v' (xs ++ ys) ∧ Below base w w' ∧ w.grownBy w' v.ownBlock := by
  obtain ⟨z, hinf, hzc⟩ := infRight
  obtain ⟨i0, hi, hz0, hz1, hz2⟩ := info_parts hinf
  have ht := Try.underlying28
  cases a with
  | some ad =>
    obtain ⟨v', w', hrun', hown', hgr, _⟩ := run_append_own (P := Try.prog) (w := w) base 28 ty 56 i0 z 3 24 ht hi hz0 hz1 hz2 hzc (by decide) v xs.length ((flat xs).map (Value.int .i64)) hown ad ys.length cap ((flat ys).map (Value.int .i64)) (by simp [flat_length])
      (fun j u hj => rd3_get hr j u hj) (by intro u hu; simp at hu; obtain ⟨y, _, rfl⟩ := hu; rfl) (by unfold maxLen; omega) (by omega) hb
    exact ⟨v', w', hrun', by unfold OwnsT; rw [flat_append]; simpa using hown', (Below.refl base w).grown hgr hb (fun k hk => (OwnsT.lt hown k hk).1), hgr⟩
  | none =>
    have hy : ys = [] := by
      cases ys with
      | nil => rfl
      | cons y r => obtain ⟨b, off, e, _⟩ := hr 0 (by simp); cases e
    subst hy
    have hv : ∃ bo n c, v = .slice bo n c ∧ n ≤ c := by
      rcases hown.2 with ⟨rfl, _⟩ | ⟨g, cap, cur, rfl, _, _, hnc, _⟩
      · exact ⟨_, _, _, rfl, Nat.le_refl _⟩
      · exact ⟨_, _, _, rfl, hnc⟩
    obtain ⟨bo, n, c, rfl, hle⟩ := hv
    exact ⟨_, w, run_append_nothing w 28 28 ty 56 i0 ht hi bo n c hle _ (Src.ofNil w ht cap), by simpa using hown, Below.refl _ _, grownBy_refl _ _⟩

theorem appendRightsO {ops : Array Oper} {rest : List Oper} {o : Oper} {a : Act} {Q : Exit → Act → World → Prop} {w : World} (hgd : o.guard = none) (s x : Operand)
    (ho : o.op = .call { callee := .builtin .append, args := #[s, x], argTypes := #[28, 28] })
    (base : Nat) (v : Value) (xs ys : List T3) (ad : Option Addr) (cap : Nat) (hown : OwnsT 56 base w v xs) (hr : Rd3 w ad ys) (hs : a.eval s = v) (hx : a.eval x = .slice ad ys.length cap)
    (hn : xs.length + ys.length ≤ 100000000) (hb : base ≤ w.heap.size)
    (h : ∀ v' w', OwnsT 56 base w' v' (xs ++ ys) → Below base w w' → w.grownBy w' v.ownBlock → wpList Try.prog ops Q rest (a.put o.dst v') w') :
    wpList Try.prog ops Q (o :: rest) a w := by
  obtain ⟨v', w', hrun', hown', hbel, hgr⟩ := run_appendR (w := w) o.type base v xs ys ad cap hown hr hn hb
  refine wpList_plain hgd fun K hK => ?_
  unfold Oper.wp execOp
  simp only [ho, resolve, invoke, builtin, Sem.run_bind, Sem.run_pure, Result.andThen_ok, List.map_toArray, List.map_cons, List.map_nil, hs, hx, hrun']
  exact hK _ _ (h v' w' hown' hbel hgr)

/-- The call hands back a slice of rights of its own. -/
def GivesR (ts : List T3) (w : World) (e : Ending) (w' : World) : Prop := ∃ v, e = .returned v ∧ OwnsT 56 w.heap.size w' v ts ∧ Below w.heap.size w w'

theorem copyRights_any (a : Option Addr) (cap : Nat) (ts : List T3) (w : World) (hc : Rd3 w a ts) (hn : ts.length ≤ 1048576) :
    Calls Try.prog 69 #[.slice a ts.length cap] w fun e w' => GivesR ts w e w' := by
  go_enter Try.func69, Try.ntmps69
  go_wp2_with (refine appendRightsO rfl _ _ rfl w.heap.size _ [] ts a cap (OwnsT.nil _ _ _) hc rfl rfl (by simp; omega) (Nat.le_refl _) (fun v' w' ho hb _ => ?_))
  go_wp2
  go_ret
  exact ⟨_, rfl, by simpa using ho, hb⟩

end Go.Proofs.Ytjcoajaoofjjmaa
