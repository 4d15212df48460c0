/- The map of the first steps: what it holds, read and written. -/
import Derived.Test.YteimcbhnjhkkbaaMask
import Derived.Maps.OwnSet
import Derived.Maps.RangeWalk
namespace Go.Proofs.Yteimcbhnjhkkbaa
set_option linter.unusedSimpArgs false
set_option linter.unusedVariables false
open Go.RowKit
open Go.Maps (Keyed int_keyed)
open Go.Maps (keyOf_int_mk)

def bI (b : Bool) : Int := if b then 1 else 0
def stepElem : Value → Option (DataW Unit × List MemPlace)
  | .agg cs => match cs.toList with
    | [.int .i64 p, .bool b] => some (.lit (.int .i64 (2 * p + bI b)), [])
    | _ => none
  | _ => none
theorem stepElem_mk (p : Int) (b : Bool) : stepElem (.agg #[.int .i64 p, .bool b]) = some (.lit (.int .i64 (2 * p + bI b)), []) := rfl
theorem stepElem_inv {v : Value} {z : DataW Unit × List MemPlace} (h : stepElem v = some z) : ∃ p b, v = .agg #[.int .i64 p, .bool b] ∧ z = (.lit (.int .i64 (2 * p + bI b)), []) := by
  unfold stepElem at h
  split at h
  · rename_i cs
    split at h
    · rename_i p b e
      simp only [Option.some.injEq] at h
      refine ⟨p, b, ?_, h.symm⟩
      have : cs = #[.int .i64 p, .bool b] := by apply Array.toList_inj.1; simpa using e
      rw [this]
    · cases h
  · cases h

theorem keyedI : Keyed Try.prog 3 := int_keyed Try.underlying3
theorem zeroStep (w : World) : (zeroValue 72).run Try.prog w = .ok (.agg #[.int .i64 0, .bool false]) w := by kernel_rfl
theorem keyI (z : Nat) (hz : z < 8) : keyOf Try.prog 3 (.int .i64 (z : Int)) = some (.int .i64 (z : Int)) := keyOf_int_mk Try.underlying3 (WalkArith.wf_i64 (by omega))
theorem isKeyI (z : Int) : WideAt.IsKeyLit (.int .i64 z) := trivial

structure CameOk (x : Int) (s : St) (D : DataW Unit) : Prop where
  has : ∀ z : Int, Maps.has D (.int .i64 z) = decide (z ∈ s.1)
  at_ : ∀ z : Nat, z < 8 → (z : Int) ∈ s.1 → (z : Int) ≠ x → ∀ zd, D.atKey (.int .i64 (z : Int)) zd = .lit (.int .i64 (s.2.getD z 0))

/-- Block b holds the first steps that s tells of. -/
def CameMap (w : World) (b : Nat) (x : Int) (s : St) : Prop := ∃ (D : DataW Unit) (m : Nat), w.ownsMap Try.prog 3 stepElem b m D ∧ m ≤ s.1.length ∧ CameOk x s D

theorem CameMap.kept {w w' : World} {b : Nat} {x : Int} {s : St} {r : Option Nat} (h : CameMap w b x s) (hg : w.grownBy w' r) (hr : r ≠ some b) : CameMap w' b x s := by
  obtain ⟨D, m, h1, h2, h3⟩ := h
  exact ⟨D, m, h1.kept hg (fun e => hr e.symm), h2, h3⟩
theorem CameMap.below {w w' : World} {b : Nat} {x : Int} {s : St} (h : CameMap w b x s) (hb : Below w.heap.size w w') : CameMap w' b x s :=
  h.kept (r := none) ⟨hb.os, hb.tape, hb.output, hb.size, fun k hk _ => hb.block k hk⟩ (by simp)
theorem CameMap.lt {w : World} {b : Nat} {x : Int} {s : St} (h : CameMap w b x s) : b < w.heap.size := by obtain ⟨D, m, h1, _⟩ := h; exact h1.lt

theorem litI {a b : Int} (h : a ≠ b) : Lit.int .i64 a ≠ .int .i64 b := by
  intro e; injection e with _ e; exact h e

/-- m[z] = step: one more place. -/
theorem CameMap.store {w : World} {b : Nat} {x : Int} {s : St} (h : CameMap w b x s) {z : Nat} (hz : z < 8) (hn : (z : Int) ∉ s.1) (hx : (z : Int) ≠ x) (hl : s.2.length = 8 ∨ z < s.2.length) (hq : s.1.length ≤ 8) (p : Int) (k : Bool) :
    ∃ w', (Instr.mapUpdate 62 (.map (some b)) (.int .i64 (z : Int)) (.agg #[.int .i64 p, .bool k])).run Try.prog w = .ok () w' ∧ CameMap w' b x (s.1 ++ [(z : Int)], s.2.set z (2 * p + bI k)) ∧ w.grownBy w' (some b) := by
  obtain ⟨D, m, h1, h2, h3⟩ := h
  have hzl : z < s.2.length := by omega
  obtain ⟨w', r1, r2, r3⟩ := h1.update (t := 62) keyedI Try.underlying62 (by unfold maxLen; omega) (keyI z hz) (stepElem_mk p k)
  refine ⟨w', r1, ⟨_, m + 1, r2, by simp; omega, fun y => ?_, fun y hy hm hne zd => ?_⟩, r3⟩
  · by_cases e : y = (z : Int)
    · subst e
      rw [Maps.has_put_same h1.isMap (isKeyI _)]; simp
    · rw [Maps.has_put_other (litI e), h3.has y]
      apply decide_eq_decide.2
      simp; omega
  · by_cases e : y = z
    · subst e
      rw [Maps.atKey_put_same h1.isMap (isKeyI _), getD_setI _ _ _ _ hzl, if_pos rfl]
    · rw [Maps.atKey_put_other (litI (show (y : Int) ≠ (z : Int) by omega)), getD_setI _ _ _ _ hzl, if_neg (fun e' => e e'.symm)]
      refine h3.at_ y hy ?_ hne zd
      rcases List.mem_append.1 hm with hm | hm
      · exact hm
      · simp at hm; omega

/-- The map with the first place alone. -/
theorem CameMap.made {w : World} (x : Nat) (hx : x < 8) (n : Nat) (v : Int) (k : Bool) :
    ∃ w', (Instr.mapUpdate 62 (.map (some w.heap.size)) (.int .i64 (x : Int)) (.agg #[.int .i64 v, .bool k])).run Try.prog (w.alloc (.map #[] 0)) = .ok () w' ∧ CameMap w' w.heap.size (x : Int) ([(x : Int)], List.replicate n (-1)) ∧ (w.alloc (.map #[] 0)).grownBy w' (some w.heap.size) := by
  have h1 := World.ownsMap_made w Try.prog 3 stepElem
  obtain ⟨w', r1, r2, r3⟩ := h1.update (t := 62) keyedI Try.underlying62 (by unfold maxLen; omega) (keyI x hx) (stepElem_mk v k)
  refine ⟨w', r1, ⟨_, 1, r2, by simp, fun y => ?_, fun y hy hm hne zd => ?_⟩, r3⟩
  · by_cases e : y = (x : Int)
    · subst e
      rw [Maps.has_put_same h1.isMap (isKeyI _)]; simp
    · rw [Maps.has_put_other (litI e)]
      have : y ∉ [(x : Int)] := by simp; omega
      simp [Maps.has, this]
  · simp at hm; omega

/-- m[z] with 'ok'. -/
theorem CameMap.look {w : World} {b : Nat} {x : Int} {s : St} (h : CameMap w b x s) {z : Nat} (hz : z < 8) :
    ∃ (p : Int) (k : Bool), (Instr.lookup 62 (.map (some b)) (.int .i64 (z : Int)) true).run Try.prog w = .ok (.tuple #[.agg #[.int .i64 p, .bool k], .bool (decide ((z : Int) ∈ s.1))]) w := by
  obtain ⟨D, m, h1, h2, h3⟩ := h
  obtain ⟨v, ps, hrun, hv⟩ := h1.look_ok (t := 62) keyedI Try.underlying62 (zeroStep w) (stepElem_mk 0 false) (keyI z hz)
  obtain ⟨p, k, rfl, _⟩ := stepElem_inv hv
  exact ⟨p, k, by rw [hrun, h3.has z]⟩

/-- m[z] of a place that is there. -/
theorem CameMap.get {w : World} {b : Nat} {x : Int} {s : St} (h : CameMap w b x s) {z : Nat} (hz : z < 8) (hm : (z : Int) ∈ s.1) (hne : (z : Int) ≠ x) :
    ∃ (p : Int) (k : Bool), (Instr.lookup 62 (.map (some b)) (.int .i64 (z : Int)) false).run Try.prog w = .ok (.agg #[.int .i64 p, .bool k]) w ∧ 2 * p + bI k = s.2.getD z 0 := by
  obtain ⟨D, m, h1, h2, h3⟩ := h
  obtain ⟨v, ps, hrun, hv⟩ := h1.lookup (t := 62) keyedI Try.underlying62 (zeroStep w) (stepElem_mk 0 false) (keyI z hz)
  obtain ⟨p, k, rfl, e⟩ := stepElem_inv hv
  rw [h3.at_ z hz hm hne] at e
  injection e with e _
  injection e with e
  injection e with _ e
  exact ⟨p, k, hrun, e.symm⟩

end Go.Proofs.Yteimcbhnjhkkbaa
