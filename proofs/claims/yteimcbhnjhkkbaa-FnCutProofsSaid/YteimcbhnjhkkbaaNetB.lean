/- Nets: marked, held. -/
import Derived.Test.YteimcbhnjhkkbaaNet2
namespace Go.Proofs.Yteimcbhnjhkkbaa
set_option linter.unusedSimpArgs false
set_option linter.unusedVariables false
open Go.RowKit

theorem grown_alloc {w w2 : World} {o : Obj} {r : Option Nat} (h : (w.alloc o).grownBy w2 r) : w.grownBy w2 r :=
  ⟨h.os, h.tape, h.output, Nat.le_trans (by show w.heap.size ≤ (w.heap.push o).size; simp) h.size, fun i hi hr => by
    have h1 := h.block i (by show i < (w.heap.push o).size; simp; omega) hr
    rw [h1]; show (w.heap.push o)[i]? = _; rw [Array.getElem?_push]; simp [Nat.ne_of_lt hi]⟩

theorem markNet_any (p : Int) (g cap n : Nat) (T : TypeId) (xs : List Int) (k0 : Int) (w : World) (ho : OwnP w g T xs) (hx : xs.length = n * 3) (hn : n ≤ 1048576) (h0 : 0 ≤ k0) (h1 : k0 ≤ 10000000) :
    Calls Try.prog 28 #[.agg #[.int .i64 p, .slice (some ⟨g, 0, none⟩) n cap], .int .i64 k0] w fun e w' => e = .returned (.int .i64 (k0 + (n * 3 : Nat))) ∧ OwnP w' g T (fromI k0 (n * 3)) ∧ w.grownBy w' (some g) := by
  have HS := hide (fun (W : World) (h : OwnP W g T xs) => markPipeS_any g cap n T xs k0 W h hx hn h0 h1)
  have hoa := ho.below (w' := w.alloc (.cells #[.int .i64 p, .slice (some ⟨g, 0, none⟩) n cap] 26)) ((Below.refl _ _).alloc (Nat.le_refl _) _)
  clear hx
  go_enter Try.func28, Try.ntmps28
  go_wp2_with fail
  (with_reducible refine (HS.out _ hoa).mono ?_)
  rintro e w2 ⟨rfl, hm, hgr⟩
  go_wp2
  go_ret
  exact ⟨rfl, hm, grown_alloc hgr⟩

theorem markNet_nil (p : Int) (cap : Nat) (a : Option Addr) (k0 : Int) (w : World) (h0 : 0 ≤ k0) :
    Calls Try.prog 28 #[.agg #[.int .i64 p, .slice a 0 cap], .int .i64 k0] w fun e w' => Rets w (.int .i64 k0) e w' := by
  have HS := hide (fun (W : World) => markPipeS_nil k0 W cap a)
  go_enter Try.func28, Try.ntmps28
  go_wp2_with fail
  (with_reducible refine (HS.out _).mono ?_)
  rintro e w2 ⟨rfl, rfl⟩
  go_wp2
  go_ret
  exact ⟨rfl, (by repeat first | exact Below.refl _ _ | assumption | (refine belA ?_) | (refine belD ?_) | (refine belN ?_) | (refine belS ?_ (by simp <;> omega)) | (refine belT ?_ (by assumption)))⟩


end Go.Proofs.Yteimcbhnjhkkbaa
