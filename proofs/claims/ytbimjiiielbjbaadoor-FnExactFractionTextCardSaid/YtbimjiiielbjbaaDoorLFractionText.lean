/- The walk of the law FractionText. -/
import Derived.Test.YtbimjiiielbjbaaDoorText
namespace Go.Proofs.YtbimjiiielbjbaaDoor
set_option linter.unusedSimpArgs false
set_option linter.unusedVariables false
open Go.RowKit

theorem law_FractionText (t b : Int) (w : World) (ht : Tab w) :
    Calls Tryd.prog 3 #[.agg #[.int .i64 t, .int .i64 b]] w fun e w' => Rets w (.bool true) e w' := by
  have hS := hide (fun W => specFractionText_any t b W)
  have hI := hide (fun W => implFractionText_any t b W)
  have hT := hide (fun W (hb : Below w.heap.size w W) => ht.below hb)
  generalize fracS t b = S at *
  go_enter Tryd.func3, Tryd.ntmps3
  go_wp2_with fail
  refine (toFraction_any t b _).mono ?_
  rintro e w1 ⟨rfl, hb1⟩
  have b1 := belT (belA (Below.refl w.heap.size w)) hb1
  have k1 := heap_grow (show (w.alloc (.cells #[.int .i64 t, .int .i64 b] 23)).heap[w.heap.size]? = some (.cells #[.int .i64 t, .int .i64 b] 23 (0, 0)) by show (w.heap.push _)[w.heap.size]? = _; simp) hb1
  go_wp2_with fail
  (with_reducible refine (hS.out _ (hT.out _ b1)).mono ?_)
  rintro e w2 ⟨rfl, hb2⟩
  have b2 := belT b1 hb2
  have k2 := heap_grow k1 hb2
  have c0 := cell_of_block k2 0
  have c1 := cell_of_block k2 1
  simp at c0 c1
  clear k1 b1 hb1 hb2
  go_wp2_with fail
  refine (toFraction_any t b _).mono ?_
  rintro e w3 ⟨rfl, hb3⟩
  have b3 := belT b2 hb3
  go_wp2_with fail
  (with_reducible refine (hI.out _ (hT.out _ b3)).mono ?_)
  rintro e w4 ⟨rfl, hb4⟩
  have b4 := belT b3 hb4
  go_wp2
  all_goals go_ret
  all_goals exact ⟨rfl, b4⟩

end Go.Proofs.YtbimjiiielbjbaaDoor
