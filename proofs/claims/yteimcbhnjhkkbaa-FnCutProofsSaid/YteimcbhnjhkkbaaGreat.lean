/- A cut as wide as a flow. -/
import Derived.Test.YteimcbhnjhkkbaaFlow2
namespace Go.Proofs.Yteimcbhnjhkkbaa
set_option linter.unusedSimpArgs false
set_option linter.unusedVariables false
open Go.RowKit

def provesM (p : Int) (ts : List T3) (fs : List Int) (s x y : Int) : Bool := flowOkM p ts fs x y && isCutM p ts s x y && (sizeM p ts fs x y == cutM p ts s)

set_option maxRecDepth 100000 in
theorem implProvesGreatest_any (p s x y : Int) (a af : Option Addr) (cap capf : Nat) (ts : List T3) (fs : List Int) (w : World) (hc : Rd3 w a ts) (hf : Rd w af fs) (hn : ts.length ≤ 1048576) (hnf : fs.length ≤ 1048576) :
    Calls Try.prog 16 #[.agg #[.int .i64 p, .slice a ts.length cap], .slice af fs.length capf, .int .i64 s, .int .i64 x, .int .i64 y] w fun e w' => Rets w (.bool (provesM p ts fs s x y)) e w' := by
  have HF := hide (fun W (hb : Below w.heap.size w W) => implFlowOk_any p x y a af cap capf ts fs W (hc.below hb) (hf.below hb) hn hnf)
  have HS := hide (fun W (hb : Below w.heap.size w W) => implFlowSize_any p x y a af cap capf ts fs W (hc.below hb) (hf.below hb) hn hnf)
  have HI := hide (fun W (hb : Below w.heap.size w W) => implIsCut_any p s x y a cap ts W (hc.below hb) hn)
  have HC := hide (fun W (hb : Below w.heap.size w W) => implCutWidth_any p s a cap ts W (hc.below hb) hn)
  have HM := hide (show provesM p ts fs s x y = (flowOkM p ts fs x y && isCutM p ts s x y && (sizeM p ts fs x y == cutM p ts s)) from rfl)
  generalize flowOkM p ts fs x y = A at *
  generalize isCutM p ts s x y = B at *
  generalize sizeM p ts fs x y = C at *
  generalize cutM p ts s = D at *
  have bA := belA (o := .cells #[.int .i64 p, .slice a ts.length cap] 26) (Below.refl w.heap.size w)
  have BA := hide bA
  cases A
  all_goals cases B
  all_goals (
    clear bA
    go_enter Try.func16, Try.ntmps16
    go_wp2
    (refine wp_region_g [0, 1, 2, 3, 4, 5, 6, 7, 8, 9, 10, 11, 12, 13, 14, 15, 16, 17, 18, 19, 20, 21, 22, 23] [] (by kernel_rfl) (by kernel_rfl) ?_; simp only [pick, List.map_cons, List.map_nil, Array.getD_eq_getD_getElem?, List.getElem?_toArray, List.getElem?_cons_zero, List.getElem?_cons_succ, Option.getD_some]; (iterate 24 (refine wpG_step (fun K hK => ?_); go_simp; first | (refine hK _ ?_; clear hK K) | (apply Exists.intro; refine ⟨fun _ => ?_, hK _ ?_⟩; ((first | (go_at_call 40; exact HF.out _ (BA.out.trans ((below_grew _ _).mono BA.out.size))) | (go_at_call 15; exact HI.out _ (BA.out.trans ((below_grew _ _).mono BA.out.size))) | (go_at_call 45; exact HS.out _ (BA.out.trans ((below_grew _ _).mono BA.out.size))) | (go_at_call 14; exact HC.out _ (BA.out.trans ((below_grew _ _).mono BA.out.size))))); clear hK K))); refine wpG_nil ?_)
    (refine wpT_end ?_; intro wr hbr _; obtain ⟨hcb, hfb⟩ := bcell hbr; have hzr := hbr.size; (try simp at hzr); (try (refine ltk (a := w.heap.size) (b := wr.heap.size) ?_ ?_; (focus omega); intro _ _)); (try (refine ltk (a := w.heap.size + 1) (b := wr.heap.size) ?_ ?_; (focus omega); intro _ _)); (try (refine ltk (a := w.heap.size + 2) (b := wr.heap.size) ?_ ?_; (focus omega); intro _ _)); (try (refine ltk (a := w.heap.size + 3) (b := wr.heap.size) ?_ ?_; (focus omega); intro _ _)))
    go_wp2
    go_ret
    exact ⟨ret_bool (by rw [HM.out]; rfl), belT BA.out hbr⟩)


end Go.Proofs.Yteimcbhnjhkkbaa
