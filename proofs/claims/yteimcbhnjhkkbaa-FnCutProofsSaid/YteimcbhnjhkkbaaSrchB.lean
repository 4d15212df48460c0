/- What both searches need. -/
import Derived.Test.YteimcbhnjhkkbaaMask
namespace Go.Proofs.Yteimcbhnjhkkbaa
set_option linter.unusedSimpArgs false
set_option linter.unusedVariables false
open Go.RowKit

theorem bRun_end (ts : List T3) (fs : List Int) (n i : Nat) (s : St) (h : s.1.length ≤ i) : bRun ts fs n i s = s := by
  cases n with
  | zero => rfl
  | succ n => rw [bRun, if_neg (by omega)]
theorem bRun_step (ts : List T3) (fs : List Int) (n i : Nat) (s : St) (h : i < s.1.length) (hn : 0 < n) : bRun ts fs n i s = bRun ts fs (n - 1) (i + 1) (bAll (s.1.getD i 0) 0 ts fs s) := by
  cases n with
  | zero => omega
  | succ n => rw [bRun, if_pos h]; rfl

/-- The net's box. -/
def BoxN (w : World) (b : Nat) (p : Int) (a : Option Addr) (n cap : Nat) : Prop := w.heap[b]? = some (.cells #[.int .i64 p, .slice a n cap] 26 (0, 0))
theorem BoxN.below {w w' : World} {b B : Nat} {p : Int} {a : Option Addr} {n cap : Nat} (h : BoxN w b p a n cap) (hb : Below B w w') (hB : b < B) : BoxN w' b p a n cap := by
  unfold BoxN; rw [hb.block b hB]; exact h

end Go.Proofs.Yteimcbhnjhkkbaa
