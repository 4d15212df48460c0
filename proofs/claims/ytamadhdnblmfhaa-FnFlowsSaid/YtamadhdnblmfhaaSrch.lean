/- The breadth search of the reference. -/
import Derived.Test.YtamadhdnblmfhaaSrchB
import Derived.Test.YtamadhdnblmfhaaAppL
import Derived.Deep.DeepCutAuto
import Derived.Deep.CutBlock
namespace Go.Proofs.Ytamadhdnblmfhaa
set_option linter.unusedSimpArgs false
set_option linter.unusedVariables false
open Go.RowKit

theorem fill1_step (n k : Nat) (h : k < n) : (List.replicate k (-1 : Int) ++ List.replicate (n - k) 0).set k (-1) = List.replicate (k + 1) (-1) ++ List.replicate (n - (k + 1)) 0 := by
  rw [show n - k = (n - (k + 1)) + 1 by omega, List.replicate_succ, List.set_append_right _ _ (by simp), List.length_replicate, Nat.sub_self, List.set_cons_zero, List.replicate_succ' (n := k), List.append_assoc]
  rfl

/-- Where the walk of the search stands: the net's box at b, what was found at b + 1, the list in its own blocks. -/
structure SrS (b : Nat) (w0 : World) (s : St) (v : Value) (M : Int) (wr : World) : Prop where
  own : OwnsI (b + 2) wr v s.1
  by_ : OwnI wr (b + 1) 3 s.2
  mask : MaskOk M s.1
  bel : Below (b + 1) w0 wr
  sz : b + 2 ≤ wr.heap.size

theorem OwnI.heap {w w' : World} {g : Nat} {T : TypeId} {xs : List Int} (h : OwnI w g T xs) (e : w'.heap[g]? = w.heap[g]?) : OwnI w' g T xs := by
  unfold OwnI at *; rw [e]; exact h

theorem SrS.below {b : Nat} {w0 wr wx : World} {s : St} {v : Value} {M : Int} (h : SrS b w0 s v M wr) (hb : Below wr.heap.size wr wx) : SrS b w0 s v M wx :=
  ⟨h.own.below hb, h.by_.below hb, h.mask, h.bel.trans (hb.mono (by have := h.sz; omega)), Nat.le_trans h.sz hb.size⟩

/-- A place z is found over code c: the bit, the code, the list. -/
theorem SrS.found {b : Nat} {w0 wr w2 : World} {s : St} {v : Value} {M : Int} {z c : Int} {g cap m : Nat} (h : SrS b w0 s v M wr) (z0 : 0 ≤ z) (z7 : z ≤ 7) (hm : m = s.1.length + 1)
    (hown : OwnsI (b + 2) w2 (.slice (some ⟨g, 0, none⟩) m cap) (s.1 ++ [z])) (hg : (wr.setCell ⟨b + 1, z.toNat, none⟩ (.int .i64 c)).grownBy w2 v.ownBlock) :
    SrS b w0 (s.1 ++ [z], s.2.set z.toNat c) (.slice (some ⟨g, 0, none⟩) m cap) (bits .or .i64 M (2 ^ z.toNat)) w2 := by
  have hsz := h.sz
  have hov : ∀ k, v.ownBlock = some k → b + 2 ≤ k := fun k hk => (h.own.lt k hk).1
  refine ⟨hown, ?_, h.mask.add z0 z7, ?_, ?_⟩
  · refine (h.by_.set z.toNat c).heap ?_
    exact hg.block (b + 1) (by simp; omega) (fun e => by have := hov (b + 1) e.symm; omega)
  · exact (h.bel.grown (grownBy_set _ (b + 1) z.toNat (.int .i64 c)) (by omega) (fun k hk => by injection hk with hk; omega)).grown hg (by simp; omega) (fun k hk => by have := hov k hk; omega)
  · have := hg.size; simp at this; omega


end Go.Proofs.Ytamadhdnblmfhaa
