/- What a call hands back that it made itself. -/
import Derived.Test.YtjcoajaoofjjmaaApp
namespace Go.Proofs.Ytjcoajaoofjjmaa
open Go.RowKit

/-- The call hands back a slice of the numbers xs that it made itself. -/
def GivesI (xs : List Int) (w : World) (e : Ending) (w' : World) : Prop := ∃ v, e = .returned v ∧ OwnsI w.heap.size w' v xs ∧ Below w.heap.size w w'

/-- The call hands back a slice of the numbers xs (made by the call, or empty without room). -/
def GivesE (xs : List Int) (w : World) (e : Ending) (w' : World) : Prop := ∃ v, e = .returned v ∧ OwnsE w.heap.size w' v xs ∧ Below w.heap.size w w'

end Go.Proofs.Ytjcoajaoofjjmaa
