/- Layer 10's laws: where errors.As finds the type 'error'; blocks that are held. -/
import Derived.Test.YtikgbgminhgpdaaGreatDoorHeap
import Derived.Lib.Hide
namespace Go.Proofs.YtikgbgminhgpdaaGreatDoor
open Go.RowKit

/-- Where errors.As finds the type 'error'. -/
def Handle (w : World) : Prop := w.cell? ⟨0, 0, none⟩ = some (.iface 119 (.agg #[.pointer (some ⟨9, 26, none⟩)]))
theorem Handle.lt {w : World} (h : Handle w) : 0 < w.heap.size := World.block_lt_of_cell? w _ h
theorem Handle.below {B : Nat} {w w' : World} (h : Handle w) (hB : 0 < B) (k : Below B w w') : Handle w' := (k.cell hB).trans h
end Go.Proofs.YtikgbgminhgpdaaGreatDoor
