/- The relation 'nothing old is written'; what a value may be that an operation of a drawn region yields. -/
import Derived.Test.YtpdhgijeanbmcaaDoorRel
import Derived.Test.YtpdhgijeanbmcaaDoorHeap
namespace Go.Proofs.YtpdhgijeanbmcaaDoor
open Go.RowKit

/-- Nothing old is written. -/
def Low (w w' : World) : Prop := Below w.heap.size w w'
theorem Low.refl (w : World) : Low w w := Below.refl _ _
theorem Low.trans (w w' w'' : World) (h : Low w w') (h' : Low w' w'') : Low w w'' := bthen h h'
theorem Low.drew (w : World) : Low w w.drew := (Below.refl _ _).drew
/-- A new row, as a slice of its whole. -/
def pRow (n : Nat) (cs : Array Value) (t : TypeId) : Post Low := ⟨fun v w => ∃ b, v = .slice (some ⟨b, 0, none⟩) n n ∧ w.heap[b]? = some (.cells cs t (0, 0)), fun _ _ _ ⟨b, e, h⟩ hl => ⟨b, e, bblk hl h⟩⟩
end Go.Proofs.YtpdhgijeanbmcaaDoor
