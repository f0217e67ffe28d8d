/- chancellaw01.examples: the contract, as the printed texts ask for it. -/
import Derived.Test.YtjlpclcdbnfikaaDoorExamples
namespace Go.Proofs.YtjlpclcdbnfikaaDoor.P
open Go.RowKit
def chancellaw01_examples.f : Option Bool := some true
theorem chancellaw01_examples.calls (r : Bool) (w : World) (hglb : Glb w) (h : chancellaw01_examples.f = some r) : Calls Tryd.prog 15 #[] w fun e w' => e = .returned (.bool r) ∧ Below w.heap.size w w' := by
  obtain rfl : true = r := Option.some.inj h
  exact examples_true w hglb
end Go.Proofs.YtjlpclcdbnfikaaDoor.P
