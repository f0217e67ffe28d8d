/- A world for the rows' witnesses: the settled one, the three tables holding what their initialisers lay. -/
import Derived.Test.YtjlpclcdbnfikaaDoorFrame
namespace Go.Proofs.YtjlpclcdbnfikaaDoor
open Go.ChangeShapes Go.WideShapes Go.ChangeAt Go.RowKit

def flat1 : DataW Unit → List Value
  | .lit (.int k n) => [.int k n]
  | _ => []
def flat2 : DataW Unit → List Value
  | .agg ds => ds.flatMap flat1
  | d => flat1 d
def flat3 : DataW Unit → List Value
  | .agg ds => ds.flatMap flat2
  | d => flat2 d
def putTab (d : DataW Unit) : Obj → Obj
  | .cells _ t frozen => .cells (flat3 d).toArray t frozen
  | o => o
noncomputable def laidWorld (os : Os) : World :=
  { World.holding Tryd.prog os ⟨#[], #[], []⟩ with heap := (((World.holding Tryd.prog os ⟨#[], #[], []⟩).heap.modify 0 (putTab Rows.laid_math_bits_deBruijn64tab)).modify 3 (putTab Rows.laid_unicode_utf8_acceptRanges)).modify 2 (putTab Rows.laid_unicode_utf8_first) }
end Go.Proofs.YtjlpclcdbnfikaaDoor
