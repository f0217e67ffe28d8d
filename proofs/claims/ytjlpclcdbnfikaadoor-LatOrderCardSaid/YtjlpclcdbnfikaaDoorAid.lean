/- One small fact that the printed texts' closing steps want: a list of bytes is not nil just where it is not empty. -/
namespace Go.Proofs.YtjlpclcdbnfikaaDoor
@[simp] theorem bne_nil_bytes (l : List UInt8) : (l != []) = !l.isEmpty := by cases l <;> rfl
end Go.Proofs.YtjlpclcdbnfikaaDoor
