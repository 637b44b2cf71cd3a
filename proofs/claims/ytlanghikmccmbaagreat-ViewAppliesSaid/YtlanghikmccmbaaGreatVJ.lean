/- bilanderref36.Read: the walk. -/
import Derived.Test.YtlanghikmccmbaaGreatVH
namespace Go.Proofs.YtlanghikmccmbaaGreat
open Go.ChangeShapes Go.WideShapes Go.ChangeAt Go.RowKit
set_option linter.unusedVariables false
set_option linter.unusedSimpArgs false

theorem info_rrow : (Tryz.prog.info? 50).map (fun i => (i.zero, i.size, i.bytes)) = some (some (.agg #[.string ⟨#[]⟩, .string ⟨#[]⟩, .int .i64 0, .int .i64 0]), 4, 48) := by kernel_rfl
end Go.Proofs.YtlanghikmccmbaaGreat
