/- facts of the program's tables -/
import Derived.Test.YtocllmhkppkfoaaProg
import Derived.Test.YtocllmhkppkfoaaLib
namespace Go.Proofs.Ytocllmhkppkfoaa
open Go.RowKit
theorem infoI : (Try.prog.info? 2).map (fun i => (i.zero, i.size, i.bytes)) = some (some (.int .i64 0), 1, 8) := by kernel_rfl
theorem etI : ET Try.prog 24 2 8 := ET.mk' (z := .int .i64 0) Try.underlying24 (by kernel_rfl) (by decide) (by decide)
end Go.Proofs.Ytocllmhkppkfoaa
