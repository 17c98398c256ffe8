/- facts of the program's tables -/
import Derived.Test.YtchmplpgamekjaaDoorProg
import Derived.Test.YtchmplpgamekjaaDoorLib
namespace Go.Proofs.YtchmplpgamekjaaDoor
open Go.RowKit
theorem infoI : (Tryd.prog.info? 2).map (fun i => (i.zero, i.size, i.bytes)) = some (some (.int .i64 0), 1, 8) := by kernel_rfl
theorem etI : ET Tryd.prog 22 2 8 := ET.mk' (z := .int .i64 0) Tryd.underlying22 (by kernel_rfl) (by decide) (by decide)
end Go.Proofs.YtchmplpgamekjaaDoor
