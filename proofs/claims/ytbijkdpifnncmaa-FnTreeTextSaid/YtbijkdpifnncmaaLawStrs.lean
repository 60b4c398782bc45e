/- Contracts of the laws' helpers on lists of strings: size, copy, comparison. -/
import Derived.Test.YtbijkdpifnncmaaBase
import Derived.Test.YtbijkdpifnncmaaRows
import Derived.BigQuiet
import Derived.Deep.QuietTactic
namespace Go.Proofs.Ytbijkdpifnncmaa
open Go.RowKit

theorem infoString : (Try.prog.info? 9).map (fun i => (i.zero, i.size, i.bytes)) = some (some (.string ByteArray.empty), 1, 16) := by kernel_rfl

end Go.Proofs.Ytbijkdpifnncmaa
