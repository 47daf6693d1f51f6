/-
  The laws' own helpers: toInt64S copies a list, eqInt64S compares two, markInt64S writes, heldInt64S looks.
-/
import Derived.Test.YtocgbhcfnphnhaaChecked
import Derived.Test.YtocgbhcfnphnhaaBase
namespace Go.Proofs.Ytocgbhcfnphnhaa
open Go.RowKit

theorem infoInt64 : (Try.prog.info? 2).map (fun i => (i.zero, i.size, i.bytes)) = some (some (.int .i64 0), 1, 8) := by kernel_rfl

end Go.Proofs.Ytocgbhcfnphnhaa
