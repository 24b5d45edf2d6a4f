/- How the program was made: a closed fact, checked by itself. -/
import Derived.Test.YtgbfchagmniiiaaRows
import Derived.JoinedOf
namespace Go.Proofs.Ytgbfchagmniiiaa
theorem make_ok : (Try.pinned.checked.prog.make == some Rows.codecPutRow.make) = true := by kernel_rfl
end Go.Proofs.Ytgbfchagmniiiaa
