/- What the program lifts: a closed fact, checked by itself. -/
import Derived.Test.YtgbfchagmniiiaaRows
import Derived.JoinedOf
namespace Go.Proofs.Ytgbfchagmniiiaa
theorem lifts_ok : (Rows.codecPutRow.lifted == Try.pinned.checked.prog.liftsFinal) = true := by kernel_rfl
end Go.Proofs.Ytgbfchagmniiiaa
