/- The program may be entered: a closed fact, checked by itself. -/
import Derived.Test.YtgbfchagmniiiaaRows
import Derived.JoinedOf
namespace Go.Proofs.Ytgbfchagmniiiaa
theorem mayEnter_ok : Try.pinned.checked.prog.mayEnter = true := by kernel_rfl
theorem and2 {a b : Bool} (ha : a = true) (hb : b = true) : (a && b) = true := by rw [ha, hb]; rfl
end Go.Proofs.Ytgbfchagmniiiaa
