/- What more of the program's types are. -/
import Derived.Test.YtgbfchagmniiiaaTyB
namespace Go.Proofs.Try
open Go Go.Av
theorem tsz142 : tsz prog 142 = 1 := by kernel_rfl
theorem tagg142 : tagg prog 142 = some false := by kernel_rfl
theorem elt142 : elt prog 142 = some (145, 1, 8) := by kernel_rfl
theorem isSl142 : isSl prog 142 = true := by kernel_rfl
theorem und142 : (prog.underlying 142).isSome = true := by kernel_rfl
theorem nin142 : noInt (prog.underlying 142) = true := by kernel_rfl
theorem zc142 : zc prog 142 = some ([.nil]) := by kernel_rfl
theorem tsz144 : tsz prog 144 = 1 := by kernel_rfl
theorem tagg144 : tagg prog 144 = some false := by kernel_rfl
theorem isPtr144 : isPtr prog 144 = true := by kernel_rfl
theorem und144 : (prog.underlying 144).isSome = true := by kernel_rfl
theorem zc144 : zc prog 144 = some ([.nilp]) := by kernel_rfl
theorem tsz145 : tsz prog 145 = 1 := by kernel_rfl
theorem tagg145 : tagg prog 145 = some false := by kernel_rfl
theorem isPtr145 : isPtr prog 145 = true := by kernel_rfl
theorem und145 : (prog.underlying 145).isSome = true := by kernel_rfl
theorem zc145 : zc prog 145 = some ([.nilp]) := by kernel_rfl
theorem tsz156 : tsz prog 156 = 1 := by kernel_rfl
theorem tagg156 : tagg prog 156 = some false := by kernel_rfl
theorem isPtr156 : isPtr prog 156 = true := by kernel_rfl
theorem und156 : (prog.underlying 156).isSome = true := by kernel_rfl
theorem zc156 : zc prog 156 = some ([.nilp]) := by kernel_rfl
theorem tsz161 : tsz prog 161 = 2 := by kernel_rfl
theorem tagg161 : tagg prog 161 = some true := by kernel_rfl
theorem und161 : (prog.underlying 161).isSome = true := by kernel_rfl
theorem fld161_0 : fld prog 161 0 = some (0, 1, 9) := by kernel_rfl
theorem fld161_1 : fld prog 161 1 = some (1, 1, 4) := by kernel_rfl
theorem zc161 : zc prog 161 = some ([.str [], .bool false]) := by kernel_rfl
theorem pl161 : places prog 161 = some (fun i => ([(0, 1), (1, 1)] : List (Nat × Nat)).toArray[i]?) := by kernel_rfl
attribute [go_sem] tsz142 tagg142 elt142 isSl142 und142 nin142 zc142 tsz144 tagg144 isPtr144 und144 zc144 tsz145 tagg145 isPtr145 und145 zc145 tsz156 tagg156 isPtr156 und156 zc156 tsz161 tagg161 und161 fld161_0 fld161_1 zc161 pl161
end Go.Proofs.Try
