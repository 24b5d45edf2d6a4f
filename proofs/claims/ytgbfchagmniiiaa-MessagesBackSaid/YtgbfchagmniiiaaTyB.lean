/- The places of the structs' fields; what equality on them looks at. -/
import Derived.Test.YtgbfchagmniiiaaTyA
namespace Go.Proofs.Try
open Go Go.Av
theorem pl7 : places prog 7 = some (fun i => ([(0, 1), (1, 1), (2, 1), (3, 1)] : List (Nat × Nat)).toArray[i]?) := by kernel_rfl
theorem pl8 : places prog 8 = some (fun i => ([(0, 1), (1, 1), (2, 1), (3, 1)] : List (Nat × Nat)).toArray[i]?) := by kernel_rfl
theorem pl13 : places prog 13 = some (fun i => ([(0, 1), (1, 1)] : List (Nat × Nat)).toArray[i]?) := by kernel_rfl
theorem pl14 : places prog 14 = some (fun i => ([(0, 1), (1, 1)] : List (Nat × Nat)).toArray[i]?) := by kernel_rfl
theorem pl18 : places prog 18 = some (fun i => ([(0, 1)] : List (Nat × Nat)).toArray[i]?) := by kernel_rfl
theorem pl19 : places prog 19 = some (fun i => ([(0, 1)] : List (Nat × Nat)).toArray[i]?) := by kernel_rfl
theorem pl53 : places prog 53 = some (fun i => ([(0, 1), (1, 1), (2, 1)] : List (Nat × Nat)).toArray[i]?) := by kernel_rfl
theorem pl68 : places prog 68 = some (fun i => ([(0, 1), (1, 3), (4, 1), (5, 1), (6, 1)] : List (Nat × Nat)).toArray[i]?) := by kernel_rfl
theorem pl72 : places prog 72 = some (fun i => ([(0, 1), (1, 1)] : List (Nat × Nat)).toArray[i]?) := by kernel_rfl
theorem pl75 : places prog 75 = some (fun i => ([(0, 1), (1, 1)] : List (Nat × Nat)).toArray[i]?) := by kernel_rfl
theorem pl87 : places prog 87 = some (fun i => ([(0, 1), (1, 32)] : List (Nat × Nat)).toArray[i]?) := by kernel_rfl
theorem pl89 : places prog 89 = some (fun i => ([(0, 1), (1, 1), (2, 1)] : List (Nat × Nat)).toArray[i]?) := by kernel_rfl
theorem pl91 : places prog 91 = some (fun i => ([(0, 33), (33, 3)] : List (Nat × Nat)).toArray[i]?) := by kernel_rfl
theorem pl98 : places prog 98 = some (fun i => ([(0, 1), (1, 1), (2, 1), (3, 1), (4, 1)] : List (Nat × Nat)).toArray[i]?) := by kernel_rfl
theorem pl100 : places prog 100 = some (fun i => ([(0, 1), (1, 1), (2, 1), (3, 1), (4, 1), (5, 1)] : List (Nat × Nat)).toArray[i]?) := by kernel_rfl
theorem pl122 : places prog 122 = some (fun i => ([(0, 1), (1, 1)] : List (Nat × Nat)).toArray[i]?) := by kernel_rfl
theorem pl134 : places prog 134 = some (fun i => ([(0, 33), (33, 1), (34, 1), (35, 1), (36, 1)] : List (Nat × Nat)).toArray[i]?) := by kernel_rfl
theorem ks53 : kinds prog 20 53 = some [.int .i64, .int .i64, .str] := by kernel_rfl
theorem eg53 : prog.eqGuardType prog.depth 53 = false := by kernel_rfl
theorem ks87 : kinds prog 20 87 = some (.int .i64 :: List.replicate 32 (.int .u8)) := by kernel_rfl
theorem eg87 : prog.eqGuardType prog.depth 87 = false := by kernel_rfl
theorem ks98 : kinds prog 20 98 = some [.int .i64, .int .i64, .int .i64, .int .i64, .int .i64] := by kernel_rfl
theorem eg98 : prog.eqGuardType prog.depth 98 = false := by kernel_rfl
attribute [go_sem] pl7 pl8 pl13 pl14 pl18 pl19 pl53 pl68 pl72 pl75 pl87 pl89 pl91 pl98 pl100 pl122 pl134
end Go.Proofs.Try
