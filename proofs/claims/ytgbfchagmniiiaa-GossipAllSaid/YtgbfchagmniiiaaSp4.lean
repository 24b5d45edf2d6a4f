/- Lists of hashes. -/
import Derived.Test.YtgbfchagmniiiaaSp3
set_option linter.unusedVariables false
namespace Go.Av

def All32 (hs : List (List UInt8)) : Prop := ∀ h ∈ hs, h.length = 32
theorem All32.tail {h : List UInt8} {hs : List (List UInt8)} (a : All32 (h :: hs)) : All32 hs := fun x hx => a x (by simp [hx])
theorem flat_len : ∀ {hs : List (List UInt8)}, All32 hs → hs.flatten.length = hs.length * 32
  | [], _ => rfl
  | h :: hs, a => by
    rw [List.flatten_cons, List.length_append, flat_len a.tail, a h (by simp), List.length_cons]; omega
theorem flat_at : ∀ {hs : List (List UInt8)} (_ : All32 hs) {k : Nat} (hk : k < hs.length), (hs.flatten.drop (k * 32)).take 32 = hs[k]
  | [], _, k, hk => by simp at hk
  | h :: hs, a, 0, _ => by
    have := a h (by simp)
    simp only [Nat.zero_mul, List.drop_zero, List.flatten_cons, List.getElem_cons_zero]
    rw [← this, List.take_left]
  | h :: hs, a, k + 1, hk => by
    have hl := a h (by simp)
    rw [List.flatten_cons, List.drop_append, List.drop_of_length_le (by omega), List.nil_append, hl, show (k + 1) * 32 - 32 = k * 32 by omega, List.getElem_cons_succ]
    exact flat_at a.tail (by simpa using hk)
theorem flat_next {hs : List (List UInt8)} {k : Nat} (hk : k < hs.length) : (hs.take (k + 1)).flatten = (hs.take k).flatten ++ hs[k] := by
  rw [List.take_add_one, List.getElem?_eq_getElem hk, List.flatten_append]; simp
theorem flat_take_len {hs : List (List UInt8)} (a : All32 hs) (k : Nat) : (hs.take k).flatten.length ≤ hs.length * 32 := by
  have h1 : All32 (hs.take k) := fun x hx => a x (List.mem_of_mem_take hx)
  rw [flat_len h1, List.length_take]; omega
/-- A list's bytes. -/
def hashesB (hs : List (List UInt8)) : List UInt8 := if 64 < hs.length then [] else numB hs.length ++ hs.flatten
/-- The cells of an element. -/
theorem cells_at {hs : List (List UInt8)} (a : All32 hs) {k : Nat} (hk : k < hs.length) : ((bytesD hs.flatten).drop (k * 32)).take 32 = bytesD hs[k] := by
  rw [← flat_at a hk]; simp [bytesD]
theorem cells_len {hs : List (List UInt8)} (a : All32 hs) : (bytesD hs.flatten).length = hs.length * 32 := by rw [length_bytesD, flat_len a]
end Go.Av
