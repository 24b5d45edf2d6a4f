/- Rows whose elements are several cells each. -/
import Derived.Test.YtgbfchagmniiiaaEx
set_option linter.unusedSimpArgs false
set_option linter.unusedVariables false
namespace Go.Av
section
variable {α : Type}
def rowsD (F : α → List D) (L : List α) : List D := (L.map F).flatten
theorem rows_nil {F : α → List D} : rowsD F [] = [] := rfl
theorem rows_cons {F : α → List D} {a : α} {L : List α} : rowsD F (a :: L) = F a ++ rowsD F L := by simp [rowsD]
theorem rows_append {F : α → List D} {L M : List α} : rowsD F (L ++ M) = rowsD F L ++ rowsD F M := by simp [rowsD]
theorem rows_one {F : α → List D} {a : α} : rowsD F [a] = F a := by simp [rowsD]
variable {F : α → List D} {sz : Nat}
theorem rows_len (hF : ∀ a, (F a).length = sz) : ∀ L : List α, (rowsD F L).length = L.length * sz
  | [] => by simp [rowsD]
  | a :: L => by rw [rows_cons, List.length_append, hF, rows_len hF L, List.length_cons, Nat.add_mul, Nat.one_mul, Nat.add_comm]
theorem rows_take (hF : ∀ a, (F a).length = sz) (L : List α) (k : Nat) : (rowsD F L).take (k * sz) = rowsD F (L.take k) := by
  by_cases h : k ≤ L.length
  · have e : rowsD F L = rowsD F (L.take k) ++ rowsD F (L.drop k) := by rw [← rows_append, List.take_append_drop]
    rw [e]
    exact List.take_left' (by rw [rows_len hF, List.length_take, Nat.min_eq_left h])
  · rw [List.take_of_length_le (l := L) (by omega), List.take_of_length_le]
    rw [rows_len hF]; exact Nat.mul_le_mul_right _ (by omega)
theorem rows_drop (hF : ∀ a, (F a).length = sz) (L : List α) (k : Nat) : (rowsD F L).drop (k * sz) = rowsD F (L.drop k) := by
  by_cases h : k ≤ L.length
  · have e : rowsD F L = rowsD F (L.take k) ++ rowsD F (L.drop k) := by rw [← rows_append, List.take_append_drop]
    rw [e]
    exact List.drop_left' (by rw [rows_len hF, List.length_take, Nat.min_eq_left h])
  · rw [List.drop_of_length_le (l := L) (by omega), List.drop_of_length_le, rows_nil]
    rw [rows_len hF]; exact Nat.mul_le_mul_right _ (by omega)
theorem rows_split (L : List α) {k : Nat} (h : k < L.length) : rowsD F L = rowsD F (L.take k) ++ (F L[k] ++ rowsD F (L.drop (k + 1))) := by
  rw [← rows_cons, ← rows_append, ← List.drop_eq_getElem_cons h, List.take_append_drop]
theorem rows_at (hF : ∀ a, (F a).length = sz) (L : List α) {k : Nat} (h : k < L.length) : ((rowsD F L).drop (k * sz)).take sz = F L[k] := by
  rw [rows_drop hF, List.drop_eq_getElem_cons h, rows_cons]
  exact List.take_left' (hF _)
theorem rows_cell (hF : ∀ a, (F a).length = sz) (L : List α) {k o : Nat} (h : k < L.length) (ho : o < sz) : (rowsD F L)[k * sz + o]? = (F L[k])[o]? := by
  have := congrArg (fun l => l[o]?) (rows_at hF L h)
  simpa [List.getElem?_take, ho, List.getElem?_drop] using this
theorem rows_field (hF : ∀ a, (F a).length = sz) (L : List α) {k o : Nat} (h : k < L.length) {ds : List D} {a : α} (ho : o + ds.length ≤ sz) (ha : splice (F L[k]) o ds = F a) : splice (rowsD F L) (k * sz + o) ds = rowsD F (L.set k a) := by
  have hl : (rowsD F (L.take k)).length = k * sz := by rw [rows_len hF, List.length_take, Nat.min_eq_left (by omega)]
  have hx := hF L[k]
  have hkl : k < (L.set k a).length := by rw [List.length_set]; exact h
  rw [rows_split L h, rows_split (L.set k a) hkl]
  have e1 : (L.set k a).take k = L.take k := List.take_set_of_le (Nat.le_refl _)
  have e2 : (L.set k a).drop (k + 1) = L.drop (k + 1) := List.drop_set_of_lt (by omega)
  have e3 : (L.set k a)[k] = a := by simp
  rw [e1, e2, e3, ← ha]
  simp only [splice]
  rw [List.take_append, hl, List.take_of_length_le (by omega), show k * sz + o - k * sz = o by omega, List.take_append_of_le_length (by omega)]
  rw [List.drop_append, hl, List.drop_of_length_le (l := rowsD F (List.take k L)) (by omega), List.nil_append, show k * sz + o + ds.length - k * sz = o + ds.length by omega, List.drop_append_of_le_length (by omega)]
  simp only [List.append_assoc]
theorem rows_set (hF : ∀ a, (F a).length = sz) (L : List α) {k : Nat} (h : k < L.length) (a : α) : splice (rowsD F L) (k * sz) (F a) = rowsD F (L.set k a) := by
  have := rows_field hF L (k := k) (o := 0) h (ds := F a) (a := a) (by rw [hF]; omega) (by
    simp only [splice, List.take_zero, List.nil_append, Nat.zero_add]
    rw [List.drop_of_length_le (by rw [hF, hF]; exact Nat.le_refl _), List.append_nil])
  simpa using this
theorem rows_erase (hF : ∀ a, (F a).length = sz) (L : List α) (k : Nat) : (rowsD F L).take (k * sz) ++ (rowsD F L).drop (k * sz + sz) = rowsD F (L.eraseIdx k) := by
  rw [rows_take hF, show k * sz + sz = (k + 1) * sz by rw [Nat.add_mul, Nat.one_mul], rows_drop hF, ← rows_append, List.eraseIdx_eq_take_drop_succ]
end
end Go.Av
