/- Reading as the document says it: the plain law. -/
import Derived.Test.YtgbfchagmniiiaaSp2
set_option linter.unusedVariables false
namespace Go.Av

/-- How many bytes of 128 or more stand ahead, at most so many. -/
def lead : Nat → List UInt8 → Nat
  | 0, _ => 0
  | _ + 1, [] => 0
  | m + 1, c :: r => if 128 ≤ c.toNat then lead m r + 1 else 0
def valB (n : Nat) : List UInt8 → Nat
  | [] => n
  | c :: r => valB ((n * 128 + c.toNat % 128) % 18446744073709551616) r
def refRead (s : List UInt8) : Option (Nat × List UInt8) :=
  if s.length ≤ lead 10 s ∨ 9 < lead 10 s then none else
  if numB (valB 0 (s.take (lead 10 s + 1))) = s.take (lead 10 s + 1) then some (valB 0 (s.take (lead 10 s + 1)), s.drop (lead 10 s + 1)) else none

theorem lead_le : ∀ (m : Nat) (s : List UInt8), lead m s ≤ m ∧ lead m s ≤ s.length
  | 0, s => by simp [lead]
  | _ + 1, [] => by simp [lead]
  | m + 1, c :: r => by
    have := lead_le m r
    unfold lead
    split
    · simp; omega
    · simp
theorem lead_app : ∀ (a : List UInt8) (m : Nat) (r : List UInt8), (∀ b ∈ a, 128 ≤ b.toNat) → a.length ≤ m → lead m (a ++ r) = a.length + lead (m - a.length) r
  | [], m, r, _, _ => by simp
  | b :: a, 0, r, _, h => by simp at h
  | b :: a, m + 1, r, hb, h => by
    show (if 128 ≤ b.toNat then lead m (a ++ r) + 1 else 0) = _
    rw [if_pos (hb b (by simp)), lead_app a m r (fun x hx => hb x (by simp [hx])) (by simpa using h), List.length_cons, show m + 1 - (a.length + 1) = m - a.length by omega]
    omega
theorem ahead_ge : ∀ (m : Nat), ∀ b ∈ aheadB m, 128 ≤ b.toNat := by
  intro m
  induction m using Nat.strongRecOn with
  | _ m ih =>
    have h1 : (UInt8.ofNat (m % 128 + 128)).toNat = m % 128 + 128 := ofNat_toNat (by omega)
    by_cases hs : m < 128
    · rw [aheadB_small hs]
      intro b hb
      rw [List.mem_singleton.1 hb, h1]; omega
    · rw [aheadB_great hs]
      intro b hb
      rcases List.mem_append.1 hb with hb | hb
      · exact ih _ (by omega) b hb
      · rw [List.mem_singleton.1 hb, h1]; omega
theorem valB_app : ∀ (a r : List UInt8) (n : Nat), valB n (a ++ r) = valB (valB n a) r
  | [], r, n => rfl
  | c :: a, r, n => by simp only [List.cons_append, valB]; exact valB_app a r _
theorem valB_ahead : ∀ (m : Nat), m < 18446744073709551616 → valB 0 (aheadB m) = m := by
  intro m
  induction m using Nat.strongRecOn with
  | _ m ih =>
    intro hm
    have h1 : (UInt8.ofNat (m % 128 + 128)).toNat = m % 128 + 128 := ofNat_toNat (by omega)
    by_cases hs : m < 128
    · rw [aheadB_small hs]; simp only [valB, h1]; omega
    · rw [aheadB_great hs, valB_app, ih _ (by omega) (by omega)]; simp only [valB, h1]; omega
theorem valB_numB {m : Nat} (hm : m < 18446744073709551616) : valB 0 (numB m) = m := by
  have h1 : (UInt8.ofNat (m % 128)).toNat = m % 128 := ofNat_toNat (by omega)
  by_cases hs : m < 128
  · rw [numB_small hs]; simp only [valB, h1]; omega
  · rw [numB_great hs, valB_app, valB_ahead _ (by omega)]; simp only [valB, h1]; omega
theorem valB_lt : ∀ (s : List UInt8) (n : Nat), n < 18446744073709551616 → valB n s < 18446744073709551616
  | [], n, h => h
  | c :: r, n, h => valB_lt r _ (Nat.mod_lt _ (by decide))
theorem lead_numB {m : Nat} (hm : m < 18446744073709551616) (r : List UInt8) : lead 10 (numB m ++ r) + 1 = (numB m).length := by
  have h1 : (UInt8.ofNat (m % 128)).toNat = m % 128 := ofNat_toNat (by omega)
  by_cases hs : m < 128
  · rw [numB_small hs]
    simp only [List.cons_append, List.nil_append, lead, h1]
    rw [if_neg (by omega)]; rfl
  · have h9 : (128 : Nat) ^ (8 + 1) = 9223372036854775808 := by decide
    have hl := length_aheadB (m / 128) 8 (by omega)
    rw [numB_great hs, List.append_assoc, lead_app _ _ _ (ahead_ge _) (by omega)]
    obtain ⟨j, hj⟩ : ∃ j, 10 - (aheadB (m / 128)).length = j + 1 := ⟨9 - (aheadB (m / 128)).length, by omega⟩
    rw [hj]
    simp only [List.cons_append, List.nil_append, lead, h1]
    rw [if_neg (by omega)]
    simp
theorem refRead_eq (s : List UInt8) : refRead s = readB s := by
  cases hr : readB s with
  | some p =>
    obtain ⟨m, r⟩ := p
    obtain ⟨hm, hs⟩ := readB_some hr
    have hl := lead_numB hm r
    have h10 := length_numB hm
    have hp := length_numB_pos m
    rw [← hs] at hl
    have htake : s.take (lead 10 s + 1) = numB m := by rw [hl, hs, List.take_left]
    have hdrop : s.drop (lead 10 s + 1) = r := by rw [hl, hs, List.drop_left]
    unfold refRead
    rw [if_neg (by
      have : s.length = (numB m).length + r.length := by rw [hs, List.length_append]
      omega), htake, hdrop, valB_numB hm, if_pos rfl]
  | none =>
    unfold refRead
    split
    · rfl
    · split
      · rename_i h1 h2
        exfalso
        have hlt : valB 0 (s.take (lead 10 s + 1)) < 18446744073709551616 := valB_lt _ _ (by decide)
        have : readB s = some (valB 0 (s.take (lead 10 s + 1)), s.drop (lead 10 s + 1)) := readB_iff.2 ⟨hlt, by rw [h2, List.take_append_drop]⟩
        rw [hr] at this; cases this
      · rfl
end Go.Av
