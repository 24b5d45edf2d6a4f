/- Numbers, texts, hashes and lists as bytes: the plain functions. -/
import Derived.Test.YtgbfchagmniiiaaAv17
set_option linter.unusedVariables false
set_option linter.unusedSimpArgs false
namespace Go.Av

def numAcc (m : Nat) (acc : List UInt8) : List UInt8 :=
  if m = 0 then acc else numAcc (m / 128) (UInt8.ofNat (m % 128 + 128) :: acc)
termination_by m
decreasing_by omega
/-- A number's bytes. -/
def numB (n : Nat) : List UInt8 := numAcc (n / 128) [UInt8.ofNat (n % 128)]
theorem numAcc_zero (acc : List UInt8) : numAcc 0 acc = acc := by rw [numAcc]; simp
theorem numAcc_pos {m : Nat} (h : m ≠ 0) (acc : List UInt8) : numAcc m acc = numAcc (m / 128) (UInt8.ofNat (m % 128 + 128) :: acc) := by rw [numAcc, if_neg h]
/-- Bytes behind which there are more. -/
def aheadB (n : Nat) : List UInt8 :=
  if n < 128 then [UInt8.ofNat (n % 128 + 128)] else aheadB (n / 128) ++ [UInt8.ofNat (n % 128 + 128)]
termination_by n
decreasing_by omega
theorem aheadB_small {n : Nat} (h : n < 128) : aheadB n = [UInt8.ofNat (n % 128 + 128)] := by rw [aheadB, if_pos h]
theorem aheadB_great {n : Nat} (h : ¬ n < 128) : aheadB n = aheadB (n / 128) ++ [UInt8.ofNat (n % 128 + 128)] := by rw [aheadB, if_neg h]
theorem numAcc_ahead : ∀ (n : Nat) (acc : List UInt8), n ≠ 0 → numAcc n acc = aheadB n ++ acc := by
  intro n
  induction n using Nat.strongRecOn with
  | _ n ih =>
    intro acc hn
    rw [numAcc_pos hn]
    by_cases hs : n < 128
    · have : n / 128 = 0 := by omega
      rw [this, numAcc_zero, aheadB_small hs]; rfl
    · rw [ih (n / 128) (by omega) _ (by omega), aheadB_great hs, List.append_assoc]; rfl
theorem numB_small {n : Nat} (h : n < 128) : numB n = [UInt8.ofNat (n % 128)] := by
  have : n / 128 = 0 := by omega
  rw [numB, this, numAcc_zero]
theorem numB_great {n : Nat} (h : ¬ n < 128) : numB n = aheadB (n / 128) ++ [UInt8.ofNat (n % 128)] := by
  rw [numB, numAcc_ahead _ _ (by omega)]
theorem length_aheadB : ∀ (n k : Nat), n < 128 ^ (k + 1) → (aheadB n).length ≤ k + 1 := by
  intro n k
  induction k generalizing n with
  | zero => intro h; rw [aheadB_small (by simpa using h)]; simp
  | succ k ih =>
    intro h
    by_cases hs : n < 128
    · rw [aheadB_small hs]; simp
    · rw [aheadB_great hs]
      have := ih (n / 128) (by rw [Nat.div_lt_iff_lt_mul (by decide)]; rw [Nat.pow_succ] at h; exact h)
      simp; omega
theorem length_numB {n : Nat} (h : n < 18446744073709551616) : (numB n).length ≤ 10 := by
  by_cases hs : n < 128
  · rw [numB_small hs]; simp
  · rw [numB_great hs]
    have h9 : (128 : Nat) ^ (8 + 1) = 9223372036854775808 := by decide
    have := length_aheadB (n / 128) 8 (by omega)
    simp; omega
theorem length_numB_pos (n : Nat) : 0 < (numB n).length := by
  by_cases hs : n < 128
  · rw [numB_small hs]; simp
  · rw [numB_great hs]; simp
theorem ofNat_toNat {n : Nat} (h : n < 256) : (UInt8.ofNat n).toNat = n := by simp; omega
theorem numAcc_len : ∀ (m : Nat) (acc : List UInt8), acc.length ≤ (numAcc m acc).length := by
  intro m
  induction m using Nat.strongRecOn with
  | _ m ih =>
    intro acc
    by_cases h : m = 0
    · subst h; rw [numAcc_zero]; exact Nat.le_refl _
    · rw [numAcc_pos h]
      have := ih (m / 128) (by omega) (UInt8.ofNat (m % 128 + 128) :: acc)
      simp only [List.length_cons] at this; omega
theorem or128_all : ∀ k : Fin 128, IntKind.u8.wrap ((BitVec.ofInt IntKind.u8.bits (k.val : Int) ||| BitVec.ofInt IntKind.u8.bits 128).toNat : Int) = (k.val : Int) + 128 := by decide +kernel
theorem or128 {a : Int} (h0 : 0 ≤ a) (h1 : a < 128) : bOr .u8 a 128 = a + 128 := by
  unfold bOr
  have := or128_all ⟨a.toNat, by omega⟩
  simpa [Int.toNat_of_nonneg h0] using this
/-- A byte as a whole number. -/
theorem byte_of {i : Int} {n : Nat} (h : i = (n : Int)) (hn : n < 256) : i = ((UInt8.ofNat n).toNat : Int) := by rw [ofNat_toNat hn]; exact h
theorem one_byte {i : Int} {n : Nat} (h : i = (n : Int)) (hn : n < 256) : [D.int .u8 i] = bytesD [UInt8.ofNat n] := by rw [byte_of h hn]; rfl
end Go.Av
