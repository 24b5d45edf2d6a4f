/- Reading: the plain functions. -/
import Derived.Test.YtgbfchagmniiiaaSp1
set_option linter.unusedVariables false
namespace Go.Av

/-- The number that stands ahead: from n on. -/
def readGo (n : Nat) : List UInt8 → Option (Nat × List UInt8)
  | [] => none
  | c :: r => if (n = 0 ∧ c.toNat = 128) ∨ 144115188075855872 ≤ n then none else
    if c.toNat < 128 then some (n * 128 + c.toNat % 128, r) else readGo (n * 128 + c.toNat % 128) r
def readB (s : List UInt8) : Option (Nat × List UInt8) := readGo 0 s

theorem and127_all : ∀ k : Fin 256, IntKind.u8.wrap ((BitVec.ofInt IntKind.u8.bits (k.val : Int) &&& BitVec.ofInt IntKind.u8.bits 127).toNat : Int) = ((k.val % 128 : Nat) : Int) := by decide +kernel
theorem and127 {c : UInt8} : bAnd .u8 (c.toNat : Int) 127 = ((c.toNat % 128 : Nat) : Int) := and127_all ⟨c.toNat, c.toNat_lt⟩
theorem or_add {n c : Nat} (hn : n < 144115188075855872) (hc : c < 128) : bOr .u64 ((n : Int) * 128) (c : Int) = ((n * 128 + c : Nat) : Int) := by
  unfold bOr
  have hb : IntKind.u64.bits = 64 := rfl
  rw [hb]
  have h1 : (BitVec.ofInt 64 ((n : Int) * 128)) = BitVec.ofNat 64 (n * 128) := by
    rw [show (n : Int) * 128 = ((n * 128 : Nat) : Int) by omega]; exact BitVec.ofInt_natCast _ _
  have h2 : (BitVec.ofInt 64 (c : Int)) = BitVec.ofNat 64 c := BitVec.ofInt_natCast _ _
  rw [h1, h2, BitVec.toNat_or, BitVec.toNat_ofNat, BitVec.toNat_ofNat, Nat.mod_eq_of_lt (by omega), Nat.mod_eq_of_lt (by omega)]
  have h3 : n * 128 ||| c = n * 128 + c := by
    have := Nat.two_pow_add_eq_or_of_lt (i := 7) (b := c) (by omega) n
    rw [show 2 ^ 7 * n = n * 128 by omega] at this
    exact this.symm
  rw [h3, w_u64 (by omega) (by omega)]

/-- What follows a number that has bytes ahead of it. -/
theorem readGo_ahead : ∀ (m : Nat) (r : List UInt8), m ≠ 0 → m < 144115188075855872 → readGo 0 (aheadB m ++ r) = readGo m r := by
  intro m
  induction m using Nat.strongRecOn with
  | _ m ih =>
    intro r h0 h1
    by_cases hs : m < 128
    · rw [aheadB_small hs]
      have hb : (UInt8.ofNat (m % 128 + 128)).toNat = m % 128 + 128 := ofNat_toNat (by omega)
      simp only [List.cons_append, List.nil_append, readGo, hb]
      rw [if_neg (by omega), if_neg (by omega)]
      congr 1; omega
    · rw [aheadB_great hs, List.append_assoc, ih (m / 128) (by omega) _ (by omega) (by omega)]
      have hb : (UInt8.ofNat (m % 128 + 128)).toNat = m % 128 + 128 := ofNat_toNat (by omega)
      simp only [List.cons_append, List.nil_append, readGo, hb]
      rw [if_neg (by omega), if_neg (by omega)]
      congr 1; omega
theorem readB_numB {n : Nat} (h : n < 18446744073709551616) (r : List UInt8) : readB (numB n ++ r) = some (n, r) := by
  have hb : (UInt8.ofNat (n % 128)).toNat = n % 128 := ofNat_toNat (by omega)
  by_cases hs : n < 128
  · rw [numB_small hs]
    simp only [readB, List.cons_append, List.nil_append, readGo, hb]
    rw [if_neg (by omega), if_pos (by omega)]
    congr 2; omega
  · rw [numB_great hs, List.append_assoc]
    unfold readB
    rw [readGo_ahead _ _ (by omega) (by omega)]
    simp only [List.cons_append, List.nil_append, readGo, hb]
    rw [if_neg (by omega), if_pos (by omega)]
    congr 2; omega
/-- What has been read has these bytes. -/
theorem readGo_some : ∀ (s : List UInt8) (n m : Nat) (r : List UInt8), n ≠ 0 → readGo n s = some (m, r) → m < 18446744073709551616 ∧ aheadB n ++ s = numB m ++ r
  | [], n, m, r, _, h => by simp [readGo] at h
  | c :: s, n, m, r, h0, h => by
    have hc := c.toNat_lt
    have hof : UInt8.ofNat c.toNat = c := by simp
    simp only [readGo] at h
    split at h
    · cases h
    · rename_i hn
      split at h
      · rename_i h128
        simp only [Option.some.injEq, Prod.mk.injEq] at h
        obtain ⟨rfl, rfl⟩ := h
        refine ⟨by omega, ?_⟩
        rw [numB_great (by omega), show (n * 128 + c.toNat % 128) / 128 = n by omega, show (n * 128 + c.toNat % 128) % 128 = c.toNat by omega, hof, List.append_assoc]; rfl
      · rename_i h128
        obtain ⟨h1, h2⟩ := readGo_some s _ m r (by omega) h
        refine ⟨h1, ?_⟩
        rw [← h2, aheadB_great (n := n * 128 + c.toNat % 128) (by omega), show (n * 128 + c.toNat % 128) / 128 = n by omega, show (n * 128 + c.toNat % 128) % 128 + 128 = c.toNat by omega, hof, List.append_assoc]; rfl
theorem readB_some {s : List UInt8} {m : Nat} {r : List UInt8} (h : readB s = some (m, r)) : m < 18446744073709551616 ∧ s = numB m ++ r := by
  cases s with
  | nil => simp [readB, readGo] at h
  | cons c s =>
    have hc := c.toNat_lt
    have hof : UInt8.ofNat c.toNat = c := by simp
    simp only [readB, readGo] at h
    split at h
    · cases h
    · rename_i hn
      split at h
      · rename_i h128
        simp only [Option.some.injEq, Prod.mk.injEq] at h
        obtain ⟨rfl, rfl⟩ := h
        refine ⟨by omega, ?_⟩
        rw [numB_small (by omega), show (0 * 128 + c.toNat % 128) % 128 = c.toNat by omega, hof]; rfl
      · rename_i h128
        have hne : ¬ (0 * 128 + c.toNat % 128 = 0) := fun he => hn (.inl ⟨trivial, by omega⟩)
        obtain ⟨h1, h2⟩ := readGo_some s (0 * 128 + c.toNat % 128) m r hne h
        refine ⟨h1, ?_⟩
        rw [← h2, aheadB_small (n := 0 * 128 + c.toNat % 128) (by omega), show (0 * 128 + c.toNat % 128) % 128 + 128 = c.toNat by omega, hof]; rfl
theorem readB_iff {s : List UInt8} {m : Nat} {r : List UInt8} : readB s = some (m, r) ↔ m < 18446744073709551616 ∧ s = numB m ++ r :=
  ⟨readB_some, fun ⟨h1, h2⟩ => h2 ▸ readB_numB h1 r⟩

/-- What a reader answers. -/
def dRead : Option (Nat × List UInt8) → D
  | some (n, r) => .tup [.int .u64 n, .str r, .bool true]
  | none => .tup [.int .u64 0, .str [], .bool false]
def dCut : Option (List UInt8 × List UInt8) → D
  | some (t, r) => .tup [.str t, .str r, .bool true]
  | none => .tup [.str [], .str [], .bool false]
def takeB (s : List UInt8) (n : Nat) : Option (List UInt8 × List UInt8) := if s.length < n then none else some (s.take n, s.drop n)
def cutB (s : List UInt8) : Option (List UInt8 × List UInt8) := (readB s).bind fun p => takeB p.2 p.1
def zero32 : List UInt8 := List.replicate 32 0
def unhashB (s : List UInt8) : Option (List UInt8 × List UInt8) := takeB s 32
def dUnhash : Option (List UInt8 × List UInt8) → D
  | some (t, r) => .tup [.agg (bytesD t), .str r, .bool true]
  | none => .tup [.agg (bytesD zero32), .str [], .bool false]
end Go.Av
