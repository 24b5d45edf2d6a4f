/- Numbers, texts, hashes and lists as bytes: the plain functions. -/
import Derived.Test.YtgbfchagmniiiaaAvB
set_option linter.unusedVariables false
set_option linter.unusedSimpArgs false
namespace Go.Av

def numAcc (m : Nat) (acc : List UInt8) : List UInt8 :=
  if m = 0 then acc else numAcc (m / 128) (UInt8.ofNat (m % 128 + 128) :: acc)
termination_by m
decreasing_by omega
/-- A number's bytes. -/
def numB (n : Nat) : List UInt8 := numAcc (n / 128) [UInt8.ofNat (n % 128)]
theorem numAcc_zero (acc : List UInt8) : numAcc 0 acc = acc := by rw [numAcc]; simp
theorem numAcc_pos {m : Nat} (h : m ≠ 0) (acc : List UInt8) : numAcc m acc = numAcc (m / 128) (UInt8.ofNat (m % 128 + 128) :: acc) := by rw [numAcc, if_neg h]
/-- Bytes behind which there are more. -/
def aheadB (n : Nat) : List UInt8 :=
  if n < 128 then [UInt8.ofNat (n % 128 + 128)] else aheadB (n / 128) ++ [UInt8.ofNat (n % 128 + 128)]
termination_by n
decreasing_by omega
theorem aheadB_small {n : Nat} (h : n < 128) : aheadB n = [UInt8.ofNat (n % 128 + 128)] := by rw [aheadB, if_pos h]
theorem aheadB_great {n : Nat} (h : ¬ n < 128) : aheadB n = aheadB (n / 128) ++ [UInt8.ofNat (n % 128 + 128)] := by rw [aheadB, if_neg h]
theorem numAcc_ahead : ∀ (n : Nat) (acc : List UInt8), n ≠ 0 → numAcc n acc = aheadB n ++ acc := by
  intro n
  induction n using Nat.strongRecOn with
  | _ n ih =>
    intro acc hn
    rw [numAcc_pos hn]
    by_cases hs : n < 128
    · have : n / 128 = 0 := by omega
      rw [this, numAcc_zero, aheadB_small hs]; rfl
    · rw [ih (n / 128) (by omega) _ (by omega), aheadB_great hs, List.append_assoc]; rfl
theorem numB_small {n : Nat} (h : n < 128) : numB n = [UInt8.ofNat (n % 128)] := by
  have : n / 128 = 0 := by omega
  rw [numB, this, numAcc_zero]
theorem numB_great {n : Nat} (h : ¬ n < 128) : numB n = aheadB (n / 128) ++ [UInt8.ofNat (n % 128)] := by
  rw [numB, numAcc_ahead _ _ (by omega)]
theorem length_aheadB : ∀ (n k : Nat), n < 128 ^ (k + 1) → (aheadB n).length ≤ k + 1 := by
  intro n k
  induction k generalizing n with
  | zero => intro h; rw [aheadB_small (by simpa using h)]; simp
  | succ k ih =>
    intro h
    by_cases hs : n < 128
    · rw [aheadB_small hs]; simp
    · rw [aheadB_great hs]
      have := ih (n / 128) (by rw [Nat.div_lt_iff_lt_mul (by decide)]; rw [Nat.pow_succ] at h; exact h)
      simp; omega
theorem length_numB {n : Nat} (h : n < 18446744073709551616) : (numB n).length ≤ 10 := by
  by_cases hs : n < 128
  · rw [numB_small hs]; simp
  · rw [numB_great hs]
    have h9 : (128 : Nat) ^ (8 + 1) = 9223372036854775808 := by decide
    have := length_aheadB (n / 128) 8 (by omega)
    simp; omega
theorem length_numB_pos (n : Nat) : 0 < (numB n).length := by
  by_cases hs : n < 128
  · rw [numB_small hs]; simp
  · rw [numB_great hs]; simp
theorem ofNat_toNat {n : Nat} (h : n < 256) : (UInt8.ofNat n).toNat = n := by simp; omega
theorem numAcc_len : ∀ (m : Nat) (acc : List UInt8), acc.length ≤ (numAcc m acc).length := by
  intro m
  induction m using Nat.strongRecOn with
  | _ m ih =>
    intro acc
    by_cases h : m = 0
    · subst h; rw [numAcc_zero]; exact Nat.le_refl _
    · rw [numAcc_pos h]
      have := ih (m / 128) (by omega) (UInt8.ofNat (m % 128 + 128) :: acc)
      simp only [List.length_cons] at this; omega
theorem or128_all : ∀ k : Fin 128, IntKind.u8.wrap ((BitVec.ofInt IntKind.u8.bits (k.val : Int) ||| BitVec.ofInt IntKind.u8.bits 128).toNat : Int) = (k.val : Int) + 128 := by decide +kernel
theorem or128 {a : Int} (h0 : 0 ≤ a) (h1 : a < 128) : bOr .u8 a 128 = a + 128 := by
  unfold bOr
  have := or128_all ⟨a.toNat, by omega⟩
  simpa [Int.toNat_of_nonneg h0] using this
/-- A byte as a whole number. -/
theorem byte_of {i : Int} {n : Nat} (h : i = (n : Int)) (hn : n < 256) : i = ((UInt8.ofNat n).toNat : Int) := by rw [ofNat_toNat hn]; exact h
theorem one_byte {i : Int} {n : Nat} (h : i = (n : Int)) (hn : n < 256) : [D.int .u8 i] = bytesD [UInt8.ofNat n] := by rw [byte_of h hn]; rfl
end Go.Av

/- Reading: the plain functions. -/
set_option linter.unusedVariables false
namespace Go.Av

/-- The number that stands ahead: from n on. -/
def readGo (n : Nat) : List UInt8 → Option (Nat × List UInt8)
  | [] => none
  | c :: r => if (n = 0 ∧ c.toNat = 128) ∨ 144115188075855872 ≤ n then none else
    if c.toNat < 128 then some (n * 128 + c.toNat % 128, r) else readGo (n * 128 + c.toNat % 128) r
def readB (s : List UInt8) : Option (Nat × List UInt8) := readGo 0 s

theorem and127_all : ∀ k : Fin 256, IntKind.u8.wrap ((BitVec.ofInt IntKind.u8.bits (k.val : Int) &&& BitVec.ofInt IntKind.u8.bits 127).toNat : Int) = ((k.val % 128 : Nat) : Int) := by decide +kernel
theorem and127 {c : UInt8} : bAnd .u8 (c.toNat : Int) 127 = ((c.toNat % 128 : Nat) : Int) := and127_all ⟨c.toNat, c.toNat_lt⟩
theorem or_add {n c : Nat} (hn : n < 144115188075855872) (hc : c < 128) : bOr .u64 ((n : Int) * 128) (c : Int) = ((n * 128 + c : Nat) : Int) := by
  unfold bOr
  have hb : IntKind.u64.bits = 64 := rfl
  rw [hb]
  have h1 : (BitVec.ofInt 64 ((n : Int) * 128)) = BitVec.ofNat 64 (n * 128) := by
    rw [show (n : Int) * 128 = ((n * 128 : Nat) : Int) by omega]; exact BitVec.ofInt_natCast _ _
  have h2 : (BitVec.ofInt 64 (c : Int)) = BitVec.ofNat 64 c := BitVec.ofInt_natCast _ _
  rw [h1, h2, BitVec.toNat_or, BitVec.toNat_ofNat, BitVec.toNat_ofNat, Nat.mod_eq_of_lt (by omega), Nat.mod_eq_of_lt (by omega)]
  have h3 : n * 128 ||| c = n * 128 + c := by
    have := Nat.two_pow_add_eq_or_of_lt (i := 7) (b := c) (by omega) n
    rw [show 2 ^ 7 * n = n * 128 by omega] at this
    exact this.symm
  rw [h3, w_u64 (by omega) (by omega)]

/-- What follows a number that has bytes ahead of it. -/
theorem readGo_ahead : ∀ (m : Nat) (r : List UInt8), m ≠ 0 → m < 144115188075855872 → readGo 0 (aheadB m ++ r) = readGo m r := by
  intro m
  induction m using Nat.strongRecOn with
  | _ m ih =>
    intro r h0 h1
    by_cases hs : m < 128
    · rw [aheadB_small hs]
      have hb : (UInt8.ofNat (m % 128 + 128)).toNat = m % 128 + 128 := ofNat_toNat (by omega)
      simp only [List.cons_append, List.nil_append, readGo, hb]
      rw [if_neg (by omega), if_neg (by omega)]
      congr 1; omega
    · rw [aheadB_great hs, List.append_assoc, ih (m / 128) (by omega) _ (by omega) (by omega)]
      have hb : (UInt8.ofNat (m % 128 + 128)).toNat = m % 128 + 128 := ofNat_toNat (by omega)
      simp only [List.cons_append, List.nil_append, readGo, hb]
      rw [if_neg (by omega), if_neg (by omega)]
      congr 1; omega
theorem readB_numB {n : Nat} (h : n < 18446744073709551616) (r : List UInt8) : readB (numB n ++ r) = some (n, r) := by
  have hb : (UInt8.ofNat (n % 128)).toNat = n % 128 := ofNat_toNat (by omega)
  by_cases hs : n < 128
  · rw [numB_small hs]
    simp only [readB, List.cons_append, List.nil_append, readGo, hb]
    rw [if_neg (by omega), if_pos (by omega)]
    congr 2; omega
  · rw [numB_great hs, List.append_assoc]
    unfold readB
    rw [readGo_ahead _ _ (by omega) (by omega)]
    simp only [List.cons_append, List.nil_append, readGo, hb]
    rw [if_neg (by omega), if_pos (by omega)]
    congr 2; omega
/-- What has been read has these bytes. -/
theorem readGo_some : ∀ (s : List UInt8) (n m : Nat) (r : List UInt8), n ≠ 0 → readGo n s = some (m, r) → m < 18446744073709551616 ∧ aheadB n ++ s = numB m ++ r
  | [], n, m, r, _, h => by simp [readGo] at h
  | c :: s, n, m, r, h0, h => by
    have hc := c.toNat_lt
    have hof : UInt8.ofNat c.toNat = c := by simp
    simp only [readGo] at h
    split at h
    · cases h
    · rename_i hn
      split at h
      · rename_i h128
        simp only [Option.some.injEq, Prod.mk.injEq] at h
        obtain ⟨rfl, rfl⟩ := h
        refine ⟨by omega, ?_⟩
        rw [numB_great (by omega), show (n * 128 + c.toNat % 128) / 128 = n by omega, show (n * 128 + c.toNat % 128) % 128 = c.toNat by omega, hof, List.append_assoc]; rfl
      · rename_i h128
        obtain ⟨h1, h2⟩ := readGo_some s _ m r (by omega) h
        refine ⟨h1, ?_⟩
        rw [← h2, aheadB_great (n := n * 128 + c.toNat % 128) (by omega), show (n * 128 + c.toNat % 128) / 128 = n by omega, show (n * 128 + c.toNat % 128) % 128 + 128 = c.toNat by omega, hof, List.append_assoc]; rfl
theorem readB_some {s : List UInt8} {m : Nat} {r : List UInt8} (h : readB s = some (m, r)) : m < 18446744073709551616 ∧ s = numB m ++ r := by
  cases s with
  | nil => simp [readB, readGo] at h
  | cons c s =>
    have hc := c.toNat_lt
    have hof : UInt8.ofNat c.toNat = c := by simp
    simp only [readB, readGo] at h
    split at h
    · cases h
    · rename_i hn
      split at h
      · rename_i h128
        simp only [Option.some.injEq, Prod.mk.injEq] at h
        obtain ⟨rfl, rfl⟩ := h
        refine ⟨by omega, ?_⟩
        rw [numB_small (by omega), show (0 * 128 + c.toNat % 128) % 128 = c.toNat by omega, hof]; rfl
      · rename_i h128
        have hne : ¬ (0 * 128 + c.toNat % 128 = 0) := fun he => hn (.inl ⟨trivial, by omega⟩)
        obtain ⟨h1, h2⟩ := readGo_some s (0 * 128 + c.toNat % 128) m r hne h
        refine ⟨h1, ?_⟩
        rw [← h2, aheadB_small (n := 0 * 128 + c.toNat % 128) (by omega), show (0 * 128 + c.toNat % 128) % 128 + 128 = c.toNat by omega, hof]; rfl
theorem readB_iff {s : List UInt8} {m : Nat} {r : List UInt8} : readB s = some (m, r) ↔ m < 18446744073709551616 ∧ s = numB m ++ r :=
  ⟨readB_some, fun ⟨h1, h2⟩ => h2 ▸ readB_numB h1 r⟩

/-- What a reader answers. -/
def dRead : Option (Nat × List UInt8) → D
  | some (n, r) => .tup [.int .u64 n, .str r, .bool true]
  | none => .tup [.int .u64 0, .str [], .bool false]
def dCut : Option (List UInt8 × List UInt8) → D
  | some (t, r) => .tup [.str t, .str r, .bool true]
  | none => .tup [.str [], .str [], .bool false]
def takeB (s : List UInt8) (n : Nat) : Option (List UInt8 × List UInt8) := if s.length < n then none else some (s.take n, s.drop n)
def cutB (s : List UInt8) : Option (List UInt8 × List UInt8) := (readB s).bind fun p => takeB p.2 p.1
def zero32 : List UInt8 := List.replicate 32 0
def unhashB (s : List UInt8) : Option (List UInt8 × List UInt8) := takeB s 32
def dUnhash : Option (List UInt8 × List UInt8) → D
  | some (t, r) => .tup [.agg (bytesD t), .str r, .bool true]
  | none => .tup [.agg (bytesD zero32), .str [], .bool false]
end Go.Av

/- Reading as the document says it: the plain law. -/
set_option linter.unusedVariables false
namespace Go.Av

/-- How many bytes of 128 or more stand ahead, at most so many. -/
def lead : Nat → List UInt8 → Nat
  | 0, _ => 0
  | _ + 1, [] => 0
  | m + 1, c :: r => if 128 ≤ c.toNat then lead m r + 1 else 0
def valB (n : Nat) : List UInt8 → Nat
  | [] => n
  | c :: r => valB ((n * 128 + c.toNat % 128) % 18446744073709551616) r
def refRead (s : List UInt8) : Option (Nat × List UInt8) :=
  if s.length ≤ lead 10 s ∨ 9 < lead 10 s then none else
  if numB (valB 0 (s.take (lead 10 s + 1))) = s.take (lead 10 s + 1) then some (valB 0 (s.take (lead 10 s + 1)), s.drop (lead 10 s + 1)) else none

theorem lead_le : ∀ (m : Nat) (s : List UInt8), lead m s ≤ m ∧ lead m s ≤ s.length
  | 0, s => by simp [lead]
  | _ + 1, [] => by simp [lead]
  | m + 1, c :: r => by
    have := lead_le m r
    unfold lead
    split
    · simp; omega
    · simp
theorem lead_app : ∀ (a : List UInt8) (m : Nat) (r : List UInt8), (∀ b ∈ a, 128 ≤ b.toNat) → a.length ≤ m → lead m (a ++ r) = a.length + lead (m - a.length) r
  | [], m, r, _, _ => by simp
  | b :: a, 0, r, _, h => by simp at h
  | b :: a, m + 1, r, hb, h => by
    show (if 128 ≤ b.toNat then lead m (a ++ r) + 1 else 0) = _
    rw [if_pos (hb b (by simp)), lead_app a m r (fun x hx => hb x (by simp [hx])) (by simpa using h), List.length_cons, show m + 1 - (a.length + 1) = m - a.length by omega]
    omega
theorem ahead_ge : ∀ (m : Nat), ∀ b ∈ aheadB m, 128 ≤ b.toNat := by
  intro m
  induction m using Nat.strongRecOn with
  | _ m ih =>
    have h1 : (UInt8.ofNat (m % 128 + 128)).toNat = m % 128 + 128 := ofNat_toNat (by omega)
    by_cases hs : m < 128
    · rw [aheadB_small hs]
      intro b hb
      rw [List.mem_singleton.1 hb, h1]; omega
    · rw [aheadB_great hs]
      intro b hb
      rcases List.mem_append.1 hb with hb | hb
      · exact ih _ (by omega) b hb
      · rw [List.mem_singleton.1 hb, h1]; omega
theorem valB_app : ∀ (a r : List UInt8) (n : Nat), valB n (a ++ r) = valB (valB n a) r
  | [], r, n => rfl
  | c :: a, r, n => by simp only [List.cons_append, valB]; exact valB_app a r _
theorem valB_ahead : ∀ (m : Nat), m < 18446744073709551616 → valB 0 (aheadB m) = m := by
  intro m
  induction m using Nat.strongRecOn with
  | _ m ih =>
    intro hm
    have h1 : (UInt8.ofNat (m % 128 + 128)).toNat = m % 128 + 128 := ofNat_toNat (by omega)
    by_cases hs : m < 128
    · rw [aheadB_small hs]; simp only [valB, h1]; omega
    · rw [aheadB_great hs, valB_app, ih _ (by omega) (by omega)]; simp only [valB, h1]; omega
theorem valB_numB {m : Nat} (hm : m < 18446744073709551616) : valB 0 (numB m) = m := by
  have h1 : (UInt8.ofNat (m % 128)).toNat = m % 128 := ofNat_toNat (by omega)
  by_cases hs : m < 128
  · rw [numB_small hs]; simp only [valB, h1]; omega
  · rw [numB_great hs, valB_app, valB_ahead _ (by omega)]; simp only [valB, h1]; omega
theorem valB_lt : ∀ (s : List UInt8) (n : Nat), n < 18446744073709551616 → valB n s < 18446744073709551616
  | [], n, h => h
  | c :: r, n, h => valB_lt r _ (Nat.mod_lt _ (by decide))
theorem lead_numB {m : Nat} (hm : m < 18446744073709551616) (r : List UInt8) : lead 10 (numB m ++ r) + 1 = (numB m).length := by
  have h1 : (UInt8.ofNat (m % 128)).toNat = m % 128 := ofNat_toNat (by omega)
  by_cases hs : m < 128
  · rw [numB_small hs]
    simp only [List.cons_append, List.nil_append, lead, h1]
    rw [if_neg (by omega)]; rfl
  · have h9 : (128 : Nat) ^ (8 + 1) = 9223372036854775808 := by decide
    have hl := length_aheadB (m / 128) 8 (by omega)
    rw [numB_great hs, List.append_assoc, lead_app _ _ _ (ahead_ge _) (by omega)]
    obtain ⟨j, hj⟩ : ∃ j, 10 - (aheadB (m / 128)).length = j + 1 := ⟨9 - (aheadB (m / 128)).length, by omega⟩
    rw [hj]
    simp only [List.cons_append, List.nil_append, lead, h1]
    rw [if_neg (by omega)]
    simp
theorem refRead_eq (s : List UInt8) : refRead s = readB s := by
  cases hr : readB s with
  | some p =>
    obtain ⟨m, r⟩ := p
    obtain ⟨hm, hs⟩ := readB_some hr
    have hl := lead_numB hm r
    have h10 := length_numB hm
    have hp := length_numB_pos m
    rw [← hs] at hl
    have htake : s.take (lead 10 s + 1) = numB m := by rw [hl, hs, List.take_left]
    have hdrop : s.drop (lead 10 s + 1) = r := by rw [hl, hs, List.drop_left]
    unfold refRead
    rw [if_neg (by
      have : s.length = (numB m).length + r.length := by rw [hs, List.length_append]
      omega), htake, hdrop, valB_numB hm, if_pos rfl]
  | none =>
    unfold refRead
    split
    · rfl
    · split
      · rename_i h1 h2
        exfalso
        have hlt : valB 0 (s.take (lead 10 s + 1)) < 18446744073709551616 := valB_lt _ _ (by decide)
        have : readB s = some (valB 0 (s.take (lead 10 s + 1)), s.drop (lead 10 s + 1)) := readB_iff.2 ⟨hlt, by rw [h2, List.take_append_drop]⟩
        rw [hr] at this; cases this
      · rfl
end Go.Av

/- Lists of hashes. -/
set_option linter.unusedVariables false
namespace Go.Av

def All32 (hs : List (List UInt8)) : Prop := ∀ h ∈ hs, h.length = 32
theorem All32.tail {h : List UInt8} {hs : List (List UInt8)} (a : All32 (h :: hs)) : All32 hs := fun x hx => a x (by simp [hx])
theorem flat_len : ∀ {hs : List (List UInt8)}, All32 hs → hs.flatten.length = hs.length * 32
  | [], _ => rfl
  | h :: hs, a => by
    rw [List.flatten_cons, List.length_append, flat_len a.tail, a h (by simp), List.length_cons]; omega
theorem flat_at : ∀ {hs : List (List UInt8)} (_ : All32 hs) {k : Nat} (hk : k < hs.length), (hs.flatten.drop (k * 32)).take 32 = hs[k]
  | [], _, k, hk => by simp at hk
  | h :: hs, a, 0, _ => by
    have := a h (by simp)
    simp only [Nat.zero_mul, List.drop_zero, List.flatten_cons, List.getElem_cons_zero]
    rw [← this, List.take_left]
  | h :: hs, a, k + 1, hk => by
    have hl := a h (by simp)
    rw [List.flatten_cons, List.drop_append, List.drop_of_length_le (by omega), List.nil_append, hl, show (k + 1) * 32 - 32 = k * 32 by omega, List.getElem_cons_succ]
    exact flat_at a.tail (by simpa using hk)
theorem flat_next {hs : List (List UInt8)} {k : Nat} (hk : k < hs.length) : (hs.take (k + 1)).flatten = (hs.take k).flatten ++ hs[k] := by
  rw [List.take_add_one, List.getElem?_eq_getElem hk, List.flatten_append]; simp
theorem flat_take_len {hs : List (List UInt8)} (a : All32 hs) (k : Nat) : (hs.take k).flatten.length ≤ hs.length * 32 := by
  have h1 : All32 (hs.take k) := fun x hx => a x (List.mem_of_mem_take hx)
  rw [flat_len h1, List.length_take]; omega
/-- A list's bytes. -/
def hashesB (hs : List (List UInt8)) : List UInt8 := if 64 < hs.length then [] else numB hs.length ++ hs.flatten
/-- The cells of an element. -/
theorem cells_at {hs : List (List UInt8)} (a : All32 hs) {k : Nat} (hk : k < hs.length) : ((bytesD hs.flatten).drop (k * 32)).take 32 = bytesD hs[k] := by
  rw [← flat_at a hk]; simp [bytesD]
theorem cells_len {hs : List (List UInt8)} (a : All32 hs) : (bytesD hs.flatten).length = hs.length * 32 := by rw [length_bytesD, flat_len a]
end Go.Av

/- Lists of hashes, read. -/
set_option linter.unusedVariables false
namespace Go.Av

def unhN : Nat → List UInt8 → Option (List (List UInt8) × List UInt8)
  | 0, s => some ([], s)
  | n + 1, s => if s.length < 32 then none else (unhN n (s.drop 32)).map fun p => (s.take 32 :: p.1, p.2)
def unhashesB (s : List UInt8) : Option (List (List UInt8) × List UInt8) :=
  match readB s with
  | none => none
  | some (n, r) => if 64 < n then none else unhN n r
def dUnhs : Option (List (List UInt8) × List UInt8) → D
  | some (hs, r) => .tup [.sl hs.length (bytesD hs.flatten) none, .str r, .bool true]
  | none => .tup [.sl 0 [] none, .str [], .bool false]
theorem unhN_short : ∀ (n : Nat) (s : List UInt8), s.length < 32 * n → unhN n s = none
  | 0, s, h => by omega
  | n + 1, s, h => by
    unfold unhN
    split
    · rfl
    · rw [unhN_short n (s.drop 32) (by rw [List.length_drop]; omega)]; rfl
theorem unhN_some : ∀ (n : Nat) (s : List UInt8) (hs : List (List UInt8)) (r : List UInt8), unhN n s = some (hs, r) → All32 hs ∧ hs.length = n ∧ s = hs.flatten ++ r
  | 0, s, hs, r, h => by
    simp only [unhN, Option.some.injEq, Prod.mk.injEq] at h
    obtain ⟨rfl, rfl⟩ := h
    exact ⟨fun x hx => (by cases hx), rfl, rfl⟩
  | n + 1, s, hs, r, h => by
    unfold unhN at h
    split at h
    · cases h
    · rename_i hl
      cases hq : unhN n (s.drop 32) with
      | none => rw [hq] at h; cases h
      | some p =>
        obtain ⟨hs', r'⟩ := p
        rw [hq] at h
        simp only [Option.map_some, Option.some.injEq, Prod.mk.injEq] at h
        obtain ⟨rfl, rfl⟩ := h
        obtain ⟨h1, h2, h3⟩ := unhN_some n _ _ _ hq
        refine ⟨fun x hx => ?_, by simp [h2], ?_⟩
        · rcases List.mem_cons.1 hx with rfl | hx
          · rw [List.length_take]; omega
          · exact h1 x hx
        · rw [List.flatten_cons, List.append_assoc, ← h3, List.take_append_drop]
theorem unhN_put : ∀ (hs : List (List UInt8)) (r : List UInt8), All32 hs → unhN hs.length (hs.flatten ++ r) = some (hs, r)
  | [], r, _ => rfl
  | h :: hs, r, a => by
    have hl := a h (by simp)
    rw [List.flatten_cons, List.append_assoc]
    show (if (h ++ (hs.flatten ++ r)).length < 32 then none else (unhN hs.length ((h ++ (hs.flatten ++ r)).drop 32)).map fun p => ((h ++ (hs.flatten ++ r)).take 32 :: p.1, p.2)) = _
    rw [if_neg (by rw [List.length_append]; omega), ← hl, List.drop_left, List.take_left, unhN_put hs r a.tail]
    rfl
theorem unhashes_len {s : List UInt8} {hs : List (List UInt8)} {r : List UInt8} (h : unhashesB s = some (hs, r)) : All32 hs ∧ hs.length ≤ 64 ∧ s = numB hs.length ++ (hs.flatten ++ r) := by
  unfold unhashesB at h
  split at h
  · cases h
  · rename_i n r' hr
    split at h
    · cases h
    · rename_i h64
      obtain ⟨h1, h2⟩ := readB_some hr
      obtain ⟨h3, h4, h5⟩ := unhN_some _ _ _ _ h
      exact ⟨h3, by omega, by rw [h2, h5, h4]⟩
theorem unhashes_put {hs : List (List UInt8)} (a : All32 hs) (h64 : hs.length ≤ 64) (r : List UInt8) : unhashesB (numB hs.length ++ (hs.flatten ++ r)) = some (hs, r) := by
  unfold unhashesB
  rw [readB_numB (by omega)]
  simp only
  rw [if_neg (by omega), unhN_put hs r a]
theorem All32.snoc {hs : List (List UInt8)} {h : List UInt8} (a : All32 hs) (hl : h.length = 32) : All32 (hs ++ [h]) := fun x hx => by
  rcases List.mem_append.1 hx with hx | hx
  · exact a x hx
  · rw [List.mem_singleton.1 hx]; exact hl

/-! ### rows that are owned, beside an object -/
section
variable {P : Program} {σ : St} {K : D → St → Prop}
theorem own_le {e : TypeId} {sz n : Nat} {cs : List D} {d : D} {s : St} (h : Own σ e sz n cs d s) : σ.le s := by
  rcases h with ⟨_, _, _, rfl⟩ | ⟨id, h0, _, _, rfl⟩
  · exact St.le.refl _
  · exact le_set _ h0
theorem own_frame {e : TypeId} {sz n i : Nat} {cs : List D} {d : D} {s : St} {o : Ob} (h : Own σ e sz n cs d s) (hi : s i = none) : Own (σ.set i o) e sz n cs d (s.set i o) := by
  rcases h with ⟨h1, h2, h3, rfl⟩ | ⟨id, h0, hl, hd, rfl⟩
  · exact .inl ⟨h1, h2, h3, rfl⟩
  · have hne : i ≠ id := by rintro rfl; rw [set_same] at hi; cases hi
    exact .inr ⟨id, by rw [set_other _ (Ne.symm hne)]; exact h0, hl, hd, set_comm _ _ hne⟩
theorem own_unframe {e : TypeId} {sz n i : Nat} {cs : List D} {d : D} {s : St} {o : Ob} (h : Own (σ.set i o) e sz n cs d s) (hi : σ i = none) : ∃ s', s'.le s ∧ Own σ e sz n cs d s' := by
  rcases h with ⟨h1, h2, h3, rfl⟩ | ⟨id, h0, hl, hd, rfl⟩
  · exact ⟨σ, le_set _ hi, .inl ⟨h1, h2, h3, rfl⟩⟩
  · obtain ⟨hne, h0⟩ := fresh_ne h0
    refine ⟨σ.set id (.tok e cs), ?_, .inr ⟨id, h0, hl, hd, rfl⟩⟩
    rw [set_comm _ _ hne]
    exact le_set _ (by rw [set_other _ (Ne.symm hne)]; exact hi)
theorem own_fresh {e : TypeId} {sz n i : Nat} {cs : List D} {d : D} {s : St} (h : Own σ e sz n cs d s) (hi : s i = none) : σ i = none := by
  cases hq : σ i with
  | none => rfl
  | some o => have := own_le h i o hq; rw [hi] at this; cases this
end
end Go.Av
