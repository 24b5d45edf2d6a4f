/- The operations over abstract values. -/
import Derived.Test.YtgbfchagmniiiaaAv3
set_option linter.unusedSimpArgs false
set_option linter.unusedVariables false
namespace Go.Av
open Go.RowKit

abbrev Env := Nat → D
def Env.set (ρ : Env) (t : Nat) (d : D) : Env := fun s => if s = t then d else ρ s
def Env.put (ρ : Env) : Option Nat → D → Env
  | some t, d => ρ.set t d
  | none, _ => ρ

/-- Constants. -/
def ofVal1 : Value → D
  | .int k n => .int k n
  | .bool b => .bool b
  | .string s => .str s.data.toList
  | .pointer none => .nilp
  | .nilIface => .nili
  | .slice none 0 0 => .nil
  | v => .raw v
def ofVal : Value → D
  | .agg cs => if cs.all (·.oneCell') then .agg (cs.toList.map ofVal1) else .raw (.agg cs)
  | v => ofVal1 v

/-- What a package's variables hold. -/
abbrev Gl := Nat → Option (List D)

def aeval (γ : Gl) (ρ : Env) : Operand → D
  | .tmp t => ρ t
  | .const v => ofVal v
  | .global i => match γ i with | some cs => .eptr cs 0 | none => .raw (.pointer (some ⟨i, 0, none⟩))
  | .func f => .fn f []

def cellsOf : D → List D
  | .agg cs => cs
  | d => [d]
def okc : D → Bool
  | .agg _ => true
  | d => d.one

def tsz (P : Program) (t : TypeId) : Nat := ((P.info? t).map (·.size)).getD 0
def tagg (P : Program) (t : TypeId) : Option Bool :=
  match P.underlying t with
  | some (.struct _) => some true
  | some (.array _ _) => some true
  | some _ => some false
  | none => none
/-- A type's zero, by cells. -/
def zc (P : Program) (t : TypeId) : Option (List D) :=
  match P.info? t with
  | some i => match i.zero with
    | some z => if z.cells.all (·.oneCell') ∧ z.cells.size = i.size then some (z.cells.toList.map ofVal1) else none
    | none => none
  | none => none
/-- A field's place and size. -/
def fld (P : Program) (t : TypeId) (f : Nat) : Option (Nat × Nat × TypeId) :=
  match P.underlying t with
  | some (.struct fs) => match fs[f]? with
    | some x => if 0 < tsz P x.type then some (x.offset, tsz P x.type, x.type) else none
    | none => none
  | _ => none
def arrT (P : Program) (t : TypeId) : Option (Nat × TypeId × Nat) :=
  match P.underlying t with
  | some (.array n e) => if 0 < tsz P e ∧ 1 < n then some (n, e, tsz P e) else none
  | _ => none
def intT (P : Program) (t : TypeId) : Option IntKind :=
  match P.underlying t with
  | some (.int k) => some k
  | _ => none
def isStr (P : Program) (t : TypeId) : Bool :=
  match P.underlying t with
  | some .string => true
  | _ => false
def isPtr (P : Program) (t : TypeId) : Bool :=
  match P.underlying t with
  | some (.pointer _) => true
  | _ => false
def isBool (P : Program) (t : TypeId) : Bool :=
  match P.underlying t with
  | some .bool => true
  | _ => false
def isSl (P : Program) (t : TypeId) : Bool :=
  match P.underlying t with
  | some (.slice _) => true
  | _ => false

/-! ### loads and stores -/
def aread (ag : Bool) (sz : Nat) (l : List D) (off : Nat) (σ : St) (K : D → St → Prop) : Prop :=
  if ag = true then off + sz ≤ l.length ∧ K (.agg ((l.drop off).take sz)) σ else ∃ d, l[off]? = some d ∧ K d σ
def aload (P : Program) (t : TypeId) (p : D) (σ : St) (K : D → St → Prop) : Prop :=
  match tagg P t with
  | none => False
  | some ag => match p with
    | .ptr id off => ∃ l T, σ id = some (.cells l T) ∧ aread ag (tsz P t) l off σ K
    | .eptr cs off => aread ag (tsz P t) cs off σ K
    | _ => False
def astore (P : Program) (t : TypeId) (p x : D) (σ : St) (K : D → St → Prop) : Prop :=
  match p with
  | .ptr id off => (tagg P t).isSome = true ∧ ∃ l T, σ id = some (.cells l T) ∧ okc x = true ∧ (cellsOf x).length = tsz P t ∧ off + (cellsOf x).length ≤ l.length ∧ K (.tup []) (σ.set id (.cells (splice l off (cellsOf x)) T))
  | _ => False
def anew (T : TypeId) (l : List D) (σ : St) (K : D → St → Prop) : Prop := ∀ id, σ id = none → K (.ptr id 0) (σ.set id (.cells l T))
def abox (T : TypeId) (x : D) (σ : St) (K : D → St → Prop) : Prop := okc x = true ∧ anew T (cellsOf x) σ K
def aalloc (P : Program) (t : TypeId) (σ : St) (K : D → St → Prop) : Prop :=
  match zc P t with
  | some z => anew t z σ K
  | none => False
/-- A new row of n elements. -/
def anewRow (e : TypeId) (n sz : Nat) (cs : List D) (σ : St) (K : D → St → Prop) : Prop :=
  (∀ id, σ id = none → K (.sl n cs (some (id, sz))) (σ.set id (.tok e cs))) ∨ (∀ id, σ id = none → K (.osl id 0 n sz) (σ.set id (.cells cs e))) ∨ K (.sl n cs none) σ

/-! ### aggregates -/
def afill (place : Nat → Option (Nat × Nat)) (zs : List D) : List (Nat × D) → Option (List D)
  | [] => some zs
  | (i, d) :: rest => match place i with
    | none => none
    | some (off, size) => if okc d = true ∧ (cellsOf d).length = size ∧ off + size ≤ zs.length then afill place (splice zs off (cellsOf d)) rest else none
def places (P : Program) (t : TypeId) : Option (Nat → Option (Nat × Nat)) :=
  match P.underlying t with
  | some (.struct fs) => (fs.toList.mapM (fun f => (P.info? f.type).map fun i => (f.offset, i.size))).map fun ps => (ps.toArray[·]?)
  | some (.array _ e) => (P.info? e).map fun ie => fun i => some (i * ie.size, ie.size)
  | _ => none
def abuild (P : Program) (t : TypeId) (parts : List (Nat × D)) (σ : St) (K : D → St → Prop) : Prop :=
  match zc P t, places P t with
  | some z, some pl => match afill pl z parts with
    | some cs => K (.agg cs) σ
    | none => False
  | _, _ => False
def abuildSl (P : Program) (t : TypeId) (n : Nat) (parts : List (Nat × D)) (σ : St) (K : D → St → Prop) : Prop :=
  match elt P t with
  | some (e, sz, _) => n * sz ≤ 16777216 ∧ match zc P e with
    | some z => match afill (fun i => some (i * sz, sz)) (List.replicate n z).flatten parts with
      | some cs => anewRow e n sz cs σ K
      | none => False
    | none => False
  | none => False
def amake (P : Program) (t : TypeId) (x y : D) (σ : St) (K : D → St → Prop) : Prop :=
  match elt P t with
  | some (e, sz, bytes) => match zc P e, x, y with
    | some z, .int _ n, .int _ m => n = m ∧ 0 ≤ n ∧ n.toNat * bytes ≤ 140737488355328 ∧ anewRow e n.toNat sz (List.replicate n.toNat z).flatten σ K
    | _, _, _ => False
  | none => False
def afield (P : Program) (t : TypeId) (x : D) (f : Nat) (σ : St) (K : D → St → Prop) : Prop :=
  match fld P t f, x with
  | some (off, sz, ft), .agg cs => match tagg P ft with
    | some ag => aread ag sz cs off σ K
    | none => False
  | _, _ => False
def aextract (x : D) (i : Nat) (σ : St) (K : D → St → Prop) : Prop :=
  match x with
  | .tup ds => ∃ d, ds[i]? = some d ∧ K d σ
  | _ => False

/-! ### addresses -/
def afieldAddr (P : Program) (t : TypeId) (p : D) (f : Nat) (σ : St) (K : D → St → Prop) : Prop :=
  match fld P t f, p with
  | some (off, _), .ptr id o => K (.ptr id (o + off)) σ
  | some (off, _), .eptr cs o => K (.eptr cs (o + off)) σ
  | _, _ => False
def aindexAddr (P : Program) (t : TypeId) (x i : D) (σ : St) (K : D → St → Prop) : Prop :=
  match i with
  | .int _ n => match x with
    | .sl m cs _ => match elt P t with
      | some (_, sz, _) => 0 ≤ n ∧ n < m ∧ K (.eptr cs (n.toNat * sz)) σ
      | none => False
    | .osl id off m s => match elt P t with
      | some (_, sz, _) => 0 ≤ n ∧ n < m ∧ K (.ptr id (off + n.toNat * sz)) σ
      | none => False
    | .oslc id off m _ s => match elt P t with
      | some (_, sz, _) => 0 ≤ n ∧ n < m ∧ K (.ptr id (off + n.toNat * sz)) σ
      | none => False
    | .ptr id off => match arrT P t with
      | some (m, _, sz) => 0 ≤ n ∧ n < m ∧ K (.ptr id (off + n.toNat * sz)) σ
      | none => False
    | .eptr cs off => match arrT P t with
      | some (m, _, sz) => 0 ≤ n ∧ n < m ∧ K (.eptr cs (off + n.toNat * sz)) σ
      | none => False
    | _ => False
  | _ => False
def aindex (P : Program) (t : TypeId) (x i : D) (σ : St) (K : D → St → Prop) : Prop :=
  match i with
  | .int _ n => match x with
    | .str l => isStr P t = true ∧ 0 ≤ n ∧ ∃ b, l[n.toNat]? = some b ∧ K (.int .u8 b.toNat) σ
    | .agg cs => match arrT P t with
      | some (m, e, sz) => 0 ≤ n ∧ n < m ∧ match tagg P e with
        | some ag => aread ag sz cs (n.toNat * sz) σ K
        | none => False
      | none => False
    | _ => False
  | _ => False
def anilCheck (x : D) (σ : St) (K : D → St → Prop) : Prop :=
  match x with
  | .ptr id o => K x σ
  | .eptr cs o => K x σ
  | _ => False

/-- A bound of a slice expression. -/
def abound : Option D → Nat → Option Nat
  | none, dflt => some dflt
  | some (.int _ n), _ => if 0 ≤ n then some n.toNat else none
  | _, _ => none
def aslice (P : Program) (t : TypeId) (x : D) (lo hi mx : Option D) (σ : St) (K : D → St → Prop) : Prop :=
  match x with
  | .str s => isStr P t = true ∧ mx.isNone = true ∧ ∃ l h, abound lo 0 = some l ∧ abound hi s.length = some h ∧ l ≤ h ∧ h ≤ s.length ∧ K (.str ((s.take h).drop l)) σ
  | .nil => (elt P t).isSome = true ∧ (mx.isNone = true ∨ hi.isSome = true) ∧ abound lo 0 = some 0 ∧ abound hi 0 = some 0 ∧ abound mx 0 = some 0 ∧ K .nil σ
  | .e0 => (elt P t).isSome = true ∧ (mx.isNone = true ∨ hi.isSome = true) ∧ abound lo 0 = some 0 ∧ abound hi 0 = some 0 ∧ abound mx 0 = some 0 ∧ K .e0 σ
  | .sl n cs _ => match elt P t with
    | some (_, sz, _) => cs.length = n * sz ∧ ∃ l h, abound lo 0 = some l ∧ abound hi n = some h ∧ l ≤ h ∧ h ≤ n ∧
      match mx with
      | none => K (.sl (h - l) ((cs.take (h * sz)).drop (l * sz)) none) σ
      | some m => hi.isSome = true ∧ ∃ m', abound (some m) 0 = some m' ∧ h ≤ m' ∧ m' ≤ n ∧ K (if l = m' then .e0 else .sl (h - l) ((cs.take (h * sz)).drop (l * sz)) none) σ
    | none => False
  | .osl id off n s => match elt P t with
    | some (_, sz, _) => s = sz ∧ mx.isNone = true ∧ ∃ l h, abound lo 0 = some l ∧ abound hi n = some h ∧ l ≤ h ∧ h ≤ n ∧
      K (if l = h then .sl 0 [] none else .osl id (off + l * sz) (h - l) sz) σ
    | none => False
  | .oslc id off n c s => match elt P t with
    | some (_, sz, _) => s = sz ∧ (mx.isNone = true ∨ hi.isSome = true) ∧ ∃ l h m, abound lo 0 = some l ∧ abound hi n = some h ∧ abound mx c = some m ∧ l ≤ h ∧ h ≤ m ∧ m ≤ c ∧
      K (if l = m then .e0 else .oslc id (off + l * sz) (h - l) (m - l) sz) σ
    | none => False
  | .ptr id off => match arrT P t with
    | some (n, _, sz) => mx.isNone = true ∧ n ≤ 9223372036854775807 ∧ ∃ l h ls T, abound lo 0 = some l ∧ abound hi n = some h ∧ l ≤ h ∧ h ≤ n ∧ σ id = some (.cells ls T) ∧ off + n * sz ≤ ls.length ∧
      K (if l = h then .sl 0 [] none else .osl id (off + l * sz) (h - l) sz) σ
    | none => False
  | .eptr cs off => match arrT P t with
    | some (n, _, sz) => mx.isNone = true ∧ n ≤ 9223372036854775807 ∧ ∃ l h, abound lo 0 = some l ∧ abound hi n = some h ∧ l ≤ h ∧ h ≤ n ∧ off + n * sz ≤ cs.length ∧ K (.sl (h - l) ((cs.take (off + h * sz)).drop (off + l * sz)) none) σ
    | none => False
  | _ => False

/-! ### arithmetic and comparisons -/
def bOr (k : IntKind) (x y : Int) : Int := k.wrap (BitVec.ofInt k.bits x ||| BitVec.ofInt k.bits y).toNat
def bAnd (k : IntKind) (x y : Int) : Int := k.wrap (BitVec.ofInt k.bits x &&& BitVec.ofInt k.bits y).toNat
def bXor (k : IntKind) (x y : Int) : Int := k.wrap (BitVec.ofInt k.bits x ^^^ BitVec.ofInt k.bits y).toNat
def bAndNot (k : IntKind) (x y : Int) : Int := k.wrap (BitVec.ofInt k.bits x &&& ~~~(BitVec.ofInt k.bits y)).toNat
def bNot (k : IntKind) (x : Int) : Int := k.wrap (BitVec.ofInt k.bits (if k.signed then -1 else k.max) ^^^ BitVec.ofInt k.bits x).toNat
def bShl (k : IntKind) (x y : Int) : Int := k.wrap (x * 2 ^ min y.toNat k.bits)
def bShr (k : IntKind) (x y : Int) : Int := x.fdiv (2 ^ min y.toNat k.bits)
def abinI (op : BinOp) (k : IntKind) (a : Int) (k' : IntKind) (b : Int) (σ : St) (K : D → St → Prop) : Prop :=
  match op with
  | .shl => 0 ≤ b ∧ K (.int k (bShl k a b)) σ
  | .shr => 0 ≤ b ∧ K (.int k (bShr k a b)) σ
  | .add => k = k' ∧ K (.int k (k.wrap (a + b))) σ
  | .sub => k = k' ∧ K (.int k (k.wrap (a - b))) σ
  | .mul => k = k' ∧ K (.int k (k.wrap (a * b))) σ
  | .quo => k = k' ∧ b ≠ 0 ∧ K (.int k (k.wrap (a.tdiv b))) σ
  | .rem => k = k' ∧ b ≠ 0 ∧ K (.int k (a.tmod b)) σ
  | .eql => k = k' ∧ K (.bool (a == b)) σ
  | .neq => k = k' ∧ K (.bool (a != b)) σ
  | .lss => k = k' ∧ K (.bool (decide (a < b))) σ
  | .leq => k = k' ∧ K (.bool (decide (a ≤ b))) σ
  | .gtr => k = k' ∧ K (.bool (decide (a > b))) σ
  | .geq => k = k' ∧ K (.bool (decide (a ≥ b))) σ
  | .and => k = k' ∧ K (.int k (bAnd k a b)) σ
  | .or => k = k' ∧ K (.int k (bOr k a b)) σ
  | .xor => k = k' ∧ K (.int k (bXor k a b)) σ
  | .andNot => k = k' ∧ K (.int k (bAndNot k a b)) σ
def abinS (op : BinOp) (a b : List UInt8) (σ : St) (K : D → St → Prop) : Prop :=
  match op with
  | .add => a.length + b.length ≤ 9223372036854775807 ∧ K (.str (a ++ b)) σ
  | .eql => K (.bool (a == b)) σ
  | .neq => K (.bool (!(a == b))) σ
  | .lss => K (.bool (Op.bytesLess a b)) σ
  | .leq => K (.bool (Op.bytesLess a b || a == b)) σ
  | .gtr => K (.bool (!(Op.bytesLess a b || a == b))) σ
  | .geq => K (.bool (!Op.bytesLess a b)) σ
  | _ => False
def aeq (op : BinOp) (r : Bool) (σ : St) (K : D → St → Prop) : Prop :=
  match op with
  | .eql => K (.bool r) σ
  | .neq => K (.bool (!r)) σ
  | _ => False
def eq1 : D → D → Option Bool
  | .int k a, .int k' b => if k = k' then some (a == b) else none
  | .bool a, .bool b => some (a == b)
  | .str a, .str b => some (a == b)
  | _, _ => none
def eqL : List D → List D → Option Bool
  | [], [] => some true
  | x :: xs, y :: ys => match eq1 x y, eqL xs ys with
    | some a, some b => some (a && b)
    | _, _ => none
  | _, _ => none
/-- Fields one behind the other: where the last one ends. -/
def contig (P : Program) : Nat → List Field → Option Nat
  | o, [] => some o
  | o, f :: fs => if f.offset = o then contig P (o + tsz P f.type) fs else none
inductive LK where
  | int (k : IntKind)
  | bool
  | str
  deriving DecidableEq
/-- The kinds of a type's cells, where it is made of whole numbers, bools and strings alone, every field counted, one behind the other. -/
def kinds (P : Program) : Nat → TypeId → Option (List LK)
  | 0, _ => none
  | d + 1, t => match P.underlying t with
    | some (.int k) => if tsz P t = 1 then some [.int k] else none
    | some .bool => if tsz P t = 1 then some [.bool] else none
    | some .string => if tsz P t = 1 then some [.str] else none
    | some (.struct fs) => if (!P.stoodInHeld t && fs.toList.all (fun f => f.name != "_") && (contig P 0 fs.toList == some (tsz P t))) = true then (fs.toList.mapM (fun f => (kinds P d f.type).bind fun l => if l.length = tsz P f.type ∧ 0 < l.length then some l else none)).map List.flatten else none
    | some (.array n e) => (kinds P d e).bind fun l => if l.length = tsz P e ∧ 0 < l.length ∧ tsz P t = n * tsz P e then some (List.replicate n l).flatten else none
    | _ => none
def fit1 : LK → D → Bool
  | .int k, .int k' _ => decide (k = k')
  | .bool, .bool _ => true
  | .str, .str _ => true
  | _, _ => false
def fits : List LK → List D → Bool
  | [], [] => true
  | k :: ks, d :: ds => fit1 k d && fits ks ds
  | _, _ => false
def isPtrI (P : Program) (t : TypeId) : Bool :=
  match P.underlying t with
  | some (.pointer e) => (P.info? e).isSome
  | _ => false
def abin (P : Program) (op : BinOp) (t : TypeId) (x y : D) (σ : St) (K : D → St → Prop) : Prop :=
  match x, y with
  | .int k a, .int k' b => abinI op k a k' b σ K
  | .str a, .str b => abinS op a b σ K
  | .bool a, .bool b => isBool P t = true ∧ aeq op (a == b) σ K
  | .agg xs, .agg ys => (tagg P t = some true ∧ P.eqGuardType P.depth t = false) ∧ ∃ ks, kinds P 20 t = some ks ∧ fits ks xs = true ∧ fits ks ys = true ∧ ∃ b, eqL xs ys = some b ∧ aeq op b σ K
  | .nilp, .nilp => isPtr P t = true ∧ aeq op true σ K
  | .ptr i o, .ptr j u => isPtrI P t = true ∧ (i = j ∧ o = u) ∧ aeq op true σ K
  | .ptr _ _, .nilp => isPtr P t = true ∧ aeq op false σ K
  | .nilp, .ptr _ _ => isPtr P t = true ∧ aeq op false σ K
  | .nil, .nil => isSl P t = true ∧ aeq op true σ K
  | .sl n _ _, .nil => isSl P t = true ∧ 0 < n ∧ aeq op false σ K
  | .osl _ _ _ _, .nil => isSl P t = true ∧ aeq op false σ K
  | _, _ => False
def aun (op : UnOp) (x : D) (σ : St) (K : D → St → Prop) : Prop :=
  match op, x with
  | .neg, .int k n => K (.int k (k.wrap (0 - n))) σ
  | .xor, .int k n => K (.int k (bNot k n)) σ
  | .not, .bool b => K (.bool (!b)) σ
  | _, _ => False
/-- A pointer to an unsafe one. -/
def isUns (P : Program) (src dst : TypeId) : Bool :=
  match P.underlying src, P.underlying dst with
  | some (.pointer t), some .unsafePointer => decide (0 < tsz P t)
  | _, _ => false
/-- An unsafe pointer to one to a variable of the type T that the block begins with. -/
def unsBack (P : Program) (src dst : TypeId) (T : TypeId) : Bool :=
  match P.underlying src, P.underlying dst with
  | some .unsafePointer, some (.pointer u) => decide (u = T) && decide (0 < tsz P T)
  | _, _ => false
def aconv (P : Program) (src dst : TypeId) (x : D) (σ : St) (K : D → St → Prop) : Prop :=
  match x with
  | .int _ n => (P.underlying src).isSome = true ∧ match intT P dst with
    | some k => K (.int k (k.wrap n)) σ
    | none => False
  | .str l => isStr P src = true ∧ ((isStr P dst = true ∧ K (.str l) σ) ∨ (∃ e, elt P dst = some (e, 1, 1) ∧ intT P e = some .u8 ∧ l.length ≤ 140737488355328 ∧ anewRow e l.length 1 (bytesD l) σ K))
  | .ptr i o => (∃ l T, σ i = some (.cells l T) ∧ o < l.length ∧ (isUns P src dst = true ∨ (o = 0 ∧ tsz P T ≤ l.length ∧ unsBack P src dst T = true))) ∧ K (.ptr i o) σ
  | .nil => isStr P dst = true ∧ (∃ e, elt P src = some (e, 1, 1) ∧ intT P e = some .u8) ∧ K (.str []) σ
  | .sl n cs _ => isStr P dst = true ∧ (∃ e, elt P src = some (e, 1, 1) ∧ intT P e = some .u8) ∧ ∃ l, cs = bytesD l ∧ n = l.length ∧ K (.str l) σ
  | .osl id off n _ => isStr P dst = true ∧ (∃ e, elt P src = some (e, 1, 1) ∧ intT P e = some .u8) ∧ ∃ ls T l, σ id = some (.cells ls T) ∧ (ls.drop off).take n = bytesD l ∧ n = l.length ∧ K (.str l) σ
  | _ => False

/-! ### builtins -/
def alen (P : Program) (t : TypeId) (x : D) (σ : St) (K : D → St → Prop) : Prop :=
  match x with
  | .str l => isStr P t = true ∧ K (.int .i64 l.length) σ
  | .nil => isSl P t = true ∧ K (.int .i64 0) σ
  | .e0 => isSl P t = true ∧ K (.int .i64 0) σ
  | .sl n _ _ => isSl P t = true ∧ K (.int .i64 n) σ
  | .osl _ _ n _ => isSl P t = true ∧ K (.int .i64 n) σ
  | .oslc _ _ n _ _ => isSl P t = true ∧ K (.int .i64 n) σ
  | _ => False
def acap (P : Program) (t : TypeId) (x : D) (σ : St) (K : D → St → Prop) : Prop :=
  match x with
  | .nil => isSl P t = true ∧ K (.int .i64 0) σ
  | .e0 => isSl P t = true ∧ K (.int .i64 0) σ
  | .oslc _ _ _ c _ => isSl P t = true ∧ K (.int .i64 c) σ
  | _ => False
def aclear (P : Program) (t : TypeId) (x : D) (σ : St) (K : D → St → Prop) : Prop :=
  match elt P t with
  | some (e, sz, _) => match zc P e with
    | some z => match x with
      | .nil => K (.tup []) σ
      | .e0 => K (.tup []) σ
      | .sl 0 _ _ => K (.tup []) σ
      | .oslc id off n _ s => s = sz ∧ ∃ l T, σ id = some (.cells l T) ∧ off ≤ l.length ∧ K (.tup []) (if n = 0 then σ else σ.set id (.cells (splice l off (List.replicate n z).flatten) T))
      | _ => False
    | none => False
  | none => False
def acopy (P : Program) (dt : TypeId) (d s : D) (σ : St) (K : D → St → Prop) : Prop :=
  match elt P dt with
  | some (_, sz, _) => match xcells σ sz s with
    | some (n, ds) => match d with
      | .osl id off m s' => s' = sz ∧ ∃ l T, σ id = some (.cells l T) ∧ off + min n m * sz ≤ l.length ∧ K (.int .i64 (min n m : Nat)) (σ.set id (.cells (splice l off (ds.take (min n m * sz))) T))
      | .oslc id off m _ s' => s' = sz ∧ ∃ l T, σ id = some (.cells l T) ∧ off ≤ l.length ∧ K (.int .i64 (min n m : Nat)) (σ.set id (.cells (splice l off (ds.take (min n m * sz))) T))
      | .sl 0 _ _ => K (.int .i64 0) σ
      | .nil => K (.int .i64 0) σ
      | .e0 => K (.int .i64 0) σ
      | _ => False
    | none => False
  | none => False
def aminmax (mx : Bool) (xs : List D) (σ : St) (K : D → St → Prop) : Prop :=
  match xs with
  | [.int k a, .int _ b] => K (.int k (if mx then (if a < b then b else a) else (if b < a then b else a))) σ
  | _ => False
/-- A pointer type's element type. -/
def ptrE (P : Program) (t : TypeId) : Option TypeId :=
  match P.underlying t with
  | some (.pointer e) => some e
  | _ => none
def asldata (x : D) (σ : St) (K : D → St → Prop) : Prop :=
  match x with
  | .nil => K .nilp σ
  | .sl n _ (some (id, _)) => 0 < n ∧ K (.ptr id 0) σ
  | _ => False
def austr (P : Program) (pt : TypeId) (x y : D) (σ : St) (K : D → St → Prop) : Prop :=
  match y with
  | .int .i64 n => match x with
    | .nilp => n = 0 ∧ K (.str []) σ
    | .ptr id off => ∃ e cs l, σ id = some (.tok e cs) ∧ ptrE P pt = some e ∧ off = 0 ∧ P.cellsOf e = 1 ∧ cs = bytesD l ∧ n = (l.length : Int) ∧ 0 < n ∧ n ≤ 9223372036854775807 ∧ K (.str l) (σ.del id)
    | _ => False
  | _ => False
def abuiltin (P : Program) (b : Builtin) (ts : List TypeId) (xs : List D) (σ : St) (K : D → St → Prop) : Prop :=
  match b, ts, xs with
  | .len, [t], [x] => alen P t x σ K
  | .cap, [t], [x] => acap P t x σ K
  | .clear, [t], [x] => aclear P t x σ K
  | .append, [t, u], [s, x] => noInt (P.underlying u) = true ∧ (match elt P t with
    | some (el, sz, bytes) => match xcells σ sz x with
      | some (n, ds) => aapp σ el sz bytes s n ds K
      | none => False
    | none => False)
  | .copy, [t, _], [d, s] => acopy P t d s σ K
  | .min, _, xs => aminmax false xs σ K
  | .max, _, xs => aminmax true xs σ K
  | .unsafeSliceData, _, [x] => asldata x σ K
  | .unsafeString, [pt, _], [x, y] => austr P pt x y σ K
  | _, _, _ => False

/-! ### calls -/
/-- The package's variables hold what γ says. -/
def GOK (γ : Gl) (g : G) : Prop := ∀ i cs, γ i = some cs → RV g (.pointer (some ⟨i, 0, none⟩)) (.eptr cs 0)
theorem GOK.mono {γ : Gl} {g g' : G} (h : GOK γ g) (hg : g.le g') : GOK γ g' := fun i cs e => (h i cs e).mono hg

/-- The function that hands on what it is given. -/
def noEsc (P : Program) (f : FuncId) : Bool :=
  match P.funcs[f]? with
  | some fn => fn.name == "internal/abi.NoEscape" && fn.body.isNone && (Extern.findNext fn).isNone
  | none => false
def okFn (P : Program) (f : FuncId) : Bool :=
  match P.funcs[f]? with
  | some fn => fn.name != "runtime.NumGoroutine" && fn.body.isSome
  | none => false

/-- A call, over abstract values: whatever the world that holds them, it returns, and what it returns and leaves is as R says. -/
def ACalls (P : Program) (γ : Gl) (f : FuncId) (args : List D) (σ : St) (R : D → St → Prop) : Prop :=
  okFn P f = true ∧ ∀ (B : Nat) (w0 : World) (g : G) (w : World) (vals : List Value), GOK γ g → RVs g vals args → Rel B w0 g σ w →
    Calls P f vals.toArray w fun e w' => ∃ v, e = .returned v ∧ Comes' B w0 g R v w'

theorem ACalls.mono {P : Program} {γ : Gl} {f : FuncId} {args : List D} {σ : St} {R R' : D → St → Prop} (h : ACalls P γ f args σ R) (hr : ∀ d σ, R d σ → R' d σ) : ACalls P γ f args σ R' :=
  ⟨h.1, fun B w0 g w vals hγ hv hR => (h.2 B w0 g w vals hγ hv hR).mono fun e w' ⟨v, he, hc⟩ => ⟨v, he, hc.mono hr⟩⟩

def aop (P : Program) (γ : Gl) (ρ : Env) (σ : St) (op : Op) (K : D → St → Prop) : Prop :=
  match op with
  | .move x => K (aeval γ ρ x) σ
  | .assign x => K (aeval γ ρ x) σ
  | .pick c a b => (match aeval γ ρ c with
    | .bool t => K (if t = true then aeval γ ρ a else aeval γ ρ b) σ
    | _ => False)
  | .alloc t => aalloc P t σ K
  | .box t x => abox t (aeval γ ρ x) σ K
  | .build t ps => abuild P t (ps.toList.map fun p => (p.1, aeval γ ρ p.2)) σ K
  | .buildSlice t n ps => abuildSl P t n (ps.toList.map fun p => (p.1, aeval γ ρ p.2)) σ K
  | .load t p => aload P t (aeval γ ρ p) σ K
  | .store t p x => astore P t (aeval γ ρ p) (aeval γ ρ x) σ K
  | .nilCheck x => anilCheck (aeval γ ρ x) σ K
  | .binOp op t x y _ => abin P op t (aeval γ ρ x) (aeval γ ρ y) σ K
  | .unOp op _ x => aun op (aeval γ ρ x) σ K
  | .convert s d x => aconv P s d (aeval γ ρ x) σ K
  | .makeSlice t l c => amake P t (aeval γ ρ l) (aeval γ ρ c) σ K
  | .slice t x lo hi mx => aslice P t (aeval γ ρ x) (lo.map (aeval γ ρ)) (hi.map (aeval γ ρ)) (mx.map (aeval γ ρ)) σ K
  | .fieldAddr t x f => afieldAddr P t (aeval γ ρ x) f σ K
  | .field t x f => afield P t (aeval γ ρ x) f σ K
  | .indexAddr t x i => aindexAddr P t (aeval γ ρ x) (aeval γ ρ i) σ K
  | .index t x i => aindex P t (aeval γ ρ x) (aeval γ ρ i) σ K
  | .extract x i => aextract (aeval γ ρ x) i σ K
  | .makeFunc (.func f) first caps => first.size = 0 ∧ K (.fn f (caps.toList.map (aeval γ ρ))) σ
  | .call c => (match c.callee with
    | .value f => (match aeval γ ρ f with
      | .fn f caps => ACalls P γ f (c.args.toList.map (aeval γ ρ) ++ caps) σ K ∨ (noEsc P f = true ∧ ∃ d, c.args.toList.map (aeval γ ρ) ++ caps = [d] ∧ K d σ)
      | _ => False)
    | .builtin b => abuiltin P b c.argTypes.toList (c.args.toList.map (aeval γ ρ)) σ K
    | _ => False)
  | _ => False

/-! ### code -/
def awanted (ops : List Oper) (ρ : Env) (o : Oper) : Option Bool :=
  match o.guard with
  | none => some true
  | some (j, want) => match ops[j]? with
    | some p => match p.dst with
      | some t => match ρ t with
        | .bool b => some (b == want)
        | .tup [] => some false
        | _ => none
      | none => none
    | none => none

/-- A region, in the order of its text. -/
def alist (P : Program) (γ : Gl) (ops : List Oper) (Q : Env → St → Prop) : List Oper → Env → St → Prop
  | [], ρ, σ => Q ρ σ
  | o :: rest, ρ, σ => match awanted ops ρ o with
    | some true => aop P γ ρ σ o.op fun d σ' => alist P γ ops Q rest (ρ.put o.dst d) σ'
    | some false => alist P γ ops Q rest (ρ.put o.dst (.tup [])) σ
    | none => False

/-- A region whose order is open: first the operations that change nothing (mask: true): what they come to, and that they do so in whatever state (obs) .. -/
def passA (P : Program) (γ : Gl) (all : List Oper) (σ0 : St) (K : Env → List (Nat × (St → Prop)) → Prop) : Nat → List Oper → List Bool → Env → List (Nat × (St → Prop)) → Prop
  | _, [], _, ρ, obs => K ρ obs
  | _, _ :: _, [], _, _ => False
  | i, o :: r, true :: m, ρ, obs => match awanted all ρ o with
    | some true => ∃ d, aop P γ ρ σ0 o.op (fun d' σ' => d' = d ∧ σ0.le σ') ∧ passA P γ all σ0 K (i + 1) r m (ρ.put o.dst d) ((i, fun σ => aop P γ ρ σ o.op (fun d' σ' => d' = d ∧ σ.le σ')) :: obs)
    | some false => passA P γ all σ0 K (i + 1) r m (ρ.put o.dst (.tup [])) obs
    | none => False
  | i, _ :: r, false :: m, ρ, obs => passA P γ all σ0 K (i + 1) r m ρ obs
/-- Which operations come before, as bits. -/
def befs : List Oper → List Nat → List Nat
  | [], acc => acc
  | o :: r, acc => befs r (acc ++ [o.after.toList.foldl (fun s e => if Region.binds .any e then s ||| 2 ^ e.on ||| acc.getD e.on 0 else s) 0])
def tmpsOf (xs : List Operand) : List Tmp := xs.filterMap fun | .tmp t => some t | _ => none
def readsOf (ops : List Oper) (o : Oper) : List Tmp :=
  tmpsOf o.op.operands.toList ++ (match o.guard with | some (j, _) => ((ops[j]?).bind (·.dst)).toList | none => [])
/-- What an open order must keep to. -/
def dOk (mask : List Bool) (ops : List Oper) : Bool :=
  let b := befs ops []
  let n := ops.length
  (mask.length == n) &&
  (List.range n).all fun j => match ops[j]? with
    | none => false
    | some oj => (oj.after.toList.all fun e => !Region.binds .any e || decide (e.on < j)) &&
      (List.range n).all fun k => match ops[k]? with
        | none => false
        | some ok => (j == k) ||
          ((match ok.dst with
            | none => true
            | some t => (oj.dst != some t) && (!(readsOf ops oj).contains t || ((b.getD (max j k) 0).testBit (min j k) && (mask.getD k true || !mask.getD j true || decide (j < k)) && (mask.getD j true || !mask.getD k true || decide (k < j))))) &&
           (mask.getD j true || mask.getD k true || (b.getD (max j k) 0).testBit (min j k)))
/-- What must be seen behind the operation j: what may still have to be done then. -/
def unseen (all : List Oper) (j : Nat) (obs : List (Nat × (St → Prop))) : List (Nat × (St → Prop)) := obs.filter fun p => !((befs all []).getD j 0).testBit p.1
/-- .. then the others, in the order of the text. -/
def passT (P : Program) (γ : Gl) (all : List Oper) (obs : List (Nat × (St → Prop))) (Q : Env → St → Prop) : Nat → List Oper → List Bool → Env → St → Prop
  | _, [], _, ρ, σ => Q ρ σ
  | _, _ :: _, [], _, _ => False
  | j, o :: r, false :: m, ρ, σ => match awanted all ρ o with
    | some true => aop P γ ρ σ o.op (fun d σ' => (∀ p ∈ unseen all j obs, p.2 σ') ∧ passT P γ all obs Q (j + 1) r m (ρ.put o.dst d) σ')
    | some false => passT P γ all obs Q (j + 1) r m (ρ.put o.dst (.tup [])) σ
    | none => False
  | j, _ :: r, true :: m, ρ, σ => passT P γ all obs Q (j + 1) r m ρ σ
/-- A region whose order is open. -/
def adraw (P : Program) (γ : Gl) (ops : List Oper) (Q : Env → St → Prop) (ρ : Env) (σ : St) : Prop :=
  ∃ mask, dOk mask ops = true ∧ passA P γ ops σ (fun ρ' obs => passT P γ ops obs Q 0 ops mask ρ' σ) 0 ops mask ρ []

theorem alist_mono {P : Program} {γ : Gl} {ops : List Oper} {Q Q' : Env → St → Prop} (h : ∀ ρ σ, Q ρ σ → Q' ρ σ) (hm : ∀ (ρ : Env) (σ : St) (op : Op) (K K' : D → St → Prop), (∀ d σ, K d σ → K' d σ) → aop P γ ρ σ op K → aop P γ ρ σ op K') :
    ∀ (l : List Oper) (ρ : Env) (σ : St), alist P γ ops Q l ρ σ → alist P γ ops Q' l ρ σ
  | [], ρ, σ, hq => h ρ σ hq
  | o :: rest, ρ, σ, hq => by
    unfold alist at hq ⊢
    split
    · rename_i e; rw [e] at hq; exact hm _ _ _ _ _ (fun d σ hk => alist_mono h hm rest _ _ hk) hq
    · rename_i e; rw [e] at hq; exact alist_mono h hm rest _ _ hq
    · rename_i e; rw [e] at hq; exact hq

end Go.Av
