/-
  A weakest precondition that the kernel computes over lists of values ('sem'), and the operations' own words.
  'sem' is sound: what it asks is enough for the walk's own 'Code.wp'.
-/
import Derived.Tactics
import Derived.OrdersHeld
import Derived.Below
import Derived.KernelRfl
section
set_option linter.unusedSimpArgs false
set_option linter.unusedVariables false
namespace Go.G
open Go

/-! ### 1. Slots as a list -/
def nth : List Value → Nat → Value
  | [], _ => undef
  | v :: _, 0 => v
  | _ :: l, n + 1 => nth l n
def upd : List Value → Nat → Value → List Value
  | [], _, _ => []
  | _ :: l, 0, v => v :: l
  | a :: l, n + 1, v => a :: upd l n v
abbrev KV := Value → World → Prop
abbrev KX := List PanicEntry → World → Prop
abbrev QE := Exit → List Value → World → Prop
def evl (e : List Value) : Operand → Value
  | .tmp t => nth e t
  | .const v => v
  | .global g => .pointer (some ⟨g, 0, none⟩)
  | .func f => .func (.func f) #[] #[]
def put (e : List Value) : Option Tmp → Value → List Value
  | some d, v => upd e d v
  | none, _ => e

/-! ### 2. The operations' words: those that only compute, those that read, those that turn the world -/
abbrev KP := Value → Prop
/-- The value of one cell. -/
def one : Value → Bool
  | .agg _ | .tuple _ => false
  | _ => true
def pPick (c a b : Value) (K : KP) : Prop := ∃ t, c = .bool t ∧ K (bif t then a else b)
def cutIn (cs : List Value) (off : Nat) (c : List Value) : List Value := cs.take off ++ c ++ cs.drop (off + c.length)
def fillL : List Value → List (Nat × Nat × Value) → Option (List Value)
  | cs, [] => some cs
  | cs, (off, size, v) :: rest =>
    if v.cells.toList.length = size ∧ off + size ≤ cs.length then fillL (cutIn cs off v.cells.toList) rest else none
def pBuild (zero : List Value) (parts : List (Nat × Nat × Value)) (K : KP) : Prop := ∃ cs, fillL zero parts = some cs ∧ K (.agg cs.toArray)
def pNil (x : Value) (K : KP) : Prop :=
  match x with
  | .pointer (some a) => K (.pointer (some a))
  | .iface t v => K (.iface t v)
  | .func (.func f) a b => K (.func (.func f) a b)
  | .map r => K (.map r)
  | _ => False
def binI : BinOp → IntKind → Int → Int → Value
  | .add, k, a, b => .int k (k.wrap (a + b))
  | .sub, k, a, b => .int k (k.wrap (a - b))
  | .mul, k, a, b => .int k (k.wrap (a * b))
  | .and, k, a, b => .int k (k.wrap (BitVec.ofInt k.bits a &&& BitVec.ofInt k.bits b).toNat)
  | .or, k, a, b => .int k (k.wrap (BitVec.ofInt k.bits a ||| BitVec.ofInt k.bits b).toNat)
  | .xor, k, a, b => .int k (k.wrap (BitVec.ofInt k.bits a ^^^ BitVec.ofInt k.bits b).toNat)
  | .andNot, k, a, b => .int k (k.wrap (BitVec.ofInt k.bits a &&& ~~~ (BitVec.ofInt k.bits b)).toNat)
  | .eql, _, a, b => .bool (a == b)
  | .neq, _, a, b => .bool (a != b)
  | .lss, _, a, b => .bool (decide (a < b))
  | .leq, _, a, b => .bool (decide (a ≤ b))
  | .gtr, _, a, b => .bool (decide (a > b))
  | .geq, _, a, b => .bool (decide (a ≥ b))
  | _, _, _, _ => undef
def pBinI (op : BinOp) (k : IntKind) (x y : Value) (K : KP) : Prop := ∃ a b, x = .int k a ∧ y = .int k b ∧ K (binI op k a b)
def divI : BinOp → IntKind → Int → Int → Value
  | .quo, k, a, b => .int k (k.wrap (a.tdiv b))
  | .rem, k, a, b => .int k (a.tmod b)
  | _, _, _, _ => undef
def pDiv (op : BinOp) (k : IntKind) (x y : Value) (K : KP) : Prop := ∃ a b, x = .int k a ∧ y = .int k b ∧ b ≠ 0 ∧ K (divI op k a b)
def shiftI : BinOp → IntKind → Int → Int → Value
  | .shl, k, a, b => .int k (k.wrap (a * 2 ^ (min b.toNat k.bits)))
  | .shr, k, a, b => .int k (a.fdiv (2 ^ (min b.toNat k.bits)))
  | _, _, _, _ => undef
def pShift (op : BinOp) (k : IntKind) (x y : Value) (K : KP) : Prop := ∃ a j b, x = .int k a ∧ y = .int j b ∧ 0 ≤ b ∧ K (shiftI op k a b)
def binS : BinOp → ByteArray → ByteArray → Value
  | .add, x, y => .string (x ++ y)
  | .eql, x, y => .bool (x.toList == y.toList)
  | .neq, x, y => .bool (!(x.toList == y.toList))
  | .lss, x, y => .bool (Op.bytesLess x.toList y.toList)
  | .leq, x, y => .bool (Op.bytesLess x.toList y.toList || x.toList == y.toList)
  | .gtr, x, y => .bool (!(Op.bytesLess x.toList y.toList || x.toList == y.toList))
  | .geq, x, y => .bool (!(Op.bytesLess x.toList y.toList))
  | _, _, _ => undef
def pBinS (op : BinOp) (x y : Value) (K : KP) : Prop :=
  ∃ a b, x = .string a ∧ y = .string b ∧ (((a.size + b.size : Nat) : Int) ≤ IntKind.i64.max) ∧ K (binS op a b)
inductive Ek where
  | bool | ptr | sl | mp | fn | ifc
def eqB : Ek → Value → Value → Option Bool
  | .bool, .bool a, .bool b => some (a == b)
  | .ptr, .pointer none, .pointer b => some b.isNone
  | .ptr, .pointer (some _), .pointer none => some false
  | .sl, .slice none _ _, .slice b _ _ => some b.isNone
  | .sl, .slice (some _) _ _, .slice none _ _ => some false
  | .mp, .map none, .map b => some b.isNone
  | .mp, .map (some _), .map none => some false
  | .fn, .nilFunc, .nilFunc => some true
  | .fn, .nilFunc, .func _ _ _ => some false
  | .fn, .func _ _ _, .nilFunc => some false
  | .ifc, .nilIface, .iface _ _ => some false
  | .ifc, .iface _ _, .nilIface => some false
  | _, _, _ => none
def pEq (k : Ek) (neg : Bool) (x y : Value) (K : KP) : Prop := ∃ b, eqB k x y = some b ∧ K (.bool (b != neg))
def pNot (x : Value) (K : KP) : Prop := ∃ b, x = .bool b ∧ K (.bool (!b))
def pNeg (k : IntKind) (x : Value) (K : KP) : Prop := ∃ a, x = .int k a ∧ K (.int k (k.wrap (0 - a)))
def pInv (k : IntKind) (x : Value) (K : KP) : Prop :=
  ∃ a, x = .int k a ∧ K (.int k (k.wrap (BitVec.ofInt k.bits (if k.signed then -1 else k.max) ^^^ BitVec.ofInt k.bits a).toNat))
def pConv (k : IntKind) (x : Value) (K : KP) : Prop := ∃ j a, x = .int j a ∧ K (.int k (k.wrap a))
def pConvS (x : Value) (K : KP) : Prop := ∃ s, x = .string s ∧ K (.string s)
def pExt (x : Value) (i : Nat) (K : KP) : Prop := ∃ vs v, x = .tuple vs ∧ vs[i]? = some v ∧ K v
/-- A bound of a slice expression: none, or a whole number. -/
def bnd (d : Nat) : Option Value → Option Nat
  | none => some d
  | some (.int _ n) => if 0 ≤ n then some n.toNat else none
  | some _ => none
def pSl (size : Nat) (x : Value) (lo hi mx : Option Value) (K : KP) : Prop :=
  ∃ a n c l h m, x = .slice a n c ∧ bnd 0 lo = some l ∧ bnd n hi = some h ∧ bnd c mx = some m ∧ l ≤ h ∧ h ≤ m ∧ m ≤ c ∧ (mx.isSome = true → hi.isSome = true) ∧
    K (.slice (if m = l then a else a.map (·.add (l * size))) (h - l) (m - l))
def pSlS (x : Value) (lo hi : Option Value) (K : KP) : Prop :=
  ∃ s l h, x = .string s ∧ bnd 0 lo = some l ∧ bnd s.size hi = some h ∧ l ≤ h ∧ h ≤ s.size ∧ K (.string (s.extract l h))
def pSlA (n size : Nat) (x : Value) (lo hi mx : Option Value) (K : KP) : Prop :=
  ∃ a l h m, x = .pointer (some a) ∧ bnd 0 lo = some l ∧ bnd n hi = some h ∧ bnd n mx = some m ∧ l ≤ h ∧ h ≤ m ∧ m ≤ n ∧ (mx.isSome = true → hi.isSome = true) ∧
    K (.slice (some (if m = l then a else a.add (l * size))) (h - l) (m - l))
def pFA (off : Nat) (x : Value) (K : KP) : Prop := ∃ a, x = .pointer (some a) ∧ K (.pointer (some (a.add off)))
def pFld (off : Nat) (x : Value) (K : KP) : Prop := ∃ cs v, x = .agg cs ∧ cs[off]? = some v ∧ K v
def pFldN (off n : Nat) (x : Value) (K : KP) : Prop := ∃ cs, x = .agg cs ∧ K (.agg (cs.extract off (off + n)))
def pIA (size : Nat) (x i : Value) (K : KP) : Prop :=
  ∃ a n c k j, x = .slice (some a) n c ∧ i = .int k j ∧ 0 ≤ j ∧ j < (n : Int) ∧ K (.pointer (some (a.add (j.toNat * size))))
def pIAr (len size : Nat) (x i : Value) (K : KP) : Prop :=
  ∃ a k j, x = .pointer (some a) ∧ i = .int k j ∧ 0 ≤ j ∧ j < (len : Int) ∧ K (.pointer (some (a.add (j.toNat * size))))
def pIxS (x i : Value) (K : KP) : Prop := ∃ s k j b, x = .string s ∧ i = .int k j ∧ 0 ≤ j ∧ s[j.toNat]? = some b ∧ K (.int .u8 b.toNat)
def pIx (len : Nat) (x i : Value) (K : KP) : Prop := ∃ cs k j v, x = .agg cs ∧ i = .int k j ∧ 0 ≤ j ∧ j < (len : Int) ∧ cs[j.toNat]? = some v ∧ K v
def pIxN (len size : Nat) (x i : Value) (K : KP) : Prop :=
  ∃ cs k j, x = .agg cs ∧ i = .int k j ∧ 0 ≤ j ∧ j < (len : Int) ∧ K (.agg (cs.extract (j.toNat * size) (j.toNat * size + size)))
def pLenSl (x : Value) (K : KP) : Prop := ∃ a n c, x = .slice a n c ∧ K (.int .i64 n)
def pLenS (x : Value) (K : KP) : Prop := ∃ s, x = .string s ∧ K (.int .i64 s.size)
def pCapSl (x : Value) (K : KP) : Prop := ∃ a n c, x = .slice a n c ∧ K (.int .i64 c)
def pMin (x y : Value) (K : KP) : Prop := ∃ k a b, x = .int k a ∧ y = .int k b ∧ K (.int k (if b < a then b else a))
def pMax (x y : Value) (K : KP) : Prop := ∃ k a b, x = .int k a ∧ y = .int k b ∧ K (.int k (if a < b then b else a))

/-- What is read: in this world, or in whatever world that meets a condition. -/
def pLd (S : World → Prop) (v : Value) (K : KP) : Prop := ∃ a x, v = .pointer (some a) ∧ (∀ w, S w → w.cell? a = some x) ∧ K x
def pLdN (S : World → Prop) (n : Nat) (v : Value) (K : KP) : Prop :=
  ∃ (a : Addr) (xs : List Value), v = .pointer (some a) ∧ xs.length = n ∧ (∀ w, S w → ∀ i, i < n → w.cell? (a.add i) = xs[i]?) ∧ K (.agg xs.toArray)
def pStrOf (S : World → Prop) (x : Value) (K : KP) : Prop :=
  ∃ a n c, x = .slice a n c ∧ ∃ bs : List UInt8, bs.length = n ∧
    (∀ i b, bs[i]? = some b → ∃ ad, a = some ad ∧ ∀ w, S w → w.cell? (ad.add i) = some (.int .u8 b.toNat)) ∧ K (.string ⟨bs.toArray⟩)
def pLenM (S : World → Prop) (x : Value) (K : KP) : Prop := ∃ r n, x = .map (some r) ∧ (∀ w, S w → ∃ es cl, w.heap[r]? = some (.map es cl) ∧ es.size = n) ∧ K (.int .i64 n)

def pBox (T : TypeId) (v : Value) (w : World) (K : KV) : Prop := K (.pointer (some ⟨w.heap.size, 0, none⟩)) (w.alloc (.cells v.cells T))
def pBSlice (E len : Nat) (zero : List Value) (parts : List (Nat × Nat × Value)) (w : World) (K : KV) : Prop :=
  ∃ cs, fillL zero parts = some cs ∧ K (.slice (some ⟨w.heap.size, 0, none⟩) len len) (w.alloc (.cells cs.toArray E))
/-- Cells written one behind the other. -/
def setCells (w : World) (a : Addr) : Nat → List Value → World
  | _, [] => w
  | i, v :: r => setCells (w.setCell (a.add i) v) a (i + 1) r
/-- Can these cells be written? -/
def canSet (w : World) (a : Addr) (xs : List Value) : Prop :=
  ∀ j v, xs[j]? = some v → (∃ old, w.cell? (a.add j) = some old) ∧ w.frozen? (a.add j) = false ∧ one v = true
def pSt (p x : Value) (w : World) (K : KV) : Prop :=
  ∃ a old, p = .pointer (some a) ∧ w.cell? a = some old ∧ w.frozen? a = false ∧ one x = true ∧ K undef (w.setCell a x)
def pStN (n : Nat) (p x : Value) (w : World) (K : KV) : Prop :=
  ∃ (a : Addr) (xs : List Value), p = .pointer (some a) ∧ x.cells.toList = xs ∧ xs.length = n ∧ canSet w a xs ∧ K undef (setCells w a 0 xs)
/-- []byte(s) -/
def pBytesOf (E : TypeId) (x : Value) (w : World) (K : KV) : Prop :=
  ∃ s, x = .string s ∧ ∀ cap, s.size ≤ cap →
    K (.slice (some ⟨w.heap.size, 0, none⟩) s.size cap)
      (w.drew.alloc (.cells ((s.data.map fun b => Value.int .u8 b.toNat) ++ Array.replicate (cap - s.size) (.int .u8 0)) E (cap, cap + 1)))
def pMap (w : World) (K : KV) : Prop := K (.map (some w.heap.size)) (w.alloc (.map #[] 0))
def rowOf (zero : List Value) (n : Nat) : List Value := (List.replicate n zero).flatten
def pMake (E bytes : Nat) (zero : List Value) (l c : Value) (w : World) (K : KV) : Prop :=
  ∃ k k' n m, l = .int k n ∧ c = .int k' m ∧ 0 ≤ n ∧ n ≤ m ∧ m ≤ 9223372036854775807 ∧ (bytes : Int) * m ≤ 2 ^ 48 ∧
    K (.slice (some ⟨w.heap.size, 0, none⟩) n.toNat m.toNat) (w.alloc (.cells (rowOf zero m.toNat).toArray E))
/-- The first n elements' cells of what is appended or copied. -/
def reads (w : World) (size n : Nat) (x : Value) (xs : List Value) : Prop :=
  match x with
  | .slice a _ _ => xs.length = n * size ∧ (∀ i v, xs[i]? = some v → ∃ ad, a = some ad ∧ w.cell? (ad.add i) = some v)
  | .string s => xs = (s.data.toList.take n).map fun b => Value.int .u8 b.toNat
  | _ => False
def lenV : Value → Nat
  | .slice _ n _ => n
  | .string s => s.size
  | _ => 0
def pApp (E size bytes : Nat) (zero : List Value) (s x : Value) (w : World) (K : KV) : Prop :=
  ∃ a n c xs, s = .slice a n c ∧ reads w size (lenV x) x xs ∧
    (n + lenV x ≤ c → (match a with
       | none => K (.slice none (n + lenV x) c) w
       | some ad => canSet w (ad.add (n * size)) xs ∧ K (.slice (some ad) (n + lenV x) c) (setCells w (ad.add (n * size)) 0 xs))) ∧
    (c < n + lenV x → Builtin.nextslicecap (n + lenV x) c * bytes ≤ 2 ^ 48 ∧
      ∃ old, reads w size n s old ∧ ∀ cap, n + lenV x ≤ cap → cap < 2 ^ 63 →
        K (.slice (some ⟨w.heap.size, 0, none⟩) (n + lenV x) cap) (w.drew.alloc (.cells (old ++ xs ++ rowOf zero (cap - (n + lenV x))).toArray E)))
/-- append(s, make([]T, x)...) -/
def pAppZ (E size bytes : Nat) (zero : List Value) (s x : Value) (w : World) (K : KV) : Prop :=
  ∃ a n c k l m, s = .slice a n c ∧ x = .int k l ∧ 0 ≤ l ∧ l ≤ 9223372036854775807 ∧ l * (bytes : Int) ≤ 2 ^ 48 ∧ m = l.toNat ∧
    (n + m ≤ c → (match a with
       | none => K (.slice none (n + m) c) w
       | some ad => canSet w (ad.add (n * size)) (rowOf zero m) ∧ K (.slice (some ad) (n + m) c) (setCells w (ad.add (n * size)) 0 (rowOf zero m)))) ∧
    (c < n + m → Builtin.nextslicecap (n + m) c * bytes ≤ 2 ^ 48 ∧
      ∃ old, reads w size n s old ∧ ∀ cap, n + m ≤ cap → cap < 2 ^ 63 →
        K (.slice (some ⟨w.heap.size, 0, none⟩) (n + m) cap) (w.drew.alloc (.cells (old ++ rowOf zero m ++ rowOf zero (cap - (n + m))).toArray E)))
def pCopy (size : Nat) (d x : Value) (w : World) (K : KV) : Prop :=
  ∃ a n c xs, d = .slice a n c ∧ reads w size (min (lenV x) n) x xs ∧
      (match a with
       | none => K (.int .i64 (min (lenV x) n : Nat)) w
       | some ad => canSet w ad xs ∧ K (.int .i64 (min (lenV x) n : Nat)) (setCells w ad 0 xs))
/-- A function with a body; or one that the machine has. -/
def pCall (P : Program) (f : FuncId) (args : List Value) (X : KX) (w : World) (K : KV) : Prop :=
  ((∃ fn, P.funcs[f]? = some fn ∧ fn.body.isSome = true ∧ (fn.name == "runtime.NumGoroutine") = false) ∧
  Calls P f args.toArray w fun
    | .returned v, w' => K v w'
    | .panicked ch, w' => X ch w'
    | .outgrown, _ => False) ∨ ∃ v w', (callFunc f args.toArray).run P w = .ok (.value v) w' ∧ K v w'
def pCallV (P : Program) (f : Value) (args : List Value) (X : KX) (w : World) (K : KV) : Prop :=
  match f with
  | .func (.func g) first cap => pCall P g (first.toList ++ args ++ cap.toList) X w K
  | _ => False
/-- What a run gives, whatever the world (of those that meet S). -/
def pRunR (P : Program) (S : World → Prop) (s : Sem Value) (K : KP) : Prop := ∃ v, (∀ w, S w → s.run P w = .ok v w) ∧ K v
def pRun (P : Program) (s : Sem Value) (w : World) (K : KV) : Prop := ∃ v w', s.run P w = .ok v w' ∧ K v w'
def pRunU (P : Program) (s : Sem Unit) (w : World) (K : KV) : Prop := ∃ w', s.run P w = .ok () w' ∧ K undef w'
def pInvoke (P : Program) (r : Value) (name : String) (args : List Value) (X : KX) (w : World) (K : KV) : Prop :=
  ∃ f as, (callMethod r name args.toArray).run P w = .ok (.enter f as) w ∧
  Calls P f as w fun
    | .returned v, w' => K v w'
    | .panicked ch, w' => X ch w'
    | .outgrown, _ => False
def pEqS (P : Program) (op : BinOp) (T : TypeId) (x y : Value) (K : KP) : Prop :=
  (∀ a b w, (eqGuard op T a b x y).run P w = .ok () w) ∧ ∃ v, (∀ w, (binOp op T x y).run P w = .ok v w) ∧ K v
def pPanic (x : Value) (X : KX) (w : World) : Prop := ∃ t v, x = .iface t v ∧ X [{ v := .iface t v, recovered := false }] w

/-! ### 3. What the tables say, in the kernel -/
def zeroL (P : Program) (T : TypeId) : List Value := (((P.info? T).bind (·.zero)).getD undef).cells.toList
def hasInfo (P : Program) (T : TypeId) : Bool := (P.info? T).isSome
def hasZero (P : Program) (T : TypeId) : Bool := ((P.info? T).bind (·.zero)).isSome
def placeF (P : Program) (fs : Array Field) (i : Nat) : Nat × Nat := match fs[i]? with | some f => (f.offset, P.cellsOf f.type) | none => (0, 0)
inductive Tk where
  | agg (n : Nat) | cell | none
def tkOf (P : Program) (T : TypeId) : Tk :=
  match P.underlying T with
  | some (.struct _) => .agg (P.cellsOf T)
  | some (.array _ _) => .agg (P.cellsOf T)
  | some _ => match P.cellsOf T with | 1 => .cell | _ => .none
  | none => .none
def partsF (P : Program) (fs : Array Field) (ev : Operand → Value) (ps : Array (Nat × Operand)) : List (Nat × Nat × Value) :=
  ps.toList.map fun p => ((placeF P fs p.1).1, (placeF P fs p.1).2, ev p.2)
def partsA (size : Nat) (ev : Operand → Value) (ps : Array (Nat × Operand)) : List (Nat × Nat × Value) :=
  ps.toList.map fun p => (p.1 * size, size, ev p.2)
def okField (fs : Array Field) (p : Nat × Operand) : Bool := (fs[p.1]?).isSome
def infoF (P : Program) (fs : Array Field) : Bool := fs.toList.all fun f => hasInfo P f.type

def sEq (k : Ek) (op : BinOp) (x y : Value) (K : KP) : Prop :=
  match op with
  | .eql => pEq k false x y K
  | .neq => pEq k true x y K
  | _ => False
def sBin (P : Program) (op : BinOp) (T : TypeId) (x y : Value) (K : KP) : Prop :=
  match P.underlying T with
  | some (.int k) => (match op with
    | .quo | .rem => pDiv op k x y K
    | .shl | .shr => pShift op k x y K
    | _ => pBinI op k x y K)
  | some .string => (match op with
    | .add | .eql | .neq | .lss | .leq | .gtr | .geq => pBinS op x y K
    | _ => False)
  | some .bool => sEq .bool op x y K
  | some (.slice _) => sEq .sl op x y K
  | some (.pointer _) => sEq .ptr op x y K
  | some (.map _ _) => sEq .mp op x y K
  | some (.func _ _ _) => sEq .fn op x y K
  | some (.interface _) => sEq .ifc op x y K
  | some (.struct _) => pEqS P op T x y K
  | some (.array _ _) => pEqS P op T x y K
  | _ => False
def sUn (P : Program) (op : UnOp) (T : TypeId) (x : Value) (K : KP) : Prop :=
  match op, P.underlying T with
  | .not, some .bool => pNot x K
  | .neg, some (.int k) => pNeg k x K
  | .xor, some (.int k) => pInv k x K
  | _, _ => False
inductive Ck where
  | ints (k : IntKind) | str | toBytes (e : TypeId) | toStr | none
def ckOf (P : Program) (src dst : TypeId) : Ck :=
  match P.underlying src, P.underlying dst with
  | some (.int _), some (.int k) => .ints k
  | some .string, some .string => .str
  | some .string, some (.slice e) => (match P.underlying e with | some (.int .u8) => .toBytes e | _ => .none)
  | some (.slice e), some .string => (match P.underlying e with | some (.int .u8) => .toStr | _ => .none)
  | _, _ => .none
def sSlice (P : Program) (T : TypeId) (x : Value) (lo hi mx : Option Value) (K : KP) : Prop :=
  match P.underlying T with
  | some (.slice e) => (match hasInfo P e with | true => pSl (P.cellsOf e) x lo hi mx K | false => False)
  | some .string => (match mx with | none => pSlS x lo hi K | some _ => False)
  | some (.array n e) => (match hasInfo P e with | true => pSlA n (P.cellsOf e) x lo hi mx K | false => False)
  | _ => False
def sField (P : Program) (T : TypeId) (x : Value) (f : Nat) (K : KP) : Prop :=
  match P.underlying T with
  | some (.struct fs) => (match fs[f]? with
    | some g => (match tkOf P g.type with
      | .agg n => pFldN g.offset n x K
      | .cell => pFld g.offset x K
      | .none => False)
    | none => False)
  | _ => False
def sIA (P : Program) (T : TypeId) (x i : Value) (K : KP) : Prop :=
  match P.underlying T with
  | some (.slice e) => (match hasInfo P e with | true => pIA (P.cellsOf e) x i K | false => False)
  | some (.array n e) => (match hasInfo P e with | true => pIAr n (P.cellsOf e) x i K | false => False)
  | _ => False
def sIx (P : Program) (T : TypeId) (x i : Value) (K : KP) : Prop :=
  match P.underlying T with
  | some .string => pIxS x i K
  | some (.array n e) => (match tkOf P e with
    | .agg s => pIxN n s x i K
    | .cell => pIx n x i K
    | .none => False)
  | _ => False
def sFA (P : Program) (T : TypeId) (x : Value) (f : Nat) (K : KP) : Prop :=
  match P.underlying T with
  | some (.struct fs) => (match fs[f]? with
    | some g => (match P.cellsOf g.type with | 0 => False | _ + 1 => pFA g.offset x K)
    | none => False)
  | _ => False
inductive Lk where
  | str | sl | mp | arr (n : Nat) | none
def lkOf (P : Program) (T : TypeId) : Lk :=
  match P.underlying T with
  | some .string => .str
  | some (.slice _) => .sl
  | some (.map _ _) => .mp
  | some (.array n _) => .arr n
  | some (.pointer t) => (match P.underlying t with | some (.array n _) => .arr n | _ => .none)
  | _ => .none
def sApp (P : Program) (T : TypeId) (T2 : TypeId) (s x : Value) (w : World) (K : KV) : Prop :=
  match P.underlying T, P.underlying T2 with
  | some (.slice e), some (.int _) => (match hasZero P e && Nat.beq (zeroL P e).length (P.cellsOf e) && Nat.ble 1 (P.bytesOf e) with
    | true => pAppZ e (P.cellsOf e) (P.bytesOf e) (zeroL P e) s x w K
    | false => False)
  | some (.slice e), some _ => (match hasZero P e && Nat.beq (zeroL P e).length (P.cellsOf e) && Nat.ble 1 (P.bytesOf e) with
    | true => pApp e (P.cellsOf e) (P.bytesOf e) (zeroL P e) s x w K
    | false => False)
  | _, _ => False

/-- What an operation does: only compute, read, or turn the world. -/
inductive Kd where
  | pure | read | world
def kdOf (P : Program) (o : Oper) : Kd :=
  match o.op with
  | .move _ | .assign _ | .pick _ _ _ | .build _ _ | .nilCheck _ | .binOp _ _ _ _ _ | .unOp _ _ _ | .makeInterface _ _ | .makeFunc _ _ _ | .slice _ _ _ _ _
  | .fieldAddr _ _ _ | .field _ _ _ | .indexAddr _ _ _ | .index _ _ _ | .extract _ _ => .pure
  | .load _ _ => .read
  | .lookup _ _ _ _ => .read
  | .convert s d _ => (match ckOf P s d with | .ints _ => .pure | .str => .pure | .toStr => .read | _ => .world)
  | .call c => (match c.callee with
    | .builtin .len => (match c.argTypes.toList with | [T] => (match lkOf P T with | .mp => .read | _ => .pure) | _ => .world)
    | .builtin .cap => .pure
    | .builtin .min => .pure
    | .builtin .max => .pure
    | _ => .world)
  | _ => .world
def sPure (P : Program) (o : Oper) (ev : Operand → Value) (K : KP) : Prop :=
  match o.op with
  | .move x => K (ev x)
  | .assign x => K (ev x)
  | .pick c a b => pPick (ev c) (ev a) (ev b) K
  | .build T ps => (match P.underlying T with
    | some (.struct fs) => (match hasZero P T && infoF P fs && ps.toList.all (okField fs) with | true => pBuild (zeroL P T) (partsF P fs ev ps) K | false => False)
    | some (.array _ e) => (match hasZero P T && hasInfo P e with | true => pBuild (zeroL P T) (partsA (P.cellsOf e) ev ps) K | false => False)
    | _ => False)
  | .nilCheck x => pNil (ev x) K
  | .binOp op T x y _ => sBin P op T (ev x) (ev y) K
  | .unOp op T x => sUn P op T (ev x) K
  | .convert src dst x => (match ckOf P src dst with | .ints k => pConv k (ev x) K | .str => pConvS (ev x) K | _ => False)
  | .makeInterface T x => (match P.underlying T with | some (.interface _) => False | some _ => K (.iface T (ev x)) | none => False)
  | .makeFunc fn first captured => K (.func fn (first.map ev) (captured.map ev))
  | .slice T x lo hi mx => sSlice P T (ev x) (lo.map ev) (hi.map ev) (mx.map ev) K
  | .fieldAddr T x f => sFA P T (ev x) f K
  | .field T x f => sField P T (ev x) f K
  | .indexAddr T x i => sIA P T (ev x) (ev i) K
  | .index T x i => sIx P T (ev x) (ev i) K
  | .extract t i => pExt (ev t) i K
  | .call c => (match c.callee with
    | .builtin .len => (match c.args.toList, c.argTypes.toList with
      | [x], [T] => (match lkOf P T with | .str => pLenS (ev x) K | .sl => pLenSl (ev x) K | .arr n => K (.int .i64 n) | _ => False) | _, _ => False)
    | .builtin .cap => (match c.args.toList, c.argTypes.toList with | [x], [T] => (match lkOf P T with | .sl => pCapSl (ev x) K | _ => False) | _, _ => False)
    | .builtin .min => (match c.args.toList with | [x, y] => pMin (ev x) (ev y) K | _ => False)
    | .builtin .max => (match c.args.toList with | [x, y] => pMax (ev x) (ev y) K | _ => False)
    | _ => False)
  | _ => False
def sRead (P : Program) (S : World → Prop) (o : Oper) (ev : Operand → Value) (K : KP) : Prop :=
  match o.op with
  | .load T x => (match tkOf P T with | .agg n => pLdN S n (ev x) K | .cell => pLd S (ev x) K | .none => False)
  | .convert src dst x => (match ckOf P src dst with | .toStr => pStrOf S (ev x) K | _ => False)
  | .lookup T m i ok => pRunR P S (Instr.lookup T (ev m) (ev i) ok) K
  | .call c => (match c.callee with
    | .builtin .len => (match c.args.toList, c.argTypes.toList with | [x], [T] => (match lkOf P T with | .mp => pLenM S (ev x) K | _ => False) | _, _ => False)
    | _ => False)
  | _ => False
def sWorld (P : Program) (o : Oper) (ev : Operand → Value) (X : KX) (w : World) (K : KV) : Prop :=
  match o.op with
  | .alloc T => (match hasZero P T with | true => pBox T (.agg (zeroL P T).toArray) w K | false => False)
  | .box T x => pBox T (ev x) w K
  | .buildSlice T len ps => (match P.underlying T with
    | some (.slice e) => (match hasZero P e && Nat.ble (len * P.cellsOf e) 16777216 && Nat.beq (zeroL P e).length (P.cellsOf e) with
      | true => pBSlice e len (rowOf (zeroL P e) len) (partsA (P.cellsOf e) ev ps) w K | false => False)
    | _ => False)
  | .store T a x => (match tkOf P T with | .agg n => pStN n (ev a) (ev x) w K | .cell => pSt (ev a) (ev x) w K | .none => False)
  | .convert src dst x => (match ckOf P src dst with | .toBytes e => pBytesOf e (ev x) w K | .none => pRun P (convert src dst (ev x)) w K | _ => False)
  | .makeMap _ none => pMap w K
  | .makeMap T (some r) => pRun P (Instr.makeMap T (some (ev r))) w K
  | .mapUpdate T m k x => pRunU P (Instr.mapUpdate T (ev m) (ev k) (ev x)) w K
  | .insert T m k x => pRunU P (Instr.mapUpdate T (ev m) (ev k) (ev x)) w K
  | .mapEntry T m k => pRun P (Instr.mapEntry T (ev m) (ev k)) w K
  | .entryStore T m s x => pRunU P (Instr.entryStore T (ev m) (ev s) (ev x)) w K
  | .range T x => pRun P (Instr.range T (ev x)) w K
  | .next it s => pRun P (Instr.next (ev it) s o.type) w K
  | .entry it => pRun P (Instr.entry (ev it)) w K
  | .typeAssert x T as ok => pRun P (Instr.typeAssert (ev x) T as ok) w K
  | .sliceToArrayPointer T x => pRun P (Instr.arrayAt T (ev x)) w K
  | .makeSlice T l c => (match P.underlying T with
    | some (.slice e) => (match hasZero P e && Nat.beq (zeroL P e).length (P.cellsOf e) with | true => pMake e (P.bytesOf e) (zeroL P e) (ev l) (ev c) w K | false => False)
    | _ => False)
  | .panic x => pPanic (ev x) X w
  | .call c => (match c.callee with
    | .value (.func f) => pCall P f (c.args.toList.map ev) X w K
    | .value f => pCallV P (ev f) (c.args.toList.map ev) X w K
    | .invoke r name => pInvoke P (ev r) name (c.args.toList.map ev) X w K
    | .builtin .delete => pRun P (Builtin.delete_ c.argTypes o.type (c.args.toList.map ev).toArray) w K
    | .builtin .clear => pRun P (Builtin.clear_ c.argTypes o.type (c.args.toList.map ev).toArray) w K
    | .builtin .append => (match c.args.toList, c.argTypes.toList with | [s, x], [T, T2] => sApp P T T2 (ev s) (ev x) w K | _, _ => False)
    | .builtin .copy => (match c.args.toList, c.argTypes.toList with
      | [d, x], [T, _] => (match P.underlying T with | some (.slice e) => (match hasInfo P e with | true => pCopy (P.cellsOf e) (ev d) (ev x) w K | false => False) | _ => False) | _, _ => False)
    | _ => False)
  | _ => False

/-! ### 4. Code -/
def scond (v : Value) (A B : Prop) : Prop := ∃ b, v = .bool b ∧ (b = true → A) ∧ (b = false → B)
def thenQ (next : List Value → World → Prop) (Q : QE) : QE
  | .normal, e, w => next e w
  | .exit id, e, w => Q (.exit id) e w
  | .goto l, e, w => Q (.goto l) e w
  | .ret, e, w => Q .ret e w
  | .panic ch, e, w => Q (.panic ch) e w
  | .outgrown, _, _ => False
def inBlk (id : Nat) (Q : QE) : QE
  | .normal, e, w => Q .normal e w
  | .exit i, e, w => match Nat.beq i id with | true => Q .normal e w | false => Q (.exit i) e w
  | .goto l, e, w => Q (.goto l) e w
  | .ret, e, w => Q .ret e w
  | .panic ch, e, w => Q (.panic ch) e w
  | .outgrown, _, _ => False
def noGo (Q : QE) : QE
  | .normal, e, w => Q .normal e w
  | .exit i, e, w => Q (.exit i) e w
  | .goto _, _, _ => False
  | .ret, e, w => Q .ret e w
  | .panic ch, e, w => Q (.panic ch) e w
  | .outgrown, _, _ => False
/-- A guarded operation: done if the guard's value is the wanted one, else passed over. -/
def gIf (v : Value) (want : Bool) (op : KP → Prop) (K : KP) : Prop := (∃ b, v = .bool b ∧ (b = want → op K) ∧ (b = (!want) → K undef)) ∨ (v = undef ∧ K undef)
def gIfW (v : Value) (want : Bool) (op : World → KV → Prop) (w : World) (K : KV) : Prop := (∃ b, v = .bool b ∧ (b = want → op w K) ∧ (b = (!want) → K undef w)) ∨ (v = undef ∧ K undef w)
def dstOf (ops : Array Oper) (j : Nat) : Option Nat := match ops[j]? with | some o => o.dst | none => none
/-- A guard's value; none: no value of a guard. -/
def gval (ops : Array Oper) (j : Nat) (e : List Value) : Value := match dstOf ops j with | some d => nth e d | none => undef
/-- One operation, its guard looked at: one that computes or reads (in worlds that meet S) .. -/
def stepP (P : Program) (ops : Array Oper) (S : World → Prop) (o : Oper) (e : List Value) (K : KP) : Prop :=
  match o.guard, kdOf P o with
  | none, .pure => sPure P o (evl e) K
  | none, .read => sRead P S o (evl e) K
  | some (j, want), .pure => gIf (gval ops j e) want (fun K => sPure P o (evl e) K) K
  | some (j, want), .read => gIf (gval ops j e) want (fun K => sRead P S o (evl e) K) K
  | _, .world => False
/-- .. or one that turns the world. -/
def stepW (P : Program) (ops : Array Oper) (o : Oper) (e : List Value) (X : KX) (w : World) (K : KV) : Prop :=
  match o.guard with
  | none => sWorld P o (evl e) X w K
  | some (j, want) => gIfW (gval ops j e) want (fun w K => sWorld P o (evl e) X w K) w K
def semL (P : Program) (ops : Array Oper) (Q : QE) : List Oper → List Value → World → Prop
  | [], e, w => Q .normal e w
  | o :: rest, e, w => match kdOf P o with
    | .world => stepW P ops o e (fun ch w' => Q (.panic ch) e w') w (fun v w' => semL P ops Q rest (put e o.dst v) w')
    | .pure => stepP P ops (fun w' => w' = w) o e (fun v => semL P ops Q rest (put e o.dst v) w)
    | .read => stepP P ops (fun w' => w' = w) o e (fun v => semL P ops Q rest (put e o.dst v) w)
/-- The order in which a region whose order is open is looked at: what may be taken first is; else all that may come up. -/
inductive Plan where
  | done
  | none
  | take (i : Nat) (p : Plan)
  | world (i : Nat) (r : Bool) (p : Plan) (more : Plan)
/-- For each operation: whom it waits for; who is not apart from it. -/
structure DrawPlan where
  tab : List (List Nat × List Nat)
  plan : Plan
def opsL : Op → List Operand
  | .alloc _ | .ready _ | .waits _ => []
  | .move x | .assign x | .box _ x | .load _ x | .nilCheck x | .unOp _ _ x | .convert _ _ x | .sliceToArrayPointer _ x | .makeInterface _ x
  | .makeChan _ x | .fieldAddr _ x _ | .field _ x _ | .range _ x | .next x _ | .entry x | .typeAssert x _ _ _ | .extract x _ | .panic x | .recv _ x _ => [x]
  | .pick c a b => [c, a, b]
  | .build _ ps | .buildSlice _ _ ps => ps.toList.map (·.2)
  | .store _ a v | .binOp _ _ a v _ | .makeSlice _ a v | .indexAddr _ a v | .index _ a v | .lookup _ a v _ | .mapEntry _ a v | .send a v => [a, v]
  | .makeFunc _ first captured => first.toList ++ captured.toList
  | .makeMap _ r => r.toList
  | .slice _ x l h m => [x] ++ l.toList ++ h.toList ++ m.toList
  | .mapUpdate _ m k v | .entryStore _ m k v | .insert _ m k v => [m, k, v]
  | .call c | .go c | .defer c => (match c.callee with | .value f => [f] | .invoke r _ => [r] | .builtin _ => []) ++ c.args.toList
  | .select _ _ => []
def tmpsL : List Operand → List Tmp
  | [] => []
  | .tmp t :: r => t :: tmpsL r
  | _ :: r => tmpsL r
def looksL (ops : Array Oper) (o : Oper) : List Tmp :=
  tmpsL (opsL o.op) ++ (match o.guard with | some (g, _) => (match ops[g]? with | some x => (match x.dst with | some d => [d] | none => []) | none => []) | none => [])
def memN (a : Nat) : List Nat → Bool
  | [] => false
  | b :: l => Nat.beq a b || memN a l
/-- Is y apart from x? -/
def apartL (dx : Option Tmp) (lx : List Tmp) (dy : Option Tmp) (ly : List Tmp) : Bool :=
  (match dx with | some d => !(memN d ly) && (match dy with | some d' => !(Nat.beq d d') | none => true) | none => true) &&
  (match dy with | some d => !(memN d lx) | none => true)
def rowsL (ops : Array Oper) : List Oper → List (Option Tmp × List Tmp)
  | [] => []
  | o :: r => (o.dst, looksL ops o) :: rowsL ops r
def confOk (i : Nat) (x : Option Tmp × List Tmp) (conf : List Nat) : Nat → List (Option Tmp × List Tmp) → Bool
  | _, [] => true
  | j, y :: r => (Nat.beq i j || memN j conf || apartL x.1 x.2 y.1 y.2) && confOk i x conf (j + 1) r
def edgesOk (after : List Edge) (es : List Nat) : Bool :=
  match after with
  | [] => true
  | e :: r => (!(Region.binds .any e) || memN e.on es) && edgesOk r es
def edgesOk' (after : List Edge) : List Nat → Bool
  | [] => true
  | a :: r => after.any (fun e => Region.binds .any e && Nat.beq e.on a) && edgesOk' after r
def tabOk (all : List (Option Tmp × List Tmp)) : Nat → List Oper → List (Option Tmp × List Tmp) → List (List Nat × List Nat) → Bool
  | _, [], [], [] => true
  | i, o :: r, x :: rr, t :: ts => edgesOk o.after.toList t.1 && edgesOk' o.after.toList t.1 && confOk i x t.2 0 all && tabOk all (i + 1) r rr ts
  | _, _, _, _ => false
def nthB : List Bool → Nat → Bool
  | [], _ => false
  | b :: _, 0 => b
  | _ :: l, n + 1 => nthB l n
def setB : List Bool → Nat → List Bool
  | [], _ => []
  | _ :: l, 0 => true :: l
  | b :: l, n + 1 => b :: setB l n
def allB : List Bool → Bool
  | [] => true
  | b :: l => b && allB l
def allIn (listed : List Bool) : List Nat → Bool
  | [] => true
  | a :: r => nthB listed a && allIn listed r
def nthT : List (List Nat × List Nat) → Nat → List Nat × List Nat
  | [], _ => ([], [])
  | t :: _, 0 => t
  | _ :: l, n + 1 => nthT l n
/-- All who are in conflict have come up, or wait. -/
def freeL (tab : List (List Nat × List Nat)) (listed : List Bool) (i : Nat) : List Nat → Bool
  | [] => true
  | j :: r => (nthB listed j || memN i (nthT tab j).1) && freeL tab listed i r
def readyFrom (listed : List Bool) : Nat → List (List Nat × List Nat) → List Nat
  | _, [] => []
  | i, t :: r => match !(nthB listed i) && allIn listed t.1 with
    | true => i :: readyFrom listed (i + 1) r
    | false => readyFrom listed (i + 1) r
def altsOf : Plan → List Nat
  | .world i _ _ m => i :: altsOf m
  | _ => []
def beqL : List Nat → List Nat → Bool
  | [], [] => true
  | a :: l, b :: m => Nat.beq a b && beqL l m
  | _, _ => false
def isRead (P : Program) (o : Oper) : Bool := match kdOf P o with | .read => true | _ => false
def readsL (P : Program) : List Oper → List Bool
  | [] => []
  | o :: r => isRead P o :: readsL P r
/-- Does this operation wait for all that was read? -/
def barL : List Bool → List Bool → Nat → List Nat → Bool
  | l :: ls, r :: rs, k, after => (!(l && r) || memN k after) && barL ls rs (k + 1) after
  | _, _, _, _ => true
def planOk (tab : List (List Nat × List Nat)) (rd : List Bool) (n : Nat) : Plan → Bool → List Bool → Bool
  | .done, _, listed => allB listed
  | .none, inAlt, _ => inAlt
  | .take i p, _, listed => Nat.ble (i + 1) n && !(nthB listed i) && allIn listed (nthT tab i).1 && freeL tab listed i (nthT tab i).2 && planOk tab rd n p false (setB listed i)
  | .world i r p m, inAlt, listed => Nat.ble (i + 1) n && !(nthB listed i) && (!r || barL listed rd 0 (nthT tab i).1) && (inAlt || beqL (i :: altsOf m) (readyFrom listed 0 tab)) && planOk tab rd n p false (setB listed i) &&
      (match m with | .none => true | .world _ _ _ _ => planOk tab rd n m true listed | _ => false)
def falses : Nat → List Bool
  | 0 => []
  | n + 1 => false :: falses n
def lenOps : List Oper → Nat
  | [] => 0
  | _ :: r => lenOps r + 1
def drawOk (P : Program) (ops : Array Oper) (d : DrawPlan) : Bool :=
  Region.noSelect ops && tabOk (rowsL ops ops.toList) 0 ops.toList (rowsL ops ops.toList) d.tab && planOk d.tab (readsL P ops.toList) (lenOps ops.toList) d.plan false (falses (lenOps ops.toList))
/-- What is held from here on: what was held, or something new. -/
def turned (S : World → Prop) (r : Bool) (w : World) (D : (World → Prop) → World → Prop) : Prop := match r with | false => S w ∧ D S w | true => ∃ S' : World → Prop, S' w ∧ D S' w
def anew (w : World) (D : (World → Prop) → World → Prop) : Prop := ∃ S : World → Prop, S w ∧ D S w
/-- A region whose order is open. -/
def semD (P : Program) (ops : Array Oper) (Q : QE) : Plan → (World → Prop) → List Value → World → Prop
  | .done, _, e, w => Q .normal e w
  | .none, _, _, _ => True
  | .take i p, S, e, w => match ops[i]? with
    | some o => stepP P ops S o e (fun v => semD P ops Q p S (put e o.dst v) w)
    | none => False
  | .world i r p m, S, e, w => match ops[i]? with
    | some o => (match m with
      | .none => stepW P ops o e (fun ch w' => Q (.panic ch) e w') w (fun v w' => turned S r w' (fun S w' => semD P ops Q p S (put e o.dst v) w'))
      | m => stepW P ops o e (fun ch w' => Q (.panic ch) e w') w (fun v w' => turned S r w' (fun S w' => semD P ops Q p S (put e o.dst v) w')) ∧ semD P ops Q m S e w)
    | none => False
def liftQ (ds : List Deferred) (Q : QE) : Exit → Act → World → Prop := fun x a w => a.defers = ds ∧ Q x a.tmps.toList w
def drawn (w : World) (D : (World → Prop) → World → Prop) : Prop := ∃ S : World → Prop, S w.drew ∧ D S w.drew
def sem (P : Program) (pl : Nat → DrawPlan) : Code → QE → List Value → World → Prop
  | .skip, Q, e, w => Q .normal e w
  | .label _, Q, e, w => Q .normal e w
  | .region _ ops false, Q, e, w => semL P ops Q ops.toList e w
  | .region id ops true, Q, e, w => (match drawOk P ops (pl id) with
    | true => drawn w (fun S w => semD P ops Q (pl id).plan S e w)
    | false => False)
  | .seq a b, Q, e, w => sem P pl a (thenQ (fun e w => sem P pl b Q e w) Q) e w
  | .cond c a b, Q, e, w => scond (evl e c) (sem P pl a Q e w) (sem P pl b Q e w)
  | .block id c, Q, e, w => sem P pl c (inBlk id Q) e w
  | .scope c, Q, e, w => sem P pl c (noGo Q) e w
  | .exit id, Q, e, w => Q (.exit id) e w
  | .ret, Q, e, w => Q .ret e w
  | .loop c, Q, e, w => ∃ (I : List Value → World → Prop) (m : List Value → World → Nat), I e w ∧ ∀ e w, I e w → sem P pl c (thenQ (fun e' w' => I e' w' ∧ m e' w' < m e w) Q) e w
  | _, _, _, _ => False
/-- A loop, by what goes on. -/
def loopS (B : (List Value → World → Prop) → List Value → World → Prop) (e : List Value) (w : World) : Prop :=
  ∃ (I : List Value → World → Prop) (m : List Value → World → Nat), I e w ∧ ∀ e w, I e w → B (fun e' w' => I e' w' ∧ m e' w' < m e w) e w
/-- The code at a place, and what follows it. -/
def down (P : Program) (pl : Nat → DrawPlan) : List Nat → Code → QE → List (List Value → World → Prop) → Code × QE
  | [], c, Q, _ => (c, Q)
  | 0 :: p, .seq a b, Q, Ns => down P pl p a (thenQ (fun e w => sem P pl b Q e w) Q) Ns
  | _ :: p, .seq _ b, Q, Ns => down P pl p b Q Ns
  | 0 :: p, .cond _ a _, Q, Ns => down P pl p a Q Ns
  | _ :: p, .cond _ _ b, Q, Ns => down P pl p b Q Ns
  | _ :: p, .block id c, Q, Ns => down P pl p c (inBlk id Q) Ns
  | _ :: p, .scope c, Q, Ns => down P pl p c (noGo Q) Ns
  | _ :: p, .loop c, Q, N :: Ns => down P pl p c (thenQ N Q) Ns
  | _, c, Q, _ => (c, Q)
/-- What a function hands back. -/
def sresL (P : Program) : List ResultVar → List Value → List Value → KV → World → Prop
  | [], _, acc, K, w => (match acc with | [v] => K v w | l => K (.tuple l.reverse.toArray) w)
  | .tmp t :: r, e, acc, K, w => sresL P r e (nth e t :: acc) K w
  | .cell b t :: r, e, acc, K, w => (match tkOf P t with
    | .agg n => pLdN (fun w' => w' = w) n (nth e b) (fun v => sresL P r e (v :: acc) K w)
    | .cell => pLd (fun w' => w' = w) (nth e b) (fun v => sresL P r e (v :: acc) K w)
    | .none => False)
def bodyQ (P : Program) (rs : List ResultVar) (R : KV) (X : KX) : QE
  | .normal, e, w => sresL P rs e [] R w
  | .ret, e, w => sresL P rs e [] R w
  | .panic ch, _, w => X ch w
  | .exit _, _, _ => False
  | .goto _, _, _ => False
  | .outgrown, _, _ => False
def undefs : Nat → List Value
  | 0 => []
  | n + 1 => undef :: undefs n
def bodyOf (fn : Func) : Code := fn.body.getD .skip
/-- A call, in this file's words. -/
def GCalls (P : Program) (f : FuncId) (args : List Value) (R : KV) (X : KX) (w : World) : Prop := pCall P f args X w R
/-- A place in a function's body, on slots. -/
def atP (P : Program) (fn : Func) (pl : Nat → DrawPlan) (path : List Nat) (Ns : List (List Value → World → Prop)) (R : KV) (X : KX) (e : List Value) (w : World) : Prop :=
  sem P pl (down P pl path (bodyOf fn) (bodyQ P fn.results.toList R X) Ns).1 (down P pl path (bodyOf fn) (bodyQ P fn.results.toList R X) Ns).2 e w
end Go.G
end
section
set_option linter.unusedSimpArgs false
set_option linter.unusedVariables false
namespace Go.G
open Go

/-! ### 1. Slots -/
theorem nth_eq (e : List Value) : ∀ t, e.toArray.getD t undef = nth e t := by
  intro t
  simp only [Array.getD_eq_getD_getElem?, List.getElem?_toArray]
  induction e generalizing t with
  | nil => simp [nth]
  | cons v l ih => cases t with
    | zero => simp [nth]
    | succ t => simpa [nth] using ih t
theorem upd_eq (e : List Value) : ∀ d v, e.set d v = upd e d v := by
  induction e with
  | nil => intro d v; simp [upd]
  | cons a l ih => intro d v; cases d <;> simp [upd, ih]
theorem eval_eq (e : List Value) (ds : List Deferred) : Act.eval ⟨e.toArray, ds⟩ = evl e := by
  funext x
  cases x <;> simp only [Act.eval, evl]
  exact nth_eq e _
theorem put_eq (e : List Value) (ds : List Deferred) (dst : Option Tmp) (v : Value) : Act.put ⟨e.toArray, ds⟩ dst v = ⟨(put e dst v).toArray, ds⟩ := by
  cases dst with
  | none => rfl
  | some d => simp [Act.put, put, ← upd_eq]
theorem nth_bool {e : List Value} {d : Nat} {b : Bool} (h : nth e d = .bool b) : e[d]? = some (.bool b) := by
  rw [← nth_eq] at h
  simp only [Array.getD_eq_getD_getElem?, List.getElem?_toArray] at h
  cases hx : e[d]? with
  | none => rw [hx] at h; simp [undef] at h
  | some v => rw [hx] at h; simpa using h
theorem gval_bool {ops : Array Oper} {j : Nat} {e : List Value} {b : Bool} (h : gval ops j e = .bool b) : yielded ops e.toArray j = some b := by
  unfold gval dstOf at h
  unfold yielded
  cases ho : ops[j]? with
  | none => simp [ho, undef] at h
  | some o =>
    simp only [ho] at h ⊢
    cases hd : o.dst with
    | none => simp [hd, undef] at h
    | some d =>
      simp only [hd] at h
      simp [hd, nth_bool h]

theorem gval_undef {ops : Array Oper} {j : Nat} {e : List Value} (h : gval ops j e = undef) : yielded ops e.toArray j = none := by
  unfold gval dstOf at h
  unfold yielded
  cases ho : ops[j]? with
  | none => rfl
  | some o =>
    simp only [ho] at h ⊢
    cases hd : o.dst with
    | none => simp [hd]
    | some d =>
      simp only [hd] at h
      rw [← nth_eq] at h
      simp only [Array.getD_eq_getD_getElem?, List.getElem?_toArray] at h
      cases hx : e[d]? with
      | none => simp [hd, hx]
      | some v => rw [hx] at h; simp at h; subst h; simp [hd, hx, undef]
/-! ### 2. Tables -/
theorem run_underlying {P : Program} {T : TypeId} {d : TypeDesc} (h : P.underlying T = some d) (w : World) : (underlying T).run P w = .ok d w := by
  simp [underlying, h, Sem.run, program]
theorem info_some {P : Program} {T : TypeId} {d : TypeDesc} (h : P.underlying T = some d) : ∃ i, P.info? T = some i := by
  unfold Program.underlying at h
  cases hi : P.info? T with
  | none => rw [hi] at h; cases h
  | some i => exact ⟨i, rfl⟩
theorem run_typeInfo {P : Program} {T : TypeId} {i : TypeInfo} (h : P.info? T = some i) (w : World) : (typeInfo T).run P w = .ok i w := by
  simp [typeInfo, h, Sem.run, program]
theorem cellsOf_eq {P : Program} {T : TypeId} {i : TypeInfo} (h : P.info? T = some i) : P.cellsOf T = i.size := by simp [Program.cellsOf, h]
theorem bytesOf_eq {P : Program} {T : TypeId} {i : TypeInfo} (h : P.info? T = some i) : P.bytesOf T = i.bytes := by simp [Program.bytesOf, h]
theorem run_sizeOf {P : Program} {T : TypeId} {i : TypeInfo} (h : P.info? T = some i) (w : World) : (sizeOf T).run P w = .ok (P.cellsOf T) w := by
  simp [sizeOf, run_typeInfo h, cellsOf_eq h]
theorem info_of_cells {P : Program} {T : TypeId} {n : Nat} (h : P.cellsOf T = n + 1) : ∃ i, P.info? T = some i := by
  unfold Program.cellsOf at h
  cases hi : P.info? T with
  | none => simp [hi] at h
  | some i => exact ⟨i, rfl⟩
theorem run_zero {P : Program} {T : TypeId} (h : hasZero P T = true) : ∃ z, (∀ w, (zeroValue T).run P w = .ok z w) ∧ z.cells.toList = zeroL P T ∧ ∃ i, P.info? T = some i := by
  unfold hasZero at h
  unfold zeroL
  cases hi : P.info? T with
  | none => simp [hi] at h
  | some i =>
    simp only [hi, Option.bind_some] at h ⊢
    cases hz : i.zero with
    | none => simp [hz] at h
    | some z => exact ⟨z, fun w => by simp [zeroValue, run_typeInfo hi, hz], by simp, i, rfl⟩
theorem run_isAgg {P : Program} {T : TypeId} {d : TypeDesc} (h : P.underlying T = some d) (w : World) :
    (isAgg T).run P w = .ok (match d with | .struct _ | .array _ _ => true | _ => false) w := by
  simp only [isAgg, Sem.run_bind, run_underlying h, Result.andThen_ok]
  cases d <;> rfl
theorem tk_agg {P : Program} {T : TypeId} {n : Nat} (h : tkOf P T = .agg n) : (∀ w, (isAgg T).run P w = .ok true w) ∧ n = P.cellsOf T ∧ ∃ i, P.info? T = some i := by
  unfold tkOf at h
  split at h
  · rename_i hu; cases h; exact ⟨fun w => run_isAgg hu w, rfl, info_some hu⟩
  · rename_i hu; cases h; exact ⟨fun w => run_isAgg hu w, rfl, info_some hu⟩
  · split at h <;> cases h
  · cases h
theorem tk_cell {P : Program} {T : TypeId} (h : tkOf P T = .cell) : (∀ w, (isAgg T).run P w = .ok false w) ∧ P.cellsOf T = 1 ∧ ∃ i, P.info? T = some i := by
  unfold tkOf at h
  split at h
  · cases h
  · cases h
  · rename_i d h1 h2 hu
    split at h
    · rename_i h3
      refine ⟨fun w => ?_, h3, info_some hu⟩
      rw [run_isAgg hu]
      cases d <;> simp_all
    · cases h
  · cases h

/-! ### 3. What is filled -/
theorem foldl_cells (c : List Value) : ∀ (cs : List Value) (off k : Nat), off + k + c.length ≤ cs.length →
    (c.zipIdx k).foldl (fun (cs : Array Value) (p : Value × Nat) => cs.setIfInBounds (off + p.2) p.1) cs.toArray = (cs.take (off + k) ++ c ++ cs.drop (off + k + c.length)).toArray := by
  induction c with
  | nil => intro cs off k h; simp
  | cons v r ih =>
    intro cs off k h
    simp only [List.zipIdx_cons, List.foldl_cons, List.setIfInBounds_toArray]
    have hl : off + k < cs.length := by simp at h; omega
    rw [ih (cs.set (off + k) v) off (k + 1) (by simp at h ⊢; omega)]
    congr 1
    rw [List.set_eq_take_append_cons_drop, if_pos hl]
    have e1 : off + (k + 1) = off + k + 1 := by omega
    rw [e1, List.take_append, List.drop_append]
    have hm : min (off + k) cs.length = off + k := by omega
    simp only [List.length_take, hm]
    have e2 : off + k + 1 - (off + k) = 1 := by omega
    have e3 : off + k + 1 + r.length - (off + k) = r.length + 1 := by omega
    rw [e2, e3]
    simp only [List.take_succ_cons, List.take_zero, List.drop_succ_cons, List.length_cons, List.drop_drop]
    rw [List.take_of_length_le (by simp; omega), List.drop_eq_nil_of_le (by simp; omega)]
    simp only [List.nil_append, List.append_assoc, List.cons_append]
    congr 4
    omega
theorem fill_eq (place : Nat → Option (Nat × Nat)) : ∀ (ps : List (Nat × Value)) (qs : List (Nat × Nat × Value)) (cs r : List Value),
    qs = ps.map (fun p => (((place p.1).getD (0, 0)).1, ((place p.1).getD (0, 0)).2, p.2)) → (∀ p ∈ ps, (place p.1).isSome = true) →
    fillL cs qs = some r → Instr.fill place cs.toArray ps = some r.toArray
  | [], _, cs, r, hq, _, h => by subst hq; simp [fillL] at h; subst h; rfl
  | (i, v) :: rest, qs, cs, r, hq, hp, h => by
    subst hq
    have h0 := hp (i, v) (by simp)
    cases hi : place i with
    | none => simp [hi] at h0
    | some z =>
      obtain ⟨off, size⟩ := z
      simp only [List.map_cons, fillL, hi, Option.getD_some] at h
      split at h
      · rename_i hc
        obtain ⟨h1, h2⟩ := hc
        unfold Instr.fill
        simp only [hi]
        rw [if_neg (by simp only [List.size_toArray, Bool.or_eq_true, decide_eq_true_eq, not_or]; simp at h1; exact ⟨by simpa using h1, by simp [h1]; omega⟩)]
        have hz : (v.cells.zipIdx.foldl (fun (cs : Array Value) (p : Value × Nat) => cs.setIfInBounds (off + p.2) p.1) cs.toArray) = (cutIn cs off v.cells.toList).toArray := by
          have := foldl_cells v.cells.toList cs off 0 (by simp at h1 ⊢; omega)
          simp only [Nat.add_zero] at this
          rw [cutIn, ← this]
          rw [← Array.foldl_toList]
          simp
        have := fill_eq place rest _ _ r rfl (fun p hp' => hp p (by simp [hp'])) h
        rw [← this]
        congr 1
      · cases h
end Go.G
end
