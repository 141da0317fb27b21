/- The evaluator's operations: what each operation of the model comes to on abstract values. -/
import Derived.Test.YtilmhmfdohbpbaaGreatQwA
set_option linter.unusedVariables false
set_option linter.unusedSimpArgs false
namespace Go.Abs
open Go

/-! ## Constants -/

def absCell : Value → Option AVal
  | .bool b => some (.bool b)
  | .int k n => some (.int k n)
  | .string s => some (.str s.data.toList)
  | .pointer none => some .nilptr
  | .slice none 0 0 => some (.lst [] 0 (some 0))
  | .map none => some .nilmap
  | .nilFunc => some .nilfunc
  | .nilIface => some .niliface
  | _ => none

def absCells : List Value → Option (List AVal)
  | [] => some []
  | v :: r => match absCell v, absCells r with
    | some a, some l => some (a :: l)
    | _, _ => none

def absConst (v : Value) : AVal :=
  match v with
  | .agg cs => match absCells cs.toList with | some l => .agg l | none => .any
  | .tuple cs => match absCells cs.toList with | some l => .tuple l | none => .any
  | v => (absCell v).getD .any

def zeroA (P : Program) (t : TypeId) : Option AVal :=
  match P.info? t with
  | some i => match i.zero with
    | some (.agg cs) => (absCells cs.toList).map .agg
    | some v => absCell v
    | none => none
  | none => none

abbrev Tmps := Tr AVal

def evalA (T : Tmps) : Operand → AVal
  | .tmp t => (T.get t).getD .any
  | .const v => absConst v
  | .global _ => .any
  | .func f => .func (.func f) [] []

/-! ## Lists -/

def takeN {α : Type} : Nat → List α → Option (List α)
  | 0, _ => some []
  | _ + 1, [] => none
  | n + 1, a :: l => (takeN n l).map (a :: ·)

/-- 'vs' over the cells from 'off' on. -/
def splice {α : Type} : Nat → List α → List α → Option (List α)
  | 0, [], cs => some cs
  | 0, _ :: _, [] => none
  | 0, v :: vs, _ :: cs => (splice 0 vs cs).map (v :: ·)
  | _ + 1, [], cs => some cs
  | _ + 1, _ :: _, [] => none
  | n + 1, v :: vs, c :: cs => (splice n (v :: vs) cs).map (c :: ·)

/-! ## Numbers -/

def i64fits : Int → Bool
  | .ofNat a => Nat.blt a 9223372036854775808
  | .negSucc a => Nat.blt a 9223372036854775808

def wrapA (k : IntKind) (n : Int) : Int :=
  match k with
  | .i64 => cond (i64fits n) n (IntKind.wrap .i64 n)
  | k => k.wrap n

def intArithA (op : BinOp) (k : IntKind) (x y : Int) : Option AVal :=
  match op with
  | .add => some (.int k (wrapA k (x + y)))
  | .sub => some (.int k (wrapA k (x - y)))
  | .mul => some (.int k (wrapA k (x * y)))
  | .quo => cond (y == 0) none (some (.int k (wrapA k (x.tdiv y))))
  | .rem => cond (y == 0) none (some (.int k (x.tmod y)))
  | .and => some (.int k (k.wrap (BitVec.ofInt k.bits x &&& BitVec.ofInt k.bits y).toNat))
  | .or => some (.int k (k.wrap (BitVec.ofInt k.bits x ||| BitVec.ofInt k.bits y).toNat))
  | .xor => some (.int k (k.wrap (BitVec.ofInt k.bits x ^^^ BitVec.ofInt k.bits y).toNat))
  | .andNot => some (.int k (k.wrap (BitVec.ofInt k.bits x &&& ~~~ BitVec.ofInt k.bits y).toNat))
  | .eql => some (.bool (x == y))
  | .neq => some (.bool (x != y))
  | .lss => some (.bool (x < y))
  | .leq => some (.bool (x ≤ y))
  | .gtr => some (.bool (x > y))
  | .geq => some (.bool (x ≥ y))
  | .shl | .shr => none

def strOpA (op : BinOp) (x y : List UInt8) : Option AVal :=
  match op with
  | .add => cond (Nat.ble (x.length + y.length) 9223372036854775807) (some (.str (x ++ y))) none
  | .eql => some (.bool (x == y))
  | .neq => some (.bool !(x == y))
  | .lss => some (.bool (Op.bytesLess x y))
  | .leq => some (.bool (Op.bytesLess x y || x == y))
  | .gtr => some (.bool !(Op.bytesLess x y || x == y))
  | .geq => some (.bool !(Op.bytesLess x y))
  | _ => none

def aggTy (P : Program) (t : TypeId) : Bool :=
  match P.underlying t with
  | some (.struct _) | some (.array _ _) => true
  | _ => false

/-- The part of a row of cells at its begin: a variable of type t. -/
def takeVar (P : Program) (t : TypeId) (cs : List AVal) : Option AVal :=
  match P.underlying t with
  | some (.struct _) | some (.array _ _) => (takeN (P.cellsOf t) cs).map .agg
  | some _ => cs.head?
  | none => none

/-- Equality of the fields of two structs. -/
def eqFieldsA (P : Program) (eq : TypeId → AVal → AVal → Option Bool) (xs ys : List AVal) : List Field → Option Bool
  | [] => some true
  | f :: fs => cond (f.name == "_") (eqFieldsA P eq xs ys fs) <|
    match takeVar P f.type (xs.drop f.offset), takeVar P f.type (ys.drop f.offset) with
    | some a, some b => match eq f.type a b with
      | some true => eqFieldsA P eq xs ys fs
      | some false => some false
      | none => none
    | _, _ => none

/-- Equality of two values of a type. -/
def eqA (P : Program) : Nat → TypeId → AVal → AVal → Option Bool
  | 0, _, _, _ => none
  | d + 1, t, x, y =>
    match P.underlying t, x, y with
    | some .bool, .bool a, .bool b => some (a == b)
    | some (.int _), .int k a, .int k' b => cond (decide (k = k')) (some (a == b)) none
    | some .string, .str a, .str b => some (a == b)
    | some (.pointer _), .nilptr, .nilptr => some true
    | some (.pointer _), .nilptr, .ptr _ _ => some false
    | some (.pointer _), .nilptr, .iptr _ => some false
    | some (.pointer _), .ptr _ _, .nilptr => some false
    | some (.pointer _), .iptr _, .nilptr => some false
    | some (.interface _), .niliface, .niliface => some true
    | some (.interface _), .niliface, .iface _ _ => some false
    | some (.interface _), .iface _ _, .niliface => some false
    | some (.func _ _ _), .nilfunc, .nilfunc => some true
    | some (.func _ _ _), .nilfunc, .func _ _ _ => some false
    | some (.func _ _ _), .func _ _ _, .nilfunc => some false
    | some (.struct fs), .agg xs, .agg ys => cond (P.stoodInHeld t) none (eqFieldsA P (eqA P d) xs ys fs.toList)
    | some (.slice _), .lst _ _ (some 0), .lst _ _ (some 0) => some true
    | some (.slice _), .slice _ _ _ _ _, .lst _ _ (some 0) => some false
    | some (.slice _), .lst _ _ (some 0), .slice _ _ _ _ _ => some false
    | _, _, _ => none

/-- Do the guards against two nil values of an interface type let it by? -/
def eqGuardA (P : Program) (op : BinOp) (t : TypeId) (x y : Operand) (a b : AVal) : Bool :=
  match op with
  | .eql | .neq =>
    match a, b with
    | .niliface, .niliface => (match x with | .const _ => true | _ => false) || (match y with | .const _ => true | _ => false)
    | .agg _, .agg _ => !(P.eqGuardType P.depth t)
    | .any, _ | _, .any => false
    | _, _ => true
  | _ => true

def binOpA (P : Program) (op : BinOp) (t : TypeId) (x y : AVal) : Option AVal :=
  match x, y with
  | .int k a, .int k' b =>
    match op with
    | .shl => cond (b < 0) none (some (.int k (wrapA k (a * 2 ^ (min b.toNat k.bits)))))
    | .shr => cond (b < 0) none (some (.int k (a.fdiv (2 ^ (min b.toNat k.bits)))))
    | op => cond (decide (k = k')) (intArithA op k a b) none
  | .str a, .str b => strOpA op a b
  | x, y =>
    match op with
    | .eql => (eqA P Op.maxDepth t x y).map .bool
    | .neq => (eqA P Op.maxDepth t x y).map fun b => .bool !b
    | _ => none

def unOpA : UnOp → AVal → Option AVal
  | .neg, .int k n => some (.int k (wrapA k (0 - n)))
  | .not, .bool b => some (.bool !b)
  | _, _ => none

/-! ## Rows -/

/-- The cells from a pointer on. -/
def rowOf (H : Heap) : AVal → Option (List AVal)
  | .ptr r off => match H.get r with
    | some (.cells c) => some (c.drop off)
    | _ => none
  | .iptr cs => some cs
  | _ => none

/-- The elements of a slice, whose elements have so many cells. -/
def elemsOf (H : Heap) (sz : Nat) : AVal → Option (List AVal × Nat)
  | .lst cs n _ => (takeN (n * sz) cs).map (·, n)
  | .slice r off n sz' _ => match H.get r with
    | some (.cells c) => cond (Nat.beq sz sz') ((takeN (n * sz) (c.drop off)).map (·, n)) none
    | _ => none
  | _ => none

def bytesOfA : List AVal → Option (List UInt8)
  | [] => some []
  | .int .u8 n :: r => (bytesOfA r).map (UInt8.ofNat n.toNat :: ·)
  | _ => none

def runesOfA : List AVal → Option (List UInt8)
  | [] => some []
  | .int .i32 n :: r => (runesOfA r).map ((Utf8.encode n).data.toList ++ ·)
  | _ => none

def contL (b : Option UInt8) : Bool := match b with | some b => b.toNat / 64 == 2 | none => false
def atL (b : Option UInt8) : Nat := match b with | some b => b.toNat | none => 0

/-- The rune at the begin of some bytes, and its width. -/
def decodeL (s : List UInt8) : Nat × Nat :=
  match s with
  | [] => (0, 1)
  | b :: r =>
    let b0 := b.toNat
    if b0 < 0x80 then (b0, 1)
    else if b0 / 32 == 6 && contL r[0]? then
      let c := (b0 % 32) * 64 + atL r[0]? % 64
      if c ≥ 0x80 then (c, 2) else (Utf8.runeError, 1)
    else if b0 / 16 == 14 && contL r[0]? && contL r[1]? then
      let c := (b0 % 16) * 4096 + (atL r[0]? % 64) * 64 + atL r[1]? % 64
      if c ≥ 0x800 && Utf8.valid c then (c, 3) else (Utf8.runeError, 1)
    else if b0 / 8 == 30 && contL r[0]? && contL r[1]? && contL r[2]? then
      let c := (b0 % 8) * 262144 + (atL r[0]? % 64) * 4096 + (atL r[1]? % 64) * 64 + atL r[2]? % 64
      if c ≥ 0x10000 && Utf8.valid c then (c, 4) else (Utf8.runeError, 1)
    else (Utf8.runeError, 1)

def runesL : Nat → List UInt8 → List Nat
  | 0, _ => []
  | _ + 1, [] => []
  | n + 1, s => (decodeL s).1 :: runesL n (s.drop (decodeL s).2)

/-! ## Slices -/

def natOf : AVal → Option Nat
  | .int _ (.ofNat n) => some n
  | _ => none

/-- low, high, cap of what is cut out of a row of so many elements, whose capacity may be known. -/
def boundsA (len : Nat) (cap : Option Nat) (low high mx : Option AVal) : Option (Nat × Nat × Option Nat) :=
  match (match mx with
    | some v => match natOf v with
      | some m => cond (Nat.ble m (cap.getD len)) (some (some m)) none
      | none => none
    | none => some cap : Option (Option Nat)) with
  | none => none
  | some m =>
    match (match high with
      | some v => match natOf v with
        | some h => cond (Nat.ble h (m.getD len)) (some h) none
        | none => none
      | none => cond mx.isSome none (some len) : Option Nat) with
    | none => none
    | some h =>
      match (match low with
        | some v => match natOf v with
          | some l => cond (Nat.ble l h) (some l) none
          | none => none
        | none => some 0 : Option Nat) with
      | none => none
      | some l => some (l, h, m)

/-- The capacity of a part: 'some 0' is told of the nil slice alone. -/
def capOf (m : Option Nat) (l : Nat) : Option Nat :=
  match m with
  | some c => cond (Nat.beq (c - l) 0) none (some (c - l))
  | none => none

theorem capOf_nil {m : Option Nat} {l : Nat} (h : capOf m l = some 0) : False := by
  unfold capOf at h
  split at h
  · cases hb : Nat.beq (_ - l) 0 with
    | true => rw [hb] at h; simp at h
    | false => rw [hb] at h; simp at h; simp [h] at hb
  · simp at h

theorem capOf_some {m : Option Nat} {l k : Nat} (h : capOf m l = some k) : m.map (· - l) = some k := by
  unfold capOf at h
  split at h
  · cases hb : Nat.beq (_ - l) 0 with
    | true => rw [hb] at h; simp at h
    | false => rw [hb] at h; simpa using h
  · simp at h

def sliceA (P : Program) (H : Heap) (t : TypeId) (x : AVal) (low high mx : Option AVal) : Option AVal :=
  match P.underlying t, x with
  | some .string, .str s => cond mx.isSome none <|
    match boundsA s.length (some s.length) low high none with
    | some (l, h, _) => some (.str ((s.drop l).take (h - l)))
    | none => none
  | some (.slice e), .slice r off n sz cap => cond (Nat.beq sz (P.cellsOf e)) (match boundsA n cap low high mx with
    | some (l, h, m) => some (.slice r (off + l * sz) (h - l) sz (m.map (· - l)))
    | none => none) none
  | some (.slice e), .lst cs n cap => match boundsA n cap low high mx with
    | some (l, h, m) => cond (Nat.ble h n) (some (.lst ((cs.drop (l * P.cellsOf e)).take ((h - l) * P.cellsOf e)) (h - l) (capOf m l))) none
    | none => none
  | some (.array k e), .ptr r off => match boundsA k (some k) low high mx, H.get r with
    | some (l, h, m), some (.cells c) => cond (Nat.ble (off + k * P.cellsOf e) c.length) (some (.slice r (off + l * P.cellsOf e) (h - l) (P.cellsOf e) (m.map (· - l)))) none
    | _, _ => none
  | some (.array k e), .iptr cs => match boundsA k (some k) low high mx with
    | some (l, h, m) => some (.lst ((cs.drop (l * P.cellsOf e)).take ((h - l) * P.cellsOf e)) (h - l) (capOf m l))
    | none => none
  | _, _ => none

def fieldOf (P : Program) (t : TypeId) (i : Nat) : Option Field :=
  match P.underlying t with
  | some (.struct fs) => fs[i]?
  | _ => none

def indexAddrA (P : Program) (t : TypeId) (x i : AVal) : Option AVal :=
  match natOf i with
  | none => none
  | some i =>
    match P.underlying t, x with
    | some (.array k e), .ptr r off => cond (Nat.blt i k) (some (.ptr r (off + i * P.cellsOf e))) none
    | some (.array k e), .iptr cs => cond (Nat.blt i k) (some (.iptr (cs.drop (i * P.cellsOf e)))) none
    | some (.slice e), .slice r off n _ _ => cond (Nat.blt i n) (some (.ptr r (off + i * P.cellsOf e))) none
    | some (.slice e), .lst (c :: cs) n _ => cond (Nat.blt i n) (some (.iptr ((c :: cs).drop (i * P.cellsOf e)))) none
    | _, _ => none

def indexA (P : Program) (t : TypeId) (x i : AVal) : Option AVal :=
  match natOf i with
  | none => none
  | some i =>
    match P.underlying t, x with
    | some (.array k e), .agg cs => cond (Nat.blt i k) (takeVar P e (cs.drop (i * P.cellsOf e))) none
    | some .string, .str s => (s[i]?).map fun b => .int .u8 b.toNat
    | _, _ => none

def AVal.cells? : AVal → Option (List AVal)
  | .any | .tuple _ => none
  | .agg cs => some cs
  | v => some [v]

def fillA (place : Nat → Option (Nat × Nat)) : List AVal → List (Nat × AVal) → Option (List AVal)
  | cells, [] => some cells
  | cells, (i, v) :: rest =>
    match place i, v.cells? with
    | some (off, size), some cs => cond (Nat.beq cs.length size) (match splice off cs cells with
      | some cells' => cond (Nat.ble (off + cs.length) cells.length) (fillA place cells' rest) none
      | none => none) none
    | _, _ => none

def partsA (ρ : Operand → AVal) (parts : Array (Nat × Operand)) : List (Nat × AVal) := parts.toList.map fun p => (p.1, ρ p.2)

def buildA (P : Program) (t : TypeId) (parts : List (Nat × AVal)) : Option AVal :=
  match zeroA P t, P.underlying t with
  | some (.agg z), some (.struct fs) => (fillA (fun i => (fs[i]?).map fun f => (f.offset, P.cellsOf f.type)) z parts).map .agg
  | some (.agg z), some (.array _ e) => (fillA (fun i => some (i * P.cellsOf e, P.cellsOf e)) z parts).map .agg
  | _, _ => none

def convertA (P : Program) (H : Heap) (src dst : TypeId) (x : AVal) : Option AVal :=
  match P.underlying src, P.underlying dst with
  | some s, some d =>
    match s, d, x with
    | _, .int k, .int _ n => some (.int k (wrapA k n))
    | _, .string, .int _ n => some (.str (Utf8.encode n).data.toList)
    | _, .string, .str l => some (.str l)
    | .slice e, .string, x =>
      match P.underlying e with
      | some (.int .u8) => match elemsOf H 1 x with
        | some (cs, _) => (bytesOfA cs).map .str
        | none => none
      | some (.int .i32) => match elemsOf H 1 x with
        | some (cs, _) => (runesOfA cs).map .str
        | none => none
      | _ => none
    | _, _, _ => none
  | _, _ => none

def minA : AVal → AVal → Option AVal
  | .int k x, .int _ y => some (.int k (if y < x then y else x))
  | _, _ => none

def maxA : AVal → AVal → Option AVal
  | .int k x, .int _ y => some (.int k (if y > x then y else x))
  | _, _ => none

def foldA (f : AVal → AVal → Option AVal) : AVal → List AVal → Option AVal
  | x, [] => some x
  | x, y :: r => match f x y with
    | some z => foldA f z r
    | none => none

def lenA (P : Program) (t : TypeId) (x : AVal) : Option AVal :=
  match P.underlying t, x with
  | some .string, .str s => some (.int .i64 s.length)
  | some (.array n _), _ => some (.int .i64 n)
  | some (.slice _), .lst _ n _ => some (.int .i64 n)
  | some (.slice _), .slice _ _ n _ _ => some (.int .i64 n)
  | _, _ => none

/-- What only computes, and reads. -/
def pureOp (P : Program) (H : Heap) (ρ : Operand → AVal) (op : Op) : Option AVal :=
  match op with
  | .move x | .assign x => some (ρ x)
  | .pick c a b => match ρ c with
    | .bool t => some (cond t (ρ a) (ρ b))
    | _ => none
  | .build t parts => buildA P t (partsA ρ parts)
  | .load t a => match rowOf H (ρ a) with
    | some cs => takeVar P t cs
    | none => none
  | .nilCheck x => match ρ x with
    | .ptr r o => some (.ptr r o)
    | .iptr cs => some (.iptr cs)
    | .iface t v => some (.iface t v)
    | .func (.func f) a b => some (.func (.func f) a b)
    | .yield r => some (.yield r)
    | _ => none
  | .binOp op t x y _ => cond (eqGuardA P op t x y (ρ x) (ρ y)) (binOpA P op t (ρ x) (ρ y)) none
  | .unOp op _ x => unOpA op (ρ x)
  | .convert s d x => convertA P H s d (ρ x)
  | .makeInterface t x => match P.underlying t with
    | some (.interface _) => none
    | some _ => some (.iface t (ρ x))
    | none => none
  | .makeFunc (.func f) first captured => some (.func (.func f) (first.toList.map ρ) (captured.toList.map ρ))
  | .slice t x lo hi mx => sliceA P H t (ρ x) (lo.map ρ) (hi.map ρ) (mx.map ρ)
  | .fieldAddr t x i => match fieldOf P t i with
    | some f => cond (Nat.beq (P.cellsOf f.type) 0) none <| match ρ x with
      | .ptr r off => some (.ptr r (off + f.offset))
      | .iptr cs => some (.iptr (cs.drop f.offset))
      | _ => none
    | none => none
  | .field t x i => match fieldOf P t i, ρ x with
    | some f, .agg cs => takeVar P f.type (cs.drop f.offset)
    | _, _ => none
  | .indexAddr t x i => indexAddrA P t (ρ x) (ρ i)
  | .index t x i => indexA P t (ρ x) (ρ i)
  | .extract x i => match ρ x with
    | .tuple vs => vs[i]?
    | _ => none
  | .typeAssert x _ asserted commaOk => match P.underlying asserted, ρ x with
    | some (.interface _), _ => none
    | some _, .iface t v => cond (Nat.beq t asserted) (some (cond commaOk (.tuple [v, .bool true]) v)) (cond commaOk ((zeroA P asserted).map fun z => .tuple [z, .bool false]) none)
    | _, _ => none
  | .call { callee := .builtin b, args, argTypes } => match b, args.toList, argTypes.toList with
    | .len, [x], [t] => lenA P t (ρ x)
    | .min, x :: r, _ => foldA minA (ρ x) (r.map ρ)
    | .max, x :: r, _ => foldA maxA (ρ x) (r.map ρ)
    | _, _, _ => none
  | _ => none

/-- Does it read what is in the heap? -/
def readsHeap : Op → Bool
  | .load .. | .convert .. | .slice .. => true
  | _ => false

def cat {α : Type} : Nat → List α → List α
  | 0, _ => []
  | n + 1, l => l ++ cat n l

/-- What makes a new object: it, and the value, given its name. -/
def allocOp (P : Program) (ρ : Operand → AVal) (op : Op) : Option (AObj × (Nat → AVal)) :=
  match op with
  | .alloc e => match zeroA P e with
    | some z => match z.cells? with
      | some cs => some (.cells cs, fun r => .ptr r 0)
      | none => none
    | none => none
  | .box _ x => match (ρ x).cells? with
    | some cs => some (.cells cs, fun r => .ptr r 0)
    | none => none
  | .buildSlice t len parts => match P.underlying t with
    | some (.slice e) => cond (Nat.ble (len * P.cellsOf e) 16777216) (match (zeroA P e).bind AVal.cells? with
      | some z => match fillA (fun i => some (i * P.cellsOf e, P.cellsOf e)) (cat len z) (partsA ρ parts) with
        | some cs => cond (Nat.beq z.length (P.cellsOf e)) (some (.cells cs, fun r => .slice r 0 len (P.cellsOf e) (some len))) none
        | none => none
      | none => none) none
    | _ => none
  | .makeSlice t l c => match P.underlying t, ρ l, ρ c with
    | some (.slice e), .int .i64 (.ofNat l), .int .i64 (.ofNat c) => match (zeroA P e).bind AVal.cells? with
      | some z => cond (Nat.beq z.length (P.cellsOf e) && Nat.ble l c && Nat.ble (P.bytesOf e * c) 281474976710656 && Nat.blt c 9223372036854775808)
          (some (.cells (cat c z), fun r => .slice r 0 l (P.cellsOf e) (some c))) none
      | none => none
    | _, _, _ => none
  | .convert src dst x => match P.underlying src, P.underlying dst, ρ x with
    | some .string, some (.slice e), .str s => match P.underlying e with
      | some (.int .u8) => some (.cells (s.map fun b => .int .u8 b.toNat), fun r => .slice r 0 s.length 1 none)
      | some (.int .i32) => some (.cells ((runesL s.length s).map fun (c : Nat) => AVal.int .i32 (c : Int)), fun r => .slice r 0 (runesL s.length s).length 1 none)
      | _ => none
    | _, _, _ => none
  | .range t x => match P.underlying t, ρ x with
    | some .string, .str s => some (.iter s 0, fun r => .ptr r 0)
    | _, _ => none
  | .makeMap _ none => some (.map [], fun r => .map r)
  | _ => none

/-- Cells over the row of a pointer. -/
def storeA (H : Heap) (r off : Nat) (vs : List AVal) : Option Heap :=
  match H.get r with
  | some (.cells c) => cond (Nat.ble H.lock r && vs.all AVal.single) ((splice off vs c).map fun c' => H.set r (.cells c')) none
  | _ => none

/-- Is the zero value of the elements' type known, and of their size? -/
def zeroOk (P : Program) (e : TypeId) : Bool :=
  match (zeroA P e).bind AVal.cells? with
  | some z => Nat.beq z.length (P.cellsOf e)
  | none => false

def appendA (P : Program) (H : Heap) (e : TypeId) (x : AVal) (src : List AVal) (k : Nat) : Option (AVal × Heap) :=
  let sz := P.cellsOf e
  match x with
  | .lst cs n cap => cond (Nat.beq k 0) (some (.lst cs n cap, H)) <|
    match cap with
    | some c => cond (Nat.ble (n + k) c) none (match takeN (n * sz) cs with
      | some old => cond (small n k) (some (.slice H.next 0 (n + k) sz none, H.push (.cells (old ++ src)))) none
      | none => none)
    | none => none
  | .slice r off n sz' cap => cond (Nat.beq sz sz') (cond (Nat.beq k 0) (some (.slice r off n sz cap, H)) <|
    match cap with
    | some c => cond (Nat.ble (n + k) c)
        ((storeA H r (off + n * sz) src).map fun H' => (.slice r off (n + k) sz (some c), H'))
        (match elemsOf H sz (.slice r off n sz cap) with
          | some (old, _) => cond (small n k) (some (.slice H.next 0 (n + k) sz none, H.push (.cells (old ++ src)))) none
          | none => none)
    | none => match elemsOf H sz (.slice r off n sz cap) with
      | some (old, _) => cond (small n k && Nat.ble H.lock r && src.all AVal.single) (some (.slice H.next 0 (n + k) sz none, (H.del r).push (.cells (old ++ src)))) none
      | none => none) none
  | _ => none
where
  small (n k : Nat) : Bool := Nat.ble (2 * (n + k) * P.bytesOf e) 281474976710656 && (Nat.ble (n + k) 4611686018427387904 && zeroOk P e)

/-- What is appended, or copied: its cells, and how many elements. -/
def srcOf (H : Heap) (sz : Nat) : AVal → Option (List AVal × Nat)
  | .str s => cond (Nat.beq sz 1) (some (s.map (fun b => .int .u8 b.toNat), s.length)) none
  | x => elemsOf H sz x

def srcTy : TypeDesc → Bool
  | .slice _ | .string => true
  | _ => false

/-- What changes the heap. -/
def effOp (P : Program) (H : Heap) (ρ : Operand → AVal) (op : Op) : Option (AVal × Heap) :=
  match op with
  | .store t a x => match ρ a, (ρ x).cells? with
    | .ptr r off, some vs => cond (Nat.beq vs.length (P.cellsOf t) && (P.info? t).isSome) ((storeA H r off vs).map (.tuple [], ·)) none
    | _, _ => none
  | .next it true => match ρ it with
    | .ptr r 0 => match H.get r with
      | some (.iter [] _) => some (.tuple [.bool false], H)
      | some (.iter s pos) => cond (Nat.ble H.lock r)
          (some (.tuple [.bool true, .int .i64 pos, .int .i32 (decodeL s).1], H.set r (.iter (s.drop (decodeL s).2) (pos + (decodeL s).2)))) none
      | _ => none
    | _ => none
  | .call { callee := .builtin .append, args, argTypes } => match args.toList, argTypes.toList with
    | [x, y], t :: u :: _ => match P.underlying t, P.underlying u with
      | some (.slice e), some ud => cond (srcTy ud) (match srcOf H (P.cellsOf e) (ρ y) with
        | some (src, k) => appendA P H e (ρ x) src k
        | none => none) none
      | _, _ => none
    | _, _ => none
  | .call { callee := .builtin .copy, args, argTypes } => match args.toList, argTypes.toList with
    | [x, y], t :: _ => match P.underlying t, ρ x with
      | some (.slice e), .slice r off n sz _ => cond (Nat.beq sz (P.cellsOf e)) (match srcOf H sz (ρ y) with
        | some (src, k) => match takeN (min k n * sz) src with
          | some cs => (storeA H r off cs).map (.int .i64 ((min k n : Nat) : Int), ·)
          | none => none
        | none => none) none
      | _, _ => none
    | _, _ => none
  | _ => none

end Go.Abs
