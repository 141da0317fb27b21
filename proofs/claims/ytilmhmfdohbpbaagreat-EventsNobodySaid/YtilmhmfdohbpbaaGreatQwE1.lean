/- Part of the evaluator's core: see its own heading. -/
import Derived.Test.YtilmhmfdohbpbaaGreatQwB
/-! The evaluator: regions, code, calls. -/
set_option linter.unusedVariables false
set_option linter.unusedSimpArgs false
namespace Go.Abs

inductive Ex where
  | normal
  | exit (id : Nat)
  | ret

/-- A frame: temporaries, how many there are, the marks of its loops over functions. -/
structure FS where
  T : Tmps
  nt : Nat
  D : List Nat

def FS.put (S : FS) (dst : Option Tmp) (v : AVal) : Option FS :=
  match dst with
  | none => some S
  | some d => cond (Nat.blt d S.nt) (some { S with T := S.T.set d v }) none

abbrev Cal := FuncId → List AVal → Heap → Option (AVal × Heap)
abbrev Yf := Nat → List AVal → Heap → Option (AVal × Heap)

def callV (call : Cal) (yf : Yf) (f : AVal) (args : List AVal) (H : Heap) : Option (AVal × Heap) :=
  match f with
  | .func (.func k) first cap => call k (first ++ (args ++ cap)) H
  | .yield r => yf r args H
  | _ => none

/-- The method of an interface value: a function, and its receiver. -/
def methodA (P : Program) (name : String) : AVal → Option (FuncId × AVal)
  | .iface t v => match (P.info? t).bind fun i => i.methods.find? (·.name == name) with
    | some m => cond m.path.isEmpty (match m.func, P.underlying t with
      | some (f, true), some (.pointer _) => some (f, v)
      | some (_, false), some (.pointer _) => none
      | some (f, false), some _ => some (f, v)
      | _, _ => none) none
    | none => none
  | _ => none

/-- The call of a function of the program's, by value or by method. -/
def callA (P : Program) (call : Cal) (yf : Yf) (ρ : Operand → AVal) (c : Call) (H : Heap) : Option (AVal × Heap) :=
  match c.callee with
  | .value f => callV call yf (ρ f) (c.args.toList.map ρ) H
  | .invoke r name => match methodA P name (ρ r) with
    | some (f, v) => call f (v :: c.args.toList.map ρ) H
    | none => none
  | .builtin _ => none

/-- What is left in the chain: what changes the heap, calls. -/
def chainOp (P : Program) (call : Cal) (yf : Yf) (H : Heap) (ρ : Operand → AVal) (op : Op) : Option (AVal × Heap) :=
  match op with
  | .call c => match c.callee with
    | .builtin _ => effOp P H ρ op
    | _ => callA P call yf ρ c H
  | _ => effOp P H ρ op

/-- Is the operation wanted? -/
def wantedA (ops : Array Oper) (T : Tmps) (o : Oper) : Option Bool :=
  match o.guard with
  | none => some true
  | some (j, want) => match (ops[j]?).bind (·.dst) with
    | none => none
    | some d => match T.get d with
      | some (.bool b) => some (cond b want (!want))
      | some (.tuple []) => some false
      | _ => none

def opStep (P : Program) (call : Cal) (yf : Yf) (T : Tmps) (H : Heap) (op : Op) : Option (AVal × Heap) :=
  match pureOp P H (evalA T) op with
  | some v => some (v, H)
  | none => match allocOp P (evalA T) op with
    | some (obj, f) => some (f H.next, H.push obj)
    | none => chainOp P call yf H (evalA T) op

/-- A region in its order. -/
def plain (P : Program) (call : Cal) (yf : Yf) (ops : Array Oper) : List Oper → FS → Heap → Option (FS × Heap)
  | [], S, H => some (S, H)
  | o :: rest, S, H =>
    match wantedA ops S.T o with
    | none => none
    | some false => match S.put o.dst (.tuple []) with
      | some S' => plain P call yf ops rest S' H
      | none => none
    | some true => match opStep P call yf S.T H o.op with
      | some (v, H') => match S.put o.dst v with
        | some S' => plain P call yf ops rest S' H'
        | none => none
      | none => none

/-! ## A region that draws its order -/

/-- The same value, for sure. -/
def samesBy (f : AVal → AVal → Bool) : List AVal → List AVal → Bool
  | a :: x, b :: y => f a b && samesBy f x y
  | [], [] => true
  | _, _ => false

def sameA : Nat → AVal → AVal → Bool
  | 0, _, _ => false
  | n + 1, a, b => match a, b with
    | .bool x, .bool y => cond x y (!y)
    | .int k x, .int j y => decide (k = j) && decide (x = y)
    | .str x, .str y => decide (x = y)
    | .nilptr, .nilptr => true
    | .nilmap, .nilmap => true
    | .nilfunc, .nilfunc => true
    | .niliface, .niliface => true
    | .ptr r o, .ptr r' o' => Nat.beq r r' && Nat.beq o o'
    | .map r, .map r' => Nat.beq r r'
    | .yield r, .yield r' => Nat.beq r r'
    | .slice r o k z c, .slice r' o' k' z' c' => Nat.beq r r' && (Nat.beq o o' && (Nat.beq k k' && (Nat.beq z z' && decide (c = c'))))
    | .lst x k c, .lst y j c' => Nat.beq k j && (decide (c = c') && samesBy (sameA n) x y)
    | .iptr x, .iptr y => samesBy (sameA n) x y
    | .agg x, .agg y => samesBy (sameA n) x y
    | .tuple x, .tuple y => samesBy (sameA n) x y
    | .iface t x, .iface u y => Nat.beq t u && sameA n x y
    | .func (.func f) x y, .func (.func g) x' y' => Nat.beq f g && (samesBy (sameA n) x x' && samesBy (sameA n) y y')
    | _, _ => false

def same? (a : Option AVal) (b : AVal) : Bool :=
  match a with
  | some a => sameA 100 a b
  | none => false

structure DS where
  T : Tmps
  H : Heap
  bs : Tr Nat
  wr : Tr Nat
  rd : Tr Nat
  pend : List (Nat × AObj)
  rds : List (Nat × Op × Tmps × AVal)
  past : List (Nat × Heap)

/-- What must have been done before the i-th. -/
def maskA (bs : Tr Nat) (i : Nat) : List Edge → Nat → Option Nat
  | [], m => some m
  | e :: r, m => cond (Region.binds .any e) (cond (Nat.blt e.on i) (maskA bs i r (m ||| ((1 <<< e.on) ||| (bs.get e.on).getD 0))) none) (maskA bs i r m)

def tmpsOf : List Operand → List Tmp
  | [] => []
  | .tmp t :: r => t :: tmpsOf r
  | _ :: r => tmpsOf r

def guardTmp (ops : Array Oper) (o : Oper) : List Tmp :=
  match o.guard with
  | none => []
  | some (j, _) => match (ops[j]?).bind (·.dst) with
    | none => []
    | some d => [d]

def readsOf (ops : Array Oper) (o : Oper) : List Tmp := guardTmp ops o ++ tmpsOf o.op.operands.toList

def maskT (T : Tmps) : List Tmp → Tmps → Tmps
  | [], M => M
  | t :: r, M => match T.get t with
    | some v => maskT T r (M.set t v)
    | none => maskT T r M

def readsOk (wr : Tr Nat) (b : Nat) : List Tmp → Bool
  | [] => true
  | t :: r => match wr.get t with
    | none => readsOk wr b r
    | some j => Nat.testBit b j && readsOk wr b r

def addRd : List Tmp → Tr Nat → Tr Nat
  | [], rd => rd
  | t :: r, rd => addRd r (rd.set t 0)

/-- Does it read the same at each heap of before at which it may be done? -/
def backOk (P : Program) (b : Nat) (M : Tmps) (op : Op) (v : AVal) : List (Nat × Heap) → Bool
  | [] => true
  | (c, H) :: r => cond (Nat.testBit b c) true (same? (pureOp P H (evalA M) op) v && backOk P b M op v r)

/-- Does each that has read, and may be done later, read the same? -/
def forthOk (P : Program) (b : Nat) (H : Heap) : List (Nat × Op × Tmps × AVal) → Bool
  | [] => true
  | (j, op, M, v) :: r => (cond (Nat.testBit b j) true (same? (pureOp P H (evalA M) op) v)) && forthOk P b H r

def lastIn (b : Nat) : List (Nat × Heap) → Bool
  | [] => true
  | (c, _) :: _ => Nat.testBit b c

def laid (base : Nat) (p : Nat → Bool) : List (Nat × AObj) → Heap → Heap
  | [], H => H
  | (i, x) :: r, H => cond (p i) (laid base p r (H.set (base + i) x)) (laid base p r H)

def laidLater (b : Nat) : List (Nat × AObj) → List (Nat × AObj)
  | [] => []
  | (i, x) :: r => cond (Nat.testBit b i) (laidLater b r) ((i, x) :: laidLater b r)

/-- What an operation is to the order. -/
inductive Did where
  | val (v : AVal)
  | read (v : AVal)
  | make (x : AObj) (v : AVal)
  | did (v : AVal) (H : Heap)

def didOf (P : Program) (call : Cal) (yf : Yf) (base i b : Nat) (M : Tmps) (D : DS) (op : Op) : Option Did :=
  match pureOp P D.H (evalA M) op with
  | some v => cond (readsHeap op) (cond (backOk P b M op v D.past) (some (.read v)) none) (some (.val v))
  | none => match allocOp P (evalA M) op with
    | some (x, f) => some (.make x (f (base + i)))
    | none => cond (lastIn b D.past) (match chainOp P call yf (laid base (Nat.testBit b) D.pend D.H) (evalA M) op with
      | some (v, H') => cond (forthOk P b H' D.rds) (some (.did v H')) none
      | none => none) none

def dstOk (nt : Nat) (D : DS) : Option Tmp → Bool
  | none => true
  | some d => Nat.blt d nt && ((D.wr.get d).isNone && (D.rd.get d).isNone)

def putT (T : Tmps) (dst : Option Tmp) (v : AVal) : Tmps :=
  match dst with
  | none => T
  | some d => T.set d v

def setW (wr : Tr Nat) (dst : Option Tmp) (i : Nat) : Tr Nat :=
  match dst with
  | none => wr
  | some d => wr.set d i

def DS.step (D : DS) (i b : Nat) (o : Oper) (reads : List Tmp) (M : Tmps) (v : AVal) (H : Heap) (pend : List (Nat × AObj)) (rds : List (Nat × Op × Tmps × AVal)) (past : List (Nat × Heap)) : DS :=
  { T := putT D.T o.dst v, H, bs := D.bs.set i b, wr := setW D.wr o.dst i, rd := addRd reads D.rd, pend, rds, past }

def DS.next (D : DS) (i b base : Nat) (o : Oper) (reads : List Tmp) (M : Tmps) : Did → DS
  | .val v => D.step i b o reads M v D.H D.pend D.rds D.past
  | .read v => D.step i b o reads M v D.H D.pend ((i, o.op, M, v) :: D.rds) D.past
  | .make x v => D.step i b o reads M v D.H ((i, x) :: D.pend) D.rds D.past
  | .did v H' => D.step i b o reads M v H' (laidLater b D.pend) D.rds ((i, D.H) :: D.past)

def drawn (P : Program) (call : Cal) (yf : Yf) (ops : Array Oper) (nt base : Nat) : List Oper → Nat → DS → Option DS
  | [], _, D => some D
  | o :: rest, i, D =>
    match maskA D.bs i o.after.toList 0 with
    | none => none
    | some b =>
      let reads := readsOf ops o
      let M := maskT D.T reads .nil
      cond (readsOk D.wr b reads && dstOk nt D o.dst) (match wantedA ops M o with
        | none => none
        | some false => drawn P call yf ops nt base rest (i + 1) (D.next i b base o reads M (.val (.tuple [])))
        | some true => match didOf P call yf base i b M D o.op with
          | some d => drawn P call yf ops nt base rest (i + 1) (D.next i b base o reads M d)
          | none => none) none

def drawnAll (P : Program) (call : Cal) (yf : Yf) (ops : Array Oper) (S : FS) (H : Heap) : Option (FS × Heap) :=
  match drawn P call yf ops S.nt H.next ops.toList 0 { T := S.T, H := { H with next := H.next + ops.size }, bs := .nil, wr := .nil, rd := .nil, pend := [], rds := [], past := [] } with
  | some D => some ({ S with T := D.T }, laid H.next (fun _ => true) D.pend D.H)
  | none => none

/-! ## Code -/

def loopA (body : FS → Heap → Option (Ex × FS × Heap)) : Nat → FS → Heap → Option (Ex × FS × Heap)
  | 0, _, _ => none
  | n + 1, S, H => match body S H with
    | some (.normal, S', H') => loopA body n S' H'
    | r => r

def hasBody (P : Program) (f : FuncId) : Bool :=
  match P.funcs[f]? with
  | some fn => fn.body.isSome
  | none => false

/-- The function that is ranged over is called. -/
def iterA (P : Program) (call : Cal) (f : AVal) (l : Nat) (H : Heap) : Option (AVal × Heap) :=
  match f with
  | .func (.func k) first cap => cond (hasBody P k) (call k (first ++ ([.yield l] ++ cap)) H) none
  | _ => none

def rangeA (P : Program) (call : Cal) (f : AVal) (ps : Array Tmp) (asg body : Code) (S : FS) (H : Heap) : Option (Ex × FS × Heap) :=
  let l := H.next + 1
  match iterA P call f l ((H.push .dfr).push (.loop .ready none S.T S.nt ps asg body)) with
  | none => none
  | some (_, H') => match H'.get l with
    | some (.loop st pend T nt ps asg body) => cond (st == .busy || !(Nat.ble H'.lock l)) none <|
      match pend with
      | none => some (.normal, { S with D := H.next :: S.D }, H'.set l (.loop .exhausted pend T nt ps asg body))
      | some .ret => some (.ret, { S with D := H.next :: S.D }, H'.set l (.loop .exhausted pend T nt ps asg body))
      | some (.exit id) => some (.exit id, { S with D := H.next :: S.D }, H'.set l (.loop .exhausted pend T nt ps asg body))
      | _ => none
    | _ => none

/-- In a round of a loop over a function no such loop may stand ('round'). -/
def ecode (P : Program) (call : Cal) (yf : Yf) (round : Bool) (fuel : Nat) : Code → FS → Heap → Option (Ex × FS × Heap)
  | .skip, S, H => some (.normal, S, H)
  | .label _, S, H => some (.normal, S, H)
  | .region _ ops d, S, H => match cond d (drawnAll P call yf ops S H) (plain P call yf ops ops.toList S H) with
    | some (S', H') => some (.normal, S', H')
    | none => none
  | .seq a b, S, H => match ecode P call yf round fuel a S H with
    | some (.normal, S', H') => ecode P call yf round fuel b S' H'
    | r => r
  | .cond c a b, S, H => match evalA S.T c with
    | .bool t => cond t (ecode P call yf round fuel a S H) (ecode P call yf round fuel b S H)
    | _ => none
  | .block id b, S, H => match ecode P call yf round fuel b S H with
    | some (.exit k, S', H') => some (cond (Nat.beq k id) .normal (.exit k), S', H')
    | r => r
  | .loop b, S, H => loopA (ecode P call yf round fuel b) fuel S H
  | .exit id, S, H => some (.exit id, S, H)
  | .ret, S, H => some (.ret, S, H)
  | .rangeFunc f ps asg body, S, H => cond round none (rangeA P call (evalA S.T f) ps asg body S H)
  | _, _, _ => none

/-! ## Calls -/

def argsT : Nat → List AVal → Tmps → Tmps
  | _, [], T => T
  | i, a :: r, T => argsT (i + 1) r (T.set i a)

def resultA (P : Program) (T : Tmps) (H : Heap) : List ResultVar → Option (List AVal)
  | [] => some []
  | .tmp t :: r => match resultA P T H r with
    | some vs => some ((T.get t).getD .any :: vs)
    | none => none
  | .cell a t :: r => match rowOf H ((T.get a).getD .any) with
    | some cs => match takeVar P t cs, resultA P T H r with
      | some v, some vs => some (v :: vs)
      | _, _ => none
    | none => none

def oneOf : List AVal → AVal
  | [v] => v
  | vs => .tuple vs

def shut : List Nat → Heap → Option Heap
  | [], H => some H
  | r :: rs, H => match H.get r with
    | some .dfr => cond (Nat.ble H.lock r) (shut rs (H.del r)) none
    | _ => none

def leave (P : Program) (fn : Func) (S : FS) (H : Heap) : Option (AVal × Heap) :=
  match shut S.D H with
  | some H' => match resultA P S.T H' fn.results.toList with
    | some vs => some (oneOf vs, H')
    | none => none
  | none => none

def bodyA (P : Program) (call : Cal) (yf : Yf) (fuel : Nat) (f : FuncId) (args : List AVal) (H : Heap) : Option (AVal × Heap) :=
  match P.funcs[f]? with
  | none => none
  | some fn => match fn.body with
    | none => none
    | some c => match ecode P call yf false fuel c { T := argsT 0 args .nil, nt := max fn.ntmps args.length, D := [] } H with
      | some (.normal, S, H') => leave P fn S H'
      | some (.ret, S, H') => leave P fn S H'
      | _ => none

def roundArgs (nt : Nat) : List Tmp → List AVal → Tmps → Option Tmps
  | [], [], T => some T
  | t :: ts, a :: r, T => cond (Nat.blt t nt) (roundArgs nt ts r (T.set t a)) none
  | _, _, _ => none

def roundA (P : Program) (call : Cal) (yf : Yf) (fuel : Nat) (r : Nat) (args : List AVal) (H : Heap) : Option (AVal × Heap) :=
  match H.get r with
  | some (.loop _ _ T nt ps asg body) => match roundArgs nt ps.toList args T with
    | none => none
    | some T' => match ecode P call yf true fuel asg { T := T', nt, D := [] } H with
      | some (.normal, S1, H1) => match H1.get r with
        | some (.loop .ready pend T1 nt1 ps1 asg1 body1) =>
          match cond (Nat.ble H1.lock r) (ecode P call yf true fuel body S1 (H1.set r (.loop .busy pend T1 nt1 ps1 asg1 body1))) none with
          | none => none
          | some (ex, _, H2) => match H2.get r with
            | some (.loop _ _ T2 nt2 ps2 asg2 body2) => cond (Nat.ble H2.lock r) (match ex with
              | .normal => some (.bool true, H2.set r (.loop .ready none T2 nt2 ps2 asg2 body2))
              | .ret => some (.bool false, H2.set r (.loop .done (some .ret) T2 nt2 ps2 asg2 body2))
              | .exit id => some (.bool false, H2.set r (.loop .done (some (.exit id)) T2 nt2 ps2 asg2 body2))) none
            | _ => none
        | _ => none
      | _ => none
  | _ => none

/-- What is known of the program's surroundings: functions that are not stepped through. -/
abbrev Orc := FuncId → Option (List AVal → Heap → Option (AVal × Heap))

def callO (P : Program) (O : Orc) (call : Cal) (yf : Yf) (fuel : Nat) : Cal := fun f args H =>
  match O f with
  | some g => g args H
  | none => bodyA P call yf fuel f args H

def run (P : Program) (O : Orc) : Nat → Cal × Yf
  | 0 => (fun f args H => match O f with | some g => g args H | none => none, fun _ _ _ => none)
  | n + 1 => (callO P O (run P O n).1 (run P O n).2 n, roundA P (run P O n).1 (run P O n).2 n)

end Go.Abs
