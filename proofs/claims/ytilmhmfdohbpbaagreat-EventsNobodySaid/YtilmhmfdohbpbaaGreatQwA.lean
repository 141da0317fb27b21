/- Abstract values, abstract heaps, and how they stand for the model's values and worlds. -/
import Derived.Calls
import Derived.Orders
import Derived.Laws.Sem
import Derived.Laws.World
import Derived.Laws.Cells
set_option linter.unusedVariables false
set_option linter.unusedSimpArgs false
namespace Go.Abs
open Go

/-! ## Tries keyed by numbers -/

inductive Tr (α : Type) where
  | nil
  | node (v : Option α) (l r : Tr α)

namespace Tr
variable {α : Type}

def get : Tr α → Nat → Option α
  | nil, _ => none
  | node v l r, k => cond (Nat.beq k 0) v (cond (Nat.beq (k % 2) 1) (get l (k / 2)) (get r (k / 2 - 1)))

def go (v : Option α) : Nat → Nat → Tr α → Tr α
  | 0, _, t => t
  | f + 1, k, nil => cond (Nat.beq k 0) (node v nil nil) (cond (Nat.beq (k % 2) 1) (node none (go v f (k / 2) nil) nil) (node none nil (go v f (k / 2 - 1) nil)))
  | f + 1, k, node v0 l r => cond (Nat.beq k 0) (node v l r) (cond (Nat.beq (k % 2) 1) (node v0 (go v f (k / 2) l) r) (node v0 l (go v f (k / 2 - 1) r)))

def put (t : Tr α) (k : Nat) (v : Option α) : Tr α := go v (k + 1) k t
def set (t : Tr α) (k : Nat) (v : α) : Tr α := t.put k (some v)
def del (t : Tr α) (k : Nat) : Tr α := t.put k none

@[simp] theorem get_nil (k : Nat) : (nil : Tr α).get k = none := rfl

theorem get_node (v : Option α) (l r : Tr α) (k : Nat) :
    (node v l r).get k = if k = 0 then v else if k % 2 = 1 then l.get (k / 2) else r.get (k / 2 - 1) := by
  rw [get]
  by_cases h : k = 0
  · subst h; rfl
  · have h' : Nat.beq k 0 = false := by cases hb : Nat.beq k 0 with
      | false => rfl
      | true => exact absurd (Nat.eq_of_beq_eq_true hb) h
    by_cases h2 : k % 2 = 1
    · simp [h', h, h2]
    · have h2' : Nat.beq (k % 2) 1 = false := by cases hb : Nat.beq (k % 2) 1 with
        | false => rfl
        | true => exact absurd (Nat.eq_of_beq_eq_true hb) h2
      simp [h', h, h2, h2']

theorem get_go (v : Option α) : ∀ (f k : Nat) (t : Tr α) (j : Nat), k < f → (go v f k t).get j = if j = k then v else t.get j := by
  intro f
  induction f with
  | zero => intro k t j h; omega
  | succ f ih =>
    intro k t j h
    have hk0 : ∀ k : Nat, Nat.beq k 0 = decide (k = 0) := fun k => by cases k <;> rfl
    have hk1 : ∀ k : Nat, Nat.beq (k % 2) 1 = decide (k % 2 = 1) := fun k => by
      rcases Nat.mod_two_eq_zero_or_one k with h | h <;> rw [h] <;> rfl
    cases t with
    | nil =>
      rw [go, hk0, hk1]
      by_cases h0 : k = 0
      · subst h0; simp [get_node]
      · by_cases h1 : k % 2 = 1
        · simp only [h0, h1, decide_false, decide_true, cond_true, cond_false]
          rw [get_node]
          by_cases j0 : j = 0
          · have : ¬ 0 = k := fun e => h0 e.symm
            simp [j0, this]
          · by_cases j1 : j % 2 = 1
            · rw [if_neg j0, if_pos j1, ih _ _ _ (by omega)]
              have : (j / 2 = k / 2) ↔ (j = k) := by omega
              simp [this]
            · have hne : j ≠ k := by omega
              simp [j0, j1, hne]
        · simp only [h0, h1, decide_false, cond_false]
          rw [get_node]
          by_cases j0 : j = 0
          · have : ¬ 0 = k := fun e => h0 e.symm
            simp [j0, this]
          · by_cases j1 : j % 2 = 1
            · have hne : j ≠ k := by omega
              simp [j0, j1, hne]
            · rw [if_neg j0, if_neg j1, ih _ _ _ (by omega)]
              have : (j / 2 - 1 = k / 2 - 1) ↔ (j = k) := by omega
              simp [this]
    | node v0 l r =>
      rw [go, hk0, hk1]
      by_cases h0 : k = 0
      · subst h0
        simp only [decide_true, cond_true]
        rw [get_node, get_node]
        by_cases j0 : j = 0 <;> simp [j0]
      · by_cases h1 : k % 2 = 1
        · simp only [h0, h1, decide_false, decide_true, cond_true, cond_false]
          rw [get_node, get_node]
          by_cases j0 : j = 0
          · have : ¬ 0 = k := fun e => h0 e.symm
            simp [j0, this]
          · by_cases j1 : j % 2 = 1
            · rw [if_neg j0, if_pos j1, ih _ _ _ (by omega)]
              have : (j / 2 = k / 2) ↔ (j = k) := by omega
              simp [this, j0, j1]
            · have hne : j ≠ k := by omega
              simp [j0, j1, hne]
        · simp only [h0, h1, decide_false, cond_false]
          rw [get_node, get_node]
          by_cases j0 : j = 0
          · have : ¬ 0 = k := fun e => h0 e.symm
            simp [j0, this]
          · by_cases j1 : j % 2 = 1
            · have hne : j ≠ k := by omega
              simp [j0, j1, hne]
            · rw [if_neg j0, if_neg j1, ih _ _ _ (by omega)]
              have : (j / 2 - 1 = k / 2 - 1) ↔ (j = k) := by omega
              simp [this, j0, j1]

theorem get_put (t : Tr α) (k j : Nat) (v : Option α) : (t.put k v).get j = if j = k then v else t.get j := get_go v _ _ _ _ (Nat.lt_succ_self _)
theorem get_set (t : Tr α) (k j : Nat) (v : α) : (t.set k v).get j = if j = k then some v else t.get j := get_put _ _ _ _
theorem get_del (t : Tr α) (k j : Nat) : (t.del k).get j = if j = k then none else t.get j := get_put _ _ _ _
end Tr

/-! ## Values -/

inductive AVal where
  | any
  | bool (b : Bool)
  | int (k : IntKind) (n : Int)
  | str (s : List UInt8)
  | nilptr
  | ptr (r off : Nat)
  | iptr (cells : List AVal)
  | lst (cells : List AVal) (n : Nat) (cap : Option Nat)
  | slice (r off n sz : Nat) (cap : Option Nat)
  | nilmap
  | map (r : Nat)
  | func (fn : Fn) (first captured : List AVal)
  | nilfunc
  | yield (r : Nat)
  | iface (t : TypeId) (v : AVal)
  | niliface
  | agg (cells : List AVal)
  | tuple (vs : List AVal)
  deriving Inhabited

def AVal.cells : AVal → List AVal
  | .agg cs => cs
  | v => [v]

/-- Is it the value of one cell? -/
def AVal.single : AVal → Bool
  | .any | .agg _ | .tuple _ => false
  | _ => true

inductive AObj where
  | cells (c : List AVal)
  | iter (s : List UInt8) (pos : Nat)
  | map (es : List (AVal × AVal))
  | loop (state : LoopState) (pending : Option Code) (T : Tr AVal) (nt : Nat) (params : Array Tmp) (assign body : Code)
  | dfr
  deriving Inhabited

structure Heap where
  rows : Tr AObj
  next : Nat
  lock : Nat

def Heap.get (H : Heap) (r : Nat) : Option AObj := H.rows.get r
def Heap.set (H : Heap) (r : Nat) (x : AObj) : Heap := { H with rows := H.rows.set r x }
def Heap.del (H : Heap) (r : Nat) : Heap := { H with rows := H.rows.del r }
def Heap.push (H : Heap) (x : AObj) : Heap := { H with rows := H.rows.set H.next x, next := H.next + 1 }

section
variable (H : Heap) (r j : Nat) (x : AObj)
theorem Heap.get_set : (H.set r x).get j = if j = r then some x else H.get j := Tr.get_set _ _ _ _
theorem Heap.get_del : (H.del r).get j = if j = r then none else H.get j := Tr.get_del _ _ _
theorem Heap.get_push : (H.push x).get j = if j = H.next then some x else H.get j := Tr.get_set _ _ _ _
@[simp] theorem Heap.next_set : (H.set r x).next = H.next := rfl
@[simp] theorem Heap.next_del : (H.del r).next = H.next := rfl
@[simp] theorem Heap.next_push : (H.push x).next = H.next + 1 := rfl
@[simp] theorem Heap.lock_set : (H.set r x).lock = H.lock := rfl
@[simp] theorem Heap.lock_del : (H.del r).lock = H.lock := rfl
@[simp] theorem Heap.lock_push : (H.push x).lock = H.lock := rfl
end

/-! ## How they stand for the model's -/

abbrev Emb := Nat → Option (Nat × Nat)

def okCell (w : World) (b o : Nat) : Prop := (∃ v, w.cell? ⟨b, o, none⟩ = some v) ∧ w.frozen? ⟨b, o, none⟩ = false

inductive VRel (m : Emb) (fz : Nat → Prop) (w : World) : AVal → Value → Prop where
  | any (v : Value) : VRel m fz w .any v
  | bool (b : Bool) : VRel m fz w (.bool b) (.bool b)
  | int (k : IntKind) (n : Int) : VRel m fz w (.int k n) (.int k n)
  | str (s : ByteArray) (l : List UInt8) (h : l = s.data.toList) : VRel m fz w (.str l) (.string s)
  | nilptr : VRel m fz w .nilptr (.pointer none)
  | ptr (r off b o : Nat) (h : m r = some (b, o)) : VRel m fz w (.ptr r off) (.pointer (some ⟨b, o + off, none⟩))
  | iptr (cs : List AVal) (b o : Nat) (f : Nat → Value) (hb : fz b) (hc : ∀ j, j < cs.length → w.cell? ⟨b, o + j, none⟩ = some (f j))
      (hv : ∀ (j : Nat) (c : AVal), cs[j]? = some c → VRel m fz w c (f j)) : VRel m fz w (.iptr cs) (.pointer (some ⟨b, o, none⟩))
  | lst (cs : List AVal) (n : Nat) (cap : Option Nat) (a : Option Addr) (cap' : Nat) (f : Nat → Value) (hcap : ∀ c, cap = some c → cap' = c) (hnil : cap = some 0 → a = none) (hn : n ≤ cap')
      (hb : cs = [] ∨ ∃ b o, a = some ⟨b, o, none⟩ ∧ fz b ∧ ∀ j, j < cs.length → w.cell? ⟨b, o + j, none⟩ = some (f j))
      (hv : ∀ (j : Nat) (c : AVal), cs[j]? = some c → VRel m fz w c (f j)) : VRel m fz w (.lst cs n cap) (.slice a n cap')
  | slice (r off n sz : Nat) (cap : Option Nat) (b o cap' : Nat) (a : Addr) (h : m r = some (b, o)) (hcap : ∀ c, cap = some c → cap' = c) (hn : n ≤ cap')
      (ha : cap' = 0 ∨ a = ⟨b, o + off, none⟩) (hs : ∀ j, j < cap' * sz → okCell w b (o + off + j)) : VRel m fz w (.slice r off n sz cap) (.slice (some a) n cap')
  | nilmap : VRel m fz w .nilmap (.map none)
  | map (r b : Nat) (h : m r = some (b, 0)) : VRel m fz w (.map r) (.map (some b))
  | func (fn : Fn) (first captured : List AVal) (f' c' : Array Value) (hfn : ∀ l, fn ≠ .yield l) (h1 : first.length = f'.size) (h2 : captured.length = c'.size)
      (hf : ∀ (j : Nat) (x : AVal) (y : Value), first[j]? = some x → f'[j]? = some y → VRel m fz w x y) (hc : ∀ (j : Nat) (x : AVal) (y : Value), captured[j]? = some x → c'[j]? = some y → VRel m fz w x y) :
      VRel m fz w (.func fn first captured) (.func fn f' c')
  | nilfunc : VRel m fz w .nilfunc .nilFunc
  | yield (r b : Nat) (h : m r = some (b, 0)) : VRel m fz w (.yield r) (.func (.yield b) #[] #[])
  | iface (t : TypeId) (v : AVal) (v' : Value) (h : VRel m fz w v v') : VRel m fz w (.iface t v) (.iface t v')
  | niliface : VRel m fz w .niliface .nilIface
  | agg (cs : List AVal) (vs : Array Value) (hl : cs.length = vs.size) (h : ∀ (j : Nat) (x : AVal) (y : Value), cs[j]? = some x → vs[j]? = some y → VRel m fz w x y) :
      VRel m fz w (.agg cs) (.agg vs)
  | tuple (cs : List AVal) (vs : Array Value) (hl : cs.length = vs.size) (h : ∀ (j : Nat) (x : AVal) (y : Value), cs[j]? = some x → vs[j]? = some y → VRel m fz w x y) :
      VRel m fz w (.tuple cs) (.tuple vs)

/-- Lists of values, one for one. -/
def VRels (m : Emb) (fz : Nat → Prop) (w : World) (cs : List AVal) (vs : List Value) : Prop :=
  cs.length = vs.length ∧ ∀ (j : Nat) (x : AVal) (y : Value), cs[j]? = some x → vs[j]? = some y → VRel m fz w x y

def TRel (m : Emb) (fz : Nat → Prop) (w : World) (T : Tr AVal) (tmps : Array Value) : Prop :=
  ∀ t, VRel m fz w ((T.get t).getD .any) (tmps.getD t undef)

def ORel (m : Emb) (fz : Nat → Prop) (w : World) (b o : Nat) : AObj → Prop
  | .cells c => ∃ f : Nat → Value, (∀ j, j < c.length → w.cell? ⟨b, o + j, none⟩ = some (f j) ∧ w.frozen? ⟨b, o + j, none⟩ = false) ∧
      ∀ (j : Nat) (x : AVal), c[j]? = some x → VRel m fz w x (f j)
  | .iter s pos => o = 0 ∧ ∃ s' : ByteArray, s = s'.data.toList.drop pos ∧ pos ≤ s'.size ∧ w.heap[b]? = some (.stringIter s' pos)
  | .map es => o = 0 ∧ ∃ es' clock, w.heap[b]? = some (.map es' clock) ∧ es.length = es'.size ∧
      ∀ (j : Nat) (x : AVal × AVal) (y : MapEntry), es[j]? = some x → es'[j]? = some y → VRel m fz w x.1 y.key ∧ VRel m fz w x.2 y.val
  | .loop state pending T nt params assign body => o = 0 ∧ ∃ l : Loop, w.heap[b]? = some (.loop l) ∧ l.state = state ∧ l.pending = pending ∧ TRel m fz w T l.tmps ∧ l.tmps.size = nt ∧
      l.params = params ∧ l.assign = assign ∧ l.body = body
  | .dfr => o = 0 ∧ w.heap[b]? = some (.deferred (some []))

structure Rel (m : Emb) (fz pr : Nat → Prop) (H : Heap) (w : World) : Prop where
  fresh : ∀ r, H.next ≤ r → m r = none
  below : ∀ r b o, m r = some (b, o) → b < w.heap.size
  rows : ∀ r x, H.get r = some x → ∃ b o, m r = some (b, o) ∧ ¬ fz b ∧ ¬ pr b ∧ ORel m fz w b o x
  apart : ∀ r r' x x' b o o', H.get r = some x → H.get r' = some x' → m r = some (b, o) → m r' = some (b, o') → r = r'
  fzlt : ∀ b, fz b → b < w.heap.size
  prlt : ∀ b, pr b → b < w.heap.size
  disj : ∀ b, fz b → ¬ pr b

structure WExt (m : Emb) (fz pr : Nat → Prop) (w : World) (m' : Emb) (fz' : Nat → Prop) (w' : World) : Prop where
  mm : ∀ r p, m r = some p → m' r = some p
  ff : ∀ b, fz b → fz' b
  keepf : ∀ b, fz b → w'.heap[b]? = w.heap[b]?
  keepp : ∀ b, pr b → w'.heap[b]? = w.heap[b]?
  ok : ∀ b o, (∃ r o', m r = some (b, o')) → okCell w b o → okCell w' b o
  size : w.heap.size ≤ w'.heap.size
  still : w'.os = w.os ∧ w'.output = w.output

theorem WExt.refl (m : Emb) (fz pr : Nat → Prop) (w : World) : WExt m fz pr w m fz w :=
  ⟨fun _ _ h => h, fun _ h => h, fun _ _ => rfl, fun _ _ => rfl, fun _ _ _ h => h, Nat.le_refl _, rfl, rfl⟩

theorem WExt.trans {m : Emb} {fz pr : Nat → Prop} {w : World} {m1 : Emb} {fz1 : Nat → Prop} {w1 : World} {m2 : Emb} {fz2 : Nat → Prop} {w2 : World}
    (h : WExt m fz pr w m1 fz1 w1) (h' : WExt m1 fz1 pr w1 m2 fz2 w2) : WExt m fz pr w m2 fz2 w2 :=
  ⟨fun r p hr => h'.mm r p (h.mm r p hr), fun b hb => h'.ff b (h.ff b hb), fun b hb => (h'.keepf b (h.ff b hb)).trans (h.keepf b hb),
    fun b hb => (h'.keepp b hb).trans (h.keepp b hb),
    fun b o ⟨r, o', hr⟩ hk => h'.ok b o ⟨r, o', h.mm r _ hr⟩ (h.ok b o ⟨r, o', hr⟩ hk), Nat.le_trans h.size h'.size, h'.still.1.trans h.still.1, h'.still.2.trans h.still.2⟩

theorem cell?_of_heap {w w' : World} {b : Nat} (h : w'.heap[b]? = w.heap[b]?) (o : Nat) (s : Option Nat) : w'.cell? ⟨b, o, s⟩ = w.cell? ⟨b, o, s⟩ := by
  unfold World.cell?; simp only [h]

theorem frozen?_of_heap {w w' : World} {b : Nat} (h : w'.heap[b]? = w.heap[b]?) (o : Nat) (s : Option Nat) : w'.frozen? ⟨b, o, s⟩ = w.frozen? ⟨b, o, s⟩ := by
  unfold World.frozen?; simp only [h]

theorem VRel.ext {m : Emb} {fz pr : Nat → Prop} {w : World} {m' : Emb} {fz' : Nat → Prop} {w' : World} (hx : WExt m fz pr w m' fz' w') {c : AVal} {v : Value}
    (h : VRel m fz w c v) : VRel m' fz' w' c v := by
  induction h with
  | any v => exact .any v
  | bool b => exact .bool b
  | int k n => exact .int k n
  | str s l h => exact .str s l h
  | nilptr => exact .nilptr
  | ptr r off b o h => exact .ptr r off b o (hx.mm _ _ h)
  | iptr cs b o f hb hc hv ih => exact .iptr cs b o f (hx.ff _ hb) (fun j hj => by rw [cell?_of_heap (hx.keepf b hb)]; exact hc j hj) ih
  | lst cs n cap a cap' f hcap hnil hn hb hv ih =>
    refine .lst cs n cap a cap' f hcap hnil hn ?_ ih
    rcases hb with hb | ⟨b, o, ha, hf, hc⟩
    · exact .inl hb
    · exact .inr ⟨b, o, ha, hx.ff _ hf, fun j hj => by rw [cell?_of_heap (hx.keepf b hf)]; exact hc j hj⟩
  | slice r off n sz cap b o cap' a h hcap hn ha hs => exact .slice r off n sz cap b o cap' a (hx.mm _ _ h) hcap hn ha fun j hj => hx.ok _ _ ⟨r, o, h⟩ (hs j hj)
  | nilmap => exact .nilmap
  | map r b h => exact .map r b (hx.mm _ _ h)
  | func fn first captured f' c' hfn h1 h2 hf hc ih1 ih2 => exact .func fn first captured f' c' hfn h1 h2 ih1 ih2
  | nilfunc => exact .nilfunc
  | yield r b h => exact .yield r b (hx.mm _ _ h)
  | iface t v v' h ih => exact .iface t v v' ih
  | niliface => exact .niliface
  | agg cs vs hl h ih => exact .agg cs vs hl ih
  | tuple cs vs hl h ih => exact .tuple cs vs hl ih

theorem TRel.ext {m : Emb} {fz pr : Nat → Prop} {w : World} {m' : Emb} {fz' : Nat → Prop} {w' : World} (hx : WExt m fz pr w m' fz' w') {T : Tr AVal} {tmps : Array Value} (h : TRel m fz w T tmps) : TRel m' fz' w' T tmps :=
  fun t => (h t).ext hx

theorem VRels.ext {m : Emb} {fz pr : Nat → Prop} {w : World} {m' : Emb} {fz' : Nat → Prop} {w' : World} (hx : WExt m fz pr w m' fz' w') {c : List AVal} {v : List Value}
    (h : VRels m fz w c v) : VRels m' fz' w' c v := ⟨h.1, fun j x y hx' hy => (h.2 j x y hx' hy).ext hx⟩

theorem WExt.drew (m : Emb) (fz pr : Nat → Prop) (w : World) : WExt m fz pr w m fz w.drew :=
  ⟨fun _ _ h => h, fun _ h => h, fun _ _ => rfl, fun _ _ => rfl, fun _ _ _ h => h, Nat.le_refl _, rfl, rfl⟩

end Go.Abs
