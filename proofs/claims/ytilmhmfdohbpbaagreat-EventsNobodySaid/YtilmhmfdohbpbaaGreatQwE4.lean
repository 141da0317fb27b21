/- Part of the evaluator's core: see its own heading. -/
import Derived.Test.YtilmhmfdohbpbaaGreatQwE3
/-! A region that draws its order: what the evaluator has laid down. -/
set_option linter.unusedVariables false
set_option linter.unusedSimpArgs false
namespace Go.Abs
open Go

theorem samesBy_eq {f : AVal → AVal → Bool} (hf : ∀ a b, f a b = true → a = b) : ∀ (x y : List AVal), samesBy f x y = true → x = y
  | [], [], _ => rfl
  | [], _ :: _, h => by simp [samesBy] at h
  | _ :: _, [], h => by simp [samesBy] at h
  | a :: x, b :: y, h => by
    simp only [samesBy, Bool.and_eq_true] at h
    rw [hf a b h.1, samesBy_eq hf x y h.2]

theorem sameA_eq : ∀ (n : Nat) (a b : AVal), sameA n a b = true → a = b := by
  intro n
  induction n with
  | zero => intro a b h; simp [sameA] at h
  | succ n ih =>
    intro a b h
    have hs := samesBy_eq ih
    unfold sameA at h
    split at h <;> try rfl
    · rename_i x y; cases x <;> cases y <;> simp at h <;> rfl
    · simp only [Bool.and_eq_true, decide_eq_true_eq] at h; obtain ⟨rfl, rfl⟩ := h; rfl
    · simp only [decide_eq_true_eq] at h; rw [h]
    · simp only [Bool.and_eq_true, Nat.beq_eq] at h; obtain ⟨rfl, rfl⟩ := h; rfl
    · simp only [Nat.beq_eq] at h; rw [h]
    · simp only [Nat.beq_eq] at h; rw [h]
    · simp only [Bool.and_eq_true, Nat.beq_eq, decide_eq_true_eq] at h; obtain ⟨rfl, rfl, rfl, rfl, rfl⟩ := h; rfl
    · simp only [Bool.and_eq_true, Nat.beq_eq, decide_eq_true_eq] at h; obtain ⟨rfl, rfl, h⟩ := h; rw [hs _ _ h]
    · rw [hs _ _ h]
    · rw [hs _ _ h]
    · rw [hs _ _ h]
    · simp only [Bool.and_eq_true, Nat.beq_eq] at h; obtain ⟨rfl, h⟩ := h; rw [ih _ _ h]
    · simp only [Bool.and_eq_true, Nat.beq_eq] at h; obtain ⟨rfl, h1, h2⟩ := h; rw [hs _ _ h1, hs _ _ h2]
    · simp at h

theorem same?_eq {a : Option AVal} {b : AVal} (h : same? a b = true) : a = some b := by
  unfold same? at h
  split at h
  · rw [sameA_eq _ _ _ h]
  · simp at h

theorem pureOp_congr {P : Program} {H H' : Heap} {ρ : Operand → AVal} {op : Op} (h : readsHeap op = false) : pureOp P H ρ op = pureOp P H' ρ op := by
  cases op with
  | makeFunc fn a b => cases fn <;> rfl
  | call c =>
    obtain ⟨callee, args, ats⟩ := c
    cases callee with
    | builtin b => cases b <;> rfl
    | _ => rfl
  | _ => first | rfl | (simp [readsHeap] at h)

/-! ## Masks -/

theorem maskA_bits {bs : Tr Nat} {i : Nat} : ∀ (es : List Edge) (m b : Nat), maskA bs i es m = some b → ∀ j, Nat.testBit b j = true →
    Nat.testBit m j = true ∨ ∃ e ∈ es, Region.binds .any e = true ∧ e.on < i ∧ (e.on = j ∨ Nat.testBit ((bs.get e.on).getD 0) j = true)
  | [], m, b, h, j, hj => by simp [maskA] at h; subst h; exact .inl hj
  | e :: r, m, b, h, j, hj => by
    simp only [maskA] at h
    cases hb : Region.binds .any e with
    | false =>
      simp only [hb, cond_false] at h
      rcases maskA_bits r m b h j hj with h1 | ⟨e', he, h2⟩
      · exact .inl h1
      · exact .inr ⟨e', List.mem_cons_of_mem _ he, h2⟩
    | true =>
      simp only [hb, cond_true] at h
      cases hl : Nat.blt e.on i with
      | false => simp [hl] at h
      | true =>
        simp only [hl, cond_true] at h
        have hlt : e.on < i := by simpa [Nat.blt_eq] using hl
        rcases maskA_bits r _ b h j hj with h1 | ⟨e', he, h2⟩
        · rw [Nat.testBit_or, Nat.testBit_or, Bool.or_eq_true, Bool.or_eq_true] at h1
          rcases h1 with h1 | h1 | h1
          · exact .inl h1
          · refine .inr ⟨e, List.mem_cons_self, hb, hlt, .inl ?_⟩
            simp [Nat.shiftLeft_eq, Nat.one_mul, Nat.testBit_two_pow] at h1
            exact h1
          · exact .inr ⟨e, List.mem_cons_self, hb, hlt, .inr h1⟩
        · exact .inr ⟨e', List.mem_cons_of_mem _ he, h2⟩

theorem maskA_below {bs : Tr Nat} {i : Nat} : ∀ (es : List Edge) (m b : Nat), maskA bs i es m = some b → ∀ e ∈ es, Region.binds .any e = true → e.on < i
  | [], _, _, _, _, he, _ => by cases he
  | e :: r, m, b, h, e', he, hb => by
    simp only [maskA] at h
    cases hbe : Region.binds .any e with
    | false =>
      simp only [hbe, cond_false] at h
      rcases List.mem_cons.1 he with rfl | he
      · rw [hbe] at hb; simp at hb
      · exact maskA_below r _ _ h e' he hb
    | true =>
      simp only [hbe, cond_true] at h
      cases hl : Nat.blt e.on i with
      | false => simp [hl] at h
      | true =>
        simp only [hl, cond_true] at h
        rcases List.mem_cons.1 he with rfl | he
        · simpa [Nat.blt_eq] using hl
        · exact maskA_below r _ _ h e' he hb

theorem maskT_get (T : Tmps) : ∀ (l : List Tmp) (M : Tmps) (t : Tmp), (maskT T l M).get t = if t ∈ l then (T.get t).or (M.get t) else M.get t
  | [], M, t => by simp [maskT]
  | u :: l, M, t => by
    simp only [maskT]
    cases hu : T.get u with
    | none =>
      simp only
      rw [maskT_get T l M t]
      by_cases htu : t = u
      · subst htu; simp [hu]
      · simp [htu]
    | some v =>
      simp only
      rw [maskT_get T l _ t, Tr.get_set]
      by_cases htu : t = u
      · subst htu; simp [hu]
      · simp [htu]

theorem readsOk_spec {wr : Tr Nat} {b : Nat} : ∀ (l : List Tmp), readsOk wr b l = true → ∀ t ∈ l, ∀ j, wr.get t = some j → Nat.testBit b j = true
  | [], _, t, ht, _, _ => by cases ht
  | u :: l, h, t, ht, j, hj => by
    simp only [readsOk] at h
    rcases List.mem_cons.1 ht with rfl | ht
    · rw [hj] at h; simp at h; exact h.1
    · refine readsOk_spec l ?_ t ht j hj
      split at h
      · exact h
      · simp at h; exact h.2

theorem addRd_get : ∀ (l : List Tmp) (rd : Tr Nat) (t : Tmp), (t ∈ l ∨ (rd.get t).isSome = true) → ((addRd l rd).get t).isSome = true
  | [], rd, t, h => by simpa [addRd] using h
  | u :: l, rd, t, h => by
    simp only [addRd]
    refine addRd_get l _ t ?_
    by_cases htu : t = u
    · subst htu; right; simp [Tr.get_set]
    · rcases h with h | h
      · left
        rcases List.mem_cons.1 h with h | h
        · exact absurd h htu
        · exact h
      · right; rw [Tr.get_set, if_neg htu]; exact h

/-! ## What is laid down -/

inductive Kd where
  | skip
  | val
  | read
  | make (x : AObj)
  | did (Hp H : Heap)

structure Ent where
  b : Nat
  o : Oper
  M : Tmps
  v : AVal
  k : Kd

def Ent.chain (e : Ent) : Bool := match e.k with | .did .. => true | _ => false

section
variable (ops : Array Oper) (T0 : Tmps) (H0 : Heap)

def heapOf : List Ent → Heap
  | [] => H0
  | e :: l => match e.k with
    | .did _ H => H
    | _ => heapOf l

def pendOf : List Ent → List (Nat × AObj)
  | [] => []
  | e :: l => match e.k with
    | .make x => (l.length, x) :: pendOf l
    | .did _ _ => laidLater e.b (pendOf l)
    | _ => pendOf l

def rdsOf : List Ent → List (Nat × Op × Tmps × AVal)
  | [] => []
  | e :: l => match e.k with
    | .read => (l.length, e.o.op, e.M, e.v) :: rdsOf l
    | _ => rdsOf l

def pastOf : List Ent → List (Nat × Heap)
  | [] => []
  | e :: l => match e.k with
    | .did _ _ => (l.length, heapOf H0 l) :: pastOf l
    | _ => pastOf l

def tOf : List Ent → Tmps
  | [] => T0
  | e :: l => putT (tOf l) e.o.dst e.v

def bsOf : List Ent → Tr Nat
  | [] => .nil
  | e :: l => (bsOf l).set l.length e.b

def wrOf : List Ent → Tr Nat
  | [] => .nil
  | e :: l => setW (wrOf l) e.o.dst l.length

def rdOf : List Ent → Tr Nat
  | [] => .nil
  | e :: l => addRd (readsOf ops e.o) (rdOf l)

def stOf (l : List Ent) : DS :=
  { T := tOf T0 l, H := heapOf H0 l, bs := bsOf l, wr := wrOf l, rd := rdOf ops l, pend := pendOf l, rds := rdsOf l, past := pastOf H0 l }

variable (P : Program) (call : Cal) (yf : Yf) (nt base : Nat)

structure EntOk (e : Ent) (l : List Ent) : Prop where
  mask : maskA (bsOf l) l.length e.o.after.toList 0 = some e.b
  snap : e.M = maskT (tOf T0 l) (readsOf ops e.o) .nil
  reads : readsOk (wrOf l) e.b (readsOf ops e.o) = true
  dst : dstOk nt (stOf ops T0 H0 l) e.o.dst = true
  want : wantedA ops e.M e.o = some (match e.k with | .skip => false | _ => true)
  kind : match e.k with
    | .skip => e.v = .tuple []
    | .val => pureOp P (heapOf H0 l) (evalA e.M) e.o.op = some e.v ∧ readsHeap e.o.op = false
    | .read => pureOp P (heapOf H0 l) (evalA e.M) e.o.op = some e.v ∧ backOk P e.b e.M e.o.op e.v (pastOf H0 l) = true
    | .make x => ∃ f, allocOp P (evalA e.M) e.o.op = some (x, f) ∧ e.v = f (base + l.length)
    | .did Hp H => lastIn e.b (pastOf H0 l) = true ∧ Hp = laid base (Nat.testBit e.b) (pendOf l) (heapOf H0 l) ∧
        chainOp P call yf Hp (evalA e.M) e.o.op = some (e.v, H) ∧ forthOk P e.b H (rdsOf l) = true

def LogOk : List Ent → Prop
  | [] => True
  | e :: l => LogOk l ∧ EntOk ops T0 H0 P call yf nt base e l

theorem drawn_log : ∀ (rest : List Oper) (l : List Ent) (D : DS), drawn P call yf ops nt base rest l.length (stOf ops T0 H0 l) = some D → LogOk ops T0 H0 P call yf nt base l →
    ∃ log, LogOk ops T0 H0 P call yf nt base log ∧ D = stOf ops T0 H0 log ∧ log.reverse.map (·.o) = l.reverse.map (·.o) ++ rest := by
  intro rest
  induction rest with
  | nil =>
    intro l D h hl
    simp only [drawn, Option.some.injEq] at h
    exact ⟨l, hl, h.symm, by simp⟩
  | cons o rest ih =>
    intro l D h hl
    have go : ∀ e : Ent, e.o = o → EntOk ops T0 H0 P call yf nt base e l → drawn P call yf ops nt base rest (l.length + 1) (stOf ops T0 H0 (e :: l)) = some D →
        ∃ log, LogOk ops T0 H0 P call yf nt base log ∧ D = stOf ops T0 H0 log ∧ log.reverse.map (·.o) = l.reverse.map (·.o) ++ o :: rest := by
      intro e he hok h
      obtain ⟨log, h1, h2, h3⟩ := ih (e :: l) D h ⟨hl, hok⟩
      refine ⟨log, h1, h2, ?_⟩
      rw [h3]; simp [he]
    simp only [drawn] at h
    split at h
    · simp at h
    · rename_i b hb
      cases hrd : (readsOk (stOf ops T0 H0 l).wr b (readsOf ops o) && dstOk nt (stOf ops T0 H0 l) o.dst) with
      | false => simp [hrd] at h
      | true =>
        simp only [hrd, cond_true] at h
        rw [Bool.and_eq_true] at hrd
        obtain ⟨hr1, hd1⟩ := hrd
        split at h
        · simp at h
        · rename_i hw
          exact go { b, o, M := maskT (tOf T0 l) (readsOf ops o) .nil, v := .tuple [], k := .skip } rfl ⟨hb, rfl, hr1, hd1, hw, rfl⟩ h
        · rename_i hw
          split at h
          · rename_i d hdid
            unfold didOf at hdid
            split at hdid
            · rename_i v hv
              cases hrh : readsHeap o.op with
              | false =>
                simp only [hrh, cond_false, Option.some.injEq] at hdid
                subst hdid
                exact go { b, o, M := maskT (tOf T0 l) (readsOf ops o) .nil, v, k := .val } rfl ⟨hb, rfl, hr1, hd1, hw, hv, hrh⟩ h
              | true =>
                simp only [hrh, cond_true] at hdid
                cases hbk : backOk P b (maskT (stOf ops T0 H0 l).T (readsOf ops o) .nil) o.op v (stOf ops T0 H0 l).past with
                | false => simp [hbk] at hdid
                | true =>
                  simp only [hbk, cond_true, Option.some.injEq] at hdid
                  subst hdid
                  exact go { b, o, M := maskT (tOf T0 l) (readsOf ops o) .nil, v, k := .read } rfl ⟨hb, rfl, hr1, hd1, hw, hv, hbk⟩ h
            · split at hdid
              · rename_i x f hx
                simp only [Option.some.injEq] at hdid
                subst hdid
                exact go { b, o, M := maskT (tOf T0 l) (readsOf ops o) .nil, v := f (base + l.length), k := .make x } rfl ⟨hb, rfl, hr1, hd1, hw, f, hx, rfl⟩ h
              · cases hla : lastIn b (stOf ops T0 H0 l).past with
                | false => simp [hla] at hdid
                | true =>
                  simp only [hla, cond_true] at hdid
                  split at hdid
                  · rename_i v H' hch
                    cases hfo : forthOk P b H' (stOf ops T0 H0 l).rds with
                    | false => simp [hfo] at hdid
                    | true =>
                      simp only [hfo, cond_true, Option.some.injEq] at hdid
                      subst hdid
                      exact go { b, o, M := maskT (tOf T0 l) (readsOf ops o) .nil, v, k := .did (laid base (Nat.testBit b) (pendOf l) (heapOf H0 l)) H' } rfl ⟨hb, rfl, hr1, hd1, hw, hla, rfl, hch, hfo⟩ h
                  · simp at hdid
          · simp at h

end
end Go.Abs
