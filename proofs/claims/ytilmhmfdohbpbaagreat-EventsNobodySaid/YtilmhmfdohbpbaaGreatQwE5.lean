/- Part of the evaluator's core: see its own heading. -/
import Derived.Test.YtilmhmfdohbpbaaGreatQwE4
/-! A region that draws its order: facts of the log. -/
set_option linter.unusedVariables false
set_option linter.unusedSimpArgs false
namespace Go.Abs
open Go

section
variable {ops : Array Oper} {T0 : Tmps} {H0 : Heap} {P : Program} {call : Cal} {yf : Yf} {nt base : Nat}

/-- e stands in the log upon l. -/
abbrev Upn (e : Ent) (l log : List Ent) : Prop := e :: l <:+ log

theorem LogOk.at_ {log : List Ent} (h : LogOk ops T0 H0 P call yf nt base log) : ∀ {e l}, Upn e l log → LogOk ops T0 H0 P call yf nt base l ∧ EntOk ops T0 H0 P call yf nt base e l := by
  induction log with
  | nil => intro e l hs; have := List.IsSuffix.length_le hs; simp at this
  | cons c log ih =>
    intro e l hs
    rcases List.suffix_cons_iff.1 hs with h1 | h1
    · cases h1; exact h
    · exact ih h.1 h1

theorem upn_cons {e c : Ent} {l log : List Ent} (h : Upn e l (c :: log)) : (e = c ∧ l = log) ∨ Upn e l log := by
  rcases List.suffix_cons_iff.1 h with h1 | h1
  · cases h1; exact .inl ⟨rfl, rfl⟩
  · exact .inr h1

theorem upn_len {e : Ent} {l log : List Ent} (h : Upn e l log) : l.length < log.length := by
  have := List.IsSuffix.length_le h
  simp at this; omega

theorem upn_same {e e' : Ent} {l l' log : List Ent} (h : Upn e l log) (h' : Upn e' l' log) (hl : l.length = l'.length) : e = e' ∧ l = l' := by
  have := List.suffix_of_suffix_length_le h h' (by simp [hl])
  have := this.eq_of_length (by simp [hl])
  cases this; exact ⟨rfl, rfl⟩

theorem upn_below {e e' : Ent} {l l' log : List Ent} (h : Upn e l log) (h' : Upn e' l' log) (hl : l.length < l'.length) : Upn e l l' := by
  have h2 : l' <:+ log := (List.suffix_cons e' l').trans h'
  exact List.suffix_of_suffix_length_le h h2 (by simp; omega)

theorem upn_self (e : Ent) (l : List Ent) : Upn e l (e :: l) := List.suffix_refl _
theorem Upn.trans {e : Ent} {l l' log : List Ent} (h : Upn e l l') (h' : l' <:+ log) : Upn e l log := List.IsSuffix.trans h h'
theorem Upn.tail {e : Ent} {l log : List Ent} (h : Upn e l log) : l <:+ log := (List.suffix_cons e l).trans h

theorem bsOf_get : ∀ {log : List Ent} {e l}, Upn e l log → (bsOf log).get l.length = some e.b := by
  intro log
  induction log with
  | nil => intro e l hs; have := upn_len hs; simp at this
  | cons c log ih =>
    intro e l hs
    simp only [bsOf, Tr.get_set]
    rcases upn_cons hs with ⟨rfl, rfl⟩ | h1
    · simp
    · have := upn_len h1
      rw [if_neg (by omega)]; exact ih h1

theorem bsOf_none : ∀ {log : List Ent} {j : Nat}, log.length ≤ j → (bsOf log).get j = none := by
  intro log
  induction log with
  | nil => intro j _; rfl
  | cons c log ih =>
    intro j hj
    simp only [List.length_cons] at hj
    simp only [bsOf, Tr.get_set]
    rw [if_neg (by omega)]; exact ih (by omega)

theorem upn_exists : ∀ {log : List Ent} {j : Nat}, j < log.length → ∃ e l, Upn e l log ∧ l.length = j := by
  intro log
  induction log with
  | nil => intro j h; simp at h
  | cons c log ih =>
    intro j hj
    by_cases h : j = log.length
    · exact ⟨c, log, upn_self _ _, h.symm⟩
    · obtain ⟨e, l, h1, h2⟩ := ih (j := j) (by simp at hj; omega)
      exact ⟨e, l, h1.trans (List.suffix_cons _ _), h2⟩

/-- The bits of a mask are below. -/
theorem mask_lt {log : List Ent} (hok : LogOk ops T0 H0 P call yf nt base log) {e l} (hs : Upn e l log) : ∀ j, Nat.testBit e.b j = true → j < l.length := by
  induction hn : l.length using Nat.strongRecOn generalizing e l with
  | _ n ih =>
    subst hn
    intro j hj
    obtain ⟨-, he⟩ := hok.at_ hs
    rcases maskA_bits _ _ _ he.mask j hj with h0 | ⟨ed, hed, hb, hlt, h1⟩
    · simp at h0
    · rcases h1 with h1 | h1
      · omega
      · obtain ⟨e', l', hs', hl'⟩ := upn_exists hlt
        rw [← hl', bsOf_get hs'] at h1
        have := ih l'.length (by omega) (hs'.trans hs.tail) rfl j h1
        omega

/-- What is listed is closed under what must be before. -/
def Closed (L : Nat → Bool) (log : List Ent) : Prop := ∀ e l, Upn e l log → L l.length = true → ∀ j, Nat.testBit e.b j = true → L j = true

/-- All that must be before what is about to be done is listed. -/
theorem ready_mask {log : List Ent} (hok : LogOk ops T0 H0 P call yf nt base log) {L : Nat → Bool} (hcl : Closed L log) {e l} (hs : Upn e l log)
    (hr : ∀ ed ∈ e.o.after.toList, Region.binds .any ed = true → L ed.on = true) : ∀ j, Nat.testBit e.b j = true → L j = true := by
  intro j hj
  obtain ⟨-, he⟩ := hok.at_ hs
  rcases maskA_bits _ _ _ he.mask j hj with h0 | ⟨ed, hed, hb, hlt, h1⟩
  · simp at h0
  · have hL := hr ed hed hb
    rcases h1 with h1 | h1
    · rw [← h1]; exact hL
    · obtain ⟨e', l', hs', hl'⟩ := upn_exists hlt
      rw [← hl', bsOf_get hs'] at h1
      exact hcl e' l' (hs'.trans hs.tail) (by rw [hl']; exact hL) j h1

/-! ## The heap of what has been done -/

def heapAt (H0 : Heap) (L : Nat → Bool) : List Ent → Heap
  | [] => H0
  | e :: l => match e.k with
    | .did _ H => cond (L l.length) H (heapAt H0 L l)
    | _ => heapAt H0 L l

theorem heapAt_plain {L : Nat → Bool} {e : Ent} {l : List Ent} (h : e.chain = false) : heapAt H0 L (e :: l) = heapAt H0 L l := by
  simp only [heapAt, Ent.chain] at *
  split <;> simp_all

theorem heapAt_off {L : Nat → Bool} {e : Ent} {l : List Ent} (h : L l.length = false) : heapAt H0 L (e :: l) = heapAt H0 L l := by
  simp only [heapAt, h]
  split <;> rfl

/-- The chain that has been done is closed below. -/
theorem chain_down {L : Nat → Bool} : ∀ {log : List Ent}, LogOk ops T0 H0 P call yf nt base log → Closed L log →
    (∀ c Hc r, pastOf H0 log = (c, Hc) :: r → L c = true) → ∀ p ∈ pastOf H0 log, L p.1 = true := by
  intro log
  induction log with
  | nil => intro _ _ _ p hp; simp [pastOf] at hp
  | cons e l ih =>
    intro hok hcl hh p hp
    have hcl' : Closed L l := fun e' l' h' => hcl e' l' (h'.trans (List.suffix_cons _ _))
    cases hk : e.k with
    | did Hp H =>
      have hpast : pastOf H0 (e :: l) = (l.length, heapOf H0 l) :: pastOf H0 l := by simp [pastOf, hk]
      have hL := hh _ _ _ hpast
      rw [hpast] at hp
      rcases List.mem_cons.1 hp with rfl | hp
      · exact hL
      · refine ih hok.1 hcl' (fun c Hc r hr => ?_) p hp
        have hkind := hok.2.kind
        rw [hk] at hkind
        have hla := hkind.1
        rw [hr] at hla
        exact hcl e l (upn_self _ _) hL c hla
    | _ =>
      have hpast : pastOf H0 (e :: l) = pastOf H0 l := by simp [pastOf, hk]
      rw [hpast] at hp hh
      exact ih hok.1 hcl' hh p hp

theorem past_mem : ∀ {log : List Ent} {e l}, Upn e l log → e.chain = true → ∃ Hc, (l.length, Hc) ∈ pastOf H0 log := by
  intro log
  induction log with
  | nil => intro e l hs; have := upn_len hs; simp at this
  | cons c log ih =>
    intro e l hs hc
    rcases upn_cons hs with ⟨rfl, rfl⟩ | h1
    · simp only [Ent.chain] at hc
      split at hc
      · rename_i hk; exact ⟨heapOf H0 l, by simp [pastOf, hk]⟩
      · simp at hc
    · obtain ⟨Hc, hm⟩ := ih h1 hc
      refine ⟨Hc, ?_⟩
      simp only [pastOf]
      split
      · exact List.mem_cons_of_mem _ hm
      · exact hm

/-- If all the chain is listed the heap is the last one's. -/
theorem heapAt_all {L : Nat → Bool} : ∀ {log : List Ent}, (∀ p ∈ pastOf H0 log, L p.1 = true) → heapAt H0 L log = heapOf H0 log := by
  intro log
  induction log with
  | nil => intro _; rfl
  | cons e l ih =>
    intro h
    cases hk : e.k with
    | did Hp H =>
      have : L l.length = true := h (l.length, heapOf H0 l) (by simp [pastOf, hk])
      simp [heapAt, heapOf, hk, this]
    | _ =>
      simp only [pastOf, hk] at h
      simp only [heapAt, heapOf, hk]
      exact ih h

/-- Above an operation of the chain that is not listed nothing of the chain is. -/
theorem chain_above {L : Nat → Bool} {log : List Ent} (hok : LogOk ops T0 H0 P call yf nt base log) (hcl : Closed L log) {e l} (hs : Upn e l log) (hc : e.chain = true) (hL : L l.length = false) :
    ∀ c lc, Upn c lc log → c.chain = true → l.length < lc.length → L lc.length = false := by
  intro c lc hsc hcc hlt
  cases hLc : L lc.length with
  | false => rfl
  | true =>
    exfalso
    have hs2 : Upn e l (c :: lc) := (upn_below hs hsc hlt).trans (List.suffix_cons _ _)
    obtain ⟨Hc, hm⟩ := past_mem (H0 := H0) hs2 hc
    have hok2 : LogOk ops T0 H0 P call yf nt base (c :: lc) := ⟨(hok.at_ hsc).1, (hok.at_ hsc).2⟩
    have hcl2 : Closed L (c :: lc) := fun e' l' h' => hcl e' l' (h'.trans hsc)
    have := chain_down hok2 hcl2 (fun c0 Hc0 r hr => by
      simp only [Ent.chain] at hcc
      split at hcc
      · rename_i hk
        simp only [pastOf, hk, List.cons.injEq, Prod.mk.injEq] at hr
        rw [← hr.1.1]; exact hLc
      · simp at hcc) _ hm
    simp only at this
    rw [hL] at this; simp at this

/-- The heap, if nothing of the chain above is listed. -/
theorem heapAt_upto {L : Nat → Bool} {s : List Ent} : ∀ {pre : List Ent}, (∀ c lc, Upn c lc (pre ++ s) → c.chain = true → s.length ≤ lc.length → L lc.length = false) → heapAt H0 L (pre ++ s) = heapAt H0 L s := by
  intro pre
  induction pre with
  | nil => intro _; rfl
  | cons c pre ih =>
    intro h
    have ih' := ih (fun c' lc' hs hc hl => h c' lc' (hs.trans (List.suffix_cons _ _)) hc hl)
    rw [List.cons_append]
    cases hc : c.chain with
    | false => rw [heapAt_plain hc]; exact ih'
    | true => rw [heapAt_off (h c (pre ++ s) (upn_self _ _) hc (by simp))]; exact ih'

/-- The heap about an operation of the chain whose turn it is. -/
theorem heapAt_turn {L : Nat → Bool} {log : List Ent} (hok : LogOk ops T0 H0 P call yf nt base log) (hcl : Closed L log) {e l} (hs : Upn e l log) (hc : e.chain = true) (hL : L l.length = false)
    (hb : ∀ j, Nat.testBit e.b j = true → L j = true) : heapAt H0 L log = heapOf H0 l := by
  obtain ⟨pre, rfl⟩ := hs
  have hs : Upn e l (pre ++ e :: l) := ⟨pre, rfl⟩
  rw [heapAt_upto (fun c lc hsc hcc hl => chain_above hok hcl hs hc hL c lc hsc hcc (by simp at hl; omega)), heapAt_off hL]
  obtain ⟨hokl, he⟩ := hok.at_ hs
  refine heapAt_all (chain_down hokl (fun e' l' h' => hcl e' l' (h'.trans hs.tail)) fun c Hc r hr => ?_)
  have hkind := he.kind
  simp only [Ent.chain] at hc
  split at hc
  · rename_i hk
    rw [hk] at hkind
    have := hkind.1
    rw [hr] at this
    exact hb c this
  · simp at hc

theorem heapAt_done {L : Nat → Bool} {log : List Ent} (hok : LogOk ops T0 H0 P call yf nt base log) (hcl : Closed L log) {e l Hp H} (hs : Upn e l log) (hk : e.k = .did Hp H) (hL : L l.length = false) :
    heapAt H0 (fun j => L j || decide (j = l.length)) log = H := by
  have hc : e.chain = true := by simp [Ent.chain, hk]
  obtain ⟨pre, rfl⟩ := hs
  have hs : Upn e l (pre ++ e :: l) := ⟨pre, rfl⟩
  rw [heapAt_upto (fun c lc hsc hcc hl => by
    have h1 : l.length < lc.length := by simp at hl; omega
    rw [chain_above hok hcl hs hc hL c lc hsc hcc h1]
    simp; omega)]
  simp [heapAt, hk]

/-- Nothing of the chain changes the heap for what is no part of it. -/
theorem heapAt_skip {L L' : Nat → Bool} : ∀ {log : List Ent}, (∀ c lc, Upn c lc log → c.chain = true → L' lc.length = L lc.length) → heapAt H0 L' log = heapAt H0 L log := by
  intro log
  induction log with
  | nil => intro _; rfl
  | cons e l ih =>
    intro h
    have ih' := ih (fun c lc hs hc => h c lc (hs.trans (List.suffix_cons _ _)) hc)
    cases hc : e.chain with
    | false => rw [heapAt_plain hc, heapAt_plain hc]; exact ih'
    | true =>
      have := h e l (upn_self _ _) hc
      simp only [heapAt, this, ih']

/-! ## What is read -/

theorem rds_mem : ∀ {log : List Ent} {e l}, Upn e l log → e.k = .read → (l.length, e.o.op, e.M, e.v) ∈ rdsOf log := by
  intro log
  induction log with
  | nil => intro e l hs; have := upn_len hs; simp at this
  | cons c log ih =>
    intro e l hs hk
    rcases upn_cons hs with ⟨rfl, rfl⟩ | h1
    · simp [rdsOf, hk]
    · have hm := ih h1 hk
      simp only [rdsOf]
      split
      · exact List.mem_cons_of_mem _ hm
      · exact hm

theorem forthOk_spec {b : Nat} {H : Heap} : ∀ {l : List (Nat × Op × Tmps × AVal)}, forthOk P b H l = true → ∀ j op M v, (j, op, M, v) ∈ l → Nat.testBit b j = false → pureOp P H (evalA M) op = some v := by
  intro l
  induction l with
  | nil => intro _ j op M v hm; cases hm
  | cons x l ih =>
    obtain ⟨j0, op0, M0, v0⟩ := x
    intro h j op M v hm hb
    simp only [forthOk, Bool.and_eq_true] at h
    rcases List.mem_cons.1 hm with he | hm
    · simp only [Prod.mk.injEq] at he
      obtain ⟨rfl, rfl, rfl, rfl⟩ := he
      have := h.1
      rw [hb] at this
      exact same?_eq this
    · exact ih h.2 j op M v hm hb

theorem read_back {L : Nat → Bool} {b : Nat} {M : Tmps} {op : Op} {v : AVal} (hb : ∀ j, Nat.testBit b j = true → L j = true) : ∀ {l : List Ent},
    pureOp P (heapOf H0 l) (evalA M) op = some v → backOk P b M op v (pastOf H0 l) = true → pureOp P (heapAt H0 L l) (evalA M) op = some v := by
  intro l
  induction l with
  | nil => intro h _; exact h
  | cons c l ih =>
    intro h hbk
    cases hk : c.k with
    | did Hp H =>
      simp only [heapOf, hk] at h
      simp only [pastOf, hk, backOk] at hbk
      simp only [heapAt, hk]
      cases hL : L l.length with
      | true => exact h
      | false =>
        have hnb : Nat.testBit b l.length = false := by
          cases hb' : Nat.testBit b l.length with
          | false => rfl
          | true => rw [hb _ hb'] at hL; simp at hL
        rw [hnb] at hbk
        simp only [cond_false, Bool.and_eq_true] at hbk
        exact ih (same?_eq hbk.1) hbk.2
    | _ =>
      simp only [heapOf, hk] at h
      simp only [pastOf, hk] at hbk
      simp only [heapAt, hk]
      exact ih h hbk

/-- Whenever it is done, it reads the same. -/
theorem read_any {L : Nat → Bool} {log : List Ent} (hok : LogOk ops T0 H0 P call yf nt base log) (hcl : Closed L log) {e l} (hs : Upn e l log) (hk : e.k = .read) (hL : L l.length = false)
    (hb : ∀ j, Nat.testBit e.b j = true → L j = true) : pureOp P (heapAt H0 L log) (evalA e.M) e.o.op = some e.v := by
  obtain ⟨pre, rfl⟩ := hs
  have hs : Upn e l (pre ++ e :: l) := ⟨pre, rfl⟩
  obtain ⟨hokl, he⟩ := hok.at_ hs
  have hkind := he.kind
  rw [hk] at hkind
  clear hs
  induction pre with
  | nil =>
    have : e.chain = false := by simp [Ent.chain, hk]
    rw [List.nil_append, heapAt_plain this]
    exact read_back hb hkind.1 hkind.2
  | cons c pre ih =>
    have hokc : LogOk ops T0 H0 P call yf nt base (pre ++ e :: l) := hok.1
    have ih' := ih hokc (fun e' l' h' => hcl e' l' (h'.trans (List.suffix_cons _ _)))
    rw [List.cons_append]
    cases hkc : c.k with
    | did Hp H =>
      simp only [heapAt, hkc]
      cases hLc : L (pre ++ e :: l).length with
      | false => exact ih'
      | true =>
        have hck := hok.2.kind
        rw [hkc] at hck
        have hnb : Nat.testBit c.b l.length = false := by
          cases hb' : Nat.testBit c.b l.length with
          | false => rfl
          | true => rw [hcl c _ (upn_self _ _) hLc _ hb'] at hL; simp at hL
        exact forthOk_spec hck.2.2.2 _ _ _ _ (rds_mem ⟨pre, rfl⟩ hk) hnb
    | _ => rw [heapAt_plain (by simp [Ent.chain, hkc])]; exact ih'

end
end Go.Abs
