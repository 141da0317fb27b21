/- Part of the evaluator's core: see its own heading. -/
import Derived.Test.YtilmhmfdohbpbaaGreatQwF1
import Derived.LoopNIn
/-! Code is sound. -/
set_option linter.unusedVariables false
set_option linter.unusedSimpArgs false
namespace Go.Abs
open Go

section
variable {P : Program} {pr : Nat → Prop} {call : Cal} {yf : Yf} {ro : Option Nat}

theorem push2 {α : Type} (A : Array α) (x y : α) : ((A.push x).push y)[A.size + 1]? = some y := by
  have : A.size + 1 = (A.push x).size := by simp
  rw [this]; exact Array.getElem?_push_size

theorem range_sound (hP : POk P) (hcall : CallOk P call) {f : Operand} {ps : Array Tmp} {asg body : Code} {S S' : FS} {H H' : Heap} {ex : Ex} {m : Emb} {fz : Nat → Prop} {w : World} {a : Act} {n : Nat} {Q : Exit → Act → World → Prop}
    (h : rangeA P call (evalA S.T f) ps asg body S H = some (ex, S', H')) (hR : Rel m fz pr H w) (hF : FRel m fz w S a) (hQ : Left m fz pr w H S' H' (Q ex.to)) :
    (Code.rangeFunc f ps asg body).wpIn (FF none) n P Q a w := by
  simp only [rangeA] at h
  cases hit : iterA P call (evalA S.T f) (H.next + 1) ((H.push .dfr).push (.loop .ready none S.T S.nt ps asg body)) with
  | none => rw [hit] at h; simp at h
  | some r =>
    obtain ⟨v, H1⟩ := r
    rw [hit] at h
    simp only at h
    refine wpIn_rangeFunc fun fn _ => ?_
    -- the two objects
    have hn1 : NewObj w { w with heap := w.heap.push (.deferred (some [])) } := NewObj.push w w _ rfl
    have hx1 := hn1.ext hR
    have hR1 := push_rel hR hn1 (obj := .dfr) ⟨rfl, by simp⟩
    have hn2 : NewObj { w with heap := w.heap.push (.deferred (some [])) } { w with heap := (w.heap.push (.deferred (some []))).push (.loop { state := .ready, pending := none, fn, tmps := a.tmps, params := ps, assign := asg, body, defers := w.heap.size }) } := NewObj.push _ _ _ rfl
    have hx2 := hn2.ext hR1
    have hx := hx1.trans hx2
    have hF2 := hF.ext hx
    have hR2 := push_rel hR1 hn2 (obj := .loop .ready none S.T S.nt ps asg body) ⟨rfl, { state := .ready, pending := none, fn, tmps := a.tmps, params := ps, assign := asg, body, defers := w.heap.size }, by rw [Array.size_push]; exact push2 _ _ _, rfl, rfl, hF2.tmps, hF.size, rfl, rfl, rfl⟩
    have e1 : (H.push AObj.dfr).next = H.next + 1 := rfl
    have e2 : ({ w with heap := w.heap.push (.deferred (some [])) } : World).heap.size = w.heap.size + 1 := by simp
    generalize hm2 : (Emb.upd (Emb.upd m H.next (w.heap.size, 0)) (H.push AObj.dfr).next (({ w with heap := w.heap.push (.deferred (some [])) } : World).heap.size, 0)) = m2 at *
    have hml : m2 (H.next + 1) = some (w.heap.size + 1, 0) := by rw [← hm2]; simp [Emb.upd]
    have hmd : m2 H.next = some (w.heap.size, 0) := by rw [← hm2]; simp [Emb.upd]
    have hfv := evalA_rel hF2.tmps (a := a) f
    obtain ⟨d, k, args, hres, hinv, hcl⟩ := iter_sound hP hcall hit hR2 hfv hml
    have hkeep2 : Keep H.next m m2 := fun q hq => by rw [← hm2]; simp [Emb.upd, Nat.ne_of_lt hq, Nat.ne_of_lt (Nat.lt_succ_of_lt hq)]
    refine ⟨w.heap.size + 1, [{ target := .collected w.heap.size, args := #[] }], { w with heap := (w.heap.push (.deferred (some []))).push (.loop { state := .ready, pending := none, fn, tmps := a.tmps, params := ps, assign := asg, body, defers := w.heap.size }) }, d, _, k, args, _, ?_, ?_, fun _ _ => trivial, hinv, fun h => by simp [Fence.wide] at h, (callsIn_FF hcl).mono fun e w3 ⟨v', he, m3, fz3, hx3, hR3, _, hk3, hst⟩ => ?_⟩
    · simp [Instr.enterLoop, Sem.run_bind, newObj, Sem.run]; rfl
    · simpa [resolve, rangeCall, Act.eval] using hres
    · subst he
      -- behind the call
      split at h
      · rename_i st pend T nt ps' asg' body' hg
        cases hcb : (st == .busy || !(Nat.ble H1.lock (H.next + 1))) with
        | true => simp [hcb] at h
        | false =>
          simp only [hcb, cond_false] at h
          rw [Bool.or_eq_false_iff] at hcb
          obtain ⟨hbusy, hlk⟩ := hcb
          have hlk' : H1.lock ≤ H.next + 1 := Nat.le_of_ble_eq_true (by simpa using hlk)
          have hm3 := hx3.mm _ _ hml
          obtain ⟨lp, hb, rfl, rfl, hT, hsz, rfl, rfl, rfl⟩ := loop_at hR3 hg hm3
          obtain ⟨hx4, hR4⟩ := loop_set hR3 hg hm3 hb (l' := { lp with state := .exhausted }) hT hsz
          obtain ⟨W4, hW4⟩ : ∃ W : World, W = { w3 with heap := w3.heap.setIfInBounds (w.heap.size + 1) (.loop { lp with state := .exhausted }) } := ⟨_, rfl⟩
          rw [← hW4] at hx4 hR4
          have hnb : ¬ lp.state = .busy := fun e => by rw [e] at hbusy; simp at hbusy
          have hend : (Instr.endLoop (w.heap.size + 1)).run P w3 = .ok lp.pending W4 := by
            rw [hW4]
            simp [Instr.endLoop, Instr.getLoop, Sem.run_bind, getObj, setObj, Sem.run, hb, hnb]
          have hall : ∀ ex', ex' = ex → ({ S with D := H.next :: S.D } : FS) = S' → H1.set (H.next + 1) (.loop .exhausted lp.pending T nt lp.params lp.assign lp.body) = H' →
              Q ex'.to { a with defers := [{ target := .collected w.heap.size, args := #[] }] ++ a.defers } W4 := by
            intro ex' h1 h2 h3
            subst h1 h2 h3
            have hF4 := (hF2.ext hx3).ext hx4
            refine hQ _ _ m3 fz3 ((hx.trans hx3).trans hx4) hR4 ⟨hF4.tmps, hF4.size, ⟨⟨w.heap.size, hx3.mm _ _ hmd, rfl⟩, hF4.defers⟩⟩ (hkeep2.trans hk3 (by simp; omega)) ?_
            exact ((Stays.push H .dfr).trans (Stays.push _ _)).trans (hst.trans (Stays.set _ hlk'))
          refine ⟨lp.pending, _, hend, ?_⟩
          split at h
          · simp only [Option.some.injEq, Prod.mk.injEq] at h
            rename_i hp
            rw [hp]
            exact hall .normal h.1 h.2.1 h.2.2
          · simp only [Option.some.injEq, Prod.mk.injEq] at h
            rename_i hp
            rw [hp]
            exact wpIn_ret (hall .ret h.1 h.2.1 h.2.2)
          · simp only [Option.some.injEq, Prod.mk.injEq] at h
            rename_i hp
            rw [hp]
            exact wpIn_exit (hall (.exit _) h.1 h.2.1 h.2.2)
          · simp at h
      · simp at h

theorem ecode_sound (hP : POk P) (hcall : CallOk P call) (hyf : YfOk P yf) {round : Bool} {fuel : Nat} (hro : round = false → ro = none) : ∀ (c : Code) (S S' : FS) (H H' : Heap) (ex : Ex) (m : Emb) (fz : Nat → Prop) (w : World) (a : Act) (n : Nat) (Q : Exit → Act → World → Prop),
    ecode P call yf round fuel c S H = some (ex, S', H') → Rel m fz pr H w → FRel m fz w S a → Left m fz pr w H S' H' (Q ex.to) → c.wpIn (FF ro) n P Q a w := by
  intro c
  induction c with
  | skip =>
    intro S S' H H' ex m fz w a n Q h hR hF hQ
    simp only [ecode, Option.some.injEq, Prod.mk.injEq] at h
    obtain ⟨rfl, rfl, rfl⟩ := h
    exact wpIn_skip (hQ a w m fz (WExt.refl _ _ _ _) hR hF (Keep.refl _ _) (Stays.refl _))
  | label l =>
    intro S S' H H' ex m fz w a n Q h hR hF hQ
    simp only [ecode, Option.some.injEq, Prod.mk.injEq] at h
    obtain ⟨rfl, rfl, rfl⟩ := h
    exact wpIn_label (hQ a w m fz (WExt.refl _ _ _ _) hR hF (Keep.refl _ _) (Stays.refl _))
  | exit id =>
    intro S S' H H' ex m fz w a n Q h hR hF hQ
    simp only [ecode, Option.some.injEq, Prod.mk.injEq] at h
    obtain ⟨rfl, rfl, rfl⟩ := h
    exact wpIn_exit (hQ a w m fz (WExt.refl _ _ _ _) hR hF (Keep.refl _ _) (Stays.refl _))
  | ret =>
    intro S S' H H' ex m fz w a n Q h hR hF hQ
    simp only [ecode, Option.some.injEq, Prod.mk.injEq] at h
    obtain ⟨rfl, rfl, rfl⟩ := h
    exact wpIn_ret (hQ a w m fz (WExt.refl _ _ _ _) hR hF (Keep.refl _ _) (Stays.refl _))
  | region id ops d =>
    intro S S' H H' ex m fz w a n Q h hR hF hQ
    simp only [ecode] at h
    split at h
    · rename_i S1 H1 hd
      simp only [Option.some.injEq, Prod.mk.injEq] at h
      obtain ⟨rfl, rfl, rfl⟩ := h
      cases d with
      | true => exact drawn_sound hP hcall hyf hd hR hF hQ
      | false => exact wpIn_region_list (plain_sound hP.child hcall hyf ops.toList S S1 H H1 m fz w a hd hR hF hQ)
    · simp at h
  | seq x y ihx ihy =>
    intro S S' H H' ex m fz w a n Q h hR hF hQ
    simp only [ecode] at h
    cases hx : ecode P call yf round fuel x S H with
    | none => rw [hx] at h; simp at h
    | some r =>
      obtain ⟨e1, S1, H1⟩ := r
      rw [hx] at h
      cases e1 with
      | normal =>
        simp only at h
        exact wpIn_seq (ihx S S1 H H1 .normal m fz w a n _ hx hR hF fun a' w' m' fz' hx' hR' hF' hk hs => ihy S1 S' H1 H' ex m' fz' w' a' n Q h hR' hF' (hQ.step hx' hk hs))
      | exit id =>
        simp only [Option.some.injEq, Prod.mk.injEq] at h
        obtain ⟨rfl, rfl, rfl⟩ := h
        exact wpIn_seq (ihx S S1 H H1 (.exit id) m fz w a n _ hx hR hF hQ)
      | ret =>
        simp only [Option.some.injEq, Prod.mk.injEq] at h
        obtain ⟨rfl, rfl, rfl⟩ := h
        exact wpIn_seq (ihx S S1 H H1 .ret m fz w a n _ hx hR hF hQ)
  | cond c x y ihx ihy =>
    intro S S' H H' ex m fz w a n Q h hR hF hQ
    simp only [ecode] at h
    split at h
    · rename_i t ht
      have hv := evalA_rel hF.tmps (a := a) c
      rw [ht] at hv
      have hb : a.eval c = .bool t := (show ∀ u, VRel m fz w (.bool t) u → u = .bool t from fun u h => by cases h; rfl) _ hv
      refine wpIn_cond hb ?_
      cases t with
      | true => exact ihx S S' H H' ex m fz w a n Q h hR hF hQ
      | false => exact ihy S S' H H' ex m fz w a n Q h hR hF hQ
    · simp at h
  | block id b ih =>
    intro S S' H H' ex m fz w a n Q h hR hF hQ
    simp only [ecode] at h
    cases hx : ecode P call yf round fuel b S H with
    | none => rw [hx] at h; simp at h
    | some r =>
      obtain ⟨e1, S1, H1⟩ := r
      rw [hx] at h
      cases e1 with
      | normal =>
        simp only [Option.some.injEq, Prod.mk.injEq] at h
        obtain ⟨rfl, rfl, rfl⟩ := h
        exact wpIn_block (ih S S1 H H1 .normal m fz w a n _ hx hR hF hQ)
      | exit k =>
        simp only [Option.some.injEq, Prod.mk.injEq] at h
        obtain ⟨rfl, rfl, rfl⟩ := h
        refine wpIn_block (ih S S1 H H1 (.exit k) m fz w a n _ hx hR hF fun a' w' m' fz' hx' hR' hF' hk hs => ?_)
        have hq := hQ a' w' m' fz' hx' hR' hF' hk hs
        simp only [Ex.to, Exit.inBlock]
        cases hk2 : Nat.beq k id with
        | true =>
          have := Nat.eq_of_beq_eq_true hk2
          rw [hk2] at hq
          simpa [this, Ex.to] using hq
        | false =>
          have hne : ¬ k = id := fun e => by rw [e, Nat.beq_refl] at hk2; simp at hk2
          rw [hk2] at hq
          simpa [hne, Ex.to] using hq
      | ret =>
        simp only [Option.some.injEq, Prod.mk.injEq] at h
        obtain ⟨rfl, rfl, rfl⟩ := h
        exact wpIn_block (ih S S1 H H1 .ret m fz w a n _ hx hR hF hQ)
  | loop b ih =>
    intro S S' H H' ex m fz w a n Q h hR hF hQ
    simp only [ecode] at h
    have key : ∀ k (S : FS) (H : Heap) (m : Emb) (fz : Nat → Prop) (w : World) (a : Act), loopA (ecode P call yf round fuel b) k S H = some (ex, S', H') → Rel m fz pr H w → FRel m fz w S a → Left m fz pr w H S' H' (Q ex.to) →
        Code.roundsIn (FF ro) n P b Q k a w := by
      intro k
      induction k with
      | zero => intro S H m fz w a h; simp [loopA] at h
      | succ k ihk =>
        intro S H m fz w a h hR hF hQ
        simp only [loopA] at h
        rw [roundsIn_succ]
        cases hx : ecode P call yf round fuel b S H with
        | none => rw [hx] at h; simp at h
        | some r =>
          obtain ⟨e1, S1, H1⟩ := r
          rw [hx] at h
          cases e1 with
          | normal =>
            simp only at h
            exact ih S S1 H H1 .normal m fz w a n _ hx hR hF fun a' w' m' fz' hx' hR' hF' hk hs => ihk S1 H1 m' fz' w' a' h hR' hF' (hQ.step hx' hk hs)
          | exit id =>
            simp only [Option.some.injEq, Prod.mk.injEq] at h
            obtain ⟨rfl, rfl, rfl⟩ := h
            exact ih S S1 H H1 (.exit id) m fz w a n _ hx hR hF hQ
          | ret =>
            simp only [Option.some.injEq, Prod.mk.injEq] at h
            obtain ⟨rfl, rfl, rfl⟩ := h
            exact ih S S1 H H1 .ret m fz w a n _ hx hR hF hQ
    exact wpIn_loop_rounds fuel (key fuel S H m fz w a h hR hF hQ)
  | rangeFunc f ps asg body =>
    intro S S' H H' ex m fz w a n Q h hR hF hQ
    simp only [ecode] at h
    cases round with
    | true => simp at h
    | false =>
      have hr := hro rfl
      subst hr
      exact range_sound hP hcall h hR hF hQ
  | scope b _ => intro S S' H H' ex m fz w a n Q h; simp [ecode] at h
  | goto l => intro S S' H H' ex m fz w a n Q h; simp [ecode] at h
  | refuse s => intro S S' H H' ex m fz w a n Q h; simp [ecode] at h

end
end Go.Abs
