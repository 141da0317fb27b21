/- Part of the evaluator's core: see its own heading. -/
import Derived.Test.YtilmhmfdohbpbaaGreatQwF2
/-! Rounds, bodies, calls, and the run are sound. -/
set_option linter.unusedVariables false
set_option linter.unusedSimpArgs false
namespace Go.Abs
open Go

section
variable {P : Program} {m : Emb} {fz pr : Nat → Prop} {H : Heap} {w : World} {call : Cal} {yf : Yf} {ro : Option Nat}

theorem roundArgs_sound {nt : Nat} : ∀ (ts : List Tmp) (args : List AVal) (args' : List Value) (T T' : Tmps) (tmps : Array Value), roundArgs nt ts args T = some T' → VRels m fz w args args' → TRel m fz w T tmps → tmps.size = nt →
    ts.length = args'.length ∧ TRel m fz w T' ((ts.zip args').foldl (fun tmps (t, a) => tmps.setIfInBounds t a) tmps) ∧ ((ts.zip args').foldl (fun tmps (t, a) => tmps.setIfInBounds t a) tmps).size = nt := by
  intro ts
  induction ts with
  | nil =>
    intro args args' T T' tmps h ha hT hs
    cases args with
    | nil =>
      simp only [roundArgs, Option.some.injEq] at h
      subst h
      have : args' = [] := List.eq_nil_of_length_eq_zero (by have := ha.1; simp at this; omega)
      subst this
      exact ⟨rfl, hT, hs⟩
    | cons a args => simp [roundArgs] at h
  | cons t ts ih =>
    intro args args' T T' tmps h ha hT hs
    cases args with
    | nil => simp [roundArgs] at h
    | cons a args =>
      cases args' with
      | nil => have := ha.1; simp at this
      | cons a' args' =>
        simp only [roundArgs] at h
        cases hb : Nat.blt t nt with
        | false => simp [hb] at h
        | true =>
          simp only [hb, cond_true] at h
          have hlt : t < tmps.size := by rw [hs]; simpa [Nat.blt_eq] using hb
          have hv := ha.2 0 a a' rfl rfl
          have ha' : VRels m fz w args args' := ⟨by have := ha.1; simpa using this, fun j x y hx hy => ha.2 (j + 1) x y (by simpa using hx) (by simpa using hy)⟩
          obtain ⟨h1, h2, h3⟩ := ih args args' (T.set t a) T' (tmps.setIfInBounds t a') h ha' (hT.set hlt hv) (by simp [hs])
          exact ⟨by simp [h1], h2, h3⟩

theorem zip_foldl (ps : Array Tmp) (args : Array Value) (tmps : Array Value) :
    (ps.zip args).foldl (fun tmps (t, a) => tmps.setIfInBounds t a) tmps = (ps.toList.zip args.toList).foldl (fun tmps (t, a) => tmps.setIfInBounds t a) tmps := by
  rw [← Array.toList_zip, Array.foldl_toList]

theorem FRel.round {m' : Emb} {fz' : Nat → Prop} {w' : World} {T : Tmps} {nt : Nat} {tmps : Array Value} (hT : TRel m' fz' w' T tmps) (hs : tmps.size = nt) :
    FRel m' fz' w' { T := T, nt := nt, D := [] } { tmps := tmps, defers := [] } := ⟨hT, hs, trivial⟩

theorem roundA_sound (hP : POk P) (hcall : CallOk P call) (hyf : YfOk P yf) {fuel r b : Nat} {args : List AVal} {args' : Array Value} {H' : Heap} {v : AVal} (h : roundA P call yf fuel r args H = some (v, H'))
    (hR : Rel m fz pr H w) (hm : m r = some (b, 0)) (ha : VRels m fz w args args'.toList) : Upon P ro (Instr.yield b args') w (Got m fz pr w H v H') := by
  unfold roundA at h
  split at h
  · rename_i st0 pend0 T nt ps asg body hg
    obtain ⟨lp, hb, rfl, rfl, hT, hsz, rfl, rfl, rfl⟩ := loop_at hR hg hm
    split at h
    · simp at h
    · rename_i T' hra
      obtain ⟨h1, h2, h3⟩ := roundArgs_sound _ _ _ _ _ _ hra ha hT hsz
      rw [← zip_foldl] at h2 h3
      have hsize : ¬ args'.size ≠ lp.params.size := by
        have : lp.params.toList.length = args'.toList.length := h1
        simp at this; omega
      have hrun : (Instr.yield b args').run P w = .ok (.round b lp.fn ((lp.params.zip args').foldl (fun tmps (t, a) => tmps.setIfInBounds t a) lp.tmps) lp.assign lp.body) w := by
        simp only [Instr.yield, Instr.getLoop, Sem.run_bind, getObj, Sem.run, hb, Result.andThen_ok, Sem.run_pure, if_neg hsize]
      refine ⟨_, w, hrun, fun n => roundIn_of_wpIn trivial ?_⟩
      show lp.assign.wpIn (FF (some b)) n P _ _ w
      split at h
      · rename_i S1 H1 hasg
        split at h
        · rename_i pend1 T1 nt1 ps1 asg1 body1 hg1
          cases hlk : Nat.ble H1.lock r with
          | false => simp [hlk] at h
          | true =>
            simp only [hlk, cond_true] at h
            have hlk' := Nat.le_of_ble_eq_true hlk
            refine ecode_sound hP hcall hyf (fun h => by cases h) lp.assign _ S1 H H1 .normal m fz w _ n _ hasg hR (FRel.round h2 h3) fun a1 w1 m1 fz1 hx1 hR1 hF1 hk1 hs1 => ?_
            -- the round begins
            have hm1 := hx1.mm _ _ hm
            obtain ⟨lp1, hb1, hst1, rfl, hT1, hsz1, rfl, rfl, rfl⟩ := loop_at hR1 hg1 hm1
            obtain ⟨hx2, hR2⟩ := loop_set hR1 hg1 hm1 hb1 (l' := { lp1 with state := .busy }) hT1 hsz1
            have hbeg : (Instr.beginRound b).run P w1 = .ok () { w1 with heap := w1.heap.setIfInBounds b (.loop { lp1 with state := .busy }) } := by
              simp [Instr.beginRound, Instr.getLoop, Sem.run_bind, getObj, setObj, Sem.run, hb1, hst1]
            refine ⟨_, hbeg, ?_⟩
            show lp.body.wpIn (FF (some b)) n P _ _ _
            split at h
            · simp at h
            · rename_i ex S2 H2 hbody
              split at h
              · rename_i st2 pend2 T2 nt2 ps2 asg2 body2 hg2
                cases hlk2 : Nat.ble H2.lock r with
                | false => simp [hlk2] at h
                | true =>
                  simp only [hlk2, cond_true] at h
                  have hlk2' := Nat.le_of_ble_eq_true hlk2
                  refine ecode_sound hP hcall hyf (fun h => by cases h) lp.body S1 S2 _ H2 ex m1 fz1 _ a1 n _ hbody hR2 (hF1.ext hx2) fun a3 w3 m3 fz3 hx3 hR3 hF3 hk3 hs3 => ?_
                  have hm3 := hx3.mm _ _ hm1
                  obtain ⟨lp2, hb2, rfl, rfl, hT2, hsz2, rfl, rfl, rfl⟩ := loop_at hR3 hg2 hm3
                  have fin : ∀ (jump : Option Code) (st : LoopState) (u : Bool), (if jump.isNone then LoopState.ready else LoopState.done) = st → jump.isNone = u → some (AVal.bool u, H2.set r (.loop st jump T2 nt2 lp2.params lp2.assign lp2.body)) = some (v, H') →
                      ∃ v' w', (Instr.endRound b jump).run P w3 = .ok v' w' ∧ ∃ u', Ending.returned v' = Ending.returned u' ∧ Got m fz pr w H v H' u' w' := by
                    intro jump st u hst hu he
                    simp only [Option.some.injEq, Prod.mk.injEq] at he
                    obtain ⟨rfl, rfl⟩ := he
                    obtain ⟨hx4, hR4⟩ := loop_set hR3 hg2 hm3 hb2 (l' := { lp2 with state := st, pending := jump }) hT2 hsz2
                    refine ⟨.bool u, { w3 with heap := w3.heap.setIfInBounds b (.loop { lp2 with state := st, pending := jump }) }, ?_, .bool u, rfl, m3, fz3, ((hx1.trans hx2).trans hx3).trans hx4, hR4, .bool _, ?_, ?_⟩
                    · subst hst hu
                      simp [Instr.endRound, Instr.getLoop, Sem.run_bind, getObj, setObj, Sem.run, hb2]
                    · exact hk1.trans (hk3) (by simpa using hs1.next)
                    · exact (hs1.trans (Stays.set _ hlk')).trans (hs3.trans (Stays.set _ hlk2'))
                  cases ex with
                  | normal => exact fin none .ready true rfl rfl h
                  | ret => exact fin (some .ret) .done false rfl rfl h
                  | exit id => exact fin (some (.exit id)) .done false rfl rfl h
              · simp at h
        · simp at h
      · simp at h
  · simp at h


theorem argsT_get : ∀ (args : List AVal) (i : Nat) (T : Tmps) (t : Nat), (argsT i args T).get t = if i ≤ t ∧ t < i + args.length then args[t - i]? else T.get t
  | [], i, T, t => by
    have : ¬ (i ≤ t ∧ t < i + ([] : List AVal).length) := by intro h; simp at h; omega
    rw [if_neg this]; rfl
  | a :: r, i, T, t => by
    simp only [argsT]
    rw [argsT_get r (i + 1) (T.set i a) t, Tr.get_set]
    by_cases h1 : t = i
    · subst h1
      have : ¬ (t + 1 ≤ t ∧ t < t + 1 + r.length) := by omega
      rw [if_neg this]; simp
    · by_cases h2 : i + 1 ≤ t ∧ t < i + 1 + r.length
      · have h3 : i ≤ t ∧ t < i + (a :: r).length := by simp; omega
        rw [if_pos h2, if_pos h3]
        obtain ⟨k, hk⟩ : ∃ k, t - i = k + 1 := ⟨t - i - 1, by omega⟩
        rw [hk, List.getElem?_cons_succ]
        congr 1; omega
      · have h3 : ¬ (i ≤ t ∧ t < i + (a :: r).length) := by simp; omega
        rw [if_neg h2, if_neg h3, if_neg h1]

theorem enter_rel {args : List AVal} {args' : Array Value} {n : Nat} (ha : VRels m fz w args args'.toList) :
    FRel m fz w { T := argsT 0 args .nil, nt := max n args.length, D := [] } { tmps := args' ++ Array.replicate (n - args'.size) undef, defers := [] } := by
  have hl : args.length = args'.size := by simpa using ha.1
  refine ⟨fun t => ?_, by simp [hl]; omega, trivial⟩
  simp only [argsT_get, Nat.zero_le, true_and, Nat.zero_add, Nat.sub_zero]
  by_cases ht : t < args.length
  · rw [if_pos ht]
    have h1 : args[t]? = some args[t] := List.getElem?_eq_getElem ht
    have h2 : (args' ++ Array.replicate (n - args'.size) undef).getD t undef = args'[t]'(by omega) := by
      rw [Array.getD_eq_getD_getElem?, Array.getElem?_append_left (by omega), Array.getElem?_eq_getElem (by omega)]; rfl
    rw [h1, h2]
    exact ha.2 t _ _ h1 (by simp [Array.getElem?_eq_getElem (by omega : t < args'.size)])
  · rw [if_neg ht]; exact .any _

def resF (tmps : Array Value) : ResultVar → Sem Value
  | .tmp t => pure (tmps.getD t undef)
  | .cell a t => do loadVar t (← asAddr (tmps.getD a undef))

theorem results_eq (fn : Func) (tmps : Array Value) : results fn tmps = (do let vs ← fn.results.mapM (resF tmps); pure (if h : vs.size = 1 then vs[0] else .tuple vs)) := by
  rfl

theorem resultA_sound {T : Tmps} {tmps : Array Value} (hR : Rel m fz pr H w) (hT : TRel m fz w T tmps) : ∀ (rs : List ResultVar) (vs : List AVal), resultA P T H rs = some vs →
    ∃ vs', ((rs.mapM (resF tmps) : Sem (List Value))).run P w = .ok vs' w ∧ VRels m fz w vs vs' := by
  intro rs
  induction rs with
  | nil =>
    intro vs h
    simp only [resultA, Option.some.injEq] at h
    subst h
    exact ⟨[], rfl, VRels.nil⟩
  | cons r rs ih =>
    intro vs h
    cases r with
    | tmp t =>
      simp only [resultA] at h
      split at h
      · rename_i vs0 h0
        simp only [Option.some.injEq] at h
        subst h
        obtain ⟨vs', hr, hv⟩ := ih vs0 h0
        refine ⟨tmps.getD t undef :: vs', ?_, VRels.cons (hT t) hv⟩
        rw [List.mapM_cons]
        simp only [Sem.run_bind, resF, Sem.run_pure, Result.andThen_ok, hr]
      · simp at h
    | cell c t =>
      simp only [resultA] at h
      split at h
      · rename_i cs hcs
        split at h
        · rename_i v vs0 hv0 h0
          simp only [Option.some.injEq] at h
          subst h
          obtain ⟨vs', hr, hv⟩ := ih vs0 h0
          obtain ⟨b, off, f, hva, hc, hval⟩ := rowOf_sound hR hcs (hT c)
          obtain ⟨y, hy, hrel⟩ := loadVar_sound (P := P) hv0 hc hval
          refine ⟨y :: vs', ?_, VRels.cons hrel hv⟩
          rw [List.mapM_cons]
          simp only [Sem.run_bind, resF, hva, asAddr, Sem.run_pure, Result.andThen_ok, hy, hr]
        · simp at h
      · simp at h

theorem oneOf_rel {vs : List AVal} {vs' : List Value} (h : VRels m fz w vs vs') : VRel m fz w (oneOf vs) (if h : vs'.toArray.size = 1 then vs'.toArray[0] else .tuple vs'.toArray) := by
  have hl := h.1
  by_cases h1 : vs'.length = 1
  · obtain ⟨v', rfl⟩ := List.length_eq_one_iff.1 h1
    obtain ⟨v, rfl⟩ := List.length_eq_one_iff.1 (by rw [hl, h1] : vs.length = 1)
    · simp only [oneOf, List.size_toArray, List.length_cons, List.length_nil, Nat.zero_add, dite_true, List.getElem_toArray, List.getElem_cons_zero]
      exact h.2 0 v v' rfl rfl
  · have hs : ¬ vs'.toArray.size = 1 := by simpa using h1
    rw [dif_neg hs]
    have ho : oneOf vs = .tuple vs := by
      match vs, hl with
      | [], _ => rfl
      | [v], hl => simp at hl; omega
      | _ :: _ :: _, _ => rfl
    rw [ho]
    exact .tuple vs _ (by simp [hl]) fun j x y hx hy => h.2 j x y hx (by simpa using hy)

theorem shut_leaves {fn : Func} {T : Tmps} {tmps : Array Value} {H1 : Heap} {vs : List AVal} {R : Ending → World → Prop} {n : Nat} (hvs : resultA P T H1 fn.results.toList = some vs) :
    ∀ (D : List Nat) (ds : List Deferred) (H : Heap) (w : World), shut D H = some H1 → DRel m D ds → Rel m fz pr H w → TRel m fz w T tmps →
    (∀ v' w', WExt m fz pr w m fz w' → Rel m fz pr H1 w' → VRel m fz w' (oneOf vs) v' → Stays H H1 → R (.returned v') w') → LeavesInM Fence.wide n P fn tmps R ds .returning w := by
  intro D
  induction D with
  | nil =>
    intro ds H w hsh hD hR hT hQ
    cases ds with
    | cons d ds => exact hD.elim
    | nil =>
      simp only [shut, Option.some.injEq] at hsh
      subst hsh
      obtain ⟨vs', hr, hv⟩ := resultA_sound hR hT _ _ hvs
      refine ⟨_, ?_, hQ _ w (WExt.refl _ _ _ _) hR (oneOf_rel hv) (Stays.refl _)⟩
      rw [results_eq, Array.mapM_eq_mapM_toList]
      simp only [Sem.run_bind, map_eq_pure_bind, hr, Result.andThen_ok, Sem.run_pure]
  | cons r D ih =>
    intro ds H w hsh hD hR hT hQ
    cases ds with
    | nil => exact hD.elim
    | cons d ds =>
      obtain ⟨⟨b, hb, ht⟩, hD⟩ := hD
      simp only [shut] at hsh
      split at hsh
      · rename_i hg
        cases hlk : Nat.ble H.lock r with
        | false => simp [hlk] at hsh
        | true =>
          simp only [hlk, cond_true] at hsh
          obtain ⟨b', o', hm', _, _, ho, hob⟩ := hR.rows r _ hg
          rw [hb] at hm'
          simp at hm'
          obtain ⟨rfl, rfl⟩ := hm'
          obtain ⟨hx, hR'⟩ := obj_del (o' := .deferred none) hR hg hb hob (cell_dfr hob)
          refine ⟨by simp, .inl ⟨b, { w with heap := w.heap.setIfInBounds b (.deferred none) }, ht, ?_, ih ds _ _ hsh hD hR' (hT.ext hx) (fun v' w' hx' hR'' hv hs => hQ v' w' (hx.trans hx') hR'' hv ((Stays.del (Nat.le_of_ble_eq_true hlk)).trans hs))⟩⟩
          simp [Instr.takeDeferred, Sem.run_bind, getObj, setObj, Sem.run, hob]
      · simp at hsh

theorem leave_sound {fn : Func} {S : FS} {a : Act} {H' : Heap} {v : AVal} {R : Ending → World → Prop} {n : Nat} (h : leave P fn S H = some (v, H')) (hR : Rel m fz pr H w) (hF : FRel m fz w S a)
    (hQ : ∀ v' w', WExt m fz pr w m fz w' → Rel m fz pr H' w' → VRel m fz w' v v' → Stays H H' → R (.returned v') w') : LeavesInM Fence.wide n P fn a.tmps R a.defers .returning w := by
  unfold leave at h
  split at h
  · rename_i H1 hsh
    split at h
    · rename_i vs hvs
      simp only [Option.some.injEq, Prod.mk.injEq] at h
      obtain ⟨rfl, rfl⟩ := h
      exact shut_leaves hvs S.D a.defers H w hsh hF.defers hR hF.tmps hQ
    · simp at h
  · simp at h

theorem bodyA_sound (hP : POk P) (hcall : CallOk P call) (hyf : YfOk P yf) {fuel : Nat} {f : FuncId} {args : List AVal} {args' : Array Value} {H' : Heap} {v : AVal} (h : bodyA P call yf fuel f args H = some (v, H'))
    (hR : Rel m fz pr H w) (ha : VRels m fz w args args'.toList) : hasBody P f = true ∧ Calls P f args' w (fun e w' => ∃ v', e = .returned v' ∧ Got m fz pr w H v H' v' w') := by
  unfold bodyA at h
  split at h
  · simp at h
  · rename_i fn hf
    split at h
    · simp at h
    · rename_i c hc
      refine ⟨by simp [hasBody, hf, hc], (callsIn_wide (n := 0)).1 (callsIn_of_wp_marks hf hc trivial ?_)⟩
      show c.wpIn (FF none) 0 P _ _ w
      have hen := enter_rel (n := fn.ntmps) ha
      split at h
      · rename_i S H1 he
        refine ecode_sound hP hcall hyf (fun _ => rfl) c _ S H H1 .normal m fz w _ 0 _ he hR hen fun a1 w1 m1 fz1 hx hR1 hF1 hk hs => ?_
        exact leave_sound h hR1 hF1 fun v' w' hx' hR' hv hs' => ⟨v', rfl, m1, fz1, hx.trans hx', hR', hv, hk, hs.trans hs'⟩
      · rename_i S H1 he
        refine ecode_sound hP hcall hyf (fun _ => rfl) c _ S H H1 .ret m fz w _ 0 _ he hR hen fun a1 w1 m1 fz1 hx hR1 hF1 hk hs => ?_
        exact leave_sound h hR1 hF1 fun v' w' hx' hR' hv hs' => ⟨v', rfl, m1, fz1, hx.trans hx', hR', hv, hk, hs.trans hs'⟩
      · simp at h

/-- What is known of functions that are not stepped through. -/
def OrcOk (P : Program) (O : Orc) : Prop :=
  ∀ f g args H v H', O f = some g → g args H = some (v, H') → ∀ m fz pr w (args' : Array Value) ro, Rel m fz pr H w → VRels m fz w args args'.toList → Upon P ro (callFunc f args') w (Got m fz pr w H v H')

theorem run_sound (hP : POk P) {O : Orc} (hO : OrcOk P O) : ∀ n, CallOk P (run P O n).1 ∧ YfOk P (run P O n).2 := by
  intro n
  induction n with
  | zero =>
    refine ⟨fun f args H v H' h m fz pr w args' ro hR ha => ?_, fun r args H v H' h => by simp [run] at h⟩
    simp only [run] at h
    split at h
    · rename_i g hg; exact hO f g args H v H' hg h m fz pr w args' ro hR ha
    · simp at h
  | succ n ih =>
    refine ⟨fun f args H v H' h m fz pr w args' ro hR ha => ?_, fun r args H v H' h m fz pr w args' b ro hR hm ha => roundA_sound hP ih.1 ih.2 h hR hm ha⟩
    simp only [run, callO] at h
    split at h
    · rename_i g hg; exact hO f g args H v H' hg h m fz pr w args' ro hR ha
    · obtain ⟨hb, hc⟩ := bodyA_sound hP ih.1 ih.2 h hR ha
      exact ⟨.enter f args', w, callFunc_enter hP hb _ _, hc⟩

/-- What the evaluator says of a call of a function that is stepped through. -/
theorem run_calls (hP : POk P) {O : Orc} (hO : OrcOk P O) {n : Nat} {f : FuncId} {args : List AVal} {args' : Array Value} {H' : Heap} {v : AVal} (hb : hasBody P f = true) (h : (run P O n).1 f args H = some (v, H'))
    (hR : Rel m fz pr H w) (ha : VRels m fz w args args'.toList) : Calls P f args' w (fun e w' => ∃ v', e = .returned v' ∧ Got m fz pr w H v H' v' w') := by
  obtain ⟨nx, w', hr, hu⟩ := (run_sound hP hO n).1 f args H v H' h m fz pr w args' none hR ha
  rw [callFunc_enter hP hb] at hr
  cases hr
  exact hu

end
end Go.Abs
