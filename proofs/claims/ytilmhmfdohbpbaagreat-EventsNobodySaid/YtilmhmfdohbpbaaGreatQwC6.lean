/- The evaluator's operations are the model's: 'pureOp' as a whole. -/
import Derived.Test.YtilmhmfdohbpbaaGreatQwC5
set_option linter.unusedVariables false
set_option linter.unusedSimpArgs false
namespace Go.Abs
open Go

section
variable {P : Program} {m : Emb} {fz pr : Nat → Prop} {H : Heap} {w : World}

theorem foldA_sound {f : AVal → AVal → Option AVal} {g : Value → Value → Sem Value}
    (hfg : ∀ x y z x' y', f x y = some z → VRel m fz w x x' → VRel m fz w y y' → ∃ z', (g x' y').run P w = .ok z' w ∧ VRel m fz w z z') :
    ∀ (l : List AVal) (l' : List Value) (x v : AVal) (x' : Value), foldA f x l = some v → VRel m fz w x x' → VRels m fz w l l' →
      ∃ v', (l'.foldlM g x').run P w = .ok v' w ∧ VRel m fz w v v'
  | [], l', x, v, x', h, hx, hl => by
    simp [foldA] at h; subst h
    have : l' = [] := by have := hl.1; cases l' <;> simp_all
    subst this
    exact ⟨x', rfl, hx⟩
  | y :: l, l', x, v, x', h, hx, hl => by
    cases l' with
    | nil => have := hl.1; simp at this
    | cons y' l' =>
      unfold foldA at h
      split at h
      · rename_i z hz
        obtain ⟨z', hz', hr⟩ := hfg _ _ _ _ _ hz hx (hl.2 0 _ _ rfl rfl)
        obtain ⟨v', hv', hrv⟩ := foldA_sound hfg l l' z v z' h hr ⟨by have := hl.1; simpa using this, fun j a b ha hb => hl.2 (j + 1) a b (by simpa using ha) (by simpa using hb)⟩
        exact ⟨v', by simp [List.foldlM_cons, hz', hv'], hrv⟩
      · simp at h

theorem minA_sound (x y z : AVal) (x' y' : Value) (h : minA x y = some z) (hx : VRel m fz w x x') (hy : VRel m fz w y y') :
    ∃ z', (Builtin.min2 x' y').run P w = .ok z' w ∧ VRel m fz w z z' := by
  unfold minA at h
  split at h
  · cases hx; cases hy; simp at h; subst h; exact ⟨_, rfl, .int _ _⟩
  · simp at h

theorem maxA_sound (x y z : AVal) (x' y' : Value) (h : maxA x y = some z) (hx : VRel m fz w x x') (hy : VRel m fz w y y') :
    ∃ z', (Builtin.max2 x' y').run P w = .ok z' w ∧ VRel m fz w z z' := by
  unfold maxA at h
  split at h
  · cases hx; cases hy; simp at h; subst h; exact ⟨_, rfl, .int _ _⟩
  · simp at h

theorem lenA_sound {t : TypeId} {ts : List TypeId} {ty : TypeId} {x v : AVal} {x' : Value} (h : lenA P t x = some v) (hx : VRel m fz w x x') :
    ∃ v', (Builtin.len_ (t :: ts).toArray ty #[x']).run P w = .ok v' w ∧ VRel m fz w v v' := by
  unfold lenA at h
  split at h
  · rename_i s hu
    simp at h; subst h
    cases hx with
    | str s' _ hs =>
    subst hs
    refine ⟨goInt s'.size, by simp [Builtin.len_, run_underlying hu], ?_⟩
    have : s'.data.toList.length = s'.size := Array.length_toList
    rw [this]
    exact .int _ _
  · rename_i n e hu
    simp at h; subst h
    refine ⟨goInt n, by simp [Builtin.len_, run_underlying hu], .int _ _⟩
  · rename_i e cs n cap hu
    simp at h; subst h
    cases hx
    refine ⟨goInt n, by simp [Builtin.len_, run_underlying hu], .int _ _⟩
  · rename_i e r off n sz cap hu
    simp at h; subst h
    cases hx
    refine ⟨goInt n, by simp [Builtin.len_, run_underlying hu], .int _ _⟩
  · simp at h

theorem exec_builtin {ρ' : Operand → Value} {o : Oper} {b : Builtin} {args : Array Operand} {ats : Array TypeId} (ho : o.op = .call { callee := .builtin b, args, argTypes := ats }) :
    execOp ρ' o = builtin b ats o.type (args.map fun | .const _ => true | _ => false) (args.map ρ') := by
  unfold execOp
  rw [ho]
  rfl

theorem pureOp_sound {ρ : Operand → AVal} {ρ' : Operand → Value} {o : Oper} {v : AVal} (hC : ChildOk P) (hR : Rel m fz pr H w) (h : pureOp P H ρ o.op = some v)
    (hρ : ∀ x, VRel m fz w (ρ x) (ρ' x)) : ∃ v', (execOp ρ' o).run P w = .ok (.value v') w ∧ VRel m fz w v v' := by
  cases ho : o.op with
  | move x => rw [ho] at h; simp [pureOp] at h; subst h; exact ⟨_, by simp [execOp, ho], hρ x⟩
  | assign x => rw [ho] at h; simp [pureOp] at h; subst h; exact ⟨_, by simp [execOp, ho], hρ x⟩
  | pick c a b =>
    rw [ho] at h
    simp only [pureOp] at h
    split at h
    · rename_i t ht
      simp at h; subst h
      have hc := hρ c
      rw [ht] at hc
      generalize hv : ρ' c = cv at hc
      cases hc
      refine ⟨if t then ρ' a else ρ' b, by simp [execOp, ho, hv, asBool], ?_⟩
      cases t <;> simp [hρ]
    · simp at h
  | build t parts =>
    rw [ho] at h
    obtain ⟨v', hv', hr⟩ := buildA_sound (ρ' := ρ') hC h (fun j x _ => hρ x.2)
    exact ⟨v', by simp only [execOp, ho, Sem.run_bind, hv', Result.andThen_ok, Sem.run_pure], hr⟩
  | load t a =>
    rw [ho] at h
    simp only [pureOp] at h
    split at h
    · rename_i cs hcs
      obtain ⟨b, off, f, hv, hc, hval⟩ := rowOf_sound hR hcs (hρ a)
      obtain ⟨y, hy, hr⟩ := loadVar_sound (P := P) h hc hval
      exact ⟨y, by simp only [execOp, ho, hv, Instr.loadAt, Instr.sureAddr, Sem.run_bind, Sem.run_pure, Result.andThen_ok, hy], hr⟩
    · simp at h
  | nilCheck x =>
    rw [ho] at h
    simp only [pureOp] at h
    have hx := hρ x
    split at h
    · rename_i r off hx'
      rw [hx'] at hx
      simp at h; subst h
      generalize hv : ρ' x = xv at hx
      cases hx with
      | ptr _ _ b o' hm => exact ⟨_, by simp [execOp, ho, hv], .ptr _ _ _ _ hm⟩
    · rename_i cs hx'
      rw [hx'] at hx
      simp at h; subst h
      generalize hv : ρ' x = xv at hx
      cases hx with
      | iptr _ b o' f hb hc hval => exact ⟨_, by simp [execOp, ho, hv], .iptr _ _ _ _ hb hc hval⟩
    · rename_i t u hx'
      rw [hx'] at hx
      simp at h; subst h
      generalize hv : ρ' x = xv at hx
      cases hx with
      | iface _ _ u' hu => exact ⟨_, by simp [execOp, ho, hv], .iface _ _ _ hu⟩
    · rename_i f a b hx'
      rw [hx'] at hx
      simp at h; subst h
      generalize hv : ρ' x = xv at hx
      cases hx with
      | func _ _ _ f' c' h1 h2 h3 h4 h5 => exact ⟨_, by simp [execOp, ho, hv], .func _ _ _ f' c' h1 h2 h3 h4 h5⟩
    · rename_i r hx'
      rw [hx'] at hx
      simp at h; subst h
      generalize hv : ρ' x = xv at hx
      cases hx with
      | yield _ b hm => exact ⟨_, by simp [execOp, ho, hv], .yield _ _ hm⟩
    · simp at h
  | binOp op t x y yt =>
    rw [ho] at h
    simp only [pureOp] at h
    cases hg : eqGuardA P op t x y (ρ x) (ρ y) with
    | false => simp [hg] at h
    | true =>
      simp only [hg, cond_true] at h
      have hguard := eqGuardA_sound hg (hρ x) (hρ y)
      obtain ⟨v', hv', hr⟩ := binOpA_sound (P := P) h (hρ x) (hρ y)
      exact ⟨v', by simp only [execOp, ho, Sem.run_bind, hguard, Result.andThen_ok, hv', Sem.run_pure], hr⟩
  | unOp op t x =>
    rw [ho] at h
    obtain ⟨v', hv', hr⟩ := unOpA_sound (P := P) (op := op) (v := v) h (hρ x)
    exact ⟨v', by simp only [execOp, ho, Sem.run_bind, hv', Result.andThen_ok, Sem.run_pure], hr⟩
  | convert s d x =>
    rw [ho] at h
    obtain ⟨v', hv', hr⟩ := convertA_sound (v := v) hR h (hρ x)
    exact ⟨v', by simp only [execOp, ho, Sem.run_bind, hv', Result.andThen_ok, Sem.run_pure], hr⟩
  | makeInterface t x =>
    rw [ho] at h
    simp only [pureOp] at h
    split at h
    · simp at h
    · rename_i d hnot hu
      simp at h; subst h
      refine ⟨.iface t (ρ' x), ?_, .iface _ _ _ (hρ x)⟩
      simp only [execOp, ho, Instr.makeInterface, Sem.run_bind, run_underlying hu, Result.andThen_ok]
      cases d <;> first | rfl | exact (hnot _ rfl).elim
    · simp at h
  | makeFunc fn first captured =>
    rw [ho] at h
    simp only [pureOp] at h
    split at h <;> try (simp at h; done)
    all_goals first | (rename_i heq; simp at heq; done) | skip
    case h_11 f first' captured' heq =>
      simp at heq
      obtain ⟨rfl, rfl, rfl⟩ := heq
      simp at h; subst h
      refine ⟨.func (.func f) (first.map ρ') (captured.map ρ'), by simp [execOp, ho, Instr.makeFunc], .func _ _ _ _ _ (fun l h => by cases h) (by simp) (by simp) (fun j x y hx hy => ?_) (fun j x y hx hy => ?_)⟩
      · simp only [List.getElem?_map, Array.getElem?_toList] at hx
        simp only [Array.getElem?_map] at hy
        obtain ⟨q, hq, rfl⟩ := Option.map_eq_some_iff.1 hx
        rw [hq] at hy
        simp at hy; subst hy
        exact hρ q
      · simp only [List.getElem?_map, Array.getElem?_toList] at hx
        simp only [Array.getElem?_map] at hy
        obtain ⟨q, hq, rfl⟩ := Option.map_eq_some_iff.1 hx
        rw [hq] at hy
        simp at hy; subst hy
        exact hρ q
  | slice t x lo hi mx =>
    rw [ho] at h
    obtain ⟨v', hv', hr⟩ := sliceA_sound hC hR h (hρ x) (.map lo fun x _ => hρ x) (.map hi fun x _ => hρ x) (.map mx fun x _ => hρ x)
    exact ⟨v', by simp only [execOp, ho, Sem.run_bind, hv', Result.andThen_ok, Sem.run_pure], hr⟩
  | fieldAddr t x i =>
    rw [ho] at h
    simp only [pureOp] at h
    split at h
    · rename_i f hf
      obtain ⟨fs, hu, hfi⟩ := fieldOf_spec hf
      obtain ⟨fi, hfi'⟩ := hC.field t fs i f hu hfi
      cases hz : Nat.beq (P.cellsOf f.type) 0 with
      | true => simp [hz] at h
      | false =>
        have hz' : ¬ P.cellsOf f.type = 0 := fun e => by rw [e] at hz; simp at hz
        simp only [hz, cond_false] at h
        have hx := hρ x
        split at h
        · rename_i r off hx'
          rw [hx'] at hx
          simp at h; subst h
          generalize hv : ρ' x = xv at hx
          cases hx with
          | ptr _ _ b o' hm =>
          refine ⟨_, ?_, .ptr r _ b o' hm⟩
          simp only [execOp, ho, hv, Instr.fieldAt, Sem.run_bind, run_underlying hu, Result.andThen_ok, hfi, Instr.sureAddr, Sem.run_pure, fieldPlace, run_sizeOfA hfi', hz', if_false, add_addr, Nat.add_assoc]
        · rename_i cs hx'
          rw [hx'] at hx
          simp at h; subst h
          generalize hv : ρ' x = xv at hx
          cases hx with
          | iptr _ b o' g hb hc hval =>
          refine ⟨_, ?_, .iptr _ b (o' + f.offset) (fun j => g (f.offset + j)) hb (fun j hj => ?_) (fun j c hj => hval _ c (by simpa using hj))⟩
          · simp only [execOp, ho, hv, Instr.fieldAt, Sem.run_bind, run_underlying hu, Result.andThen_ok, hfi, Instr.sureAddr, Sem.run_pure, fieldPlace, run_sizeOfA hfi', hz', if_false, add_addr]
          · have := hc (f.offset + j) (by simp at hj; omega)
            rwa [Nat.add_assoc]
        · simp at h
    · simp at h
  | field t x i =>
    rw [ho] at h
    simp only [pureOp] at h
    split at h
    · rename_i f cs hf hx'
      obtain ⟨fs, hu, hfi⟩ := fieldOf_spec hf
      have hx := hρ x
      rw [hx'] at hx
      generalize hv : ρ' x = xv at hx
      cases hx with
      | agg _ vs hl hval =>
      obtain ⟨y, hy, hr⟩ := part_sound (P := P) (w := w) h hl hval
      exact ⟨y, by simp only [execOp, ho, hv, Instr.field, Sem.run_bind, run_underlying hu, Result.andThen_ok, hfi, asAgg, Sem.run_pure, hy], hr⟩
    · simp at h
  | indexAddr t x i =>
    rw [ho] at h
    obtain ⟨v', hv', hr⟩ := indexAddrA_sound hC h (hρ x) (hρ i)
    exact ⟨v', by simp only [execOp, ho, Sem.run_bind, hv', Result.andThen_ok, Sem.run_pure], hr⟩
  | index t x i =>
    rw [ho] at h
    obtain ⟨v', hv', hr⟩ := indexA_sound hC h (hρ x) (hρ i)
    exact ⟨v', by simp only [execOp, ho, Sem.run_bind, hv', Result.andThen_ok, Sem.run_pure], hr⟩
  | extract x i =>
    rw [ho] at h
    simp only [pureOp] at h
    split at h
    · rename_i vs hx'
      have hx := hρ x
      rw [hx'] at hx
      generalize hv : ρ' x = xv at hx
      cases hx with
      | tuple _ ws hl hval =>
      obtain ⟨hlt, _⟩ := List.getElem?_eq_some_iff.1 h
      have hlt' : i < ws.size := by omega
      refine ⟨ws[i], ?_, hval i v _ h (by simp [hlt'])⟩
      simp [execOp, ho, hv, Instr.extract, hlt']
    · simp at h
  | typeAssert x xt asserted ok =>
    rw [ho] at h
    simp only [pureOp] at h
    split at h
    · simp at h
    · rename_i d t u hnot hu hx'
      have hx := hρ x
      rw [hx'] at hx
      generalize hv : ρ' x = xv at hx
      cases hx with
      | iface _ _ u' hru =>
      cases ht : Nat.beq t asserted with
      | true =>
        have := Nat.eq_of_beq_eq_true ht
        subst this
        simp only [ht, cond_true, Option.some.injEq] at h; subst h
        refine ⟨if ok then .tuple #[u', .bool true] else u', ?_, ?_⟩
        · simp only [execOp, ho, hv, Instr.typeAssert, Sem.run_bind, run_underlying hu, Result.andThen_ok]
          cases d <;> first | exact (hnot _ rfl).elim | (cases ok <;> simp)
        · cases ok
          · exact hru
          · refine .tuple _ _ rfl (fun j x y hx hy => ?_)
            match j with
            | 0 => simp at hx hy; subst hx hy; exact hru
            | 1 => simp at hx hy; subst hx hy; exact .bool _
            | j + 2 => simp at hx
      | false =>
        have hne : ¬ t = asserted := fun e => by rw [e] at ht; simp at ht
        simp only [ht, cond_false] at h
        cases ok with
        | false => simp at h
        | true =>
          simp only [cond_true] at h
          obtain ⟨z, hz, rfl⟩ := Option.map_eq_some_iff.1 h
          obtain ⟨i, z', hi, hz', hzr, hrun⟩ := zeroA_sound (m := m) (fz := fz) (w := w) hz
          refine ⟨.tuple #[z', .bool false], ?_, ?_⟩
          · simp only [execOp, ho, hv, Instr.typeAssert, Sem.run_bind, run_underlying hu, Result.andThen_ok]
            cases d <;> first | exact (hnot _ rfl).elim | simp [hne, hrun]
          · refine .tuple _ _ rfl (fun j x y hx hy => ?_)
            match j with
            | 0 => simp at hx hy; subst hx hy; exact hzr
            | 1 => simp at hx hy; subst hx hy; exact .bool _
            | j + 2 => simp at hx
    · simp at h
  | call c =>
    rw [ho] at h
    obtain ⟨callee, args, ats⟩ := c
    cases callee with
    | builtin b =>
      simp only [pureOp] at h
      have hex := exec_builtin (ρ' := ρ') ho
      split at h
      · rename_i x t ha ht
        have ha' : args = #[x] := by cases args; simp_all
        have ht' : ats = #[t] := by cases ats; simp_all
        subst ha' ht'
        obtain ⟨v', hv', hr⟩ := lenA_sound (P := P) (ts := []) (ty := o.type) h (hρ x)
        refine ⟨v', ?_, hr⟩
        rw [hex]
        simp only [builtin, Sem.run_bind]
        have e : (#[x].map ρ') = #[ρ' x] := by simp
        rw [e, show (#[t] : Array TypeId) = ([t] : List TypeId).toArray from rfl, hv']
        simp
      · rename_i x r ha
        have ha' : args = (x :: r).toArray := by cases args; simp_all
        subst ha'
        obtain ⟨v', hv', hr⟩ := foldA_sound (P := P) minA_sound (r.map ρ) (r.map ρ') _ _ _ h (hρ x) ⟨by simp, fun j a b ha hb => by
          simp only [List.getElem?_map] at ha hb
          obtain ⟨q, hq, rfl⟩ := Option.map_eq_some_iff.1 ha
          rw [hq] at hb
          simp at hb; subst hb
          exact hρ q⟩
        refine ⟨v', ?_, hr⟩
        rw [hex]
        simp only [builtin, Sem.run_bind, Builtin.min_, List.map_toArray, List.map_cons, hv', Result.andThen_ok, Sem.run_pure]
      · rename_i x r ha
        have ha' : args = (x :: r).toArray := by cases args; simp_all
        subst ha'
        obtain ⟨v', hv', hr⟩ := foldA_sound (P := P) maxA_sound (r.map ρ) (r.map ρ') _ _ _ h (hρ x) ⟨by simp, fun j a b ha hb => by
          simp only [List.getElem?_map] at ha hb
          obtain ⟨q, hq, rfl⟩ := Option.map_eq_some_iff.1 ha
          rw [hq] at hb
          simp at hb; subst hb
          exact hρ q⟩
        refine ⟨v', ?_, hr⟩
        rw [hex]
        simp only [builtin, Sem.run_bind, Builtin.max_, List.map_toArray, List.map_cons, hv', Result.andThen_ok, Sem.run_pure]
      · simp at h
    | value f => simp [pureOp] at h
    | invoke r n => simp [pureOp] at h
  | alloc _ => rw [ho] at h; simp [pureOp] at h
  | box _ _ => rw [ho] at h; simp [pureOp] at h
  | buildSlice _ _ _ => rw [ho] at h; simp [pureOp] at h
  | insert _ _ _ _ => rw [ho] at h; simp [pureOp] at h
  | store _ _ _ => rw [ho] at h; simp [pureOp] at h
  | ready _ => rw [ho] at h; simp [pureOp] at h
  | waits _ => rw [ho] at h; simp [pureOp] at h
  | sliceToArrayPointer _ _ => rw [ho] at h; simp [pureOp] at h
  | makeMap _ _ => rw [ho] at h; simp [pureOp] at h
  | makeChan _ _ => rw [ho] at h; simp [pureOp] at h
  | makeSlice _ _ _ => rw [ho] at h; simp [pureOp] at h
  | lookup _ _ _ _ => rw [ho] at h; simp [pureOp] at h
  | mapUpdate _ _ _ _ => rw [ho] at h; simp [pureOp] at h
  | mapEntry _ _ _ => rw [ho] at h; simp [pureOp] at h
  | entryStore _ _ _ _ => rw [ho] at h; simp [pureOp] at h
  | range _ _ => rw [ho] at h; simp [pureOp] at h
  | next _ _ => rw [ho] at h; simp [pureOp] at h
  | entry _ => rw [ho] at h; simp [pureOp] at h
  | go _ => rw [ho] at h; simp [pureOp] at h
  | defer _ => rw [ho] at h; simp [pureOp] at h
  | panic _ => rw [ho] at h; simp [pureOp] at h
  | send _ _ => rw [ho] at h; simp [pureOp] at h
  | recv _ _ _ => rw [ho] at h; simp [pureOp] at h
  | select _ _ => rw [ho] at h; simp [pureOp] at h

end
end Go.Abs
