/- Part of the evaluator's core: see its own heading. -/
import Derived.Test.YtilmhmfdohbpbaaGreatQwE2
import Derived.ChangeKeysEq
/-! Calls, the step of an operation, and a region in its order, are sound. -/
set_option linter.unusedVariables false
set_option linter.unusedSimpArgs false
namespace Go.Abs
open Go

section
variable {P : Program} {m : Emb} {fz pr : Nat → Prop} {H H' : Heap} {w : World} {call : Cal} {yf : Yf} {ro : Option Nat}

theorem method_sound {name : String} {x v : AVal} {x' : Value} {f : FuncId} (h : methodA P name x = some (f, v)) (hx : VRel m fz w x x') (args : Array Value) :
    ∃ v', VRel m fz w v v' ∧ ∀ w0, (callMethod x' name args).run P w0 = (callFunc f (#[v'] ++ args)).run P w0 := by
  cases hx <;> simp only [methodA] at h <;> try simp at h
  rename_i t u u' hu
  split at h
  · rename_i mm hm
    cases hp : mm.path.isEmpty with
    | false => rw [hp] at h; simp at h
    | true =>
      rw [hp] at h
      simp only [cond_true] at h
      simp only [Option.bind_eq_some_iff] at hm
      obtain ⟨i, hi, hfind⟩ := hm
      have hpath : mm.path.toList = [] := by simpa using hp
      obtain ⟨d, hd⟩ : ∃ d, P.types.size + Made.depth = d + 1 := ⟨P.types.size + (Made.depth - 1), by simp [Made.depth]⟩
      have key : u = v ∧ ∀ w0, (method (P.types.size + Made.depth) t u' name).run P w0 = .ok (f, u') w0 := by
        rw [hd]
        unfold method
        split at h <;> simp at h <;> obtain ⟨rfl, rfl⟩ := h <;> rename_i hmf hun <;> refine ⟨rfl, fun w0 => ?_⟩ <;>
          simp only [Sem.run_bind, run_typeInfo (P := P) (w := w0) hi, Result.andThen_ok, hfind, hpath, follow, Sem.run_pure, hmf, receiverAt, run_underlying hun, Place.get]
      obtain ⟨rfl, key⟩ := key
      refine ⟨u', hu, fun w0 => ?_⟩
      simp only [callMethod, Sem.run_bind, run_program, Result.andThen_ok, key]
  · simp at h


theorem callA_sound (hc : CallOk P call) (hy : YfOk P yf) {ρ : Operand → AVal} {ρ' : Operand → Value} {c : Call} {t : TypeId} {v : AVal} (h : callA P call yf ρ c H = some (v, H'))
    (hR : Rel m fz pr H w) (hρ : ∀ x, VRel m fz w (ρ x) (ρ' x)) :
    Upon P ro (do let d ← resolve ρ' c t; invoke d.target d.args) w (Got m fz pr w H v H') := by
  have hargs : VRels m fz w (c.args.toList.map ρ) (c.args.map ρ').toList := by simpa using vrels_map hρ c.args.toList
  unfold callA at h
  split at h
  · rename_i f hcal
    have := callV_sound hc hy h hR (hρ f) hargs (ro := ro)
    simpa only [resolve, hcal] using this
  · rename_i r name hcal
    split at h
    · rename_i f v0 hm
      obtain ⟨v', hv, hrun⟩ := method_sound hm (hρ r) (c.args.map ρ')
      have hu := hc _ _ _ _ _ h m fz pr w (#[v'] ++ c.args.map ρ') ro hR (by
        have e : (#[v'] ++ c.args.map ρ').toList = v' :: (c.args.map ρ').toList := by simp
        rw [e]
        exact VRels.cons hv hargs)
      obtain ⟨nx, w', hr, h'⟩ := hu
      refine ⟨nx, w', ?_, h'⟩
      have e1 : (#[ρ' r] ++ c.args.map ρ')[0]? = some (ρ' r) := by rw [Array.getElem?_append_left (by simp)]; rfl
      have e2 : (#[ρ' r] ++ c.args.map ρ').extract 1 (#[ρ' r] ++ c.args.map ρ').size = c.args.map ρ' := by
        apply Array.ext'
        simp [List.take_of_length_le]
      simp only [resolve, hcal, Sem.run_bind, Sem.run_pure, Result.andThen_ok, invoke, e1, e2, hrun, hr]
    · simp at h
  · simp at h

theorem effOp_upon {ρ : Operand → AVal} {ρ' : Operand → Value} {o : Oper} {v : AVal} (hC : ChildOk P) (hR : Rel m fz pr H w) (h : effOp P H ρ o.op = some (v, H'))
    (hρ : ∀ x, VRel m fz w (ρ x) (ρ' x)) : Upon P ro (execOp ρ' o) w (Got m fz pr w H v H') := by
  obtain ⟨⟨v', w', m', hr, hx, hR', hv, hk⟩, hs⟩ := effOp_sound hC hR h hρ
  rcases hr with hr | ⟨hr, rfl⟩
  · exact ⟨.value v', w', hr, m', fz, hx, hR', hv, hk, hs⟩
  · exact ⟨.skip, w', hr, m', fz, hx, hR', hv, hk, hs⟩

theorem chainOp_sound (hC : ChildOk P) (hc : CallOk P call) (hy : YfOk P yf) {ρ : Operand → AVal} {ρ' : Operand → Value} {o : Oper} {v : AVal} (h : chainOp P call yf H ρ o.op = some (v, H'))
    (hR : Rel m fz pr H w) (hρ : ∀ x, VRel m fz w (ρ x) (ρ' x)) : Upon P ro (execOp ρ' o) w (Got m fz pr w H v H') := by
  unfold chainOp at h
  split at h
  · rename_i c hop
    split at h
    · exact effOp_upon hC hR h hρ
    · have := callA_sound hc hy h hR hρ (ro := ro) (t := o.type)
      simpa only [execOp, hop] using this
  · exact effOp_upon hC hR h hρ

theorem pureOp_upon {ρ : Operand → AVal} {ρ' : Operand → Value} {o : Oper} {v : AVal} (hC : ChildOk P) (hR : Rel m fz pr H w) (h : pureOp P H ρ o.op = some v)
    (hρ : ∀ x, VRel m fz w (ρ x) (ρ' x)) : Upon P ro (execOp ρ' o) w (fun v' w' => w' = w ∧ VRel m fz w v v') := by
  obtain ⟨v', hr, hv⟩ := pureOp_sound hC hR h hρ
  exact ⟨.value v', w, hr, rfl, hv⟩

theorem opStep_nodefer {T : Tmps} {op : Op} {v : AVal} (h : opStep P call yf T H op = some (v, H')) : ∀ c, op ≠ .defer c := by
  rintro c rfl
  simp [opStep, pureOp, allocOp, chainOp, effOp] at h

theorem Upon.mono {s : Sem Next} {G G' : Value → World → Prop} (h : Upon P ro s w G) (hg : ∀ v w', G v w' → G' v w') : Upon P ro s w G' := by
  obtain ⟨nx, w', hr, h⟩ := h
  refine ⟨nx, w', hr, ?_⟩
  cases nx <;> simp only at h ⊢ <;> try exact h
  · exact hg _ _ h
  · exact hg _ _ h
  · exact h.mono fun e w'' ⟨v, he, hv⟩ => ⟨v, he, hg _ _ hv⟩
  · exact fun n => (h n).mono fun e w'' ⟨v, he, hv⟩ => ⟨v, he, hg _ _ hv⟩

theorem opStep_sound (hC : ChildOk P) (hc : CallOk P call) (hy : YfOk P yf) {T : Tmps} {a : Act} {o : Oper} {v : AVal} (h : opStep P call yf T H o.op = some (v, H'))
    (hR : Rel m fz pr H w) (hT : TRel m fz w T a.tmps) : Upon P ro (execOp a.eval o) w (Got m fz pr w H v H') := by
  have hρ := fun x => evalA_rel hT (a := a) x
  unfold opStep at h
  split at h
  · rename_i v0 hp
    simp only [Option.some.injEq, Prod.mk.injEq] at h
    obtain ⟨rfl, rfl⟩ := h
    exact (pureOp_upon hC hR hp hρ).mono fun v' w' ⟨e, hv⟩ => by subst e; exact ⟨m, fz, WExt.refl _ _ _ _, hR, hv, Keep.refl _ _, Stays.refl _⟩
  · split at h
    · rename_i obj f hal
      simp only [Option.some.injEq, Prod.mk.injEq] at h
      obtain ⟨rfl, rfl⟩ := h
      obtain ⟨v', w', hr, hn, hm⟩ := allocOp_sound hC hal hρ
      obtain ⟨hx, hR', hv⟩ := push_new hR hn hm
      exact ⟨.value v', w', hr, _, fz, hx, hR', hv, Keep.upd _ _ _, Stays.push _ _⟩
    · exact chainOp_sound hC hc hy h hR hρ

/-! ## Frames -/

def DRel (m : Emb) : List Nat → List Deferred → Prop
  | [], [] => True
  | r :: rs, d :: ds => (∃ b, m r = some (b, 0) ∧ d.target = .collected b) ∧ DRel m rs ds
  | _, _ => False

theorem DRel.ext {m m' : Emb} (hm : ∀ r p, m r = some p → m' r = some p) : ∀ {D : List Nat} {ds : List Deferred}, DRel m D ds → DRel m' D ds
  | [], [], _ => trivial
  | _ :: _, _ :: _, ⟨⟨b, hb, ht⟩, h⟩ => ⟨⟨b, hm _ _ hb, ht⟩, DRel.ext hm h⟩

structure FRel (m : Emb) (fz : Nat → Prop) (w : World) (S : FS) (a : Act) : Prop where
  tmps : TRel m fz w S.T a.tmps
  size : a.tmps.size = S.nt
  defers : DRel m S.D a.defers

theorem FRel.ext {m' : Emb} {fz' : Nat → Prop} {w' : World} {S : FS} {a : Act} (hx : WExt m fz pr w m' fz' w') (h : FRel m fz w S a) : FRel m' fz' w' S a :=
  ⟨h.tmps.ext hx, h.size, h.defers.ext hx.mm⟩

theorem TRel.set {T : Tmps} {tmps : Array Value} {d : Nat} {v : AVal} {v' : Value} (h : TRel m fz w T tmps) (hd : d < tmps.size) (hv : VRel m fz w v v') :
    TRel m fz w (T.set d v) (tmps.setIfInBounds d v') := by
  intro t
  rw [Tr.get_set]
  by_cases ht : t = d
  · subst ht
    simp only [if_true, Option.getD_some]
    have : (tmps.setIfInBounds t v').getD t undef = v' := by simp [Array.getD, hd]
    rw [this]; exact hv
  · simp only [ht, if_false]
    have : (tmps.setIfInBounds d v').getD t undef = tmps.getD t undef := by
      simp only [Array.getD_eq_getD_getElem?]
      rw [Array.getElem?_setIfInBounds_ne (Ne.symm ht)]
    rw [this]; exact h t

theorem FRel.put {S S' : FS} {a : Act} {dst : Option Tmp} {v : AVal} {v' : Value} (h : FRel m fz w S a) (hp : S.put dst v = some S') (hv : VRel m fz w v v') : FRel m fz w S' (a.put dst v') := by
  cases dst with
  | none => simp [FS.put] at hp; subst hp; exact h
  | some d =>
    simp only [FS.put] at hp
    cases hb : Nat.blt d S.nt with
    | false => simp [hb] at hp
    | true =>
      simp [hb] at hp
      subst hp
      have hd : d < a.tmps.size := by rw [h.size]; simpa [Nat.blt_eq] using hb
      exact ⟨h.tmps.set hd hv, by simp [Act.put, h.size], h.defers⟩

theorem wantedA_sound {ops : Array Oper} {T : Tmps} {tmps : Array Value} {o : Oper} {b : Bool} (h : wantedA ops T o = some b)
    (hT : TRel m fz w T tmps) : Region.wanted o (yielded ops tmps) = b := by
  unfold wantedA at h
  unfold Region.wanted
  split at h
  · rename_i hg; simp only [hg]; simpa using h
  · rename_i j want hg
    simp only [hg]
    split at h
    · simp at h
    · rename_i d hd
      have ht := hT d
      split at h
      · rename_i bb hb
        rw [hb] at ht
        simp only [Option.getD_some] at ht
        have hy : yielded ops tmps j = some bb := by
          unfold yielded
          rw [hd]
          simp only [Option.bind_some]
          have hget : tmps.getD d undef = .bool bb := (show ∀ u, VRel m fz w (.bool bb) u → u = .bool bb from fun u h => by cases h; rfl) _ ht
          rw [Array.getD_eq_getD_getElem?] at hget
          cases hq : tmps[d]? with
          | none => rw [hq] at hget; cases hget
          | some u => rw [hq] at hget; simp only [Option.getD_some] at hget; subst hget; rfl
        rw [hy]
        simp only [Option.some.injEq] at h
        subst h
        cases bb <;> cases want <;> rfl
      · rename_i hb
        rw [hb] at ht
        simp only [Option.getD_some] at ht
        simp only [Option.some.injEq] at h
        subst h
        have hget : ∃ vs, tmps.getD d undef = .tuple vs := (show ∀ u, VRel m fz w (.tuple []) u → ∃ vs, u = .tuple vs from fun u h => by cases h; exact ⟨_, rfl⟩) _ ht
        obtain ⟨vs, hget⟩ := hget
        have hy : yielded ops tmps j = none := by
          unfold yielded
          rw [hd]
          simp only [Option.bind_some]
          rw [Array.getD_eq_getD_getElem?] at hget
          cases hq : tmps[d]? with
          | none => rfl
          | some u => rw [hq] at hget; simp only [Option.getD_some] at hget; subst hget; rfl
        rw [hy]; simp
      · simp at h

theorem vrel_undef : VRel m fz w (.tuple []) undef := .tuple [] #[] rfl (fun j x y hx _ => by simp at hx)

theorem plain_sound (hC : ChildOk P) (hc : CallOk P call) (hy : YfOk P yf) {ops : Array Oper} {n : Nat} {Q : Exit → Act → World → Prop} : ∀ (l : List Oper) (S S' : FS) (H H' : Heap) (m : Emb) (fz : Nat → Prop) (w : World) (a : Act),
    plain P call yf ops l S H = some (S', H') → Rel m fz pr H w → FRel m fz w S a →
    (∀ a' w' m' fz', WExt m fz pr w m' fz' w' → Rel m' fz' pr H' w' → FRel m' fz' w' S' a' → Keep H.next m m' → Stays H H' → Q .normal a' w') → wpListIn (FF ro) n P ops Q l a w := by
  intro l
  induction l with
  | nil =>
    intro S S' H H' m fz w a h hR hF hQ
    simp only [plain, Option.some.injEq, Prod.mk.injEq] at h
    obtain ⟨rfl, rfl⟩ := h
    exact hQ a w m fz (WExt.refl _ _ _ _) hR hF (Keep.refl _ _) (Stays.refl _)
  | cons o l ih =>
    intro S S' H H' m fz w a h hR hF hQ
    simp only [plain] at h
    split at h
    · simp at h
    · rename_i hw
      have hw' := wantedA_sound hw hF.tmps
      split at h
      · rename_i S1 hp
        simp only [wpListIn, hw']
        refine ⟨fun _ _ => trivial, ih S1 S' H H' m fz w _ h hR (hF.put hp vrel_undef) hQ⟩
      · simp at h
    · rename_i hw
      have hw' := wantedA_sound hw hF.tmps
      split at h
      · rename_i v H1 hstep
        split at h
        · rename_i S1 hp
          have hu := opStep_sound hC hc hy hstep hR hF.tmps (ro := ro) (a := a)
          simp only [wpListIn, hw', if_true]
          refine hu.wpIn (opStep_nodefer hstep) fun v' w' ⟨m', fz', hx, hR', hv, hk, hs⟩ => ?_
          exact ih S1 S' H1 H' m' fz' w' _ h hR' ((hF.ext hx).put hp hv) fun a' w'' m'' fz'' hx' hR'' hF' hk' hs' => hQ a' w'' m'' fz'' (hx.trans hx') hR'' hF' (hk.trans hk' hs.next) (hs.trans hs')
        · simp at h
      · simp at h

end
end Go.Abs
