/- Part of the evaluator's core: see its own heading. -/
import Derived.Test.YtilmhmfdohbpbaaGreatQwF3
import Derived.Test.YtilmhmfdohbpbaaGreatQwT
import Derived.ChangeSame
/-! From the evaluator to a statement: a call that is run with nothing known, and what stays as it was. -/
set_option linter.unusedVariables false
set_option linter.unusedSimpArgs false
namespace Go.Abs
open Go Go.WideShapes Go.ChangeShapes

theorem pOk {P : Program} (h1 : partsKnown P = true) (h2 : P.follows .mixedOrders = true) (h3 : (P.funcs.toList.all fun fn => !(fn.name == "runtime.NumGoroutine")) = true) : POk P where
  child := childOk h1
  mixed := h2
  names := fun f fn hf _ => by
    have hm : fn ∈ P.funcs.toList := by simpa using Array.mem_of_getElem? hf
    simpa using List.all_eq_true.1 h3 fn hm

/-- A heap of which nothing is known. -/
def H00 : Heap := { rows := .nil, next := 0, lock := 0 }

theorem rel00 (W : World) : Rel (fun _ => none) (fun _ => False) (fun b => b < W.heap.size) H00 W :=
  ⟨fun _ _ => rfl, fun _ _ _ h => by simp at h, fun r x h => by simp [H00, Heap.get] at h, fun r r' x x' b o o' h => by simp [H00, Heap.get] at h, fun _ h => h.elim, fun _ h => h, fun _ h => h.elim⟩

section
variable {m m' : Emb} {fz fz' : Nat → Prop} {W W' : World}

theorem kept_of (hx : WExt m fz (fun b => b < W.heap.size) W m' fz' W') (may : MemPlace → Prop) : W.keptBut W' may := by
  refine ⟨hx.still.1, hx.still.2, fun i hi => ?_⟩
  rw [hx.keepp i hi]
  cases hw : W.heap[i]? with
  | none => rfl
  | some o => cases o <;> first | exact ⟨rfl, rfl, rfl, fun _ _ => rfl⟩ | exact .inr ⟨rfl, rfl⟩ | rfl

theorem frozen_of (hx : WExt m fz (fun b => b < W.heap.size) W m' fz' W') (a : Addr) (ha : a.block < W.heap.size) : W'.frozen? a = W.frozen? a := by
  have := hx.keepp a.block ha
  unfold World.frozen?
  rw [this]

end

def isT : Option (AVal × Heap) → Bool
  | some (.bool true, _) => true
  | _ => false

/-- What is asked of a world behind a call that changes nothing. -/
def Kept (W W' : World) : Prop := (∀ may, W.keptBut W' may) ∧ (∀ a : Addr, a.block < W.heap.size → W'.frozen? a = W.frozen? a) ∧ W.heap.size ≤ W'.heap.size ∧ ∀ b, b < W.heap.size → W'.heap[b]? = W.heap[b]?

theorem isT_calls {P : Program} (hP : POk P) {O : Orc} (hO : OrcOk P O) {n : Nat} {f : FuncId} {args : List AVal} {args' : Array Value} {H : Heap} {m : Emb} {fz : Nat → Prop} {W : World} (hb : hasBody P f = true)
    (h : isT ((run P O n).1 f args H) = true) (hR : Rel m fz (fun b => b < W.heap.size) H W) (ha : VRels m fz W args args'.toList) :
    Calls P f args' W (fun e W' => e = .returned (.bool true) ∧ Kept W W') := by
  cases hr : (run P O n).1 f args H with
  | none => rw [hr] at h; simp [isT] at h
  | some r =>
    obtain ⟨v, H'⟩ := r
    rw [hr] at h
    have hv : v = .bool true := by
      unfold isT at h
      split at h
      · rename_i heq; cases heq; rfl
      · simp at h
    subst hv
    refine (run_calls hP hO hb hr hR ha).mono fun e W' ⟨v', he, m', fz', hx, _, hv', _, _⟩ => ?_
    subst he
    have : v' = .bool true := by cases hv'; rfl
    subst this
    exact ⟨rfl, fun may => kept_of hx may, fun a ha => frozen_of hx a ha, hx.size, hx.keepp⟩

theorem noOrc {P : Program} : OrcOk P (fun _ => none) := fun f g args H v H' h => by simp at h

/-- 'post_of_same', asking of frozen cells only where something was before. -/
theorem post_of_kept {H : Type} {enc : TypeId × Value → H} {P : Program} {f : Func} {s : ChangeSpec} {apart fresh handsOn again : Bool} {W W' : World} {args : Array Value} {v : Value} {ds gs : List (DataW H)} {before pa pv : List MemPlace}
    (hW : DataW.Whole enc P f.params.toList s.vars apart W args.toList ds gs before)
    (hres : ∀ (b : Nat) (sp : Nat → Bool) (hd : Bool), DataW.TrodAll enc P W' b sp hd f.resultTypes.toList (v.resultList f.resultTypes.size) (s.fn H (ds ++ gs)).results [])
    (hargs : ∀ sp : Nat → Bool, (∀ p ∈ before, sp p.block = true) → DataW.TrodAll enc P W' 0 sp true f.params.toList args.toList (s.fn H (ds ++ gs)).args pa)
    (hvars : ∀ sp : Nat → Bool, (∀ p ∈ before, sp p.block = true) → DataW.TrodVars enc P W' sp s.vars (s.fn H (ds ++ gs)).vars pv)
    (hps : before = pa ++ pv) (hk : Kept W W')
    (hok : ∀ (j : Nat) (t : TypeId) (r : Value), f.resultTypes[j]? = some t → (v.resultList f.resultTypes.size)[j]? = some r → Value.okWide P W' .any 0 t r) :
    s.post enc P f apart fresh handsOn again W args v W' := by
  have hold : ∀ p ∈ before, (fun b => decide (b < W.heap.size)) p.block = true := fun p hp => by simpa using hW.lt p hp
  refine ⟨ds, gs, before, [], pa, pv, hW, hres _ _ _, hargs _ hold, hvars _ hold, hk.1 _, fun _ => ?_⟩
  have hlt := fun p hp => hW.lt p hp
  obtain ⟨_, _, _, _, _, hz, hn⟩ := hW
  refine ⟨hok, _, _, ([] ++ pa) ++ pv, ⟨[] ++ pa, pv, trodAll_append (hargs _ (fun _ _ => rfl)) (hres _ _ _), hvars _ (fun _ _ => rfl), rfl, ?_, ?_⟩, ?_⟩
  · intro b off hp
    have hp' : MemPlace.cell b off ∈ before := by rw [hps]; simpa using hp
    rw [hk.2.1 _ (hlt _ hp')]
    exact hz b off hp'
  · intro ha
    have := hn ha
    rw [hps] at this
    simpa using this
  · intro p hp _
    rw [hps]
    simpa using hp

end Go.Abs
