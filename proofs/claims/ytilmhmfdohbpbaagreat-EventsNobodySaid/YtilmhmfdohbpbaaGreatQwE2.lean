/- Part of the evaluator's core: see its own heading. -/
import Derived.Test.YtilmhmfdohbpbaaGreatQwE1
import Derived.Test.YtilmhmfdohbpbaaGreatQwD6
import Derived.RangeFuncLeaves
import Derived.TacticsIn
import Derived.OrdersIn
/-! One operation; a region in its order. -/
set_option linter.unusedVariables false
set_option linter.unusedSimpArgs false
namespace Go.Abs
open Go

/-- What is to be known of a program. -/
structure POk (P : Program) : Prop where
  child : ChildOk P
  mixed : P.follows .mixedOrders = true
  names : ∀ (f : Nat) fn, P.funcs[f]? = some fn → fn.body.isSome = true → (fn.name == "runtime.NumGoroutine") = false

abbrev FF (ro : Option Nat) : Fence := { Fence.wide with round := ro }

theorem callsIn_FF {P : Program} {ro : Option Nat} {n : Nat} {f : FuncId} {args : Array Value} {w : World} {R : Ending → World → Prop} (h : Calls P f args w R) : CallsIn (FF ro) n P f args w R := by
  have := (callsIn_wide (n := n)).2 h
  exact this

/-- What becomes of a step whose meaning is s. -/
def Upon (P : Program) (ro : Option Nat) (s : Sem Next) (w : World) (G : Value → World → Prop) : Prop :=
  ∃ nx w', s.run P w = .ok nx w' ∧ match nx with
    | .value v => G v w'
    | .skip => G undef w'
    | .enter f args => Calls P f args w' (fun e w'' => ∃ v, e = .returned v ∧ G v w'')
    | .round l f tmps asg body => ∀ n, RoundIn (FF ro) n P l f tmps asg body w' (fun e w'' => ∃ v, e = .returned v ∧ G v w'')
    | _ => False

theorem Upon.wpIn {P : Program} {ro : Option Nat} {o : Oper} {a : Act} {w : World} {G : Value → World → Prop} {K : Act → World → Prop} {Q : Exit → Act → World → Prop} {n : Nat}
    (hd : ∀ c, o.op ≠ .defer c) (h : Upon P ro (execOp a.eval o) w G) (hK : ∀ v w', G v w' → K (a.put o.dst v) w') : o.wpIn (FF ro) n P a w K Q := by
  refine ⟨fun _ _ => trivial, ?_⟩
  rw [Oper.semAt_eq _ _ _ hd]
  obtain ⟨nx, w', hr, h⟩ := h
  rw [hr]
  cases nx <;> simp only at h <;> try exact h.elim
  · exact hK _ _ h
  · exact hK _ _ h
  · refine ⟨fun h => by simp [Fence.wide] at h, (callsIn_FF h).mono fun e w'' ⟨v, he, hg⟩ => ?_⟩
    subst he
    exact hK _ _ hg
  · refine ⟨fun h => by simp [Fence.wide] at h, (h _).mono fun e w'' ⟨v, he, hg⟩ => ?_⟩
    subst he
    exact hK _ _ hg

/-- What one gets, and the world behind it. -/
def Keep (n : Nat) (m m' : Emb) : Prop := ∀ r, r < n → m' r = m r

theorem Keep.refl (n : Nat) (m : Emb) : Keep n m m := fun _ _ => rfl
theorem Keep.trans {n n' : Nat} {m m1 m2 : Emb} (h : Keep n m m1) (h' : Keep n' m1 m2) (hn : n ≤ n') : Keep n m m2 :=
  fun r hr => (h' r (Nat.lt_of_lt_of_le hr hn)).trans (h r hr)
theorem Keep.upd (m : Emb) (r : Nat) (p : Nat × Nat) : Keep r m (m.upd r p) := fun q h => by simp [Emb.upd, Nat.ne_of_lt h]

def Got (m : Emb) (fz pr : Nat → Prop) (w : World) (H : Heap) (v : AVal) (H' : Heap) (v' : Value) (w' : World) : Prop :=
  ∃ m' fz', WExt m fz pr w m' fz' w' ∧ Rel m' fz' pr H' w' ∧ VRel m' fz' w' v v' ∧ Keep H.next m m' ∧ Stays H H'

def CallOk (P : Program) (call : Cal) : Prop :=
  ∀ f args H v H', call f args H = some (v, H') → ∀ m fz pr w (args' : Array Value) ro, Rel m fz pr H w → VRels m fz w args args'.toList →
    Upon P ro (callFunc f args') w (Got m fz pr w H v H')

def YfOk (P : Program) (yf : Yf) : Prop :=
  ∀ r args H v H', yf r args H = some (v, H') → ∀ m fz pr w (args' : Array Value) b ro, Rel m fz pr H w → m r = some (b, 0) → VRels m fz w args args'.toList →
    Upon P ro (Instr.yield b args') w (Got m fz pr w H v H')

section
variable {P : Program} {m : Emb} {fz pr : Nat → Prop} {H H' : Heap} {w : World} {call : Cal} {yf : Yf} {ro : Option Nat}

theorem vrels_map {ρ : Operand → AVal} {ρ' : Operand → Value} (hρ : ∀ x, VRel m fz w (ρ x) (ρ' x)) (l : List Operand) : VRels m fz w (l.map ρ) (l.map ρ') := by
  refine ⟨by simp, fun j x y hx hy => ?_⟩
  simp only [List.getElem?_map, Option.map_eq_some_iff] at hx hy
  obtain ⟨a, ha, rfl⟩ := hx
  obtain ⟨b, hb, rfl⟩ := hy
  rw [ha] at hb
  cases hb
  exact hρ a

theorem VRels.cons {a : AVal} {b : List AVal} {a' : Value} {b' : List Value} (h : VRel m fz w a a') (h' : VRels m fz w b b') : VRels m fz w (a :: b) (a' :: b') := by
  refine ⟨by simp [h'.1], fun j x y hx hy => ?_⟩
  cases j with
  | zero => simp at hx hy; subst hx; subst hy; exact h
  | succ j => simp at hx hy; exact h'.2 j x y hx hy

theorem VRels.nil : VRels m fz w [] [] := ⟨rfl, fun j x y hx _ => by simp at hx⟩

theorem upon_bind {s : Sem Deferred} {d : Deferred} {k : Deferred → Sem Next} {G : Value → World → Prop} (h : s.run P w = .ok d w) (hk : Upon P ro (k d) w G) : Upon P ro (s >>= k) w G := by
  obtain ⟨nx, w', hr, h'⟩ := hk
  exact ⟨nx, w', by simp only [Sem.run_bind, h, Result.andThen_ok, hr], h'⟩

theorem callV_sound (hc : CallOk P call) (hy : YfOk P yf) {f : AVal} {f' : Value} {args : List AVal} {args' : Array Value} {v : AVal} (h : callV call yf f args H = some (v, H'))
    (hR : Rel m fz pr H w) (hf : VRel m fz w f f') (ha : VRels m fz w args args'.toList) :
    Upon P ro (do let d ← Deferred.ofValue f' args'; invoke d.target d.args) w (Got m fz pr w H v H') := by
  cases hf <;> simp only [callV] at h <;> try simp at h
  · rename_i fn first captured f' c' hfn h1 h2 hf hc'
    split at h
    · rename_i k _ _ heq
      cases heq
      have hall : VRels m fz w (first ++ (args ++ captured)) ((f' ++ args') ++ c').toList := by
        simp only [Array.toList_append, List.append_assoc]
        exact VRels.append ⟨by simpa using h1, fun j x y hx hy => hf j x y hx (by simpa using hy)⟩ (VRels.append ha ⟨by simpa using h2, fun j x y hx hy => hc' j x y hx (by simpa using hy)⟩)
      have hu := hc _ _ _ _ _ h m fz pr w _ ro hR hall
      simpa [Deferred.ofValue, invoke] using hu
    · rename_i heq; cases heq
    · simp at h
  · rename_i r b hb
    have hu := hy _ _ _ _ _ h m fz pr w args' b ro hR hb ha
    simpa [Deferred.ofValue, invoke] using hu

end
end Go.Abs
