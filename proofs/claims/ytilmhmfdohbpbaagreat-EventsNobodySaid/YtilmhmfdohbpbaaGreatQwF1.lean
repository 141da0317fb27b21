/- Part of the evaluator's core: see its own heading. -/
import Derived.Test.YtilmhmfdohbpbaaGreatQwE9
/-! Code is sound, in and out of rounds. -/
set_option linter.unusedVariables false
set_option linter.unusedSimpArgs false
namespace Go.Abs
open Go

section
variable {P : Program} {m : Emb} {fz pr : Nat → Prop} {H : Heap} {w : World}

theorem obj_ext {b : Nat} {o o' : Obj} (hb : w.heap[b]? = some o) (hcell : ∀ off, w.cell? ⟨b, off, none⟩ = none) (hnf : ¬ fz b) (hnp : ¬ pr b) :
    WExt m fz pr w m fz { w with heap := w.heap.setIfInBounds b o' } := by
  have hother : ∀ b', b' ≠ b → ({ w with heap := w.heap.setIfInBounds b o' } : World).heap[b']? = w.heap[b']? := fun b' h => by
    show (w.heap.setIfInBounds b _)[b']? = _
    rw [Array.getElem?_setIfInBounds_ne (Ne.symm h)]
  refine ⟨fun _ _ h => h, fun _ h => h, fun b' h => hother b' (fun e => hnf (e ▸ h)), fun b' h => hother b' (fun e => hnp (e ▸ h)), fun b' off _ hok => ?_, by simp, rfl, rfl⟩
  by_cases h : b' = b
  · subst h
    obtain ⟨⟨v, hv⟩, _⟩ := hok
    rw [hcell] at hv; simp at hv
  · exact ⟨by rw [cell?_of_heap (hother b' h)]; exact hok.1, by rw [frozen?_of_heap (hother b' h)]; exact hok.2⟩

/-- An object that is no row is written over. -/
theorem obj_set {r b : Nat} {o o' : Obj} {x x' : AObj} (hR : Rel m fz pr H w) (hg : H.get r = some x) (hm : m r = some (b, 0)) (hb : w.heap[b]? = some o) (hcell : ∀ off, w.cell? ⟨b, off, none⟩ = none)
    (ho : ORel m fz { w with heap := w.heap.setIfInBounds b o' } b 0 x') :
    WExt m fz pr w m fz { w with heap := w.heap.setIfInBounds b o' } ∧ Rel m fz pr (H.set r x') { w with heap := w.heap.setIfInBounds b o' } := by
  obtain ⟨b', o2, hm', hnf, hnp, _⟩ := hR.rows r _ hg
  rw [hm] at hm'
  simp at hm'
  obtain ⟨rfl, rfl⟩ := hm'
  have hx := obj_ext (m := m) (o' := o') hb hcell hnf hnp
  have hother : ∀ b', b' ≠ b → ({ w with heap := w.heap.setIfInBounds b o' } : World).heap[b']? = w.heap[b']? := fun b' h => by
    show (w.heap.setIfInBounds b _)[b']? = _
    rw [Array.getElem?_setIfInBounds_ne (Ne.symm h)]
  refine ⟨hx, hR.fresh, fun r' b' o' h => by simpa using hR.below r' b' o' h, fun r' y hy => ?_, fun r1 r2 x1 x2 b' o1 o2 hx1 hx2 hm1 hm2 => ?_, fun b' h => by simpa using hR.fzlt b' h, fun b' h => by simpa using hR.prlt b' h, hR.disj⟩
  · rw [Heap.get_set] at hy
    by_cases hr : r' = r
    · subst hr
      rw [if_pos rfl] at hy
      simp at hy; subst hy
      exact ⟨b, 0, hm, hnf, hnp, ho⟩
    · rw [if_neg hr] at hy
      obtain ⟨b', o', hm', h1, h2, h3⟩ := hR.rows r' y hy
      exact ⟨b', o', hm', h1, h2, h3.ext hx (hother b' (fun e => hr (by subst e; exact hR.apart r' r _ _ _ _ _ hy hg hm' hm)))⟩
  · have g : ∀ q y, (H.set r x').get q = some y → ∃ z, H.get q = some z := by
      intro q y hq
      rw [Heap.get_set] at hq
      by_cases hqr : q = r
      · subst hqr; exact ⟨_, hg⟩
      · rw [if_neg hqr] at hq; exact ⟨_, hq⟩
    obtain ⟨y1, g1⟩ := g _ _ hx1
    obtain ⟨y2, g2⟩ := g _ _ hx2
    exact hR.apart r1 r2 y1 y2 b' o1 o2 g1 g2 hm1 hm2

/-- An object that is no row is written over, and forgotten. -/
theorem obj_del {r b : Nat} {o o' : Obj} {x : AObj} (hR : Rel m fz pr H w) (hg : H.get r = some x) (hm : m r = some (b, 0)) (hb : w.heap[b]? = some o) (hcell : ∀ off, w.cell? ⟨b, off, none⟩ = none) :
    WExt m fz pr w m fz { w with heap := w.heap.setIfInBounds b o' } ∧ Rel m fz pr (H.del r) { w with heap := w.heap.setIfInBounds b o' } := by
  obtain ⟨b', o2, hm', hnf, hnp, _⟩ := hR.rows r _ hg
  rw [hm] at hm'
  simp at hm'
  obtain ⟨rfl, rfl⟩ := hm'
  have hx := obj_ext (m := m) (o' := o') hb hcell hnf hnp
  have hother : ∀ b', b' ≠ b → ({ w with heap := w.heap.setIfInBounds b o' } : World).heap[b']? = w.heap[b']? := fun b' h => by
    show (w.heap.setIfInBounds b _)[b']? = _
    rw [Array.getElem?_setIfInBounds_ne (Ne.symm h)]
  refine ⟨hx, hR.fresh, fun r' b' o' h => by simpa using hR.below r' b' o' h, fun r' y hy => ?_, fun r1 r2 x1 x2 b' o1 o2 hx1 hx2 hm1 hm2 => ?_, fun b' h => by simpa using hR.fzlt b' h, fun b' h => by simpa using hR.prlt b' h, hR.disj⟩
  · rw [Heap.get_del] at hy
    by_cases hr : r' = r
    · simp [hr] at hy
    · rw [if_neg hr] at hy
      obtain ⟨b', o', hm', h1, h2, h3⟩ := hR.rows r' y hy
      exact ⟨b', o', hm', h1, h2, h3.ext hx (hother b' (fun e => hr (by subst e; exact hR.apart r' r _ _ _ _ _ hy hg hm' hm)))⟩
  · rw [Heap.get_del] at hx1 hx2
    by_cases h1 : r1 = r
    · simp [h1] at hx1
    · by_cases h2 : r2 = r
      · simp [h2] at hx2
      · rw [if_neg h1] at hx1
        rw [if_neg h2] at hx2
        exact hR.apart r1 r2 x1 x2 b' o1 o2 hx1 hx2 hm1 hm2

theorem cell_loop {b : Nat} {l : Loop} (hb : w.heap[b]? = some (.loop l)) : ∀ off, w.cell? ⟨b, off, none⟩ = none := fun off => by unfold World.cell?; simp [hb]
theorem cell_dfr {b : Nat} {d : Option (List Deferred)} (hb : w.heap[b]? = some (.deferred d)) : ∀ off, w.cell? ⟨b, off, none⟩ = none := fun off => by unfold World.cell?; simp [hb]

/-- A loop's record. -/
theorem loop_at {r b : Nat} {st : LoopState} {pend : Option Code} {T : Tmps} {nt : Nat} {ps : Array Tmp} {asg body : Code} (hR : Rel m fz pr H w) (hg : H.get r = some (.loop st pend T nt ps asg body)) (hm : m r = some (b, 0)) :
    ∃ l : Loop, w.heap[b]? = some (.loop l) ∧ l.state = st ∧ l.pending = pend ∧ TRel m fz w T l.tmps ∧ l.tmps.size = nt ∧ l.params = ps ∧ l.assign = asg ∧ l.body = body := by
  obtain ⟨b', o2, hm', _, _, ho, h⟩ := hR.rows r _ hg
  rw [hm] at hm'
  simp at hm'
  obtain ⟨rfl, rfl⟩ := hm'
  exact h

theorem loop_set {r b : Nat} {x : AObj} {l l' : Loop} {T : Tmps} {nt : Nat} (hR : Rel m fz pr H w) (hg : H.get r = some x) (hm : m r = some (b, 0)) (hb : w.heap[b]? = some (.loop l))
    (hT : TRel m fz w T l'.tmps) (hs : l'.tmps.size = nt) :
    WExt m fz pr w m fz { w with heap := w.heap.setIfInBounds b (.loop l') } ∧ Rel m fz pr (H.set r (.loop l'.state l'.pending T nt l'.params l'.assign l'.body)) { w with heap := w.heap.setIfInBounds b (.loop l') } := by
  have hlt : b < w.heap.size := (Array.getElem?_eq_some_iff.1 hb).1
  obtain ⟨b', o2, hm', hnf, hnp, _⟩ := hR.rows r _ hg
  rw [hm] at hm'
  simp at hm'
  obtain ⟨rfl, rfl⟩ := hm'
  have hx := obj_ext (m := m) (o' := .loop l') hb (cell_loop hb) hnf hnp
  exact obj_set hR hg hm hb (cell_loop hb) ⟨rfl, l', by simp [hlt], rfl, rfl, hT.ext hx, hs, rfl, rfl, rfl⟩

def Ex.to : Ex → Exit
  | .normal => .normal
  | .exit id => .exit id
  | .ret => .ret

/-- What is known of the state that code leaves. -/
def Left (m : Emb) (fz pr : Nat → Prop) (w : World) (H : Heap) (S' : FS) (H' : Heap) (Q : Act → World → Prop) : Prop :=
  ∀ a' w' m' fz', WExt m fz pr w m' fz' w' → Rel m' fz' pr H' w' → FRel m' fz' w' S' a' → Keep H.next m m' → Stays H H' → Q a' w'

theorem Left.step {m1 : Emb} {fz1 : Nat → Prop} {w1 : World} {H1 : Heap} {S' : FS} {H' : Heap} {Q : Act → World → Prop} (h : Left m fz pr w H S' H' Q) (hx : WExt m fz pr w m1 fz1 w1) (hk : Keep H.next m m1) (hs : Stays H H1) :
    Left m1 fz1 pr w1 H1 S' H' Q :=
  fun a' w' m' fz' hx' hR hF hk' hs' => h a' w' m' fz' (hx.trans hx') hR hF (hk.trans hk' hs.next) (hs.trans hs')

variable {call : Cal} {yf : Yf} {ro : Option Nat}

theorem callFunc_enter (hP : POk P) {k : FuncId} (hb : hasBody P k = true) (args : Array Value) (w : World) : (callFunc k args).run P w = .ok (.enter k args) w := by
  unfold hasBody at hb
  cases hf : P.funcs[k]? with
  | none => simp [hf] at hb
  | some fn =>
    simp only [hf] at hb
    have hn := hP.names k fn hf hb
    have hnn : ¬ fn.name = "runtime.NumGoroutine" := by simpa using hn
    have hbb : ¬ fn.body = none := by cases h : fn.body <;> simp_all
    simp [callFunc, hf, hnn, hbb]

theorem iter_sound (hP : POk P) (hcall : CallOk P call) {f : AVal} {f' : Value} {l b : Nat} {H' : Heap} {v : AVal} (h : iterA P call f l H = some (v, H')) (hR : Rel m fz pr H w) (hf : VRel m fz w f f') (hl : m l = some (b, 0)) :
    ∃ d k args, (Deferred.ofValue f' #[Value.func (.yield b) #[] #[]]).run P w = .ok d w ∧ (invoke d.target d.args).run P w = .ok (.enter k args) w ∧
      Calls P k args w (fun e w' => ∃ v', e = .returned v' ∧ Got m fz pr w H v H' v' w') := by
  cases hf <;> simp only [iterA] at h <;> try simp at h
  rename_i fn first captured f' c' hfn h1 h2 hf hc'
  split at h
  · rename_i k _ _ heq
    cases heq
    cases hb : hasBody P k with
    | false => simp [hb] at h
    | true =>
      simp only [hb, cond_true] at h
      have hall : VRels m fz w (first ++ ([.yield l] ++ captured)) ((f' ++ #[Value.func (.yield b) #[] #[]]) ++ c').toList := by
        simp only [Array.toList_append, List.append_assoc]
        exact VRels.append ⟨by simpa using h1, fun j x y hx hy => hf j x y hx (by simpa using hy)⟩
          (VRels.append (VRels.cons (.yield l b hl) VRels.nil) ⟨by simpa using h2, fun j x y hx hy => hc' j x y hx (by simpa using hy)⟩)
      obtain ⟨nx, w', hr, hu⟩ := hcall _ _ _ _ _ h m fz pr w _ none hR hall
      rw [callFunc_enter hP hb] at hr
      cases hr
      exact ⟨_, _, _, rfl, by simpa [invoke] using callFunc_enter hP hb _ w, hu⟩
  · simp at h

end
end Go.Abs
