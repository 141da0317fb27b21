/- The evaluator's operations are the model's: stores, appends, copies, iterators. -/
import Derived.Test.YtilmhmfdohbpbaaGreatQwD2
import Derived.Laws.IdiomCopy
set_option linter.unusedVariables false
set_option linter.unusedSimpArgs false
namespace Go.Abs
open Go

theorem setCell_heap_other (w : World) (a : Addr) (v : Value) (b : Nat) (h : b ≠ a.block) : (w.setCell a v).heap[b]? = w.heap[b]? := by
  simp [World.setCell, Array.getElem?_modify, Ne.symm h]

theorem setCells_props (b : Nat) : ∀ (vs : List Value) (o : Nat) (w : World), (∀ j, j < vs.length → ∃ u, w.cell? ⟨b, o + j, none⟩ = some u) →
    (∀ b', b' ≠ b → (w.setCells b o vs).heap[b']? = w.heap[b']?) ∧ (w.setCells b o vs).heap.size = w.heap.size ∧
    (∀ k, (w.setCells b o vs).cell? ⟨b, k, none⟩ = if o ≤ k ∧ k < o + vs.length then vs[k - o]? else w.cell? ⟨b, k, none⟩) ∧
    (∀ a, (w.setCells b o vs).frozen? a = w.frozen? a)
  | [], o, w, _ => ⟨fun _ _ => rfl, rfl, fun k => by rw [if_neg (by simp only [List.length_nil]; omega)]; rfl, fun _ => rfl⟩
  | v :: vs, o, w, h => by
    obtain ⟨u, hu⟩ := h 0 (by simp)
    simp only [Nat.add_zero] at hu
    obtain ⟨h1, h2, h3, h4⟩ := setCells_props b vs (o + 1) (w.setCell ⟨b, o, none⟩ v) (fun j hj => by
      obtain ⟨u', hu'⟩ := h (j + 1) (by simp; omega)
      refine ⟨u', ?_⟩
      rw [World.cell?_setCell_other _ _ _ _ (by simp; omega), show o + 1 + j = o + (j + 1) by omega]
      exact hu')
    refine ⟨fun b' hb => ?_, ?_, fun k => ?_, fun a => ?_⟩
    · exact (h1 b' hb).trans (setCell_heap_other w _ v b' hb)
    · exact h2.trans (by simp)
    · have := h3 k
      simp only [World.setCells] at this ⊢
      rw [this]
      by_cases hk : o + 1 ≤ k ∧ k < o + 1 + vs.length
      · rw [if_pos hk, if_pos (by simp; omega)]
        rw [show k - o = (k - (o + 1)) + 1 by omega]
        simp
      · rw [if_neg hk]
        by_cases hk0 : k = o
        · subst hk0
          rw [if_pos (by simp)]
          rw [World.cell?_setCell_same _ _ _ hu]
          simp
        · rw [if_neg (by simp at hk ⊢; omega)]
          exact World.cell?_setCell_other _ _ _ _ (by simp; omega)
    · exact (h4 a).trans (by simp)

section
variable {P : Program} {m : Emb} {fz pr : Nat → Prop} {H H' : Heap} {w : World}

theorem single_oneCell {x : AVal} {v : Value} (h : x.single = true) (hv : VRel m fz w x v) : v.oneCell' = true := by
  cases hv <;> simp [AVal.single] at h <;> rfl

theorem VRels.oneCell {cs : List AVal} {vs : List Value} (h : cs.all AVal.single = true) (hv : VRels m fz w cs vs) : ∀ v ∈ vs, v.oneCell' = true := by
  intro v hm
  obtain ⟨j, hj, he⟩ := List.getElem_of_mem hm
  have hj' : j < cs.length := by rw [hv.1]; exact hj
  have := hv.2 j cs[j] v (by simp [hj']) (by simp [← he, hj])
  exact single_oneCell (List.all_eq_true.1 h _ (List.getElem_mem hj')) this

theorem setCells_still (b : Nat) : ∀ (vs : List Value) (o : Nat) (w : World), (w.setCells b o vs).os = w.os ∧ (w.setCells b o vs).output = w.output
  | [], _, _ => ⟨rfl, rfl⟩
  | v :: vs, o, w => setCells_still b vs (o + 1) (w.setCell ⟨b, o, none⟩ v)

/-- A world in which cells of one block that is a row's have changed. -/
theorem setCells_ext {r b o off : Nat} {c : List AVal} {vals : List Value} (hR : Rel m fz pr H w) (hg : H.get r = some (.cells c)) (hm : m r = some (b, o))
    (hex : ∀ j, j < vals.length → ∃ u, w.cell? ⟨b, o + off + j, none⟩ = some u) : WExt m fz pr w m fz (w.setCells b (o + off) vals) := by
  obtain ⟨b', o', hm', hnf, hnp, _⟩ := hR.rows r _ hg
  rw [hm] at hm'
  simp at hm'
  obtain ⟨rfl, rfl⟩ := hm'
  obtain ⟨h1, h2, h3, h4⟩ := setCells_props b vals (o + off) w hex
  refine ⟨fun _ _ h => h, fun _ h => h, fun b' hb => h1 b' (fun e => hnf (e ▸ hb)), fun b' hb => h1 b' (fun e => hnp (e ▸ hb)), fun b' o' _ hok => ?_, Nat.le_of_eq h2.symm, setCells_still _ _ _ _⟩
  obtain ⟨⟨v, hv⟩, hfr⟩ := hok
  refine ⟨?_, by rw [h4]; exact hfr⟩
  by_cases hb : b' = b
  · subst hb
    rw [h3 o']
    by_cases hk : o + off ≤ o' ∧ o' < o + off + vals.length
    · rw [if_pos hk]
      have hl : o' - (o + off) < vals.length := by omega
      exact ⟨vals[o' - (o + off)], by simp [hl]⟩
    · rw [if_neg hk]; exact ⟨v, hv⟩
  · rw [cell?_of_heap (h1 b' hb)]; exact ⟨v, hv⟩

theorem ORel.ext {m' : Emb} {fz' : Nat → Prop} {w' : World} (hx : WExt m fz pr w m' fz' w') {b o : Nat} {x : AObj} (h : ORel m fz w b o x)
    (hb : w'.heap[b]? = w.heap[b]?) : ORel m' fz' w' b o x := by
  cases x with
  | cells c =>
    obtain ⟨f, h1, h2⟩ := h
    exact ⟨f, fun j hj => ⟨by rw [cell?_of_heap hb]; exact (h1 j hj).1, by rw [frozen?_of_heap hb]; exact (h1 j hj).2⟩, fun j c' hc => (h2 j c' hc).ext hx⟩
  | iter s pos =>
    obtain ⟨h1, s', h2, h3, h4⟩ := h
    exact ⟨h1, s', h2, h3, hb.trans h4⟩
  | map es =>
    obtain ⟨h1, es', clock, h2, h3, h4⟩ := h
    exact ⟨h1, es', clock, hb.trans h2, h3, fun j x y hx' hy => ⟨(h4 j x y hx' hy).1.ext hx, (h4 j x y hx' hy).2.ext hx⟩⟩
  | loop st pd T ps asg bd =>
    obtain ⟨h1, l, h2, h3, h4, h5, h6⟩ := h
    exact ⟨h1, l, hb.trans h2, h3, h4, h5.ext hx, h6⟩
  | dfr =>
    obtain ⟨h1, h2⟩ := h
    exact ⟨h1, hb.trans h2⟩

theorem storeA_spec {r off : Nat} {vs : List AVal} (h : storeA H r off vs = some H') :
    ∃ c c', H.get r = some (.cells c) ∧ splice off vs c = some c' ∧ H' = H.set r (.cells c') ∧ H.lock ≤ r ∧ vs.all AVal.single = true := by
  unfold storeA at h
  split at h
  · rename_i c hg
    cases hc : (Nat.ble H.lock r && vs.all AVal.single) with
    | false => simp [hc] at h
    | true =>
      simp only [hc, cond_true] at h
      obtain ⟨c', hs, rfl⟩ := Option.map_eq_some_iff.1 h
      simp only [Bool.and_eq_true] at hc
      exact ⟨c, c', hg, hs, rfl, Nat.le_of_ble_eq_true hc.1, hc.2⟩
  · simp at h

theorem storeA_sound {r off b o : Nat} {vs : List AVal} {vals : List Value} (hR : Rel m fz pr H w) (h : storeA H r off vs = some H') (hm : m r = some (b, o)) (hv : VRels m fz w vs vals) :
    (storeCells ⟨b, o + off, none⟩ vals).run P w = .ok () (w.setCells b (o + off) vals) ∧ WExt m fz pr w m fz (w.setCells b (o + off) vals) ∧ Rel m fz pr H' (w.setCells b (o + off) vals) := by
  obtain ⟨c, c', hg, hs, rfl, hlock, hsing⟩ := storeA_spec h
  obtain ⟨s1, s2, s3⟩ := splice_spec hs
  obtain ⟨b', o', hm', hnf, hnp, f, hf, hval⟩ := hR.rows r _ hg
  rw [hm] at hm'
  simp at hm'
  obtain ⟨rfl, rfl⟩ := hm'
  have hlen := hv.1
  have hin : ∀ j, j < vals.length → off + j < c.length := by
    intro j hj
    rcases s2 with rfl | s2
    · simp at hlen; omega
    · omega
  have hex : ∀ j, j < vals.length → ∃ u, w.cell? ⟨b, o + off + j, none⟩ = some u := fun j hj => ⟨_, by rw [Nat.add_assoc]; exact (hf _ (hin j hj)).1⟩
  have hext := setCells_ext hR hg hm hex
  obtain ⟨h1, h2, h3, h4⟩ := setCells_props b vals (o + off) w hex
  refine ⟨?_, hext, ?_⟩
  · have := run_storeCells_cells (P := P) b (o + off) vals 0 w (fun j hj => by obtain ⟨u, hu⟩ := hex j hj; simp [hu])
      (fun j hj => by simp only [Nat.add_zero]; rw [Nat.add_assoc]; exact (hf _ (hin j hj)).2) (hv.oneCell hsing)
    simpa using this
  · refine ⟨hR.fresh, fun r' b' o' h => by rw [h2]; exact hR.below r' b' o' h, fun r' x hx => ?_, fun r1 r2 x1 x2 b' o1 o2 hx1 hx2 hm1 hm2 => ?_, fun b' h => by rw [h2]; exact hR.fzlt b' h, fun b' h => by rw [h2]; exact hR.prlt b' h, hR.disj⟩
    · rw [Heap.get_set] at hx
      by_cases hr : r' = r
      · subst hr
        rw [if_pos rfl] at hx
        simp at hx; subst hx
        refine ⟨b, o, hm, hnf, hnp, fun j => if off ≤ j ∧ j < off + vals.length then (vals[j - off]?).getD undef else f j, fun j hj => ?_, fun j x hj => ?_⟩
        · rw [s1] at hj
          refine ⟨?_, by rw [h4]; exact (hf j hj).2⟩
          rw [h3 (o + j)]
          show _ = some (if off ≤ j ∧ j < off + vals.length then (vals[j - off]?).getD undef else f j)
          by_cases hk : off ≤ j ∧ j < off + vals.length
          · rw [if_pos (by omega), if_pos hk]
            rw [show o + j - (o + off) = j - off by omega]
            have : j - off < vals.length := by omega
            simp [this]
          · rw [if_neg (by omega), if_neg hk]
            exact (hf j hj).1
        · rw [s3 j, hlen] at hj
          by_cases hk : off ≤ j ∧ j < off + vals.length
          · rw [if_pos hk] at hj
            simp only [if_pos hk]
            have hl : j - off < vals.length := by omega
            exact (hv.2 (j - off) x _ hj (by simp [hl])).ext hext
          · rw [if_neg hk] at hj
            simp only [if_neg hk]
            exact (hval j x hj).ext hext
      · rw [if_neg hr] at hx
        obtain ⟨b', o', hm', hnf', hnp', ho'⟩ := hR.rows r' x hx
        refine ⟨b', o', hm', hnf', hnp', ho'.ext hext (h1 b' (fun e => hr ?_))⟩
        subst e
        exact hR.apart r' r _ _ _ _ _ hx hg hm' hm
    · have get' : ∀ r x, (H.set r (.cells c')).get r = x → True := fun _ _ _ => trivial
      have g1 : ∃ y, H.get r1 = some y := by
        rw [Heap.get_set] at hx1
        by_cases hr : r1 = r
        · subst hr; exact ⟨_, hg⟩
        · rw [if_neg hr] at hx1; exact ⟨_, hx1⟩
      have g2 : ∃ y, H.get r2 = some y := by
        rw [Heap.get_set] at hx2
        by_cases hr : r2 = r
        · subst hr; exact ⟨_, hg⟩
        · rw [if_neg hr] at hx2; exact ⟨_, hx2⟩
      obtain ⟨y1, g1⟩ := g1
      obtain ⟨y2, g2⟩ := g2
      exact hR.apart r1 r2 y1 y2 b' o1 o2 g1 g2 hm1 hm2

/-! ### Growing heaps -/

def Emb.upd (m : Emb) (r : Nat) (p : Nat × Nat) : Emb := fun q => if q = r then some p else m q

theorem NewObj.ext {w' : World} (hR : Rel m fz pr H w) (hn : NewObj w w') : WExt m fz pr w (m.upd H.next (w.heap.size, 0)) fz w' := by
  refine ⟨fun r p h => ?_, fun _ h => h, fun b hb => hn.same b (hR.fzlt b hb), fun b hb => hn.same b (hR.prlt b hb), fun b o ⟨r, o', h⟩ hok => ?_, by rw [hn.size]; omega, hn.still⟩
  · have : r ≠ H.next := fun e => by rw [e, hR.fresh _ (Nat.le_refl _)] at h; simp at h
    simp [Emb.upd, this, h]
  · have hb := hn.same b (hR.below r b o' h)
    exact ⟨by rw [cell?_of_heap hb]; exact hok.1, by rw [frozen?_of_heap hb]; exact hok.2⟩

/-- A new object: the heaps go together. -/
theorem push_rel {w' : World} {obj : AObj} (hR : Rel m fz pr H w) (hn : NewObj w w')
    (ho : ORel (m.upd H.next (w.heap.size, 0)) fz w' w.heap.size 0 obj) : Rel (m.upd H.next (w.heap.size, 0)) fz pr (H.push obj) w' := by
  have hx := hn.ext hR
  have hnew : (m.upd H.next (w.heap.size, 0)) H.next = some (w.heap.size, 0) := by simp [Emb.upd]
  have hold : ∀ r, r ≠ H.next → (m.upd H.next (w.heap.size, 0)) r = m r := fun r h => by simp [Emb.upd, h]
  refine ⟨fun r h => ?_, fun r b o h => ?_, fun r x h => ?_, fun r1 r2 x1 x2 b o1 o2 hx1 hx2 hm1 hm2 => ?_, fun b h => by have := hR.fzlt b h; rw [hn.size]; omega, fun b h => by have := hR.prlt b h; rw [hn.size]; omega, hR.disj⟩
  · simp at h
    rw [hold r (by omega)]
    exact hR.fresh r (by omega)
  · by_cases hr : r = H.next
    · subst hr
      rw [hnew] at h
      simp at h
      rw [hn.size]; omega
    · rw [hold r hr] at h
      have := hR.below r b o h
      rw [hn.size]; omega
  · rw [Heap.get_push] at h
    by_cases hr : r = H.next
    · subst hr
      rw [if_pos rfl] at h
      simp at h; subst h
      exact ⟨_, _, hnew, fun hf => by have := hR.fzlt _ hf; omega, fun hf => by have := hR.prlt _ hf; omega, ho⟩
    · rw [if_neg hr] at h
      obtain ⟨b, o, hm, h1, h2, h3⟩ := hR.rows r x h
      exact ⟨b, o, by rw [hold r hr]; exact hm, h1, h2, h3.ext hx (hn.same b (hR.below r b o hm))⟩
  · rw [Heap.get_push] at hx1 hx2
    by_cases h1 : r1 = H.next
    · by_cases h2 : r2 = H.next
      · omega
      · exfalso
        subst h1
        rw [hnew] at hm1
        simp at hm1
        rw [hold r2 h2] at hm2
        have := hR.below r2 b o2 hm2
        omega
    · by_cases h2 : r2 = H.next
      · exfalso
        subst h2
        rw [hnew] at hm2
        simp at hm2
        rw [hold r1 h1] at hm1
        have := hR.below r1 b o1 hm1
        omega
      · rw [if_neg h1] at hx1
        rw [if_neg h2] at hx2
        rw [hold r1 h1] at hm1
        rw [hold r2 h2] at hm2
        exact hR.apart r1 r2 x1 x2 b o1 o2 hx1 hx2 hm1 hm2

theorem del_rel (hR : Rel m fz pr H w) (r : Nat) : Rel m fz pr (H.del r) w := by
  refine ⟨hR.fresh, hR.below, fun r' x h => ?_, fun r1 r2 x1 x2 b o1 o2 hx1 hx2 hm1 hm2 => ?_, hR.fzlt, hR.prlt, hR.disj⟩
  · rw [Heap.get_del] at h
    by_cases hr : r' = r
    · simp [hr] at h
    · rw [if_neg hr] at h; exact hR.rows r' x h
  · rw [Heap.get_del] at hx1 hx2
    by_cases h1 : r1 = r
    · simp [h1] at hx1
    · by_cases h2 : r2 = r
      · simp [h2] at hx2
      · rw [if_neg h1] at hx1
        rw [if_neg h2] at hx2
        exact hR.apart r1 r2 x1 x2 b o1 o2 hx1 hx2 hm1 hm2

end
end Go.Abs
