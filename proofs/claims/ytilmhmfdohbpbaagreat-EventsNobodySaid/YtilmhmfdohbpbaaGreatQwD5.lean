/- The evaluator's operations are the model's: 'effOp' as a whole. -/
import Derived.Test.YtilmhmfdohbpbaaGreatQwD4
set_option linter.unusedVariables false
set_option linter.unusedSimpArgs false
namespace Go.Abs
open Go

section
variable {P : Program} {m : Emb} {fz pr : Nat → Prop} {H H' : Heap} {w : World}

/-- What an operation that changes the heap comes to. -/
def EffOk (P : Program) (nx : Nat) (m : Emb) (fz pr : Nat → Prop) (w : World) (s : Sem Value) (v : AVal) (H' : Heap) : Prop :=
  ∃ v' w' m', s.run P w = .ok v' w' ∧ WExt m fz pr w m' fz w' ∧ Rel m' fz pr H' w' ∧ VRel m' fz w' v v' ∧ ∀ r, r < nx → m' r = m r

theorem push_new {w' : World} {obj : AObj} {val : Nat → AVal} {v' : Value} (hR : Rel m fz pr H w) (hn : NewObj w w') (hm : Made m fz w w' obj val v') :
    WExt m fz pr w (m.upd H.next (w.heap.size, 0)) fz w' ∧ Rel (m.upd H.next (w.heap.size, 0)) fz pr (H.push obj) w' ∧ VRel (m.upd H.next (w.heap.size, 0)) fz w' (val H.next) v' := by
  have hx := hn.ext hR
  obtain ⟨h1, h2⟩ := hm (m.upd H.next (w.heap.size, 0)) fz H.next (by simp [Emb.upd]) (fun c v h => h.ext hx)
  exact ⟨hx, push_rel hR hn h1, h2⟩

/-- An append that makes a new row. -/
theorem append_new {t u e ty : TypeId} {ts : List TypeId} {ud : TypeDesc} {base : Option Addr} {n cap' k : Nat} {y' : Value} {vs os : Array Value} {old src : List AVal} (hC : ChildOk P) (hR : Rel m fz pr H w)
    (hu : P.underlying t = some (.slice e)) (hud : P.underlying u = some ud) (hni : srcTy ud = true) (hl : (Builtin.lenOf y').run P w = .ok k w)
    (hf : ∀ w' : World, w'.heap = w.heap → (Builtin.firstCells (P.cellsOf e) k y').run P w' = .ok vs w')
    (ho : ∀ w' : World, w'.heap = w.heap → (Builtin.firstCells (P.cellsOf e) n (.slice base n cap')).run P w' = .ok os w') (hgt : cap' < n + k)
    (hsm : appendA.small P e n k = true) (hold : VRels m fz w old os.toList) (hsrc : VRels m fz w src vs.toList) (hol : old.length = n * P.cellsOf e) (hsl : src.length = k * P.cellsOf e) :
    EffOk P H.next m fz pr w (Builtin.append_ (t :: u :: ts).toArray ty #[.slice base n cap', y']) (.slice H.next 0 (n + k) (P.cellsOf e) none) (H.push (.cells (old ++ src))) := by
  obtain ⟨cap'', zs, hge, hz, hrun⟩ := run_append_new (ty := ty) (ts := ts) hC hu hud hni hl hf ho hgt hsm
  have hrel := hold.append hsrc
  have hos : os.size = n * P.cellsOf e := by have := hold.1; have h2 := Array.length_toList (xs := os); omega
  have hvs : vs.size = k * P.cellsOf e := by have := hsrc.1; have h2 := Array.length_toList (xs := vs); omega
  have hzc : (Builtin.zeroCells zs (cap'' - (n + k))).size = (cap'' - (n + k)) * P.cellsOf e := by simp [Builtin.zeroCells, hz]
  have htot : (os ++ vs ++ Builtin.zeroCells zs (cap'' - (n + k))).size = cap'' * P.cellsOf e := by
    rw [Array.size_append, Array.size_append, hos, hvs, hzc, ← Nat.add_mul, ← Nat.add_mul]
    congr 1; omega
  have hlen : (old ++ src).length = os.size + vs.size := by rw [List.length_append]; omega
  have hmade := made_cells (m := m) (fz := fz) (w := w) (w0 := w.drew) (cs := old ++ src) (vs := os ++ vs ++ Builtin.zeroCells zs (cap'' - (n + k))) (e := e) (fr := (0, 0))
    (by rw [hlen, Array.size_append, Array.size_append]; omega) (.inl rfl) rfl (fun j a b ha hb => by
      have hj := (List.getElem?_eq_some_iff.1 ha).1
      rw [Array.getElem?_append_left (by rw [Array.size_append]; omega)] at hb
      exact hrel.2 j a b ha (by rw [← Array.toList_append, Array.getElem?_toList]; exact hb))
  obtain ⟨h1, h2⟩ := hmade
  have hmd : Made m fz w { w.drew with heap := w.drew.heap.push (.cells (os ++ vs ++ Builtin.zeroCells zs (cap'' - (n + k))) e) } (.cells (old ++ src)) (fun r => .slice r 0 (n + k) (P.cellsOf e) none) (.slice (some ⟨w.heap.size, 0, none⟩) (n + k) cap'') := by
    intro m' fz' r hr hx
    refine ⟨h1 m' fz' hx, .slice r 0 _ _ none w.heap.size 0 cap'' _ hr (fun c hc => by simp at hc) hge (.inr rfl) (fun j hj => ?_)⟩
    have := h2 j (by rw [htot]; exact hj)
    simpa using this
  obtain ⟨hx, hr, hv⟩ := push_new hR (NewObj.push w w.drew _ rfl) hmd
  exact ⟨_, _, _, hrun, hx, hr, hv, fun r h => by simp [Emb.upd, Nat.ne_of_lt h]⟩

theorem firstCells_row {cs : List AVal} {n sz cap' l : Nat} {a : Option Addr} {f : Nat → Value} (hrow : RowAt m fz w cs a f) (hl : cs.length = n * sz) :
    ∀ w' : World, w'.heap = w.heap → (Builtin.firstCells sz n (.slice a l cap')).run P w' = .ok ((List.range cs.length).map f).toArray w' := by
  intro w' hw'
  cases a with
  | none =>
    have : cs = [] := by rcases hrow.at_ with h | ⟨b, o, h, _⟩; exact h; simp at h
    subst this
    rfl
  | some a =>
    simp only [Builtin.firstCells]
    rw [← hl]
    refine run_loadCells w' _ _ f fun j hj => ?_
    rcases hrow.at_ with rfl | ⟨b', o', he, hc⟩
    · simp at hj
    · simp at he
      subst he
      rw [add_addr, cell?_of_heap (w := w) (by rw [hw'])]; exact hc j hj

theorem appendA_sound {t u e ty : TypeId} {ts : List TypeId} {ud : TypeDesc} {x y v : AVal} {x' y' : Value} {src : List AVal} {k : Nat} (hC : ChildOk P) (hR : Rel m fz pr H w)
    (hu : P.underlying t = some (.slice e)) (hud : P.underlying u = some ud) (hni : srcTy ud = true) (hs : srcOf H (P.cellsOf e) y = some (src, k))
    (h : appendA P H e x src k = some (v, H')) (hx : VRel m fz w x x') (hy : VRel m fz w y y') :
    EffOk P H.next m fz pr w (Builtin.append_ (t :: u :: ts).toArray ty #[x', y']) v H' := by
  obtain ⟨vs, hl, hf, hsrc, hsl⟩ := srcOf_sound (P := P) hR hs hy
  have hvs : vs.size = k * P.cellsOf e := by have := hsrc.1; have h2 := Array.length_toList (xs := vs); omega
  unfold appendA at h
  simp only at h
  split at h
  · -- data
    rename_i cs n cap
    cases hx with
    | lst _ _ _ a cap' f hcap hnil hn hb hv =>
    cases hk : Nat.beq k 0 with
    | true =>
      have := Nat.eq_of_beq_eq_true hk
      subst this
      simp only [Nat.beq_refl, cond_true, Option.some.injEq, Prod.mk.injEq] at h
      obtain ⟨rfl, rfl⟩ := h
      have hvs0 : vs = #[] := by apply Array.eq_empty_of_size_eq_zero; omega
      subst hvs0
      refine ⟨.slice a (n + 0) cap', w, m, run_append_in hC hu hud hni hl (hf w rfl) (by omega) ?_, .refl _ _ _ _, hR, .lst _ _ _ a cap' f hcap hnil hn hb hv, fun _ _ => rfl⟩
      cases a <;> rfl
    | false =>
      simp only [hk, cond_false] at h
      split at h
      · rename_i c
        cases hle : Nat.ble (n + k) c with
        | true => simp [hle] at h
        | false =>
          have hgt : c < n + k := by
            rcases Nat.lt_or_ge c (n + k) with h | h
            · exact h
            · rw [Nat.ble_eq_true_of_le h] at hle; simp at hle
          simp only [hle, cond_false] at h
          split at h
          · rename_i old hold
            cases hsm : appendA.small P e n k with
            | false => simp [hsm] at h
            | true =>
              simp only [hsm, cond_true, Option.some.injEq, Prod.mk.injEq] at h
              obtain ⟨rfl, rfl⟩ := h
              have hc := hcap c rfl
              subst hc
              have hel : elemsOf H (P.cellsOf e) (.lst cs n (some cap')) = some (old, n) := by simp [elemsOf, hold]
              obtain ⟨a2, c2, f2, he, hol, _, hrow⟩ := elemsOf_sound hR hel (.lst cs n (some cap') a cap' f hcap hnil hn hb hv)
              simp at he
              obtain ⟨rfl, rfl⟩ := he
              exact append_new hC hR hu hud hni hl hf (firstCells_row hrow hol) hgt hsm (by simpa using hrow.list) hsrc hol hsl
          · simp at h
      · simp at h
  · rename_i r off n sz' cap
    cases hsz : Nat.beq (P.cellsOf e) sz' with
    | false => simp [hsz] at h
    | true =>
      have := Nat.eq_of_beq_eq_true hsz
      subst this
      simp only [Nat.beq_refl, cond_true] at h
      have hx0 := hx
      cases hx with
      | slice _ _ _ _ _ b o cap' a hm hcap hn ha hsp =>
      cases hk : Nat.beq k 0 with
      | true =>
        have := Nat.eq_of_beq_eq_true hk
        subst this
        simp only [Nat.beq_refl, cond_true, Option.some.injEq, Prod.mk.injEq] at h
        obtain ⟨rfl, rfl⟩ := h
        have hvs0 : vs = #[] := by apply Array.eq_empty_of_size_eq_zero; omega
        subst hvs0
        exact ⟨.slice (some a) (n + 0) cap', w, m, run_append_in hC hu hud hni hl (hf w rfl) (by omega) rfl, .refl _ _ _ _, hR, .slice _ _ _ _ _ b o cap' a hm hcap hn ha hsp, fun _ _ => rfl⟩
      | false =>
        have hk0 : 0 < k := by
          rcases Nat.eq_zero_or_pos k with h | h
          · subst h; simp at hk
          · exact h
        simp only [hk, cond_false] at h
        split at h
        · -- a known capacity
          rename_i c
          have hc := hcap c rfl
          subst hc
          cases hle : Nat.ble (n + k) cap' with
          | true =>
            have hle' := Nat.le_of_ble_eq_true hle
            simp only [hle, cond_true] at h
            obtain ⟨H2, hst, he⟩ := Option.map_eq_some_iff.1 h
            simp at he
            obtain ⟨rfl, rfl⟩ := he
            have ha' : a = ⟨b, o + off, none⟩ := by
              rcases ha with h0 | ha
              · omega
              · exact ha
            obtain ⟨hrun, hext, hrel⟩ := storeA_sound (P := P) hR hst hm hsrc
            refine ⟨.slice (some a) (n + k) cap', _, m, run_append_in hC hu hud hni hl (hf w rfl) hle' (w' := w.setCells b (o + (off + n * P.cellsOf e)) vs.toList) ?_, hext, hrel, ?_, fun _ _ => rfl⟩
            · simp only [inPlace, ha', add_addr]
              rw [Nat.add_assoc]; exact hrun
            · exact .slice _ _ _ _ _ b o cap' a hm hcap hle' ha (fun j hj => hext.ok _ _ ⟨r, o, hm⟩ (hsp j hj))
          | false =>
            have hgt : cap' < n + k := by
              rcases Nat.lt_or_ge cap' (n + k) with h | h
              · exact h
              · rw [Nat.ble_eq_true_of_le h] at hle; simp at hle
            simp only [hle, cond_false] at h
            split at h
            · rename_i old n' hold
              cases hsm : appendA.small P e n k with
              | false => simp [hsm] at h
              | true =>
                simp only [hsm, cond_true, Option.some.injEq, Prod.mk.injEq] at h
                obtain ⟨rfl, rfl⟩ := h
                obtain ⟨a2, c2, f2, he, hol, _, hrow⟩ := elemsOf_sound hR hold hx0
                simp at he
                obtain ⟨rfl, rfl, rfl⟩ := he
                exact append_new hC hR hu hud hni hl hf (firstCells_row hrow hol) hgt hsm (by simpa using hrow.list) hsrc hol hsl
            · simp at h
        · -- an unknown one
          split at h
          · rename_i old n' hold
            cases hcond : (appendA.small P e n k && Nat.ble H.lock r && src.all AVal.single) with
            | false => simp [hcond] at h
            | true =>
              simp only [hcond, cond_true, Option.some.injEq, Prod.mk.injEq] at h
              obtain ⟨rfl, rfl⟩ := h
              simp only [Bool.and_eq_true] at hcond
              obtain ⟨⟨hsm, hlk⟩, hsing⟩ := hcond
              obtain ⟨a2, c2, f2, he, hol, _, hrow⟩ := elemsOf_sound hR hold hx0
              simp at he
              obtain ⟨rfl, rfl, rfl⟩ := he
              by_cases hle : n + k ≤ cap'
              · -- in place
                have hg : ∃ c, H.get r = some (.cells c) := by
                  simp only [elemsOf] at hold
                  split at hold
                  · rename_i c hg; exact ⟨c, hg⟩
                  · simp at hold
                obtain ⟨c, hg⟩ := hg
                obtain ⟨b', o', hm', hnf, hnp, _⟩ := hR.rows r _ hg
                rw [hm] at hm'
                simp at hm'
                obtain ⟨rfl, rfl⟩ := hm'
                have ha' : a = ⟨b, o + off, none⟩ := by
                  rcases ha with h0 | ha
                  · omega
                  · exact ha
                have hin : ∀ j, j < vs.toList.length → okCell w b (o + (off + n * P.cellsOf e) + j) := by
                  intro j hj
                  have h1 : n * P.cellsOf e + j < cap' * P.cellsOf e := by
                    have h2 : (n + k) * P.cellsOf e ≤ cap' * P.cellsOf e := Nat.mul_le_mul_right _ hle
                    rw [Nat.add_mul] at h2
                    rw [Array.length_toList] at hj
                    omega
                  have := hsp _ h1
                  rwa [show o + off + (n * P.cellsOf e + j) = o + (off + n * P.cellsOf e) + j by omega] at this
                have hex : ∀ j, j < vs.toList.length → ∃ u, w.cell? ⟨b, o + (off + n * P.cellsOf e) + j, none⟩ = some u := fun j hj => (hin j hj).1
                have hext0 := setCells_ext hR hg hm hex
                obtain ⟨p1, p2, p3, p4⟩ := setCells_props b vs.toList (o + (off + n * P.cellsOf e)) w hex
                have hrun : (storeCells ⟨b, o + (off + n * P.cellsOf e), none⟩ vs.toList).run P w = .ok () (w.setCells b (o + (off + n * P.cellsOf e)) vs.toList) := by
                  have := run_storeCells_cells (P := P) b (o + (off + n * P.cellsOf e)) vs.toList 0 w (fun j hj => by obtain ⟨u, hu⟩ := hex j hj; simp [hu])
                    (fun j hj => by simpa using (hin j hj).2) (hsrc.oneCell hsing)
                  simpa using this
                let m' : Emb := m.upd H.next (b, o + off)
                have hmold : ∀ q, q ≠ H.next → m' q = m q := fun q h => by simp [m', Emb.upd, h]
                have hmnew : m' H.next = some (b, o + off) := by simp [m', Emb.upd]
                have hext : WExt m fz pr w m' fz (w.setCells b (o + (off + n * P.cellsOf e)) vs.toList) :=
                  ⟨fun q p hq => by
                    have : q ≠ H.next := fun e => by rw [e, hR.fresh _ (Nat.le_refl _)] at hq; simp at hq
                    rw [hmold q this]; exact hq, hext0.ff, hext0.keepf, hext0.keepp, hext0.ok, hext0.size, hext0.still⟩
                refine ⟨.slice (some a) (n + k) cap', _, m', run_append_in hC hu hud hni hl (hf w rfl) hle (w' := w.setCells b (o + (off + n * P.cellsOf e)) vs.toList) ?_, hext, ?_, ?_, fun r h => hmold r (Nat.ne_of_lt h)⟩
                · simp only [inPlace, ha', add_addr]
                  rw [Nat.add_assoc]; exact hrun
                · -- the heaps
                  refine ⟨fun q hq => ?_, fun q b' o' hq => ?_, fun q x hq => ?_, fun r1 r2 x1 x2 b' o1 o2 hx1 hx2 hm1 hm2 => ?_, fun b' hb => by rw [p2]; exact hR.fzlt b' hb, fun b' hb => by rw [p2]; exact hR.prlt b' hb, hR.disj⟩
                  · simp at hq
                    rw [hmold q (by omega)]
                    exact hR.fresh q (by omega)
                  · rw [p2]
                    by_cases hqn : q = H.next
                    · subst hqn
                      rw [hmnew] at hq
                      simp at hq
                      have := hR.below r b o hm
                      omega
                    · rw [hmold q hqn] at hq
                      exact hR.below q b' o' hq
                  · rw [Heap.get_push, Heap.get_del, Heap.next_del] at hq
                    by_cases hqn : q = H.next
                    · subst hqn
                      rw [if_pos rfl] at hq
                      simp at hq; subst hq
                      refine ⟨b, o + off, hmnew, hnf, hnp, fun j => if j < n * P.cellsOf e then f2 j else (vs[j - n * P.cellsOf e]?).getD undef, fun j hj => ?_, fun j x hj => ?_⟩
                      · have hj' : j < n * P.cellsOf e + k * P.cellsOf e := by rw [List.length_append, hol, hsl] at hj; exact hj
                        have hjc : j < cap' * P.cellsOf e := by
                          have h2 : (n + k) * P.cellsOf e ≤ cap' * P.cellsOf e := Nat.mul_le_mul_right _ hle
                          rw [Nat.add_mul] at h2; omega
                        refine ⟨?_, by rw [p4]; exact (hsp j hjc).2⟩
                        rw [p3]
                        show _ = some (if j < n * P.cellsOf e then f2 j else (vs[j - n * P.cellsOf e]?).getD undef)
                        by_cases hjn : j < n * P.cellsOf e
                        · rw [if_neg (by omega), if_pos hjn]
                          rcases hrow.at_ with h0 | ⟨b', o', he, hc⟩
                          · rw [h0] at hol; simp at hol; omega
                          · rw [ha'] at he
                            simp at he
                            obtain ⟨rfl, rfl⟩ := he
                            exact hc j (by omega)
                        · rw [if_pos (by rw [Array.length_toList]; omega), if_neg hjn]
                          rw [show o + off + j - (o + (off + n * P.cellsOf e)) = j - n * P.cellsOf e by omega]
                          have : j - n * P.cellsOf e < vs.size := by omega
                          simp [this]
                      · by_cases hjn : j < n * P.cellsOf e
                        · rw [List.getElem?_append_left (by omega)] at hj
                          simp only [if_pos hjn]
                          exact (hrow.val j x hj).ext hext
                        · rw [List.getElem?_append_right (by omega), hol] at hj
                          simp only [if_neg hjn]
                          have hlt := (List.getElem?_eq_some_iff.1 hj).1
                          have : j - n * P.cellsOf e < vs.size := by omega
                          exact (hsrc.2 _ x _ hj (by simp [this])).ext hext
                    · rw [if_neg hqn] at hq
                      by_cases hqr : q = r
                      · simp [hqr] at hq
                      · rw [if_neg hqr] at hq
                        obtain ⟨b', o', hm', h1, h2, h3⟩ := hR.rows q x hq
                        refine ⟨b', o', by rw [hmold q hqn]; exact hm', h1, h2, h3.ext hext (p1 b' (fun e => hqr ?_))⟩
                        subst e
                        exact hR.apart q r _ _ _ _ _ hq hg hm' hm
                  · rw [Heap.get_push, Heap.get_del, Heap.next_del] at hx1 hx2
                    have key : ∀ q y o', (if q = H.next then some (AObj.cells (old ++ src)) else if q = r then none else H.get q) = some y → m' q = some (b', o') → q ≠ H.next → q ≠ r ∧ H.get q = some y ∧ m q = some (b', o') := by
                      intro q y o' h1 h2 h3
                      rw [if_neg h3] at h1
                      by_cases hqr : q = r
                      · simp [hqr] at h1
                      · rw [if_neg hqr] at h1
                        exact ⟨hqr, h1, by rw [← hmold q h3]; exact h2⟩
                    by_cases h1 : r1 = H.next
                    · by_cases h2 : r2 = H.next
                      · omega
                      · exfalso
                        obtain ⟨k1, k2, k3⟩ := key r2 x2 o2 hx2 hm2 h2
                        subst h1
                        rw [hmnew] at hm1
                        simp at hm1
                        obtain ⟨rfl, _⟩ := hm1
                        exact k1 (hR.apart r2 r _ _ _ _ _ k2 hg k3 hm)
                    · by_cases h2 : r2 = H.next
                      · exfalso
                        obtain ⟨k1, k2, k3⟩ := key r1 x1 o1 hx1 hm1 h1
                        subst h2
                        rw [hmnew] at hm2
                        simp at hm2
                        obtain ⟨rfl, _⟩ := hm2
                        exact k1 (hR.apart r1 r _ _ _ _ _ k2 hg k3 hm)
                      · obtain ⟨k1, k2, k3⟩ := key r1 x1 o1 hx1 hm1 h1
                        obtain ⟨l1, l2, l3⟩ := key r2 x2 o2 hx2 hm2 h2
                        exact hR.apart r1 r2 _ _ _ _ _ k2 l2 k3 l3
                · refine .slice _ _ _ _ none b (o + off) cap' a hmnew (fun c hc => by simp at hc) hle (.inr (by rw [ha']; rfl)) (fun j hj => hext.ok _ _ ⟨r, o, hm⟩ ?_)
                  exact hsp j hj
              · -- a new row
                exact append_new hC (del_rel hR r) hu hud hni hl hf (firstCells_row hrow hol) (by omega) hsm (by simpa using hrow.list) hsrc hol hsl
          · simp at h
  · simp at h

end
end Go.Abs
