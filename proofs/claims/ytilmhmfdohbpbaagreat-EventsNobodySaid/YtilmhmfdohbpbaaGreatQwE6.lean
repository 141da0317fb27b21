/- Part of the evaluator's core: see its own heading. -/
import Derived.Test.YtilmhmfdohbpbaaGreatQwE5
/-! A region that draws its order: one step, whichever comes. -/
set_option linter.unusedVariables false
set_option linter.unusedSimpArgs false
namespace Go.Abs
open Go

theorem WExt.weaken {m m' : Emb} {fz fz' pr pr' : Nat → Prop} {w w' : World} (h : WExt m fz pr' w m' fz' w') (hp : ∀ b, pr b → pr' b) : WExt m fz pr w m' fz' w' :=
  ⟨h.mm, h.ff, h.keepf, fun b hb => h.keepp b (hp b hb), h.ok, h.size, h.still⟩

theorem Rel.weaken {m : Emb} {fz pr pr' : Nat → Prop} {H : Heap} {w : World} (h : Rel m fz pr' H w) (hp : ∀ b, pr b → pr' b) : Rel m fz pr H w :=
  ⟨h.fresh, h.below, fun r x hr => let ⟨b, o, h1, h2, h3, h4⟩ := h.rows r x hr; ⟨b, o, h1, h2, fun hb => h3 (hp b hb), h4⟩, h.apart, h.fzlt, fun b hb => h.prlt b (hp b hb), fun b hb hq => h.disj b hb (hp b hq)⟩

/-- More names. -/
theorem Rel.more {m : Emb} {fz pr : Nat → Prop} {H : Heap} {w : World} (h : Rel m fz pr H w) (n : Nat) : Rel m fz pr { H with next := H.next + n } w :=
  ⟨fun r hr => h.fresh r (by simp at hr; omega), h.below, h.rows, h.apart, h.fzlt, h.prlt, h.disj⟩

section
variable {m : Emb} {fz pr : Nat → Prop} {H : Heap} {w w' : World}

theorem NewObj.ext_at {r : Nat} (hR : Rel m fz pr H w) (hn : NewObj w w') (hr : m r = none) : WExt m fz pr w (m.upd r (w.heap.size, 0)) fz w' := by
  refine ⟨fun q p h => ?_, fun _ h => h, fun b hb => hn.same b (hR.fzlt b hb), fun b hb => hn.same b (hR.prlt b hb), fun b o ⟨q, o', h⟩ hok => ?_, by rw [hn.size]; omega, hn.still⟩
  · have : q ≠ r := fun e => by rw [e, hr] at h; simp at h
    simp [Emb.upd, this, h]
  · have hb := hn.same b (hR.below q b o' h)
    exact ⟨by rw [cell?_of_heap hb]; exact hok.1, by rw [frozen?_of_heap hb]; exact hok.2⟩

/-- A new object that has a name, and is not laid yet. -/
theorem hold_rel {r : Nat} (hR : Rel m fz pr H w) (hn : NewObj w w') (hr : m r = none) (hlt : r < H.next) (hg : H.get r = none) :
    Rel (m.upd r (w.heap.size, 0)) fz (fun b => pr b ∨ b = w.heap.size) H w' := by
  have hx := hn.ext_at hR hr
  have hold : ∀ q, q ≠ r → (m.upd r (w.heap.size, 0)) q = m q := fun q h => by simp [Emb.upd, h]
  have hnew : (m.upd r (w.heap.size, 0)) r = some (w.heap.size, 0) := by simp [Emb.upd]
  have hne : ∀ q x, H.get q = some x → q ≠ r := fun q x h e => by rw [e, hg] at h; simp at h
  refine ⟨fun q h => ?_, fun q b o h => ?_, fun q x h => ?_, fun r1 r2 x1 x2 b o1 o2 hx1 hx2 hm1 hm2 => ?_, fun b h => by have := hR.fzlt b h; rw [hn.size]; omega, fun b h => ?_, fun b hb hp => ?_⟩
  · rw [hold q (by omega)]; exact hR.fresh q h
  · by_cases hq : q = r
    · subst hq; rw [hnew] at h; simp at h; rw [hn.size]; omega
    · rw [hold q hq] at h; have := hR.below q b o h; rw [hn.size]; omega
  · obtain ⟨b, o, hm, h1, h2, h3⟩ := hR.rows q x h
    have hb := hR.below q b o hm
    exact ⟨b, o, by rw [hold q (hne q x h)]; exact hm, h1, fun hp => by rcases hp with hp | hp; exact h2 hp; omega, h3.ext hx (hn.same b hb)⟩
  · rw [hold r1 (hne r1 x1 hx1)] at hm1
    rw [hold r2 (hne r2 x2 hx2)] at hm2
    exact hR.apart r1 r2 x1 x2 b o1 o2 hx1 hx2 hm1 hm2
  · rcases h with h | h
    · have := hR.prlt b h; rw [hn.size]; omega
    · rw [hn.size]; omega
  · rcases hp with hp | hp
    · exact hR.disj b hb hp
    · have := hR.fzlt b hb; omega

/-- It is laid. -/
theorem lay_rel {r blk : Nat} {x : AObj} (hR : Rel m fz pr H w) (hm : m r = some (blk, 0)) (hlt : r < H.next) (hp : pr blk) (ho : ORel m fz w blk 0 x) :
    Rel m fz (fun b => pr b ∧ b ≠ blk) (H.set r x) w := by
  refine ⟨fun q h => hR.fresh q (by simpa using h), hR.below, fun q y h => ?_, fun r1 r2 x1 x2 b o1 o2 hx1 hx2 hm1 hm2 => ?_, hR.fzlt, fun b h => hR.prlt b h.1, fun b hb h => hR.disj b hb h.1⟩
  · rw [Heap.get_set] at h
    by_cases hq : q = r
    · subst hq
      simp only [if_true, Option.some.injEq] at h
      subst h
      exact ⟨blk, 0, hm, fun hf => hR.disj _ hf hp, fun h => h.2 rfl, ho⟩
    · rw [if_neg hq] at h
      obtain ⟨b, o, h1, h2, h3, h4⟩ := hR.rows q y h
      exact ⟨b, o, h1, h2, fun h => h3 h.1, h4⟩
  · rw [Heap.get_set] at hx1 hx2
    by_cases h1 : r1 = r
    · by_cases h2 : r2 = r
      · omega
      · exfalso
        subst h1
        rw [if_neg h2] at hx2
        rw [hm] at hm1
        simp at hm1
        obtain ⟨b', o', hb', _, hnp, _⟩ := hR.rows r2 x2 hx2
        rw [hm2] at hb'
        simp at hb'
        exact hnp (by rw [← hb'.1, ← hm1.1]; exact hp)
    · by_cases h2 : r2 = r
      · exfalso
        subst h2
        rw [if_neg h1] at hx1
        rw [hm] at hm2
        simp at hm2
        obtain ⟨b', o', hb', _, hnp, _⟩ := hR.rows r1 x1 hx1
        rw [hm1] at hb'
        simp at hb'
        exact hnp (by rw [← hb'.1, ← hm2.1]; exact hp)
      · rw [if_neg h1] at hx1
        rw [if_neg h2] at hx2
        exact hR.apart r1 r2 x1 x2 b o1 o2 hx1 hx2 hm1 hm2

/-- Many are laid. -/
theorem laid_rel {base : Nat} {p : Nat → Bool} : ∀ (ps : List (Nat × AObj)) (pr : Nat → Prop) (H : Heap), Rel m fz pr H w → (∀ j x, (j, x) ∈ ps → base + j < H.next) →
    (∀ j x, (j, x) ∈ ps → p j = true → ∃ blk, m (base + j) = some (blk, 0) ∧ pr blk ∧ ORel m fz w blk 0 x) →
    (ps.map (·.1)).Nodup → (∀ j x j' x' blk, (j, x) ∈ ps → (j', x') ∈ ps → m (base + j) = some (blk, 0) → m (base + j') = some (blk, 0) → p j = true → p j' = true → j = j') →
    Rel m fz (fun b => pr b ∧ ∀ j x, (j, x) ∈ ps → p j = true → m (base + j) ≠ some (b, 0)) (laid base p ps H) w ∧ (laid base p ps H).next = H.next ∧ (laid base p ps H).lock = H.lock ∧
      ∀ q, q < base → (laid base p ps H).get q = H.get q := by
  intro ps
  induction ps with
  | nil =>
    intro pr H hR _ _ _ _
    exact ⟨hR.weaken fun b h => h.1, rfl, rfl, fun _ _ => rfl⟩
  | cons y ps ih =>
    obtain ⟨i, x⟩ := y
    intro pr H hR hlt hps hnd hinj
    simp only [List.map_cons, List.nodup_cons] at hnd
    cases hpi : p i with
    | false =>
      simp only [laid, hpi, cond_false]
      obtain ⟨h1, h2, h3, h4⟩ := ih pr H hR (fun j x h => hlt j x (List.mem_cons_of_mem _ h)) (fun j x h => hps j x (List.mem_cons_of_mem _ h)) hnd.2
        (fun j x j' x' blk h h' => hinj j x j' x' blk (List.mem_cons_of_mem _ h) (List.mem_cons_of_mem _ h'))
      exact ⟨h1.weaken fun b hb => ⟨hb.1, fun j x h => hb.2 j x (List.mem_cons_of_mem _ h)⟩, h2, h3, h4⟩
    | true =>
      simp only [laid, hpi, cond_true]
      obtain ⟨blk, hm, hp, ho⟩ := hps i x List.mem_cons_self hpi
      have hR1 := lay_rel hR hm (hlt i x List.mem_cons_self) hp ho
      obtain ⟨h1, h2, h3, h4⟩ := ih _ _ hR1 (fun j x h => by simpa using hlt j x (List.mem_cons_of_mem _ h)) (fun j x' h hj => by
          obtain ⟨blk', hm', hp', ho'⟩ := hps j x' (List.mem_cons_of_mem _ h) hj
          refine ⟨blk', hm', ⟨hp', fun e => ?_⟩, ho'⟩
          subst e
          have := hinj i x j x' _ List.mem_cons_self (List.mem_cons_of_mem _ h) hm hm' hpi hj
          subst this
          exact hnd.1 (List.mem_map.2 ⟨(i, x'), h, rfl⟩)) hnd.2
        (fun j x j' x' blk h h' => hinj j x j' x' blk (List.mem_cons_of_mem _ h) (List.mem_cons_of_mem _ h'))
      refine ⟨h1.weaken fun b hb => ⟨⟨hb.1, fun e => ?_⟩, fun j x h => hb.2 j x (List.mem_cons_of_mem _ h)⟩, by rw [h2]; rfl, by rw [h3]; rfl, fun q hq => ?_⟩
      · subst e; exact hb.2 i x List.mem_cons_self hpi hm
      · rw [h4 q hq, Heap.get_set, if_neg (by omega)]

end

/-! ## The writers of temporaries -/
section
variable {ops : Array Oper} {T0 : Tmps} {H0 : Heap} {P : Program} {call : Cal} {yf : Yf} {nt base : Nat}

theorem wr_some : ∀ {log : List Ent} {e l d}, Upn e l log → e.o.dst = some d → ((wrOf log).get d).isSome = true := by
  intro log
  induction log with
  | nil => intro e l d hs; have := upn_len hs; simp at this
  | cons c log ih =>
    intro e l d hs hd
    simp only [wrOf, setW]
    rcases upn_cons hs with ⟨rfl, rfl⟩ | h1
    · rw [hd]; simp [Tr.get_set]
    · have := ih h1 hd
      split
      · exact this
      · rw [Tr.get_set]; split
        · rfl
        · exact this

theorem wr_back : ∀ {log : List Ent} {d j}, (wrOf log).get d = some j → ∃ e l, Upn e l log ∧ l.length = j ∧ e.o.dst = some d ∧ (tOf T0 log).get d = some e.v := by
  intro log
  induction log with
  | nil => intro d j h; simp [wrOf] at h
  | cons c log ih =>
    intro d j h
    simp only [wrOf, setW, tOf, putT] at *
    cases hc : c.o.dst with
    | none =>
      rw [hc] at h
      simp only at h
      obtain ⟨e, l, h1, h2, h3, h4⟩ := ih h
      exact ⟨e, l, h1.trans (List.suffix_cons _ _), h2, h3, h4⟩
    | some d' =>
      rw [hc] at h
      simp only [Tr.get_set] at h ⊢
      by_cases hd : d = d'
      · subst hd
        simp only [if_true, Option.some.injEq] at h
        exact ⟨c, log, upn_self _ _, h, hc, by simp⟩
      · rw [if_neg hd] at h
        obtain ⟨e, l, h1, h2, h3, h4⟩ := ih h
        exact ⟨e, l, h1.trans (List.suffix_cons _ _), h2, h3, by rw [if_neg hd]; exact h4⟩

theorem wr_none : ∀ {log : List Ent} {d}, (wrOf log).get d = none → (tOf T0 log).get d = T0.get d := by
  intro log
  induction log with
  | nil => intro d _; rfl
  | cons c log ih =>
    intro d h
    simp only [wrOf, setW, tOf, putT] at *
    cases hc : c.o.dst with
    | none => rw [hc] at h; exact ih h
    | some d' =>
      rw [hc] at h
      simp only [Tr.get_set] at h ⊢
      by_cases hd : d = d'
      · subst hd; simp at h
      · rw [if_neg hd] at h ⊢; exact ih h

theorem rd_some : ∀ {log : List Ent} {e l t}, Upn e l log → t ∈ readsOf ops e.o → ((rdOf ops log).get t).isSome = true := by
  intro log
  induction log with
  | nil => intro e l d hs; have := upn_len hs; simp at this
  | cons c log ih =>
    intro e l t hs ht
    simp only [rdOf]
    rcases upn_cons hs with ⟨rfl, rfl⟩ | h1
    · exact addRd_get _ _ _ (.inl ht)
    · exact addRd_get _ _ _ (.inr (ih h1 ht))

theorem dst_spec {D : DS} {d : Tmp} (h : dstOk nt D (some d) = true) : d < nt ∧ D.wr.get d = none ∧ D.rd.get d = none := by
  simp only [dstOk, Bool.and_eq_true, Nat.blt_eq, Option.isNone_iff_eq_none] at h
  exact h

theorem dst_unique {log : List Ent} (hok : LogOk ops T0 H0 P call yf nt base log) {e e' l l' d} (hs : Upn e l log) (hs' : Upn e' l' log) (hd : e.o.dst = some d) (hd' : e'.o.dst = some d) : l.length = l'.length := by
  have key : ∀ {e e' : Ent} {l l' : List Ent}, Upn e l log → Upn e' l' log → e.o.dst = some d → e'.o.dst = some d → ¬ l.length < l'.length := by
    intro e e' l l' hs hs' hd hd' hlt
    have h1 := wr_some (upn_below hs hs' hlt) hd
    have h2 := (hok.at_ hs').2.dst
    rw [hd'] at h2
    have := (dst_spec h2).2.1
    simp only [stOf] at this
    rw [this] at h1; simp at h1
  have h1 := key hs hs' hd hd'
  have h2 := key hs' hs hd' hd
  omega

end
end Go.Abs
