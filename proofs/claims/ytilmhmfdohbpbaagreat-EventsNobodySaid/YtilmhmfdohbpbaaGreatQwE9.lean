/- Part of the evaluator's core: see its own heading. -/
import Derived.Test.YtilmhmfdohbpbaaGreatQwE8
/-! A region that draws its order is sound. -/
set_option linter.unusedVariables false
set_option linter.unusedSimpArgs false
namespace Go.Abs
open Go

section
variable {ops : Array Oper} {T0 : Tmps} {H0 : Heap} {P : Program} {call : Cal} {yf : Yf} {nt base : Nat} {D : List Nat} {m0 : Emb} {fz0 pr : Nat → Prop} {w0 : World} {log : List Ent}
variable {ro : Option Nat}

theorem upn_oper (hops : log.reverse.map (·.o) = ops.toList) {e l} (hs : Upn e l log) : ops[l.length]? = some e.o := by
  obtain ⟨pre, rfl⟩ := hs
  rw [← Array.getElem?_toList, ← hops]
  simp

theorem log_len (hops : log.reverse.map (·.o) = ops.toList) : log.length = ops.size := by
  have := congrArg List.length hops
  simpa using this

theorem past_lt : ∀ {log : List Ent}, ∀ p ∈ pastOf H0 log, p.1 < log.length := by
  intro log
  induction log with
  | nil => intro p hp; simp [pastOf] at hp
  | cons c log ih =>
    intro p hp
    simp only [pastOf] at hp
    split at hp
    · rcases List.mem_cons.1 hp with rfl | hp
      · simp
      · have := ih p hp; simp; omega
    · have := ih p hp; simp; omega

theorem listed_adds {listed : Array Bool} {i : Nat} (hi : i < listed.size) : (fun j => (listed.setIfInBounds i true).getD j false) = adds (fun j => listed.getD j false) i := by
  funext j
  by_cases h : j = i
  · subst h
    simp [adds, Array.getD_eq_getD_getElem?, hi]
  · simp only [adds, h, decide_false, Bool.or_false]
    exact getD_set_ne false (Ne.symm h)

theorem sim_any (hC : ChildOk P) (hcall : CallOk P call) (hyf : YfOk P yf) (hok : LogOk ops T0 H0 P call yf nt base log) (hops : log.reverse.map (·.o) = ops.toList) {n : Nat} {Q : Exit → Act → World → Prop}
    (hQ : ∀ (L : Nat → Bool) a w m fz pr', Sim ops T0 H0 nt base D m0 fz0 pr w0 log m fz pr' L a w → (∀ j, j < log.length → L j = true) → Q .normal a w) :
    ∀ (fuel : Nat) (listed : Array Bool) (todo : List Nat) (a : Act) (w : World), listed.size = ops.size → Closed (fun j => listed.getD j false) log →
      (∃ m fz pr', Sim ops T0 H0 nt base D m0 fz0 pr w0 log m fz pr' (fun j => listed.getD j false) a w) → (∀ j, j < ops.size → listed.getD j false = false → j ∈ todo) → todo.length ≤ fuel →
      wpAnyIn (FF ro) n P .any ops Q fuel listed a w := by
  have hlen := log_len hops
  have hdone : ∀ (listed : Array Bool) (a : Act) (w : World), listed.size = ops.size → Region.ready .any ops listed = [] →
      (∃ m fz pr', Sim ops T0 H0 nt base D m0 fz0 pr w0 log m fz pr' (fun j => listed.getD j false) a w) → Q .normal a w := by
    intro listed a w hsz hr ⟨m, fz, pr', hS⟩
    refine hQ _ a w m fz pr' hS fun j hj => ?_
    induction j using Nat.strongRecOn with
    | _ j ih =>
      cases hL : listed.getD j false with
      | true => rfl
      | false =>
        exfalso
        obtain ⟨e, l, hs, hl⟩ := upn_exists hj
        have hmem : j ∈ Region.ready .any ops listed := by
          rw [mem_ready]
          refine ⟨by rw [Array.getD_eq_getD_getElem?] at hL ⊢; rw [Array.getElem?_eq_getElem (by omega)] at hL ⊢; exact hL, e.o, by rw [← hl]; exact upn_oper hops hs, fun ed hed hb => ?_⟩
          have := maskA_below _ _ _ (hok.at_ hs).2.mask ed (by simpa using hed) hb
          exact ih ed.on (by omega) (by omega)
        rw [hr] at hmem; cases hmem
  intro fuel
  induction fuel with
  | zero =>
    intro listed todo a w hsz hcl hS htodo hle
    have hr : Region.ready .any ops listed = [] := by
      cases hr : Region.ready .any ops listed with
      | nil => rfl
      | cons i r =>
        have hmem : i ∈ Region.ready .any ops listed := by rw [hr]; exact List.mem_cons_self
        obtain ⟨h1, o, h2, -⟩ := mem_ready.1 hmem
        have hi := (Array.getElem?_eq_some_iff.1 h2).1
        have := htodo i hi (by rw [Array.getD_eq_getD_getElem?] at h1 ⊢; rw [Array.getElem?_eq_getElem (by omega)] at h1 ⊢; exact h1)
        have h0 : todo = [] := List.eq_nil_of_length_eq_zero (by omega)
        rw [h0] at this; cases this
    exact ⟨hr, hdone listed a w hsz hr hS⟩
  | succ fuel ih =>
    intro listed todo a w hsz hcl hS htodo hle
    refine ⟨fun hr => hdone listed a w hsz hr hS, fun i hi => ?_⟩
    obtain ⟨h1, o, h2, h3⟩ := mem_ready.1 hi
    have hlt := (Array.getElem?_eq_some_iff.1 h2).1
    have hL : listed.getD i false = false := by rw [Array.getD_eq_getD_getElem?] at h1 ⊢; rw [Array.getElem?_eq_getElem (by omega)] at h1 ⊢; exact h1
    obtain ⟨e, l, hs, hl⟩ := upn_exists (log := log) (j := i) (by omega)
    subst hl
    have heo : o = e.o := by have := upn_oper hops hs; rw [h2] at this; cases this; rfl
    subst heo
    have hb := ready_mask hok hcl hs (fun ed hed hbd => h3 ed (by simpa using hed) hbd)
    have hcl' : Closed (adds (fun j => listed.getD j false) l.length) log := by
      intro e2 l2 hs2 hL2 j hj
      by_cases hne : l2.length = l.length
      · obtain ⟨rfl, rfl⟩ := upn_same hs2 hs hne
        exact adds_of (hb j hj)
      · exact adds_of (hcl e2 l2 hs2 (adds_iff hL2 hne) j hj)
    have go : ∀ (a1 : Act) (w1 : World), (∃ m fz pr', Sim ops T0 H0 nt base D m0 fz0 pr w0 log m fz pr' (adds (fun j => listed.getD j false) l.length) a1 w1) →
        wpAnyIn (FF ro) n P .any ops Q fuel (listed.setIfInBounds l.length true) a1 w1 := by
      intro a1 w1 hS1
      have hfun := listed_adds (listed := listed) (i := l.length) (by omega)
      refine ih (listed.setIfInBounds l.length true) (todo.erase l.length) a1 w1 (by simpa using hsz) (by rw [hfun]; exact hcl') (by rw [hfun]; exact hS1) (fun j hj hLj => ?_) ?_
      · have h4 : adds (fun j => listed.getD j false) l.length j = false := by rw [← hfun]; exact hLj
        obtain ⟨h5, h6⟩ := adds_false h4
        exact (List.mem_erase_of_ne h6).2 (htodo j hj h5)
      · rw [List.length_erase_of_mem (htodo _ hlt hL)]; omega
    obtain ⟨m, fz, pr', hS⟩ := hS
    obtain ⟨-, he⟩ := hok.at_ hs
    have hT := hS.snap hok hs hL hb
    have hw : Region.wanted e.o (yielded ops a.tmps) = (match e.k with | .skip => false | _ => true) := wantedA_sound he.want hT
    have hρ := fun x => evalA_rel hT (a := a) x
    have hkind := he.kind
    unfold wpOpIn
    rw [h2]
    simp only []
    cases hk : e.k with
    | skip =>
      rw [hk] at hw hkind
      rw [hw]
      refine ⟨fun _ _ => trivial, go _ _ ⟨m, fz, pr', hS.calm hok hs hL (by simp [Ent.chain, hk]) (fun x h => by rw [hk] at h; cases h) ?_⟩⟩
      rw [hkind]; exact vrel_undef
    | val =>
      rw [hk] at hw hkind
      simp only [hw, if_true]
      have hp : pureOp P (heapAt H0 (fun j => listed.getD j false) log) (evalA e.M) e.o.op = some e.v := by rw [pureOp_congr hkind.2]; exact hkind.1
      refine (pureOp_upon hC hS.rel hp hρ).wpIn (fun c h => by rw [h] at hp; simp [pureOp] at hp) fun v' w1 ⟨e1, hv⟩ => ?_
      subst e1
      exact go _ _ ⟨m, fz, pr', hS.calm hok hs hL (by simp [Ent.chain, hk]) (fun x h => by rw [hk] at h; cases h) hv⟩
    | read =>
      rw [hk] at hw hkind
      simp only [hw, if_true]
      have hp := read_any hok hcl hs hk hL hb
      refine (pureOp_upon hC hS.rel hp hρ).wpIn (fun c h => by rw [h] at hp; simp [pureOp] at hp) fun v' w1 ⟨e1, hv⟩ => ?_
      subst e1
      exact go _ _ ⟨m, fz, pr', hS.calm hok hs hL (by simp [Ent.chain, hk]) (fun x h => by rw [hk] at h; cases h) hv⟩
    | make x =>
      rw [hk] at hw hkind
      simp only [hw, if_true]
      obtain ⟨f, hf, hv⟩ := hkind
      obtain ⟨v', w1, hr, hn, hm⟩ := allocOp_sound hC hf hρ
      have hu : Upon P ro (execOp a.eval e.o) w (fun u w2 => u = v' ∧ w2 = w1) := ⟨.value v', w1, hr, rfl, rfl⟩
      refine hu.wpIn (fun c h => by rw [h] at hf; simp [allocOp] at hf) fun u w2 ⟨e1, e2⟩ => ?_
      subst e1 e2
      exact go _ _ ⟨_, _, _, hS.make hok hs hL hk hn hm hv⟩
    | did Hp H =>
      rw [hk] at hw hkind
      simp only [hw, if_true]
      have hu := hS.did hC hcall hyf hok hcl hs hL hb hk (ro := ro)
      exact hu.wpIn (fun c h => by have := hkind.2.2.1; rw [h] at this; simp [chainOp, effOp] at this) fun v' w1 hS1 => go _ _ hS1

theorem Rel.drew {m : Emb} {fz pr : Nat → Prop} {H : Heap} {w : World} (h : Rel m fz pr H w) : Rel m fz pr H w.drew :=
  ⟨h.fresh, h.below, fun r x hr => let ⟨b, o, h1, h2, h3, h4⟩ := h.rows r x hr; ⟨b, o, h1, h2, h3, h4.ext (WExt.drew m fz pr w) rfl⟩, h.apart, h.fzlt, h.prlt, h.disj⟩

theorem drawn_sound (hP : POk P) (hcall : CallOk P call) (hyf : YfOk P yf) {id : Nat} {S S' : FS} {H H' : Heap} {m : Emb} {fz pr : Nat → Prop} {w : World} {a : Act} {n : Nat} {Q : Exit → Act → World → Prop}
    (h : drawnAll P call yf ops S H = some (S', H')) (hR : Rel m fz pr H w) (hF : FRel m fz w S a)
    (hQ : ∀ a' w' m' fz', WExt m fz pr w m' fz' w' → Rel m' fz' pr H' w' → FRel m' fz' w' S' a' → Keep H.next m m' → Stays H H' → Q .normal a' w') : (Code.region id ops true).wpIn (FF ro) n P Q a w := by
  unfold drawnAll at h
  split at h
  · rename_i D hD
    simp only [Option.some.injEq, Prod.mk.injEq] at h
    obtain ⟨rfl, rfl⟩ := h
    obtain ⟨log, hok, hst, hops⟩ := drawn_log ops S.T { H with next := H.next + ops.size } P call yf S.nt H.next ops.toList [] D hD trivial
    subst hst
    simp only [List.reverse_nil, List.map_nil, List.nil_append] at hops
    have hlen := log_len hops
    have hx0 := WExt.drew m fz pr w
    have hR1 : Rel m fz pr { H with next := H.next + ops.size } w.drew := (hR.drew).more _
    have hF1 := hF.ext hx0
    refine wpIn_region_any hP.mixed ?_
    have hsim0 : Sim ops S.T { H with next := H.next + ops.size } S.nt H.next S.D m fz pr w log m fz pr (fun j => (Array.replicate ops.size false).getD j false) a w.drew := by
      have hoff : ∀ j, (Array.replicate ops.size false).getD j false = false := fun j => by
        rw [Array.getD_eq_getD_getElem?, Array.getElem?_replicate]; split <;> rfl
      have hheap : heapAt { H with next := H.next + ops.size } (fun j => (Array.replicate ops.size false).getD j false) log = { H with next := H.next + ops.size } := by
        have : ∀ (lg : List Ent), heapAt { H with next := H.next + ops.size } (fun j => (Array.replicate ops.size false).getD j false) lg = { H with next := H.next + ops.size } := by
          intro lg
          induction lg with
          | nil => rfl
          | cons c lg ih => rw [heapAt_off (hoff _)]; exact ih
        exact this log
      refine ⟨by rw [hheap]; exact hR1, fun b hb => hb, hx0, Keep.refl _ _, by rw [hheap]; simp; omega, by rw [hheap], fun _ q _ => by rw [hheap], fun e l _ hL => by rw [hoff] at hL; simp at hL, fun t _ => hF1.tmps t, hF1.size, hF1.defers,
        fun j hj _ => ?_, fun e l x _ hL => by rw [hoff] at hL; simp at hL, fun e l x _ _ _ _ _ hL => by rw [hoff] at hL; simp at hL⟩
      have hfr : m (H.next + j) = none := hR.fresh _ (by omega)
      refine ⟨hfr, ?_⟩
      rw [hheap]
      cases hg : Heap.get { H with next := H.next + ops.size } (H.next + j) with
      | none => rfl
      | some y =>
        obtain ⟨b, o, hmb, -⟩ := hR1.rows _ _ hg
        rw [hfr] at hmb; simp at hmb
    refine sim_any hP.child hcall hyf hok hops (D := S.D) (m0 := m) (fz0 := fz) (pr := pr) (w0 := w) (fun L a1 w1 m1 fz1 pr1 hS hall => ?_) ops.size (Array.replicate ops.size false) (List.range ops.size) a w.drew (by simp)
      (fun e l hs hL => by
        have : (Array.replicate ops.size false).getD l.length false = false := by rw [Array.getD_eq_getD_getElem?, Array.getElem?_replicate]; split <;> rfl
        simp only [this] at hL; simp at hL) ⟨m, fz, pr, hsim0⟩ (fun j hj _ => List.mem_range.2 hj) (by simp)
    -- all done
    simp only [stOf] at hQ
    have hheap : heapAt { H with next := H.next + ops.size } L log = heapOf { H with next := H.next + ops.size } log := heapAt_all fun p hp => hall _ (past_lt p hp)
    have hrel := hS.rel
    have hnxt := hS.nxt
    have hlock := hS.lock
    have hrows := hS.rows
    rw [hheap] at hrel hnxt hlock hrows
    have hps := hS.pends hok (List.suffix_refl _) (fun c lc hs _ _ => hs) (p := fun _ => true) (fun j hj _ => hall j hj)
    obtain ⟨hrelp, hnp, hlp, hgp⟩ := laid_rel (base := H.next) (p := fun _ => true) (pendOf log) pr1 _ hrel (fun j x hm => by have := pendOf_nodup.2 j (List.mem_map.2 ⟨_, hm, rfl⟩); omega)
      (fun j x hm hpj => by
        obtain ⟨e', le, h1, h2, h3, h4, h5⟩ := hps j x hm hpj
        obtain ⟨blk, g1, g2, g3, g4⟩ := hS.pend e' le x h1 (by rw [h2]; exact h4) h3 (by rw [h2]; exact h5)
        rw [h2] at g1
        exact ⟨blk, g1, g2, g4⟩) pendOf_nodup.1
      (fun j x j' x' blk hm hm' hb1 hb2 hp hp' => by
        obtain ⟨e1, l1, h1, h2, h3, h4, h5⟩ := hps j x hm hp
        obtain ⟨e2, l2, g1, g2, g3, g4, g5⟩ := hps j' x' hm' hp'
        have := hS.inj e1 l1 x e2 l2 x' blk h1 (by rw [h2]; exact h4) h3 (by rw [h2]; exact h5) g1 (by rw [g2]; exact g4) g3 (by rw [g2]; exact g5) (by rw [h2]; exact hb1) (by rw [g2]; exact hb2)
        omega)
    refine hQ a1 w1 m1 fz1 hS.ext (hrelp.weaken fun b hpb => ⟨hS.prs b hpb, fun j x hm hj hmb => ?_⟩) ⟨fun t => ?_, hS.size, hS.defers⟩ hS.keep ⟨by rw [hlp]; exact hlock, by rw [hnp]; omega, fun q hq hle => ?_⟩
    · obtain ⟨e', le, h1, h2, h3, h4, h5⟩ := hps j x hm hj
      obtain ⟨blk, g1, g2, g3, g4⟩ := hS.pend e' le x h1 (by rw [h2]; exact h4) h3 (by rw [h2]; exact h5)
      rw [h2, hmb] at g1
      simp at g1
      exact g3 (g1 ▸ hpb)
    · show VRel m1 fz1 w1 (((tOf S.T log).get t).getD .any) _
      cases hw : (wrOf log).get t with
      | some j =>
        obtain ⟨e', l', h1, h2, h3, h4⟩ := wr_back (T0 := S.T) hw
        rw [h4]
        exact hS.vals e' l' h1 (hall _ (upn_len h1)) t h3
      | none =>
        rw [wr_none hw]
        refine hS.olds t fun e' l' hs' _ hd => ?_
        have := wr_some hs' hd
        rw [hw] at this; simp at this
    · rw [hgp q (by omega)]
      exact hrows hle q hq
  · simp at h

end
end Go.Abs
