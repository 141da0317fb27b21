/- Part of the evaluator's core: see its own heading. -/
import Derived.Test.YtilmhmfdohbpbaaGreatQwE7
/-! A region that draws its order is sound: all steps. -/
set_option linter.unusedVariables false
set_option linter.unusedSimpArgs false
namespace Go.Abs
open Go

section
variable {ops : Array Oper} {T0 : Tmps} {H0 : Heap} {P : Program} {call : Cal} {yf : Yf} {nt base : Nat} {D : List Nat} {m0 : Emb} {fz0 pr : Nat → Prop} {w0 : World} {log : List Ent}
variable {m : Emb} {fz pr' : Nat → Prop} {L : Nat → Bool} {a : Act} {w : World} {ro : Option Nat}

/-- A new object. -/
theorem Sim.make (hS : Sim ops T0 H0 nt base D m0 fz0 pr w0 log m fz pr' L a w) (hok : LogOk ops T0 H0 P call yf nt base log) {e l} (hs : Upn e l log) (hL : L l.length = false)
    {x : AObj} (hk : e.k = .make x) {w1 : World} {v' : Value} {f : Nat → AVal} (hn : NewObj w w1) (hm : Made m fz w w1 x f v') (hv : e.v = f (base + l.length)) :
    Sim ops T0 H0 nt base D m0 fz0 pr w0 log (m.upd (base + l.length) (w.heap.size, 0)) fz (fun b => pr' b ∨ b = w.heap.size) (adds L l.length) (a.put e.o.dst v') w1 := by
  have hc : e.chain = false := by simp [Ent.chain, hk]
  have hh := heap_same (H0 := H0) (L := L) hs hc
  have hlt := upn_len hs
  obtain ⟨hfree, hget⟩ := hS.free l.length hlt hL
  have hx := hn.ext_at hS.rel hfree
  have hnew : (m.upd (base + l.length) (w.heap.size, 0)) (base + l.length) = some (w.heap.size, 0) := by simp [Emb.upd]
  have hold : ∀ q, q ≠ base + l.length → (m.upd (base + l.length) (w.heap.size, 0)) q = m q := fun q h => by simp [Emb.upd, h]
  obtain ⟨ho, hvr⟩ := hm (m.upd (base + l.length) (w.heap.size, 0)) fz (base + l.length) hnew (fun c v h => h.ext hx)
  have hrel := hold_rel hS.rel hn hfree (by have := hS.nxt; omega) hget
  have hoth : ∀ e' l' x', Upn e' l' log → adds L l.length l'.length = true → e'.k = .make x' → Unlaid (adds L l.length) log l'.length → l'.length ≠ l.length →
      ∃ blk, m (base + l'.length) = some (blk, 0) ∧ pr' blk ∧ ¬ pr blk ∧ ORel m fz w blk 0 x' := fun e' l' x' hs' hL' hk' hu hne =>
    hS.pend e' l' x' hs' (adds_iff hL' hne) hk' (unlaid_less hu)
  refine hS.put hok hs hL (hx.weaken hS.prs) (fun q hq => hold q (by omega)) (by rw [hh]; exact hrel) (fun b hb => .inl (hS.prs b hb)) (by rw [hh]; exact hS.nxt) (by rw [hh]; exact hS.lock) (by rw [hh]; exact hS.rows)
    (by rw [hv]; exact hvr) (fun j hj hLj => ?_) (fun e' l' x' hs' hL' hk' hu => ?_) (fun e1 l1 x1 e2 l2 x2 blk hs1 hL1 hk1 hu1 hs2 hL2 hk2 hu2 hm1 hm2 => ?_)
  · obtain ⟨h1, h2⟩ := adds_false hLj
    rw [hh, hold _ (by omega)]
    exact hS.free j hj h1
  · by_cases hi : l'.length = l.length
    · obtain ⟨rfl, rfl⟩ := upn_same hs' hs hi
      rw [hk] at hk'
      cases hk'
      exact ⟨w.heap.size, hnew, .inr rfl, fun hp => by have := hS.rel.prlt _ (hS.prs _ hp); omega, ho⟩
    · obtain ⟨blk, h1, h2, h3, h4⟩ := hoth e' l' x' hs' hL' hk' hu hi
      exact ⟨blk, by rw [hold _ (by omega)]; exact h1, .inl h2, h3, h4.ext hx (hn.same blk (hS.rel.below _ _ _ h1))⟩
  · by_cases hi1 : l1.length = l.length
    · by_cases hi2 : l2.length = l.length
      · omega
      · exfalso
        obtain ⟨blk', h1, -⟩ := hoth e2 l2 x2 hs2 hL2 hk2 hu2 hi2
        rw [hi1, hnew] at hm1
        rw [hold _ (by omega)] at hm2
        have := hS.rel.below _ _ _ hm2
        simp at hm1
        omega
    · by_cases hi2 : l2.length = l.length
      · exfalso
        rw [hi2, hnew] at hm2
        rw [hold _ (by omega)] at hm1
        have := hS.rel.below _ _ _ hm1
        simp at hm2
        omega
      · rw [hold _ (by omega)] at hm1 hm2
        exact hS.inj e1 l1 x1 e2 l2 x2 blk hs1 (adds_iff hL1 hi1) hk1 (unlaid_less hu1) hs2 (adds_iff hL2 hi2) hk2 (unlaid_less hu2) hm1 hm2

/-- What stands ready to be laid. -/
theorem Sim.pends (hS : Sim ops T0 H0 nt base D m0 fz0 pr w0 log m fz pr' L a w) {l : List Ent} (hok : LogOk ops T0 H0 P call yf nt base l) (hl : l <:+ log)
    (hab : ∀ c lc, Upn c lc log → c.chain = true → L lc.length = true → Upn c lc l) {p : Nat → Bool} (hp : ∀ j, j < l.length → p j = true → L j = true) :
    (∀ j x, (j, x) ∈ pendOf l → p j = true → ∃ e le, Upn e le log ∧ le.length = j ∧ e.k = .make x ∧ L j = true ∧ Unlaid L log j) := by
  intro j x hm hpj
  obtain ⟨e, le, h1, h2, h3, h4⟩ := pendOf_mem hok hm
  have := upn_len h1
  exact ⟨e, le, h1.trans hl, h2, h3, hp j (by omega) hpj, fun c lc hs hc hLc => h4 c lc (hab c lc hs hc hLc) hc⟩

/-- An operation of the chain. -/
theorem Sim.did (hC : ChildOk P) (hcall : CallOk P call) (hyf : YfOk P yf) (hS : Sim ops T0 H0 nt base D m0 fz0 pr w0 log m fz pr' L a w) (hok : LogOk ops T0 H0 P call yf nt base log) (hcl : Closed L log)
    {e l} (hs : Upn e l log) (hL : L l.length = false) (hb : ∀ j, Nat.testBit e.b j = true → L j = true) {Hp H : Heap} (hk : e.k = .did Hp H) :
    Upon P ro (execOp a.eval e.o) w (fun v' w1 => ∃ m1 fz1 pr1, Sim ops T0 H0 nt base D m0 fz0 pr w0 log m1 fz1 pr1 (adds L l.length) (a.put e.o.dst v') w1) := by
  have hc : e.chain = true := by simp [Ent.chain, hk]
  obtain ⟨hokl, he⟩ := hok.at_ hs
  have hkind := he.kind
  rw [hk] at hkind
  obtain ⟨hla, hHp, hch, -⟩ := hkind
  have hturn := heapAt_turn hok hcl hs hc hL hb
  have hdone := heapAt_done hok hcl hs hk hL (H0 := H0)
  have hlen := upn_len hs
  have hab : ∀ c lc, Upn c lc log → c.chain = true → L lc.length = true → Upn c lc l := by
    intro c lc hsc hcc hLc
    rcases Nat.lt_trichotomy lc.length l.length with hlt | heq | hgt
    · exact upn_below hsc hs hlt
    · rw [heq, hL] at hLc; simp at hLc
    · rw [chain_above hok hcl hs hc hL c lc hsc hcc hgt] at hLc; simp at hLc
  have hps := hS.pends hokl hs.tail hab (p := Nat.testBit e.b) (fun j _ hj => hb j hj)
  have hlt : ∀ j x, (j, x) ∈ pendOf l → j < l.length := fun j x hm => pendOf_nodup.2 j (List.mem_map.2 ⟨_, hm, rfl⟩)
  have hrel0 := hS.rel
  rw [hturn] at hrel0
  have hnxt0 := hS.nxt
  have hlock0 := hS.lock
  have hrows0 := hS.rows
  rw [hturn] at hnxt0 hlock0 hrows0
  obtain ⟨hrelp, hnp, hlp, hgp⟩ := laid_rel (base := base) (p := Nat.testBit e.b) (pendOf l) pr' (heapOf H0 l) hrel0 (fun j x hm => by have := hlt j x hm; omega)
    (fun j x hm hpj => by
      obtain ⟨e', le, h1, h2, h3, h4, h5⟩ := hps j x hm hpj
      obtain ⟨blk, g1, g2, g3, g4⟩ := hS.pend e' le x h1 (by rw [h2]; exact h4) h3 (by rw [h2]; exact h5)
      rw [h2] at g1
      exact ⟨blk, g1, g2, g4⟩) pendOf_nodup.1
    (fun j x j' x' blk hm hm' hb1 hb2 hp hp' => by
      obtain ⟨e1, l1, h1, h2, h3, h4, h5⟩ := hps j x hm hp
      obtain ⟨e2, l2, g1, g2, g3, g4, g5⟩ := hps j' x' hm' hp'
      have := hS.inj e1 l1 x e2 l2 x' blk h1 (by rw [h2]; exact h4) h3 (by rw [h2]; exact h5) g1 (by rw [g2]; exact g4) g3 (by rw [g2]; exact g5) (by rw [h2]; exact hb1) (by rw [g2]; exact hb2)
      omega)
  rw [← hHp] at hrelp hnp hlp hgp
  -- what is protected still
  have hprs2 : ∀ b, pr b → pr' b ∧ ∀ j x, (j, x) ∈ pendOf l → Nat.testBit e.b j = true → m (base + j) ≠ some (b, 0) := by
    intro b hpb
    refine ⟨hS.prs b hpb, fun j x hm hj hmb => ?_⟩
    obtain ⟨e', le, h1, h2, h3, h4, h5⟩ := hps j x hm hj
    obtain ⟨blk, g1, g2, g3, g4⟩ := hS.pend e' le x h1 (by rw [h2]; exact h4) h3 (by rw [h2]; exact h5)
    rw [h2, hmb] at g1
    simp at g1
    exact g3 (g1 ▸ hpb)
  have hT := hS.snap hok hs hL hb
  have hu := chainOp_sound hC hcall hyf hch hrelp (fun x => evalA_rel hT (a := a) x) (ro := ro)
  refine hu.mono fun v' w1 ⟨m1, fz1, hx, hrel1, hv, hkp, hst⟩ => ⟨m1, fz1, _, hS.put hok hs hL (hx.weaken hprs2) (fun q hq => hkp q (by omega)) (by rw [hdone]; exact hrel1) hprs2 (by rw [hdone]; have := hst.next; omega)
    (by rw [hdone, hst.lock, hlp]; exact hlock0) (fun hle q hq => ?_) hv (fun j hj hLj => ?_) (fun e' l' x hs' hL' hk' hu' => ?_) (fun e1 l1 x1 e2 l2 x2 blk hs1 hL1 hk1 hu1 hs2 hL2 hk2 hu2 hm1 hm2 => ?_)⟩
  · rw [hdone, hst.rows q (by rw [hlp, hlock0]; exact hq) (by rw [hlp, hlock0, hnp]; omega), hgp q (by omega)]
    exact hrows0 hle q hq
  · obtain ⟨h1, h2⟩ := adds_false hLj
    have hmn := hkp (base + j) (by omega)
    rw [hmn]
    have hfr := (hS.free j hj h1).1
    refine ⟨hfr, ?_⟩
    rw [hdone]
    cases hg : H.get (base + j) with
    | none => rfl
    | some y =>
      obtain ⟨b, o, hmb, -⟩ := hrel1.rows _ _ hg
      rw [hmn, hfr] at hmb; simp at hmb
  · have hne : l'.length ≠ l.length := fun h => by
      obtain ⟨rfl, rfl⟩ := upn_same hs' hs h
      rw [hk] at hk'; simp at hk'
    have hp := hS.pend e' l' x hs' (adds_iff hL' hne) hk' (unlaid_less hu')
    refine hp.ext hx fun blk hmb hpb => ?_
    have : pr' blk ∧ ∀ j x, (j, x) ∈ pendOf l → Nat.testBit e.b j = true → m (base + j) ≠ some (blk, 0) := by
      refine ⟨hpb, fun j x' hm hj hmb' => ?_⟩
      obtain ⟨e2, l2, g1, g2, g3, g4, g5⟩ := hps j x' hm hj
      have := hS.inj e' l' x e2 l2 x' blk hs' (adds_iff hL' hne) hk' (unlaid_less hu') g1 (by rw [g2]; exact g4) g3 (by rw [g2]; exact g5) hmb (by rw [g2]; exact hmb')
      have h6 := hu' e l hs hc (adds_self _ _)
      rw [this, g2, hj] at h6
      simp at h6
    exact ⟨this, this⟩
  · have hne1 : l1.length ≠ l.length := fun h => by
      obtain ⟨rfl, rfl⟩ := upn_same hs1 hs h
      rw [hk] at hk1; simp at hk1
    have hne2 : l2.length ≠ l.length := fun h => by
      obtain ⟨rfl, rfl⟩ := upn_same hs2 hs h
      rw [hk] at hk2; simp at hk2
    have k1 := upn_len hs1
    have k2 := upn_len hs2
    rw [hkp _ (by omega)] at hm1 hm2
    exact hS.inj e1 l1 x1 e2 l2 x2 blk hs1 (adds_iff hL1 hne1) hk1 (unlaid_less hu1) hs2 (adds_iff hL2 hne2) hk2 (unlaid_less hu2) hm1 hm2

end
end Go.Abs
