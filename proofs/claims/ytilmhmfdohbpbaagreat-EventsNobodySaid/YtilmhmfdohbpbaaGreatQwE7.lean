/- Part of the evaluator's core: see its own heading. -/
import Derived.Test.YtilmhmfdohbpbaaGreatQwE6
/-! A region that draws its order is sound. -/
set_option linter.unusedVariables false
set_option linter.unusedSimpArgs false
namespace Go.Abs
open Go

/-- An object that is there, and not yet laid. -/
def Pend (m : Emb) (fz pr pr' : Nat → Prop) (w : World) (r : Nat) (x : AObj) : Prop :=
  ∃ blk, m r = some (blk, 0) ∧ pr' blk ∧ ¬ pr blk ∧ ORel m fz w blk 0 x

/-- Has it been laid? -/
def Unlaid (L : Nat → Bool) (log : List Ent) (j : Nat) : Prop := ∀ c lc, Upn c lc log → c.chain = true → L lc.length = true → Nat.testBit c.b j = false

structure Sim (ops : Array Oper) (T0 : Tmps) (H0 : Heap) (nt base : Nat) (D : List Nat) (m0 : Emb) (fz0 pr : Nat → Prop) (w0 : World) (log : List Ent) (m : Emb) (fz pr' : Nat → Prop) (L : Nat → Bool) (a : Act) (w : World) : Prop where
  rel : Rel m fz pr' (heapAt H0 L log) w
  prs : ∀ b, pr b → pr' b
  ext : WExt m0 fz0 pr w0 m fz w
  keep : Keep base m0 m
  nxt : base + log.length ≤ (heapAt H0 L log).next
  lock : (heapAt H0 L log).lock = H0.lock
  rows : H0.lock ≤ base → ∀ q, q < H0.lock → (heapAt H0 L log).get q = H0.get q
  vals : ∀ e l, Upn e l log → L l.length = true → ∀ d, e.o.dst = some d → VRel m fz w e.v (a.tmps.getD d undef)
  olds : ∀ t, (∀ e l, Upn e l log → L l.length = true → e.o.dst ≠ some t) → VRel m fz w ((T0.get t).getD .any) (a.tmps.getD t undef)
  size : a.tmps.size = nt
  defers : DRel m D a.defers
  free : ∀ j, j < log.length → L j = false → m (base + j) = none ∧ (heapAt H0 L log).get (base + j) = none
  pend : ∀ e l x, Upn e l log → L l.length = true → e.k = .make x → Unlaid L log l.length → Pend m fz pr pr' w (base + l.length) x
  inj : ∀ e l x e' l' x' blk, Upn e l log → L l.length = true → e.k = .make x → Unlaid L log l.length → Upn e' l' log → L l'.length = true → e'.k = .make x' → Unlaid L log l'.length →
    m (base + l.length) = some (blk, 0) → m (base + l'.length) = some (blk, 0) → l.length = l'.length

section
variable {ops : Array Oper} {T0 : Tmps} {H0 : Heap} {P : Program} {call : Cal} {yf : Yf} {nt base : Nat} {D : List Nat} {m0 : Emb} {fz0 pr : Nat → Prop} {w0 : World} {log : List Ent}
variable {m : Emb} {fz pr' : Nat → Prop} {L : Nat → Bool} {a : Act} {w : World} {ro : Option Nat}

abbrev adds (L : Nat → Bool) (i : Nat) : Nat → Bool := fun j => L j || decide (j = i)

theorem adds_self (L : Nat → Bool) (i : Nat) : adds L i i = true := by simp [adds]
theorem adds_of {L : Nat → Bool} {i j : Nat} (h : L j = true) : adds L i j = true := by simp [adds, h]
theorem adds_iff {L : Nat → Bool} {i j : Nat} (h : adds L i j = true) (hne : j ≠ i) : L j = true := by simpa [adds, hne] using h
theorem adds_false {L : Nat → Bool} {i j : Nat} (h : adds L i j = false) : L j = false ∧ j ≠ i := by simpa [adds] using h

/-- What an operation reads is what it read when it was laid down. -/
theorem Sim.snap (hS : Sim ops T0 H0 nt base D m0 fz0 pr w0 log m fz pr' L a w) (hok : LogOk ops T0 H0 P call yf nt base log) {e l} (hs : Upn e l log) (hL : L l.length = false)
    (hb : ∀ j, Nat.testBit e.b j = true → L j = true) : TRel m fz w e.M a.tmps := by
  intro t
  obtain ⟨-, he⟩ := hok.at_ hs
  rw [he.snap, maskT_get]
  by_cases ht : t ∈ readsOf ops e.o
  · simp only [ht, if_true, Tr.get_nil, Option.or_none]
    cases hw : (wrOf l).get t with
    | some j =>
      obtain ⟨e', l', h1, h2, h3, h4⟩ := wr_back (T0 := T0) hw
      rw [h4]
      exact hS.vals e' l' (h1.trans hs.tail) (by rw [h2]; exact hb _ (readsOk_spec _ he.reads t ht j hw)) t h3
    | none =>
      rw [wr_none hw]
      refine hS.olds t fun e' l' hs' hL' hd => ?_
      rcases Nat.lt_trichotomy l'.length l.length with hlt | heq | hgt
      · have := wr_some (upn_below hs' hs hlt) hd
        rw [hw] at this; simp at this
      · rw [heq, hL] at hL'; simp at hL'
      · have h1 := rd_some (upn_below hs hs' hgt) ht
        have h2 := (hok.at_ hs').2.dst
        rw [hd] at h2
        have := (dst_spec h2).2.2
        simp only [stOf] at this
        rw [this] at h1; simp at h1
  · simp only [ht, if_false, Tr.get_nil, Option.getD_none]
    exact .any _

theorem getD_put_ne {dst : Option Tmp} {v : Value} {d : Tmp} (h : dst ≠ some d) : (a.put dst v).tmps.getD d undef = a.tmps.getD d undef := by
  cases dst with
  | none => rfl
  | some d' =>
    have : d' ≠ d := fun e => h (by rw [e])
    simp only [Act.put, Array.getD_eq_getD_getElem?]
    rw [Array.getElem?_setIfInBounds_ne this]

theorem getD_put_eq {v : Value} {d : Tmp} (h : d < a.tmps.size) : (a.put (some d) v).tmps.getD d undef = v := by
  simp [Act.put, Array.getD_eq_getD_getElem?, h]

theorem put_size (dst : Option Tmp) (v : Value) : (a.put dst v).tmps.size = a.tmps.size := by cases dst <;> simp [Act.put]
theorem put_defers (dst : Option Tmp) (v : Value) : (a.put dst v).defers = a.defers := by cases dst <;> rfl

/-- One more has been done. -/
theorem Sim.put (hS : Sim ops T0 H0 nt base D m0 fz0 pr w0 log m fz pr' L a w) (hok : LogOk ops T0 H0 P call yf nt base log) {e l} (hs : Upn e l log) (hL : L l.length = false)
    {m1 : Emb} {fz1 pr1 : Nat → Prop} {w1 : World} {v' : Value} (hx : WExt m fz pr w m1 fz1 w1) (hk : Keep base m m1) (hrel : Rel m1 fz1 pr1 (heapAt H0 (adds L l.length) log) w1)
    (hprs : ∀ b, pr b → pr1 b) (hn : base + log.length ≤ (heapAt H0 (adds L l.length) log).next) (hlk : (heapAt H0 (adds L l.length) log).lock = H0.lock)
    (hrows : H0.lock ≤ base → ∀ q, q < H0.lock → (heapAt H0 (adds L l.length) log).get q = H0.get q)
    (hv : VRel m1 fz1 w1 e.v v')
    (hfree : ∀ j, j < log.length → adds L l.length j = false → m1 (base + j) = none ∧ (heapAt H0 (adds L l.length) log).get (base + j) = none)
    (hpend : ∀ e' l' x, Upn e' l' log → adds L l.length l'.length = true → e'.k = .make x → Unlaid (adds L l.length) log l'.length → Pend m1 fz1 pr pr1 w1 (base + l'.length) x)
    (hinj : ∀ e1 l1 x e2 l2 x' blk, Upn e1 l1 log → adds L l.length l1.length = true → e1.k = .make x → Unlaid (adds L l.length) log l1.length → Upn e2 l2 log → adds L l.length l2.length = true → e2.k = .make x' → Unlaid (adds L l.length) log l2.length →
      m1 (base + l1.length) = some (blk, 0) → m1 (base + l2.length) = some (blk, 0) → l1.length = l2.length) :
    Sim ops T0 H0 nt base D m0 fz0 pr w0 log m1 fz1 pr1 (adds L l.length) (a.put e.o.dst v') w1 where
  rel := hrel
  prs := hprs
  ext := hS.ext.trans hx
  keep := hS.keep.trans hk (Nat.le_refl _)
  nxt := hn
  lock := hlk
  rows := hrows
  vals := by
    intro e2 l2 hs2 hL2 d hd
    by_cases hi : l2.length = l.length
    · obtain ⟨rfl, rfl⟩ := upn_same hs2 hs hi
      have h2 := (hok.at_ hs).2.dst
      rw [hd] at h2 ⊢
      rw [getD_put_eq (by rw [hS.size]; exact (dst_spec h2).1)]
      exact hv
    · rw [getD_put_ne (fun h => hi (dst_unique hok hs2 hs hd h))]
      exact (hS.vals e2 l2 hs2 (adds_iff hL2 hi) d hd).ext hx
  olds := by
    intro t ht
    rw [getD_put_ne (ht e l hs (adds_self _ _))]
    exact (hS.olds t fun e2 l2 hs2 hL2 => ht e2 l2 hs2 (adds_of hL2)).ext hx
  size := by rw [put_size]; exact hS.size
  defers := by rw [put_defers]; exact hS.defers.ext hx.mm
  free := hfree
  pend := hpend
  inj := hinj

theorem unlaid_less {i : Nat} {j : Nat} (h : Unlaid (adds L i) log j) : Unlaid L log j := fun c lc hs hc hL => h c lc hs hc (adds_of hL)

theorem Pend.ext {m1 : Emb} {fz1 pr1 : Nat → Prop} {w1 : World} {r : Nat} {x : AObj} {q : Nat → Prop} (hp : Pend m fz pr pr' w r x) (hx : WExt m fz q w m1 fz1 w1)
    (hq : ∀ blk, m r = some (blk, 0) → pr' blk → q blk ∧ pr1 blk) : Pend m1 fz1 pr pr1 w1 r x := by
  obtain ⟨blk, h1, h2, h3, h4⟩ := hp
  obtain ⟨h5, h6⟩ := hq blk h1 h2
  exact ⟨blk, hx.mm _ _ h1, h6, h3, h4.ext hx (hx.keepp blk h5)⟩

/-- The heap stays as it is by what is no part of the chain. -/
theorem heap_same {e : Ent} {l : List Ent} (hs : Upn e l log) (hc : e.chain = false) : heapAt H0 (adds L l.length) log = heapAt H0 L log :=
  heapAt_skip fun c lc hsc hcc => by
    have : lc.length ≠ l.length := fun h => by
      obtain ⟨rfl, rfl⟩ := upn_same hsc hs h
      rw [hc] at hcc; simp at hcc
    simp [adds, this]

/-- What neither makes nor is of the chain. -/
theorem Sim.calm (hS : Sim ops T0 H0 nt base D m0 fz0 pr w0 log m fz pr' L a w) (hok : LogOk ops T0 H0 P call yf nt base log) {e l} (hs : Upn e l log) (hL : L l.length = false) (hc : e.chain = false)
    (hmk : ∀ x, e.k ≠ .make x) {v' : Value} (hv : VRel m fz w e.v v') : Sim ops T0 H0 nt base D m0 fz0 pr w0 log m fz pr' (adds L l.length) (a.put e.o.dst v') w := by
  have hh := heap_same (H0 := H0) (L := L) hs hc
  have hne : ∀ e' l' x, Upn e' l' log → e'.k = .make x → l'.length ≠ l.length := fun e' l' x hs' hk h => by
    obtain ⟨rfl, rfl⟩ := upn_same hs' hs h
    exact hmk _ hk
  refine hS.put hok hs hL (WExt.refl _ _ _ _) (Keep.refl _ _) (by rw [hh]; exact hS.rel) hS.prs (by rw [hh]; exact hS.nxt) (by rw [hh]; exact hS.lock) (by rw [hh]; exact hS.rows) hv
    (fun j hj hLj => by rw [hh]; exact hS.free j hj (adds_false hLj).1) (fun e' l' x hs' hL' hk hu => hS.pend e' l' x hs' (adds_iff hL' (hne e' l' x hs' hk)) hk (unlaid_less hu))
    (fun e1 l1 x e2 l2 x' blk hs1 hL1 hk1 hu1 hs2 hL2 hk2 hu2 => hS.inj e1 l1 x e2 l2 x' blk hs1 (adds_iff hL1 (hne e1 l1 x hs1 hk1)) hk1 (unlaid_less hu1) hs2 (adds_iff hL2 (hne e2 l2 x' hs2 hk2)) hk2 (unlaid_less hu2))

theorem pendOf_mem : ∀ {log : List Ent}, LogOk ops T0 H0 P call yf nt base log → ∀ {j x}, (j, x) ∈ pendOf log → ∃ e l, Upn e l log ∧ l.length = j ∧ e.k = .make x ∧ ∀ c lc, Upn c lc log → c.chain = true → Nat.testBit c.b j = false := by
  intro log
  induction log with
  | nil => intro _ j x h; simp [pendOf] at h
  | cons c log ih =>
    intro hok j x h
    have old : c.chain = false → (j, x) ∈ pendOf log → ∃ e l, Upn e l (c :: log) ∧ l.length = j ∧ e.k = .make x ∧ ∀ c' lc, Upn c' lc (c :: log) → c'.chain = true → Nat.testBit c'.b j = false := by
      intro hc hm
      obtain ⟨e, l, h1, h2, h3, h4⟩ := ih hok.1 hm
      refine ⟨e, l, h1.trans (List.suffix_cons _ _), h2, h3, fun c' lc hs' hc' => ?_⟩
      rcases upn_cons hs' with ⟨rfl, rfl⟩ | h5
      · rw [hc] at hc'; simp at hc'
      · exact h4 c' lc h5 hc'
    cases hk : c.k with
    | make x0 =>
      simp only [pendOf, hk] at h
      have hc : c.chain = false := by simp [Ent.chain, hk]
      rcases List.mem_cons.1 h with he | h
      · simp only [Prod.mk.injEq] at he
        obtain ⟨rfl, rfl⟩ := he
        refine ⟨c, log, upn_self _ _, rfl, hk, fun c' lc hs' hc' => ?_⟩
        rcases upn_cons hs' with ⟨rfl, rfl⟩ | h5
        · rw [hc] at hc'; simp at hc'
        · cases hb : Nat.testBit c'.b log.length with
          | false => rfl
          | true =>
            have h6 := mask_lt hok.1 h5 _ hb
            have h7 := upn_len h5
            omega
      · exact old hc h
    | did Hp H =>
      simp only [pendOf, hk] at h
      have hml : ∀ (ps : List (Nat × AObj)), (j, x) ∈ laidLater c.b ps → (j, x) ∈ ps ∧ Nat.testBit c.b j = false := by
        intro ps
        induction ps with
        | nil => intro h; simp [laidLater] at h
        | cons y ps ihp =>
          obtain ⟨i, z⟩ := y
          intro h
          simp only [laidLater] at h
          cases hb : Nat.testBit c.b i with
          | true =>
            rw [hb] at h
            obtain ⟨h1, h2⟩ := ihp h
            exact ⟨List.mem_cons_of_mem _ h1, h2⟩
          | false =>
            rw [hb] at h
            rcases List.mem_cons.1 h with he | h
            · simp only [Prod.mk.injEq] at he
              obtain ⟨rfl, rfl⟩ := he
              exact ⟨List.mem_cons_self, hb⟩
            · obtain ⟨h1, h2⟩ := ihp h
              exact ⟨List.mem_cons_of_mem _ h1, h2⟩
      obtain ⟨h1, h2⟩ := hml _ h
      obtain ⟨e, l, h3, h4, h5, h6⟩ := ih hok.1 h1
      refine ⟨e, l, h3.trans (List.suffix_cons _ _), h4, h5, fun c' lc hs' hc' => ?_⟩
      rcases upn_cons hs' with ⟨rfl, rfl⟩ | h7
      · exact h2
      · exact h6 c' lc h7 hc'
    | skip => simp only [pendOf, hk] at h; exact old (by simp [Ent.chain, hk]) h
    | val => simp only [pendOf, hk] at h; exact old (by simp [Ent.chain, hk]) h
    | read => simp only [pendOf, hk] at h; exact old (by simp [Ent.chain, hk]) h

theorem pendOf_all : ∀ {log : List Ent} {e l x}, Upn e l log → e.k = .make x → (∀ c lc, Upn c lc log → c.chain = true → Nat.testBit c.b l.length = false) → (l.length, x) ∈ pendOf log := by
  intro log
  induction log with
  | nil => intro e l x hs; have := upn_len hs; simp at this
  | cons c log ih =>
    intro e l x hs hk hu
    rcases upn_cons hs with ⟨rfl, rfl⟩ | h1
    · simp [pendOf, hk]
    · have hm := ih h1 hk fun c' lc hs' hc' => hu c' lc (hs'.trans (List.suffix_cons _ _)) hc'
      cases hck : c.k with
      | make x0 => simp only [pendOf, hck]; exact List.mem_cons_of_mem _ hm
      | did Hp H =>
        simp only [pendOf, hck]
        have hb := hu c log (upn_self _ _) (by simp [Ent.chain, hck])
        generalize pendOf log = ps at hm
        induction ps with
        | nil => cases hm
        | cons y ps ihp =>
          obtain ⟨i, z⟩ := y
          simp only [laidLater]
          rcases List.mem_cons.1 hm with he | hm
          · simp only [Prod.mk.injEq] at he
            obtain ⟨rfl, rfl⟩ := he
            rw [hb]; exact List.mem_cons_self
          · cases Nat.testBit c.b i with
            | true => exact ihp hm
            | false => exact List.mem_cons_of_mem _ (ihp hm)
      | skip => simp only [pendOf, hck]; exact hm
      | val => simp only [pendOf, hck]; exact hm
      | read => simp only [pendOf, hck]; exact hm

theorem pendOf_nodup : ∀ {log : List Ent}, ((pendOf log).map (·.1)).Nodup ∧ ∀ j ∈ (pendOf log).map (·.1), j < log.length := by
  intro log
  induction log with
  | nil => simp [pendOf]
  | cons c log ih =>
    obtain ⟨h1, h2⟩ := ih
    have hle : ∀ j ∈ (pendOf log).map (·.1), j < (c :: log).length := fun j hj => by have := h2 j hj; simp; omega
    cases hck : c.k with
    | make x0 =>
      simp only [pendOf, hck, List.map_cons, List.nodup_cons]
      refine ⟨⟨fun hm => by have := h2 _ hm; omega, h1⟩, fun j hj => ?_⟩
      rcases List.mem_cons.1 hj with rfl | hj
      · simp
      · exact hle j hj
    | did Hp H =>
      simp only [pendOf, hck]
      have hsub : ∀ (ps : List (Nat × AObj)), ((laidLater c.b ps).map (·.1)).Sublist (ps.map (·.1)) := by
        intro ps
        induction ps with
        | nil => exact List.Sublist.refl _
        | cons y ps ihp =>
          obtain ⟨i, z⟩ := y
          simp only [laidLater]
          cases Nat.testBit c.b i with
          | true => exact ihp.cons _
          | false => exact ihp.cons_cons _
      exact ⟨h1.sublist (hsub _), fun j hj => hle j ((hsub _).subset hj)⟩
    | skip => simp only [pendOf, hck]; exact ⟨h1, hle⟩
    | val => simp only [pendOf, hck]; exact ⟨h1, hle⟩
    | read => simp only [pendOf, hck]; exact ⟨h1, hle⟩

end
end Go.Abs
