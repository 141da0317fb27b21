/- The evaluator's operations are the model's: rows, conversions, slices, parts. -/
import Derived.Test.YtilmhmfdohbpbaaGreatQwC2
import Derived.Laws.BytesString
import Derived.Laws.Cover4
import Derived.Laws.Strings2
set_option linter.unusedVariables false
set_option linter.unusedSimpArgs false
namespace Go.Abs
open Go

section
variable {P : Program} {m : Emb} {fz pr : Nat → Prop} {H : Heap} {w : World}

theorem add_addr (b o j : Nat) : (Addr.add ⟨b, o, none⟩ j) = ⟨b, o + j, none⟩ := by
  unfold Addr.add
  split
  · rename_i h; subst h; rfl
  · rfl

/-- A row of cells that lies where it is said to lie. -/
structure RowAt (m : Emb) (fz : Nat → Prop) (w : World) (cs : List AVal) (a : Option Addr) (f : Nat → Value) : Prop where
  at_ : cs = [] ∨ ∃ b o, a = some ⟨b, o, none⟩ ∧ ∀ j, j < cs.length → w.cell? ⟨b, o + j, none⟩ = some (f j)
  val : ∀ (j : Nat) c, cs[j]? = some c → VRel m fz w c (f j)

theorem elemsOf_sound {sz : Nat} {x : AVal} {x' : Value} {cs : List AVal} {n : Nat} (hR : Rel m fz pr H w) (h : elemsOf H sz x = some (cs, n)) (hx : VRel m fz w x x') :
    ∃ (a : Option Addr) (cap' : Nat) (f : Nat → Value), x' = .slice a n cap' ∧ cs.length = n * sz ∧ n ≤ cap' ∧ RowAt m fz w cs a f := by
  cases hx <;> simp only [elemsOf] at h
  case lst cs0 n0 cap a cap' f hcap hnil hn hb hv =>
    obtain ⟨r, hr, he⟩ := Option.map_eq_some_iff.1 h
    simp at he
    obtain ⟨rfl, rfl⟩ := he
    obtain ⟨h1, rfl⟩ := takeN_spec hr
    refine ⟨a, cap', f, rfl, by simp; omega, hn, ?_, fun j c hj => ?_⟩
    · rcases hb with hb | ⟨b, o, ha, hf, hc⟩
      · left; simp [hb]
      · right; exact ⟨b, o, ha, fun j hj => hc j (by simp at hj; omega)⟩
    · simp only [List.getElem?_take] at hj
      split at hj
      · exact hv j c hj
      · simp at hj
  case slice r off n0 sz' cap b o cap' a hm hcap hn ha hs =>
    split at h
    · rename_i c hg
      cases hsz : Nat.beq sz sz' with
      | false => simp [hsz] at h
      | true =>
        have := Nat.eq_of_beq_eq_true hsz
        subst this
        simp only [hsz, cond_true] at h
        obtain ⟨r', hr, he⟩ := Option.map_eq_some_iff.1 h
        simp at he
        obtain ⟨rfl, rfl⟩ := he
        obtain ⟨h1, rfl⟩ := takeN_spec hr
        obtain ⟨b', o', hm', _, _, f, hf, hc⟩ := hR.rows r _ hg
        rw [hm] at hm'
        simp at hm'
        obtain ⟨rfl, rfl⟩ := hm'
        refine ⟨some a, cap', fun j => f (off + j), rfl, by simp at h1 ⊢; omega, hn, ?_, fun j c' hj => ?_⟩
        · rcases ha with h0 | ha
          · left
            have : n0 = 0 := by omega
            subst this
            simp
          · right
            refine ⟨b, o + off, by rw [ha], fun j hj => ?_⟩
            have := (hf (off + j) (by simp at hj h1; omega)).1
            rwa [Nat.add_assoc]
        · simp only [List.getElem?_take, List.getElem?_drop] at hj
          split at hj
          · exact hc (off + j) c' hj
          · simp at hj
    · simp at h
  all_goals simp at h

theorem RowAt.load {cs : List AVal} {b o : Nat} {f : Nat → Value} (h : RowAt m fz w cs (some ⟨b, o, none⟩) f) :
    (loadCells ⟨b, o, none⟩ cs.length).run P w = .ok ((List.range cs.length).map f).toArray w := by
  refine run_loadCells w _ _ f fun j hj => ?_
  rcases h.at_ with rfl | ⟨b', o', he, hc⟩
  · simp at hj
  · simp at he
    obtain ⟨rfl, rfl⟩ := he
    rw [add_addr]; exact hc j hj

/-- 'loadCells' of any address, where the row may be empty. -/
theorem RowAt.load' {cs : List AVal} {a : Addr} {f : Nat → Value} (h : RowAt m fz w cs (some a) f) :
    (loadCells a cs.length).run P w = .ok ((List.range cs.length).map f).toArray w := by
  refine run_loadCells w _ _ f fun j hj => ?_
  rcases h.at_ with rfl | ⟨b', o', he, hc⟩
  · simp at hj
  · simp at he
    subst he
    rw [add_addr]; exact hc j hj

theorem RowAt.list {cs : List AVal} {a : Option Addr} {f : Nat → Value} (h : RowAt m fz w cs a f) : VRels m fz w cs ((List.range cs.length).map f) := by
  refine ⟨by simp, fun j x y hx hy => ?_⟩
  simp only [List.getElem?_map] at hy
  obtain ⟨i, hi, rfl⟩ := Option.map_eq_some_iff.1 hy
  have hi' := (List.getElem?_eq_some_iff.1 hi)
  obtain ⟨hlt, he⟩ := hi'
  simp at he
  subst he
  exact h.val j x hx

theorem bytesOfA_spec : ∀ {cs : List AVal} {bs : List UInt8} {vs : List Value}, bytesOfA cs = some bs → VRels m fz w cs vs →
    ∃ ns : List Int, vs = ns.map (Value.int .u8) ∧ bs = ns.map fun n => UInt8.ofNat n.toNat
  | [], bs, vs, h, hv => by
    simp [bytesOfA] at h; subst h
    have : vs = [] := by have := hv.1; cases vs <;> simp_all
    exact ⟨[], by simp [this], rfl⟩
  | c :: cs, bs, vs, h, hv => by
    unfold bytesOfA at h
    split at h
    · rename_i heq; simp at heq
    · rename_i n r heq
      simp at heq
      obtain ⟨rfl, rfl⟩ := heq
      obtain ⟨bs', hbs, rfl⟩ := Option.map_eq_some_iff.1 h
      cases vs with
      | nil => have := hv.1; simp at this
      | cons v vs =>
        have h0 := hv.2 0 _ _ rfl rfl
        obtain ⟨ns, rfl, rfl⟩ := bytesOfA_spec (vs := vs) hbs ⟨by have := hv.1; simpa using this, fun j x y hx hy => hv.2 (j + 1) x y (by simpa using hx) (by simpa using hy)⟩
        cases h0
        exact ⟨n :: ns, rfl, rfl⟩
    · simp at h

theorem runesOfA_spec : ∀ {cs : List AVal} {bs : List UInt8} {vs : List Value}, runesOfA cs = some bs → VRels m fz w cs vs →
    ∃ ns : List Int, vs = ns.map (Value.int .i32) ∧ bs = ns.flatMap fun n => (Utf8.encode n).data.toList
  | [], bs, vs, h, hv => by
    simp [runesOfA] at h; subst h
    have : vs = [] := by have := hv.1; cases vs <;> simp_all
    exact ⟨[], by simp [this], rfl⟩
  | c :: cs, bs, vs, h, hv => by
    unfold runesOfA at h
    split at h
    · rename_i heq; simp at heq
    · rename_i n r heq
      simp at heq
      obtain ⟨rfl, rfl⟩ := heq
      obtain ⟨bs', hbs, rfl⟩ := Option.map_eq_some_iff.1 h
      cases vs with
      | nil => have := hv.1; simp at this
      | cons v vs =>
        have h0 := hv.2 0 _ _ rfl rfl
        obtain ⟨ns, rfl, rfl⟩ := runesOfA_spec (vs := vs) hbs ⟨by have := hv.1; simpa using this, fun j x y hx hy => hv.2 (j + 1) x y (by simpa using hx) (by simpa using hy)⟩
        cases h0
        exact ⟨n :: ns, rfl, by simp⟩
    · simp at h

theorem fold_push_data : ∀ (ns : List Int) (s : ByteArray), (ns.foldl (fun r n => r.push (UInt8.ofNat n.toNat)) s).data.toList = s.data.toList ++ ns.map fun n => UInt8.ofNat n.toNat
  | [], s => by simp
  | n :: ns, s => by simp [fold_push_data ns, ByteArray.data_push]

theorem fold_append_data : ∀ (ns : List Int) (s : ByteArray), (ns.foldl (fun r n => r ++ Utf8.encode n) s).data.toList = s.data.toList ++ ns.flatMap fun n => (Utf8.encode n).data.toList
  | [], s => by simp
  | n :: ns, s => by simp [fold_append_data ns, ByteArray.data_append]

theorem convertA_sound {src dst : TypeId} {x v : AVal} {x' : Value} (hR : Rel m fz pr H w) (h : convertA P H src dst x = some v) (hx : VRel m fz w x x') :
    ∃ v', (convert src dst x').run P w = .ok v' w ∧ VRel m fz w v v' := by
  unfold convertA at h
  split at h
  case h_2 => simp at h
  case h_1 s d hs hd =>
    split at h
    · cases hx; simp [wrapA_eq] at h; subst h
      exact ⟨_, by simp only [convert, Sem.run_bind, run_underlying hs, run_underlying hd, Result.andThen_ok, Conv.intToInt]; rfl, .int _ _⟩
    · cases hx; simp at h; subst h
      refine ⟨_, by simp only [convert, Sem.run_bind, run_underlying hs, run_underlying hd, Result.andThen_ok, Conv.intToString]; rfl, .str _ _ rfl⟩
    · cases hx with
      | str s' l he =>
      simp at h; subst h
      exact ⟨_, by simp only [convert, Sem.run_bind, run_underlying hs, run_underlying hd, Result.andThen_ok]; rfl, .str _ _ he⟩
    · rename_i e _ _
      split at h
      · rename_i he
        split at h
        · rename_i cs n hel
          obtain ⟨bs, hb, rfl⟩ := Option.map_eq_some_iff.1 h
          obtain ⟨a, cap', f, rfl, hl, hn, hrow⟩ := elemsOf_sound hR hel hx
          simp at hl
          rw [run_convert_bytes_string w src dst e a n cap' hs he hd]
          obtain ⟨ns, hns, rfl⟩ := bytesOfA_spec hb hrow.list
          cases a with
          | none =>
            have : cs = [] := by rcases hrow.at_ with h | ⟨b, o, h, _⟩; exact h; simp at h
            subst this
            simp at hns; subst hns
            exact ⟨_, rfl, .str _ _ rfl⟩
          | some a =>
            have hload := hrow.load' (P := P)
            rw [hns, hl] at hload
            exact ⟨_, run_bytesToString w a n cap' ns hload, .str _ _ (by simp [fold_push_data])⟩
        · simp at h
      · rename_i he
        split at h
        · rename_i cs n hel
          obtain ⟨bs, hb, rfl⟩ := Option.map_eq_some_iff.1 h
          obtain ⟨a, cap', f, rfl, hl, hn, hrow⟩ := elemsOf_sound hR hel hx
          simp at hl
          rw [run_convert_runes_string w src dst e a n cap' hs he hd]
          obtain ⟨ns, hns, rfl⟩ := runesOfA_spec hb hrow.list
          cases a with
          | none =>
            have : cs = [] := by rcases hrow.at_ with h | ⟨b, o, h, _⟩; exact h; simp at h
            subst this
            simp at hns; subst hns
            exact ⟨_, rfl, .str _ _ rfl⟩
          | some a =>
            have hload := hrow.load' (P := P)
            rw [hns, hl] at hload
            exact ⟨_, run_runesToString w a n cap' ns hload, .str _ _ (by simp [runesBytes, fold_append_data])⟩
        · simp at h
      · simp at h
    · simp at h

/-! ### Bounds -/

theorem natOf_rel {x : AVal} {x' : Value} {n : Nat} (h : natOf x = some n) (hx : VRel m fz w x x') : ∃ k, x' = .int k n := by
  cases hx <;> simp only [natOf] at h
  case int k i =>
    cases i with
    | ofNat a => simp at h; subst h; exact ⟨k, rfl⟩
    | negSucc a => simp at h
  all_goals simp at h

theorem run_sliceBound_in (k : IntKind) (i y : Nat) (code : BoundsCode) (h : i ≤ y) : (Instr.sliceBound (.int k i) y code).run P w = .ok i w := by
  have : (0 : Int) ≤ (i : Int) ∧ (i : Int) ≤ (y : Int) := ⟨by omega, by omega⟩
  simp [Instr.sliceBound, asIntOf, h]

def OptRel (m : Emb) (fz : Nat → Prop) (w : World) : Option AVal → Option Value → Prop
  | none, none => True
  | some x, some y => VRel m fz w x y
  | _, _ => False

def capB (isSlice : Bool) (cap : Nat) (mx : Option Value) : Sem Nat :=
  match mx with | some v => Instr.sliceBound v cap (if isSlice then .slice3Acap else .slice3Alen) | none => pure cap
def highB (isSlice : Bool) (len M : Nat) (hi mx : Option Value) : Sem Nat :=
  match hi, mx with
  | some v, some _ => Instr.sliceBound v M .slice3B
  | some v, none => Instr.sliceBound v M (if isSlice then .sliceAcap else .sliceAlen)
  | none, none => pure len
  | none, some _ => stuck "Slice: max without high"
def lowB (h : Nat) (lo mx : Option Value) : Sem Nat :=
  match lo with
  | some v => Instr.sliceBound v h (if mx.isSome then .slice3C else .sliceB)
  | none => pure 0

theorem sliceBounds_eq (isSlice : Bool) (len cap : Nat) (lo hi mx : Option Value) :
    Instr.sliceBounds isSlice len cap lo hi mx =
      capB isSlice cap mx >>= fun M => highB isSlice len M hi mx >>= fun h => lowB h lo mx >>= fun l => pure (l, h, M) := by
  cases mx <;> cases hi <;> cases lo <;> rfl

theorem boundsA_sound {isSlice : Bool} {len cap' : Nat} {cap : Option Nat} {lo hi mx : Option AVal} {lo' hi' mx' : Option Value} {l h : Nat} {c : Option Nat}
    (hb : boundsA len cap lo hi mx = some (l, h, c)) (hlo : OptRel m fz w lo lo') (hhi : OptRel m fz w hi hi') (hmx : OptRel m fz w mx mx')
    (hcap : ∀ c, cap = some c → cap' = c) (hn : len ≤ cap') :
    ∃ c', (Instr.sliceBounds isSlice len cap' lo' hi' mx').run P w = .ok (l, h, c') w ∧ l ≤ h ∧ (∀ k, c = some k → c' = k) ∧ (c = none → cap = none ∧ c' = cap' ∧ h ≤ len) ∧
      (∀ k, c = some k → k ≤ cap' ∧ (k = cap' ∨ k ≤ cap.getD len)) ∧ (h ≤ c') := by
  unfold boundsA at hb
  split at hb
  · simp at hb
  rename_i mm hm
  split at hb
  · simp at hb
  rename_i hh hhh
  split at hb
  · simp at hb
  rename_i ll hll
  simp at hb
  obtain ⟨rfl, rfl, rfl⟩ := hb
  have hgd : cap.getD len ≤ cap' := by
    cases cap with
    | none => simpa using hn
    | some c => simp [hcap c rfl]
  have hcapeq : ∀ k, cap = some k → k = cap' := fun k hk => (hcap k hk).symm
  -- the cap
  have hM : ∃ M, (capB isSlice cap' mx').run P w = .ok M w ∧
      (∀ k, mm = some k → M = k) ∧ (mm = none → mx = none ∧ cap = none ∧ M = cap') ∧ (∀ k, mm = some k → k ≤ cap' ∧ (k = cap' ∨ k ≤ cap.getD len)) := by
    cases mx with
    | none =>
      cases mx' with
      | some _ => exact hmx.elim
      | none =>
        simp at hm
        subst hm
        exact ⟨cap', rfl, fun k hk => hcap k hk, fun hk => ⟨rfl, hk, rfl⟩, fun k hk => ⟨by rw [hcapeq k hk]; exact Nat.le_refl _, .inl (hcapeq k hk)⟩⟩
    | some v =>
      cases mx' with
      | none => exact hmx.elim
      | some v' =>
        simp only at hm
        split at hm
        · rename_i M hM
          cases hbl : Nat.ble M (cap.getD len) with
          | false => simp [hbl] at hm
          | true =>
            simp [hbl] at hm
            subst hm
            have hle := Nat.le_of_ble_eq_true hbl
            obtain ⟨k, rfl⟩ := natOf_rel hM hmx
            exact ⟨M, run_sliceBound_in k M cap' _ (by omega), fun k hk => by simpa using hk, fun hk => by simp at hk, fun k hk => by simp at hk; subst hk; exact ⟨by omega, .inr hle⟩⟩
        · simp at hm
  obtain ⟨M, hM1, hM2, hM3, hM4⟩ := hM
  -- high
  have hH : (highB isSlice len M hi' mx').run P w = .ok hh w ∧ hh ≤ M ∧ (mm = none → hh ≤ len) := by
    have hMlen : mm.getD len ≤ M := by
      cases hmm : mm with
      | none => obtain ⟨_, _, rfl⟩ := hM3 hmm; simpa using hn
      | some k => have := hM2 k hmm; simp; omega
    cases hi with
    | none =>
      cases hi' with
      | some _ => exact hhi.elim
      | none =>
        cases mx with
        | some v => simp at hhh
        | none =>
          cases mx' with
          | some _ => exact hmx.elim
          | none =>
            simp at hhh hm
            subst hhh hm
            refine ⟨rfl, ?_, fun _ => Nat.le_refl _⟩
            cases hc : cap with
            | none => obtain ⟨_, _, rfl⟩ := hM3 hc; exact hn
            | some k => have := hM2 k hc; have := hcap k hc; omega
    | some v =>
      cases hi' with
      | none => exact hhi.elim
      | some v' =>
        simp only at hhh
        split at hhh
        · rename_i N hN
          cases hbl : Nat.ble N (mm.getD len) with
          | false => simp [hbl] at hhh
          | true =>
            simp [hbl] at hhh
            subst hhh
            have hle := Nat.le_of_ble_eq_true hbl
            obtain ⟨k, rfl⟩ := natOf_rel hN hhi
            refine ⟨?_, by omega, fun hk => by simpa [hk] using hle⟩
            cases mx' with
            | some _ => exact run_sliceBound_in k N M _ (by omega)
            | none => exact run_sliceBound_in k N M _ (by omega)
        · simp at hhh
  obtain ⟨hH1, hH2, hH3⟩ := hH
  -- low
  have hL : (lowB hh lo' mx').run P w = .ok ll w ∧ ll ≤ hh := by
    cases lo with
    | none =>
      cases lo' with
      | some _ => exact hlo.elim
      | none => simp at hll; subst hll; exact ⟨rfl, Nat.zero_le _⟩
    | some v =>
      cases lo' with
      | none => exact hlo.elim
      | some v' =>
        simp only at hll
        split at hll
        · rename_i N hN
          cases hbl : Nat.ble N hh with
          | false => simp [hbl] at hll
          | true =>
            simp [hbl] at hll
            subst hll
            have hle := Nat.le_of_ble_eq_true hbl
            obtain ⟨k, rfl⟩ := natOf_rel hN hlo
            exact ⟨run_sliceBound_in k N hh _ hle, hle⟩
        · simp at hll
  obtain ⟨hL1, hL2⟩ := hL
  refine ⟨M, ?_, hL2, hM2, fun hk => ⟨(hM3 hk).2.1, (hM3 hk).2.2, hH3 hk⟩, hM4, hH2⟩
  rw [sliceBounds_eq, Sem.run_bind, hM1, Result.andThen_ok, Sem.run_bind, hH1, Result.andThen_ok, Sem.run_bind, hL1, Result.andThen_ok]
  rfl

end
end Go.Abs
