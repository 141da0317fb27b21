/- The evaluator's operations are the model's: 'effOp' as a whole. -/
import Derived.Test.YtilmhmfdohbpbaaGreatQwD5
set_option linter.unusedVariables false
set_option linter.unusedSimpArgs false
namespace Go.Abs
open Go

/-- What stays of a heap behind what the evaluator does. -/
structure Stays (H H' : Heap) : Prop where
  lock : H'.lock = H.lock
  next : H.next ≤ H'.next
  rows : ∀ r, r < H.lock → H.lock ≤ H.next → H'.get r = H.get r

theorem Stays.refl (H : Heap) : Stays H H := ⟨rfl, Nat.le_refl _, fun _ _ _ => rfl⟩
theorem Stays.trans {H H1 H2 : Heap} (h : Stays H H1) (h' : Stays H1 H2) : Stays H H2 :=
  ⟨h'.lock.trans h.lock, Nat.le_trans h.next h'.next, fun r hr hl => (h'.rows r (by rw [h.lock]; exact hr) (by rw [h.lock]; exact Nat.le_trans hl h.next)).trans (h.rows r hr hl)⟩

theorem Stays.push (H : Heap) (x : AObj) : Stays H (H.push x) :=
  ⟨rfl, by simp, fun r hr hl => by rw [Heap.get_push, if_neg (by omega)]⟩
theorem Stays.set {H : Heap} {r : Nat} (x : AObj) (h : H.lock ≤ r) : Stays H (H.set r x) :=
  ⟨rfl, by simp, fun q hq _ => by rw [Heap.get_set, if_neg (by omega)]⟩
theorem Stays.del {H : Heap} {r : Nat} (h : H.lock ≤ r) : Stays H (H.del r) :=
  ⟨rfl, by simp, fun q hq _ => by rw [Heap.get_del, if_neg (by omega)]⟩

theorem storeA_stays {H H' : Heap} {r off : Nat} {vs : List AVal} (h : storeA H r off vs = some H') : Stays H H' := by
  obtain ⟨c, c', _, _, rfl, hl, _⟩ := storeA_spec h
  exact .set _ hl

section
variable {P : Program} {m : Emb} {fz pr : Nat → Prop} {H H' : Heap} {w : World}

theorem appendA_stays {e : TypeId} {x v : AVal} {src : List AVal} {k : Nat} (h : appendA P H e x src k = some (v, H')) : Stays H H' := by
  unfold appendA at h
  simp only at h
  split at h
  · rename_i cs0 n0 cap0
    cases hk : Nat.beq k 0 with
    | true => simp [hk] at h; obtain ⟨_, rfl⟩ := h; exact .refl _
    | false =>
      simp only [hk, cond_false] at h
      split at h
      · rename_i c
        cases hle : Nat.ble (n0 + k) c with
        | true => simp [hle] at h
        | false =>
          simp only [hle, cond_false] at h
          split at h
          · rename_i old _
            cases hsm : appendA.small P e n0 k with
            | false => simp [hsm] at h
            | true => simp [hsm] at h; obtain ⟨_, rfl⟩ := h; exact .push _ _
          · simp at h
      · simp at h
  · rename_i r off n sz' cap
    cases hsz : Nat.beq (P.cellsOf e) sz' with
    | false => simp [hsz] at h
    | true =>
      simp only [hsz, cond_true] at h
      cases hk : Nat.beq k 0 with
      | true => simp [hk] at h; obtain ⟨_, rfl⟩ := h; exact .refl _
      | false =>
        simp only [hk, cond_false] at h
        split at h
        · rename_i c
          cases hle : Nat.ble (n + k) c with
          | true =>
            simp only [hle, cond_true] at h
            obtain ⟨H2, hst, he⟩ := Option.map_eq_some_iff.1 h
            simp at he
            obtain ⟨_, rfl⟩ := he
            exact storeA_stays hst
          | false =>
            simp only [hle, cond_false] at h
            split at h
            · cases hsm : appendA.small P e n k with
              | false => simp [hsm] at h
              | true => simp [hsm] at h; obtain ⟨_, rfl⟩ := h; exact .push _ _
            · simp at h
        · split at h
          · rename_i old n' _
            cases hc : (appendA.small P e n k && Nat.ble H.lock r && src.all AVal.single) with
            | false => simp [hc] at h
            | true =>
              simp only [hc, cond_true, Option.some.injEq, Prod.mk.injEq] at h
              obtain ⟨_, rfl⟩ := h
              simp only [Bool.and_eq_true] at hc
              exact (Stays.del (Nat.le_of_ble_eq_true hc.1.2)).trans (.push _ _)
          · simp at h
  · simp at h

/-- An operation that changes the heap. -/
def EffOp (P : Program) (nx : Nat) (m : Emb) (fz pr : Nat → Prop) (w : World) (s : Sem Next) (v : AVal) (H' : Heap) : Prop :=
  ∃ v' w' m', (s.run P w = .ok (.value v') w' ∨ (s.run P w = .ok .skip w' ∧ v' = undef)) ∧ WExt m fz pr w m' fz w' ∧ Rel m' fz pr H' w' ∧ VRel m' fz w' v v' ∧ ∀ r, r < nx → m' r = m r

theorem iter_rel {r b : Nat} {s' : ByteArray} {pos pos' : Nat} {x : AObj} (hR : Rel m fz pr H w) (hg : H.get r = some x) (hm : m r = some (b, 0)) (hb : w.heap[b]? = some (.stringIter s' pos)) (hp : pos' ≤ s'.size) :
    WExt m fz pr w m fz { w with heap := w.heap.setIfInBounds b (.stringIter s' pos') } ∧
      Rel m fz pr (H.set r (.iter (s'.data.toList.drop pos') pos')) { w with heap := w.heap.setIfInBounds b (.stringIter s' pos') } := by
  obtain ⟨b', o', hm', hnf, hnp, _⟩ := hR.rows r _ hg
  rw [hm] at hm'
  simp at hm'
  obtain ⟨rfl, rfl⟩ := hm'
  have hother : ∀ b', b' ≠ b → ({ w with heap := w.heap.setIfInBounds b (.stringIter s' pos') } : World).heap[b']? = w.heap[b']? := fun b' h => by
    show (w.heap.setIfInBounds b _)[b']? = _
    rw [Array.getElem?_setIfInBounds_ne (Ne.symm h)]
  have hlt : b < w.heap.size := (Array.getElem?_eq_some_iff.1 hb).1
  have hx : WExt m fz pr w m fz { w with heap := w.heap.setIfInBounds b (.stringIter s' pos') } := by
    refine ⟨fun _ _ h => h, fun _ h => h, fun b' h => hother b' (fun e => hnf (e ▸ h)), fun b' h => hother b' (fun e => hnp (e ▸ h)), fun b' o _ hok => ?_, by simp, rfl, rfl⟩
    by_cases h : b' = b
    · subst h
      obtain ⟨⟨v, hv⟩, _⟩ := hok
      unfold World.cell? at hv
      simp [hb] at hv
    · exact ⟨by rw [cell?_of_heap (hother b' h)]; exact hok.1, by rw [frozen?_of_heap (hother b' h)]; exact hok.2⟩
  refine ⟨hx, hR.fresh, fun r' b' o' h => by simpa using hR.below r' b' o' h, fun r' y hy => ?_, fun r1 r2 x1 x2 b' o1 o2 hx1 hx2 hm1 hm2 => ?_, fun b' h => by simpa using hR.fzlt b' h, fun b' h => by simpa using hR.prlt b' h, hR.disj⟩
  · rw [Heap.get_set] at hy
    by_cases hr : r' = r
    · subst hr
      rw [if_pos rfl] at hy
      simp at hy; subst hy
      exact ⟨b, 0, hm, hnf, hnp, rfl, s', rfl, hp, by simp [hlt]⟩
    · rw [if_neg hr] at hy
      obtain ⟨b', o', hm', h1, h2, h3⟩ := hR.rows r' y hy
      exact ⟨b', o', hm', h1, h2, h3.ext hx (hother b' (fun e => hr (by subst e; exact hR.apart r' r _ _ _ _ _ hy hg hm' hm)))⟩
  · have g : ∀ q y, (H.set r (.iter (s'.data.toList.drop pos') pos')).get q = some y → ∃ z, H.get q = some z := by
      intro q y hq
      rw [Heap.get_set] at hq
      by_cases hqr : q = r
      · subst hqr; exact ⟨_, hg⟩
      · rw [if_neg hqr] at hq; exact ⟨_, hq⟩
    obtain ⟨y1, g1⟩ := g _ _ hx1
    obtain ⟨y2, g2⟩ := g _ _ hx2
    exact hR.apart r1 r2 y1 y2 b' o1 o2 g1 g2 hm1 hm2

theorem next_string {w : World} {b pos : Nat} {s' : ByteArray} {ty : TypeId} (hb : w.heap[b]? = some (.stringIter s' pos)) :
    (Instr.next (.pointer (some ⟨b, 0, none⟩)) true ty).run P w = if pos < s'.size then
      .ok (.tuple #[.bool true, goInt pos, .int .i32 (Utf8.decode s' pos).1]) { w with heap := w.heap.setIfInBounds b (.stringIter s' (pos + (Utf8.decode s' pos).2)) }
      else .ok (.tuple #[.bool false]) w := by
  simp only [Instr.next, Sem.run_bind, getObj, Sem.run, hb, Result.andThen_ok]
  by_cases h : pos < s'.size
  · rw [if_pos h, if_pos h]
    simp [setObj, Sem.run, hb]
  · rw [if_neg h, if_neg h]
    rfl

theorem srcOf_prefix {sz : Nat} {y : AVal} {y' : Value} {src : List AVal} {k q : Nat} (hR : Rel m fz pr H w) (h : srcOf H sz y = some (src, k)) (hy : VRel m fz w y y') (hq : q ≤ k) :
    ∃ vs : Array Value, (Builtin.firstCells sz q y').run P w = .ok vs w ∧ VRels m fz w (src.take (q * sz)) vs.toList := by
  unfold srcOf at h
  split at h
  · rename_i s
    cases hs : Nat.beq sz 1 with
    | false => simp [hs] at h
    | true =>
      have := Nat.eq_of_beq_eq_true hs
      subst this
      simp only [hs, cond_true, Option.some.injEq, Prod.mk.injEq] at h
      obtain ⟨rfl, rfl⟩ := h
      cases hy with
      | str s' _ he =>
      subst he
      have hlen : s'.data.toList.length = s'.size := Array.length_toList
      have hds : s'.data.size = s'.size := rfl
      have hex : (s'.extract 0 q).data.toList = s'.data.toList.take q := by
        rw [ByteArray.data_extract, Array.toList_extract]
        simp [List.extract]
      refine ⟨(s'.extract 0 q).data.map fun b => .int .u8 b.toNat, rfl, ⟨?_, fun j x v hx hv => ?_⟩⟩
      · rw [Array.toList_map, hex]
        simp
      · rw [Array.toList_map, hex] at hv
        simp only [Nat.mul_one] at hx
        rw [← List.map_take] at hx
        simp only [List.getElem?_map] at hx hv
        obtain ⟨q', hq', rfl⟩ := Option.map_eq_some_iff.1 hx
        rw [hq'] at hv
        simp at hv; subst hv
        exact .int _ _
  · obtain ⟨a, cap', f, rfl, hl, hn, hrow⟩ := elemsOf_sound hR h hy
    have hle : q * sz ≤ src.length := by rw [hl]; exact Nat.mul_le_mul_right _ hq
    have hlt : (src.take (q * sz)).length = q * sz := by rw [List.length_take]; omega
    have hrow' : RowAt m fz w (src.take (q * sz)) a f := by
      refine ⟨?_, fun j c hj => hrow.val j c ?_⟩
      · rcases hrow.at_ with h0 | ⟨b, o, he, hc⟩
        · left; simp [h0]
        · right; exact ⟨b, o, he, fun j hj => hc j (by omega)⟩
      · rw [List.getElem?_take] at hj
        split at hj
        · exact hj
        · simp at hj
    exact ⟨((List.range (src.take (q * sz)).length).map f).toArray, firstCells_row hrow' hlt w rfl, hrow'.list⟩

theorem decode_le (s : ByteArray) (i : Nat) (h : i < s.size) : i + (Utf8.decode s i).2 ≤ s.size := by
  unfold Utf8.decode
  simp only
  split
  · simp; omega
  · split
    · rename_i hc
      simp only [Bool.and_eq_true, decide_eq_true_eq] at hc
      split <;> simp <;> omega
    · split
      · rename_i hc
        simp only [Bool.and_eq_true, decide_eq_true_eq] at hc
        split <;> simp <;> omega
      · split
        · rename_i hc
          simp only [Bool.and_eq_true, decide_eq_true_eq] at hc
          split <;> simp <;> omega
        · simp; omega

theorem effOp_sound {ρ : Operand → AVal} {ρ' : Operand → Value} {o : Oper} {v : AVal} (hC : ChildOk P) (hR : Rel m fz pr H w) (h : effOp P H ρ o.op = some (v, H'))
    (hρ : ∀ x, VRel m fz w (ρ x) (ρ' x)) : EffOp P H.next m fz pr w (execOp ρ' o) v H' ∧ Stays H H' := by
  cases ho : o.op with
  | store t a x =>
    rw [ho] at h
    simp only [effOp] at h
    split at h
    · rename_i r off vs ha hvs
      cases hsz : (Nat.beq vs.length (P.cellsOf t) && (P.info? t).isSome) with
      | false => simp [hsz] at h
      | true =>
        simp only [hsz, cond_true] at h
        simp only [Bool.and_eq_true] at hsz
        obtain ⟨hsz', hinf⟩ := hsz
        have hsz' := Nat.eq_of_beq_eq_true hsz'
        obtain ⟨i, hi⟩ := Option.isSome_iff_exists.1 hinf
        obtain ⟨H2, hst, he⟩ := Option.map_eq_some_iff.1 h
        simp at he
        obtain ⟨rfl, rfl⟩ := he
        have hp := hρ a
        rw [ha] at hp
        generalize hv : ρ' a = av at hp
        cases hp with
        | ptr _ _ b o' hm =>
        have hcr := cells?_rel hvs (hρ x)
        obtain ⟨hrun, hext, hrel⟩ := storeA_sound (P := P) hR hst hm hcr
        refine ⟨⟨undef, w.setCells b (o' + off) (ρ' x).cells.toList, m, .inr ⟨?_, rfl⟩, hext, hrel, .tuple [] #[] rfl (fun j a b ha => by simp at ha), fun _ _ => rfl⟩, storeA_stays hst⟩
        have hsize : (ρ' x).cells.size = P.cellsOf t := by have h1 := hcr.1; have h2 := Array.length_toList (xs := (ρ' x).cells); omega
        have hne : ¬ ((ρ' x).cells.size ≠ P.cellsOf t) := by simpa using hsize
        simp only [execOp, ho, hv, Instr.storeAt, Sem.run_bind, Instr.sureAddr, Sem.run_pure, Result.andThen_ok, storeVar, run_sizeOfA hi, if_neg hne, pure_bind, hrun]
    · simp at h
  | next it b =>
    rw [ho] at h
    cases b with
    | false => simp [effOp] at h
    | true =>
      simp only [effOp] at h
      split at h
      · rename_i r hit
        have hp := hρ it
        rw [hit] at hp
        generalize hv : ρ' it = iv at hp
        cases hp with
        | ptr _ _ b o' hm =>
        split at h
        · rename_i pos hg
          simp at h
          obtain ⟨rfl, rfl⟩ := h
          obtain ⟨b', o2, hm', _, _, ho2, s', hs, hpos, hb⟩ := hR.rows r _ hg
          rw [hm] at hm'
          simp at hm'
          obtain ⟨rfl, rfl⟩ := hm'
          subst ho2
          have hlen : s'.data.toList.length = s'.size := Array.length_toList
          have hend : ¬ pos < s'.size := by
            intro hlt
            have := congrArg List.length hs
            simp at this
            have e : s'.data.size = s'.size := rfl
            omega
          refine ⟨⟨.tuple #[.bool false], w, m, .inl ?_, .refl _ _ _ _, hR, .tuple _ _ rfl (fun j a b ha hb => ?_), fun _ _ => rfl⟩, .refl _⟩
          · have := next_string (P := P) (ty := o.type) hb
            rw [if_neg hend] at this
            simp only [execOp, ho, hv, Nat.add_zero, Sem.run_bind, this, Result.andThen_ok, Sem.run_pure]
          · cases j with
            | zero => simp at ha hb; subst ha hb; exact .bool _
            | succ j => simp at ha
        · rename_i s pos hne hg
          cases hlk : Nat.ble H.lock r with
          | false => simp [hlk] at h
          | true =>
            simp only [hlk, cond_true, Option.some.injEq, Prod.mk.injEq] at h
            obtain ⟨rfl, rfl⟩ := h
            obtain ⟨b', o2, hm', _, _, ho2, s', hs, hpos, hb⟩ := hR.rows r _ hg
            rw [hm] at hm'
            simp at hm'
            obtain ⟨rfl, rfl⟩ := hm'
            subst ho2
            have hlen : s'.data.toList.length = s'.size := Array.length_toList
            have hlt : pos < s'.size := by
              rcases Nat.lt_or_ge pos s'.size with h | h
              · exact h
              · exfalso
                have : s = [] := by rw [hs]; exact List.drop_eq_nil_of_le (by omega)
                exact hne this
            have hdec := decodeL_eq s' pos hlt
            rw [← hs] at hdec
            have hrest : s.drop (decodeL s).2 = s'.data.toList.drop (pos + (Utf8.decode s' pos).2) := by rw [hdec, hs, List.drop_drop]
            have hle := decode_le s' pos hlt
            obtain ⟨hx, hrel⟩ := iter_rel (pos' := pos + (Utf8.decode s' pos).2) hR hg hm hb hle
            refine ⟨⟨.tuple #[.bool true, goInt pos, .int .i32 (Utf8.decode s' pos).1], _, m, .inl ?_, hx, ?_, .tuple _ _ rfl (fun j a b ha hb => ?_), fun _ _ => rfl⟩, .set _ (Nat.le_of_ble_eq_true hlk)⟩
            · have := next_string (P := P) (ty := o.type) hb
              rw [if_pos hlt] at this
              simp only [execOp, ho, hv, Nat.add_zero, Sem.run_bind, this, Result.andThen_ok, Sem.run_pure]
            · rw [hrest, hdec]; exact hrel
            · rw [hdec] at ha
              match j with
              | 0 => simp at ha hb; subst ha hb; exact .bool _
              | 1 => simp at ha hb; subst ha hb; exact .int _ _
              | 2 => simp at ha hb; subst ha hb; exact .int _ _
              | j + 3 => simp at ha
        · simp at h
      · simp at h
  | call c =>
    rw [ho] at h
    obtain ⟨callee, args, ats⟩ := c
    cases callee with
    | value f => simp [effOp] at h
    | invoke r n => simp [effOp] at h
    | builtin b =>
      have hex := exec_builtin (ρ' := ρ') ho
      cases b with
      | append =>
        simp only [effOp] at h
        split at h
        · rename_i x y t u ts ha ht
          have ha' : args = #[x, y] := by cases args; simp_all
          have ht' : ats = (t :: u :: ts).toArray := by cases ats; simp_all
          subst ha' ht'
          split at h
          · rename_i e ud hu hud
            cases hty : srcTy ud with
            | false => simp [hty] at h
            | true =>
              simp only [hty, cond_true] at h
              split at h
              · rename_i src k hsrc
                obtain ⟨v', w', m', hrun, hx, hrel, hv, hkp⟩ := appendA_sound (ty := o.type) (ts := ts) hC hR hu hud hty hsrc h (hρ x) (hρ y)
                refine ⟨⟨v', w', m', .inl ?_, hx, hrel, hv, hkp⟩, appendA_stays h⟩
                rw [hex]
                have e1 : (#[x, y].map ρ') = #[ρ' x, ρ' y] := by simp
                simp only [builtin, Sem.run_bind, e1, hrun, Result.andThen_ok, Sem.run_pure]
              · simp at h
          · simp at h
        · simp at h
      | copy =>
        simp only [effOp] at h
        split at h
        · rename_i x y t ts ha ht
          have ha' : args = #[x, y] := by cases args; simp_all
          have ht' : ats = (t :: ts).toArray := by cases ats; simp_all
          subst ha' ht'
          split at h
          · rename_i e r off n sz cap hu hx'
            cases hsz : Nat.beq sz (P.cellsOf e) with
            | false => simp [hsz] at h
            | true =>
              have hsz' := Nat.eq_of_beq_eq_true hsz
              subst hsz'
              simp only [hsz, cond_true] at h
              split at h
              · rename_i src k hsrc
                split at h
                · rename_i cs hcs
                  obtain ⟨H2, hst, he⟩ := Option.map_eq_some_iff.1 h
                  simp at he
                  obtain ⟨rfl, rfl⟩ := he
                  obtain ⟨vs, hl, hf, hsr, hsl⟩ := srcOf_sound (P := P) hR hsrc (hρ y)
                  have hx := hρ x
                  rw [hx'] at hx
                  generalize hv : ρ' x = xv at hx
                  cases hx with
                  | slice _ _ _ _ _ b o' cap' a hm hcap hn ha hs =>
                  obtain ⟨hcl, rfl⟩ := takeN_spec hcs
                  obtain ⟨i, hi⟩ := hC.slice t e hu
                  have hci : P.cellsOf e = i.size := by simp [Program.cellsOf, hi]
                  obtain ⟨us, hus, husr⟩ := srcOf_prefix (P := P) hR hsrc (hρ y) (q := min k n) (Nat.min_le_left _ _)
                  obtain ⟨hrun, hext, hrel⟩ := storeA_sound (P := P) hR hst hm husr
                  have hst2 : (storeCells a us.toList).run P w = .ok () (w.setCells b (o' + off) us.toList) := by
                    rcases ha with h0 | ha
                    · have hz : us.toList = [] := by
                        have h1 := husr.1
                        have h2 : min k n = 0 := by omega
                        rw [h2] at h1
                        simp at h1
                        rw [Array.eq_empty_of_size_eq_zero h1.symm]
                      rw [hz]; rfl
                    · rw [ha]; exact hrun
                  refine ⟨⟨.int .i64 (min k n : Nat), _, m, .inl ?_, hext, hrel, .int _ _, fun _ _ => rfl⟩, storeA_stays hst⟩
                  rw [hex]
                  have e1 : (#[x, y].map ρ') = #[ρ' x, ρ' y] := by simp
                  rw [hci] at hus
                  simp only [builtin, Sem.run_bind, e1, hv]
                  have hmn : Nat.min k n = min k n := rfl
                  simp [Builtin.copy_, run_underlying hu, sizeOf, typeInfo, hi, hl, hmn, hus, hst2, goInt]
                · simp at h
              · simp at h
          · simp at h
        · simp at h
      | _ => simp [effOp] at h
  | _ => rw [ho] at h; simp [effOp] at h

end
end Go.Abs
