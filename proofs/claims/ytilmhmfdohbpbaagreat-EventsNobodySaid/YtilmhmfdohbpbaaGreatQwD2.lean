/- The evaluator's operations are the model's: 'allocOp' as a whole. -/
import Derived.Test.YtilmhmfdohbpbaaGreatQwD1
set_option linter.unusedVariables false
set_option linter.unusedSimpArgs false
namespace Go.Abs
open Go

section
variable {P : Program} {m : Emb} {fz pr : Nat → Prop} {H : Heap} {w : World}

theorem alloc_var {cs : List AVal} {x' : Value} {e : TypeId} (h : VRels m fz w cs x'.cells.toList) :
    ∃ w', (newVar e x').run P w = .ok ⟨w.heap.size, 0, none⟩ w' ∧ NewObj w w' ∧ Made m fz w w' (.cells cs) (fun r => .ptr r 0) (.pointer (some ⟨w.heap.size, 0, none⟩)) := by
  refine ⟨{ w with heap := w.heap.push (.cells x'.cells e) }, rfl, NewObj.push w w _ rfl, fun m' fz' r hr hx => ?_⟩
  have hl : cs.length = x'.cells.size := by simpa using h.1
  obtain ⟨h1, h2⟩ := made_cells (m := m) (fz := fz) (w := w) (w0 := w) (cs := cs) (vs := x'.cells) (e := e) (fr := (0, 0)) (by omega) (.inl rfl) rfl
    (fun j a b ha hb => h.2 j a b ha (by simpa using hb))
  exact ⟨h1 m' fz' hx, .ptr r 0 _ _ hr⟩

theorem parts_rel {parts : Array (Nat × Operand)} {ρ : Operand → AVal} {ρ' : Operand → Value} (hρ : ∀ x, VRel m fz w (ρ x) (ρ' x)) :
    (partsA ρ parts).length = (parts.map fun (i, x) => (i, ρ' x)).toList.length ∧
    ∀ (j : Nat) x y, (partsA ρ parts)[j]? = some x → (parts.map fun (i, x) => (i, ρ' x)).toList[j]? = some y → x.1 = y.1 ∧ VRel m fz w x.2 y.2 := by
  refine ⟨by simp [partsA], fun j x y hx hy => ?_⟩
  simp only [partsA, List.getElem?_map, Array.getElem?_toList] at hx
  simp only [Array.toList_map, List.getElem?_map, Array.getElem?_toList] at hy
  obtain ⟨q, hq, rfl⟩ := Option.map_eq_some_iff.1 hx
  rw [hq] at hy
  simp at hy
  subst hy
  exact ⟨rfl, hρ _⟩

theorem bind_cells {e : TypeId} {z : List AVal} (h : (zeroA P e).bind AVal.cells? = some z) :
    ∃ i z', P.info? e = some i ∧ i.zero = some z' ∧ (zeroValue e).run P w = .ok z' w ∧ VRels m fz w z z'.cells.toList := by
  obtain ⟨a, ha, hc⟩ := Option.bind_eq_some_iff.1 h
  obtain ⟨i, z', hi, hz, hr, hrun⟩ := zeroA_sound (m := m) (fz := fz) (w := w) ha
  exact ⟨i, z', hi, hz, hrun, cells?_rel hc hr⟩

theorem cat_rel {z : List AVal} {z' : Array Value} (h : VRels m fz w z z'.toList) (n k : Nat) (hk : k = n * z.length) (hz : k ≠ 0 → 0 < z.length) :
    VRels m fz w (cat n z) ((Array.range k).map (z'[· % z'.size]!)).toList := by
  have hl : z.length = z'.size := by simpa using h.1
  refine ⟨by simp [cat_length, hk], fun j x y hx hy => ?_⟩
  have hj : j < k := by
    have := (List.getElem?_eq_some_iff.1 hx).1
    rw [cat_length] at this; omega
  have hpos := hz (by omega)
  rw [cat_get z hpos n j (by omega)] at hx
  simp [hj] at hy
  subst hy
  have hlt : j % z'.size < z'.size := Nat.mod_lt _ (by omega)
  refine h.2 (j % z.length) x _ hx ?_
  rw [hl]
  simp [hlt]

theorem allocOp_sound {ρ : Operand → AVal} {ρ' : Operand → Value} {o : Oper} {obj : AObj} {val : Nat → AVal} (hC : ChildOk P) (h : allocOp P ρ o.op = some (obj, val))
    (hρ : ∀ x, VRel m fz w (ρ x) (ρ' x)) : ∃ v' w', (execOp ρ' o).run P w = .ok (.value v') w' ∧ NewObj w w' ∧ Made m fz w w' obj val v' := by
  cases ho : o.op with
  | alloc e =>
    rw [ho] at h
    simp only [allocOp] at h
    split at h
    · rename_i z hz
      split at h
      · rename_i cs hcs
        simp at h
        obtain ⟨rfl, rfl⟩ := h
        obtain ⟨i, z', hi, hz', hr, hrun⟩ := zeroA_sound (m := m) (fz := fz) (w := w) hz
        obtain ⟨w', hw, hn, hm⟩ := alloc_var (P := P) (e := e) (cells?_rel hcs hr)
        refine ⟨_, w', ?_, hn, hm⟩
        simp only [execOp, ho, Instr.alloc, Sem.run_bind, hrun, Result.andThen_ok, hw, Sem.run_pure]
      · simp at h
    · simp at h
  | box e x =>
    rw [ho] at h
    simp only [allocOp] at h
    split at h
    · rename_i cs hcs
      simp at h
      obtain ⟨rfl, rfl⟩ := h
      obtain ⟨w', hw, hn, hm⟩ := alloc_var (P := P) (e := e) (cells?_rel hcs (hρ x))
      refine ⟨_, w', ?_, hn, hm⟩
      simp only [execOp, ho, Instr.box, Sem.run_bind, Result.andThen_ok, hw, Sem.run_pure]
    · simp at h
  | buildSlice t len parts =>
    rw [ho] at h
    simp only [allocOp] at h
    split at h
    · rename_i e hu
      cases hle : Nat.ble (len * P.cellsOf e) 16777216 with
      | false => simp [hle] at h
      | true =>
        have hle' := Nat.le_of_ble_eq_true hle
        simp only [hle, cond_true] at h
        split at h
        · rename_i z hz
          split at h
          · rename_i cs hcs
            cases hzl : Nat.beq z.length (P.cellsOf e) with
            | false => simp [hzl] at h
            | true =>
              have hzl' := Nat.eq_of_beq_eq_true hzl
              simp [*] at h
              obtain ⟨rfl, rfl⟩ := h
              obtain ⟨i, z', hi, hz', hrun, hzr⟩ := bind_cells (m := m) (fz := fz) (w := w) hz
              have hcat := cat_rel hzr len (len * P.cellsOf e) (by rw [hzl']) (fun h0 => by
                rcases Nat.eq_zero_or_pos z.length with h | h
                · rw [← hzl', h] at h0; simp at h0
                · exact h)
              obtain ⟨hp1, hp2⟩ := parts_rel (parts := parts) hρ
              obtain ⟨r', hr1, hr2⟩ := fillA_sound hcs (cells' := (Array.range (len * P.cellsOf e)).map (z'.cells[· % z'.cells.size]!)) hcat hp1 hp2
              have hlen : r'.size = len * P.cellsOf e := by
                have h1 := hr2.1
                have : ∀ {place : Nat → Option (Nat × Nat)} {parts : List (Nat × AVal)} {c r : List AVal}, fillA place c parts = some r → r.length = c.length := by
                  intro place parts
                  induction parts with
                  | nil => intro c r h; simp [fillA] at h; subst h; rfl
                  | cons p parts ih =>
                    intro c r h
                    obtain ⟨i, v⟩ := p
                    unfold fillA at h
                    split at h
                    · rename_i off size cs _ _
                      cases h1 : Nat.beq cs.length size with
                      | false => simp [h1] at h
                      | true =>
                        simp only [h1, cond_true] at h
                        split at h
                        · rename_i c2 hs
                          cases h2 : Nat.ble (off + cs.length) c.length with
                          | false => simp [h2] at h
                          | true =>
                            simp only [h2, cond_true] at h
                            rw [ih h, (splice_spec hs).1]
                        · simp at h
                    · simp at h
                have h2 := this hcs
                rw [cat_length, hzl'] at h2
                simp at h1; omega
              obtain ⟨h1, h2⟩ := made_cells (m := m) (fz := fz) (w := w) (w0 := w) (cs := cs) (vs := r') (e := e) (fr := (0, 0)) (by have := hr2.1; simp at this; omega) (.inl rfl) rfl
                (fun j a b ha hb => hr2.2 j a b ha (by simpa using hb))
              refine ⟨.slice (some ⟨w.heap.size, 0, none⟩) len len, { w with heap := w.heap.push (.cells r' e) }, ?_, NewObj.push w w _ rfl, fun m' fz' r hr hx => ⟨h1 m' fz' hx, ?_⟩⟩
              · have hif : ¬ len * P.cellsOf e > 16777216 := by omega
                have e1 : ¬ (len * P.cellsOf e > 2 ^ 24) := hif
                simp only [execOp, ho, Instr.buildSlice, Sem.run_bind, run_underlying hu, Result.andThen_ok, run_sizeOfA hi, if_neg e1, pure_bind, Sem.run_ite]
                by_cases h0 : len * P.cellsOf e = 0
                · have hz0 : ((Array.range (len * P.cellsOf e)).map (fun x => (#[] : Array Value)[x % (#[] : Array Value).size]!)) = ((Array.range (len * P.cellsOf e)).map (z'.cells[· % z'.cells.size]!)) := by
                    rw [h0]; simp
                  simp only [if_pos h0, Sem.run_pure, Result.andThen_ok, hz0, hr1, newRow, Sem.run_bind, run_newObj]
                · simp only [if_neg h0, Sem.run_bind, hrun, Result.andThen_ok, Sem.run_pure, hr1, newRow, run_newObj]
              · exact .slice r 0 len (P.cellsOf e) (some len) w.heap.size 0 len _ hr (fun c hc => by simpa using hc) (Nat.le_refl _) (.inr rfl) (fun j hj => by
                  have := h2 j (by omega)
                  simpa using this)
          · simp at h
        · simp at h
    · simp at h
  | makeSlice t l c =>
    rw [ho] at h
    simp only [allocOp] at h
    split at h
    · rename_i e ln cn hu hl hc
      split at h
      · rename_i z hz
        cases hcond : (Nat.beq z.length (P.cellsOf e) && Nat.ble ln cn && Nat.ble (P.bytesOf e * cn) 281474976710656 && Nat.blt cn 9223372036854775808) with
        | false => simp [hcond] at h
        | true =>
          simp only [hcond, cond_true, Option.some.injEq, Prod.mk.injEq] at h
          obtain ⟨rfl, rfl⟩ := h
          simp only [Bool.and_eq_true] at hcond
          obtain ⟨⟨⟨hc1, hc2⟩, hc3⟩, hc4⟩ := hcond
          have hzl := Nat.eq_of_beq_eq_true hc1
          have hlc := Nat.le_of_ble_eq_true hc2
          have hby := Nat.le_of_ble_eq_true hc3
          have hlt : cn < 9223372036854775808 := Nat.le_of_ble_eq_true hc4
          obtain ⟨i, z', hi, hz', hrun, hzr⟩ := bind_cells (m := m) (fz := fz) (w := w) hz
          have hcat := cat_rel hzr cn (cn * P.cellsOf e) (by rw [hzl]) (fun h0 => by
            rcases Nat.eq_zero_or_pos z.length with h | h
            · rw [← hzl, h] at h0; simp at h0
            · exact h)
          have hl' := hρ l
          have hc' := hρ c
          rw [hl] at hl'
          rw [hc] at hc'
          generalize hlv : ρ' l = lv at hl'
          generalize hcv : ρ' c = cv at hc'
          cases hl'
          cases hc'
          have hbytes : P.bytesOf e = i.bytes := by simp [Program.bytesOf, hi]
          obtain ⟨h1, h2⟩ := made_cells (m := m) (fz := fz) (w := w) (w0 := w) (cs := cat cn z) (vs := (Array.range (cn * P.cellsOf e)).map (z'.cells[· % z'.cells.size]!)) (e := e) (fr := (0, 0))
            (by have h1 := hcat.1; have h2 := Array.length_toList (xs := (Array.range (cn * P.cellsOf e)).map (z'.cells[· % z'.cells.size]!)); omega) (.inl rfl) rfl (fun j a b ha hb => hcat.2 j a b ha (by rw [Array.getElem?_toList]; exact hb))
          refine ⟨.slice (some ⟨w.heap.size, 0, none⟩) ln cn, { w with heap := w.heap.push (.cells ((Array.range (cn * P.cellsOf e)).map (z'.cells[· % z'.cells.size]!)) e) }, ?_, NewObj.push w w _ rfl, fun m' fz' r hr hx => ⟨h1 m' fz' hx, ?_⟩⟩
          · have w1 : IntKind.i64.wrap (Int.ofNat ln) = (ln : Int) := IntWalk.i64_in (ln : Int) ⟨by omega, by omega⟩
            have w2 : IntKind.i64.wrap (Int.ofNat cn) = (cn : Int) := IntWalk.i64_in (cn : Int) ⟨by omega, by omega⟩
            have e2 : (2 ^ 48 : Int) = 281474976710656 := rfl
            have hby' : ((i.bytes : Int) * (cn : Int)) ≤ 281474976710656 := by
              rw [hbytes] at hby
              have h3 : ((i.bytes * cn : Nat) : Int) ≤ ((281474976710656 : Nat) : Int) := Int.ofNat_le.2 hby
              rw [Int.natCast_mul] at h3
              exact h3
            have t1 : ¬ (((decide ((cn : Int) < 0) || decide ((i.bytes : Int) * (cn : Int) > 2 ^ 48)) || decide ((ln : Int) < 0) || decide ((ln : Int) > (cn : Int))) = true) := by
              simp only [Bool.or_eq_true, decide_eq_true_eq, not_or, e2]
              exact ⟨⟨⟨by omega, by omega⟩, by omega⟩, by omega⟩
            simp only [execOp, ho, Instr.makeSlice, Sem.run_bind, run_underlying hu, Result.andThen_ok, hlv, hcv, asInt, asIntOf, Sem.run_pure, typeInfo, run_program, hi, w1, w2, if_neg t1, run_askRoom, Int.toNat_natCast, run_sizeOfA hi, pure_bind]
            by_cases h0 : cn * P.cellsOf e = 0
            · have hz0 : ((Array.range (cn * P.cellsOf e)).map (fun x => (#[] : Array Value)[x % (#[] : Array Value).size]!)) = ((Array.range (cn * P.cellsOf e)).map (z'.cells[· % z'.cells.size]!)) := by
                rw [h0]; simp
              simp only [if_pos h0, Sem.run_pure, Result.andThen_ok, hz0, newRow, Sem.run_bind, run_newObj]
            · simp only [if_neg h0, Sem.run_bind, hrun, Result.andThen_ok, Sem.run_pure, newRow, run_newObj]
          · exact .slice r 0 ln (P.cellsOf e) (some cn) w.heap.size 0 cn _ hr (fun c hc => by simpa using hc) hlc (.inr rfl) (fun j hj => by
              have := h2 j (by simpa using hj)
              simpa using this)
      · simp at h
    · simp at h
  | convert src dst x =>
    rw [ho] at h
    simp only [allocOp] at h
    split at h
    · rename_i e s hs hd hx'
      have hx := hρ x
      rw [hx'] at hx
      generalize hv : ρ' x = xv at hx
      cases hx with
      | str s' _ hse =>
      subst hse
      have hlen : s'.data.toList.length = s'.size := Array.length_toList
      split at h
      · rename_i he
        simp at h
        obtain ⟨rfl, rfl⟩ := h
        let cap := (Question.appendCap s'.size 0 e).cut (w.tape w.drawn (.appendCap s'.size 0 e))
        have hcap : s'.size ≤ cap := grown_cut _ _ _ _
        let row : Array Value := s'.data.map (fun b => Value.int .u8 b.toNat) ++ Array.replicate (cap - s'.size) (.int .u8 0)
        have hds : s'.data.size = s'.size := rfl
        have hrow : row.size = cap := by simp only [row, Array.size_append, Array.size_map, Array.size_replicate]; omega
        have hmade := made_cells (m := m) (fz := fz) (w := w) (w0 := w.drew) (cs := s'.data.toList.map fun b => AVal.int .u8 b.toNat) (vs := row) (e := e) (fr := (row.size, row.size + 1)) (by rw [List.length_map]; omega) (.inr (Nat.le_refl _)) rfl
          (fun j a b ha hb => by
            simp only [List.getElem?_map, Array.getElem?_toList] at ha
            obtain ⟨q, hq, rfl⟩ := Option.map_eq_some_iff.1 ha
            have hjl := (Array.getElem?_eq_some_iff.1 hq).1
            simp only [row] at hb
            rw [Array.getElem?_append_left (by simpa using hjl)] at hb
            simp [hq] at hb
            subst hb
            exact .int _ _)
        obtain ⟨h1, h2⟩ := hmade
        refine ⟨.slice (some ⟨w.heap.size, 0, none⟩) s'.size cap, { w.drew with heap := w.drew.heap.push (.cells row e (row.size, row.size + 1)) }, ?_, NewObj.push w w.drew _ rfl, fun m' fz' r hr hx => ⟨h1 m' fz' hx, ?_⟩⟩
        · simp only [execOp, ho, hv, convert, Sem.run_bind, run_underlying hs, run_underlying hd, run_underlying he, Result.andThen_ok, Conv.stringToBytes, run_choose, Question.forced, Bool.false_eq_true, if_false, newRow, run_newObj, markStringish, run_shape, Sem.run_pure]
          have hsh : World.shape? { w with heap := w.heap.push (.cells row e), drawn := w.drawn + 1 } w.heap.size = some (e, row.size) := by
            unfold World.shape?; simp
          have hfr : (World.freeze { w with heap := w.heap.push (.cells row e), drawn := w.drawn + 1 } { block := w.heap.size, off := row.size } 1) = { w.drew with heap := w.drew.heap.push (.cells row e (row.size, row.size + 1)) } := by
            unfold World.freeze
            simp only [Nat.one_ne_zero, if_false, World.drew]
            congr 1
            apply Array.ext
            · simp
            · intro k hk1 hk2
              rw [Array.getElem_modify]
              by_cases hk : w.heap.size = k
              · subst hk; simp
              · have hk' : k < w.heap.size := by simp at hk2; omega
                simp [hk, Array.getElem_push, hk']
          simp only [row, cap] at hsh hfr
          simp only [hsh, run_freeze, hfr, Result.andThen_ok, row, cap]
        · rw [← hlen]
          exact .slice r 0 _ 1 none w.heap.size 0 cap _ hr (fun c hc => by simp at hc) (by omega) (.inr rfl) (fun j hj => by
            have := h2 j (by omega)
            simpa using this)
      · rename_i he
        simp at h
        obtain ⟨rfl, rfl⟩ := h
        have hruns := runesL_eq s' s'.size 0 #[] (Nat.zero_le _)
        simp only [List.drop_zero, List.nil_append] at hruns
        have hrsz : (Conv.runesFrom s' s'.size 0 #[]).size = (runesL s'.size s'.data.toList).length := by
          have := congrArg List.length hruns
          simpa using this
        let cap := (Question.appendCap (Conv.runesFrom s' s'.size 0 #[]).size 0 e).cut (w.tape w.drawn (.appendCap (Conv.runesFrom s' s'.size 0 #[]).size 0 e))
        have hcap : (Conv.runesFrom s' s'.size 0 #[]).size ≤ cap := grown_cut _ _ _ _
        let row : Array Value := Conv.runesFrom s' s'.size 0 #[] ++ Array.replicate (cap - (Conv.runesFrom s' s'.size 0 #[]).size) (.int .i32 0)
        have hrow : row.size = cap := by simp [row]; omega
        have hmade := made_cells (m := m) (fz := fz) (w := w) (w0 := w.drew) (cs := (runesL s'.data.toList.length s'.data.toList).map fun (c : Nat) => AVal.int .i32 (c : Int)) (vs := row) (e := e) (fr := (0, 0))
          (by rw [List.length_map, hlen, hrow]; omega) (.inl rfl) rfl
          (fun j a b ha hb => by
            rw [hlen] at ha
            simp only [List.getElem?_map] at ha
            obtain ⟨q, hq, rfl⟩ := Option.map_eq_some_iff.1 ha
            have hjl := (List.getElem?_eq_some_iff.1 hq).1
            simp only [row] at hb
            rw [Array.getElem?_append_left (by omega), ← Array.getElem?_toList, hruns] at hb
            simp [hq] at hb
            subst hb
            exact .int _ _)
        obtain ⟨h1, h2⟩ := hmade
        refine ⟨.slice (some ⟨w.heap.size, 0, none⟩) (Conv.runesFrom s' s'.size 0 #[]).size cap, { w.drew with heap := w.drew.heap.push (.cells row e) }, ?_, NewObj.push w w.drew _ rfl, fun m' fz' r hr hx => ⟨by simpa using h1 m' fz' hx, ?_⟩⟩
        · simp only [execOp, ho, hv, convert, Sem.run_bind, run_underlying hs, run_underlying hd, run_underlying he, Result.andThen_ok, Conv.stringToRunes, run_choose, Question.forced, Bool.false_eq_true, if_false, newRow, run_newObj, Sem.run_pure]
          rfl
        · rw [hrsz]
          have e9 : (runesL s'.data.size s'.data.toList) = runesL s'.size s'.data.toList := rfl
          exact .slice r 0 _ 1 none w.heap.size 0 cap _ hr (fun c hc => by simp at hc) (by rw [← hrsz]; exact hcap) (.inr rfl) (fun j hj => by
            have := h2 j (by omega)
            simpa using this)
      · simp at h
    · simp at h
  | range t x =>
    rw [ho] at h
    simp only [allocOp] at h
    split at h
    · rename_i s hu hx'
      simp at h
      obtain ⟨rfl, rfl⟩ := h
      have hx := hρ x
      rw [hx'] at hx
      generalize hv : ρ' x = xv at hx
      cases hx with
      | str s' _ hse =>
      refine ⟨.pointer (some ⟨w.heap.size, 0, none⟩), { w with heap := w.heap.push (.stringIter s' 0) }, ?_, NewObj.push w w _ rfl, fun m' fz' r hr hx => ⟨⟨rfl, s', by simp [hse], Nat.zero_le _, by simp⟩, .ptr r 0 _ _ hr⟩⟩
      simp only [execOp, ho, hv, Instr.range, Sem.run_bind, run_underlying hu, Result.andThen_ok, Sem.run_pure, run_newObj, pure_bind]
    · simp at h
  | makeMap t r =>
    rw [ho] at h
    cases r with
    | some r => simp [allocOp] at h
    | none =>
      simp [allocOp] at h
      obtain ⟨rfl, rfl⟩ := h
      refine ⟨.map (some w.heap.size), { w with heap := w.heap.push (.map #[] 0) }, ?_, NewObj.push w w _ rfl, fun m' fz' r hr hx => ⟨⟨rfl, #[], 0, by simp, rfl, fun j x y hj => by simp at hj⟩, .map r _ hr⟩⟩
      simp only [execOp, ho]
      rfl
  | _ => rw [ho] at h; simp [allocOp] at h

end
end Go.Abs
