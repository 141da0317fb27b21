/- The evaluator's operations are the model's: all that only computes. -/
import Derived.Test.YtilmhmfdohbpbaaGreatQwC4
set_option linter.unusedVariables false
set_option linter.unusedSimpArgs false
namespace Go.Abs
open Go

section
variable {P : Program} {m : Emb} {fz pr : Nat → Prop} {H : Heap} {w : World}

theorem fieldOf_spec {t : TypeId} {i : Nat} {f : Field} (h : fieldOf P t i = some f) : ∃ fs, P.underlying t = some (.struct fs) ∧ fs[i]? = some f := by
  unfold fieldOf at h
  split at h
  · rename_i fs hu; exact ⟨fs, hu, h⟩
  · simp at h

theorem indexAddrA_sound {t : TypeId} {x i v : AVal} {x' i' : Value} (hC : ChildOk P) (h : indexAddrA P t x i = some v) (hx : VRel m fz w x x') (hi : VRel m fz w i i') :
    ∃ v', (Instr.indexAt t x' i').run P w = .ok v' w ∧ VRel m fz w v v' := by
  unfold indexAddrA at h
  split at h
  · simp at h
  rename_i n hn
  obtain ⟨k, rfl⟩ := natOf_rel hn hi
  have hblt : ∀ a b : Nat, Nat.blt a b = true → a < b := fun a b h => Nat.le_of_ble_eq_true h
  split at h
  · rename_i len e r off hu
    cases hl : Nat.blt n len with
    | false => simp [hl] at h
    | true =>
      simp [hl] at h; subst h
      have hlt := hblt _ _ hl
      cases hx with
      | ptr _ _ b o hm =>
      obtain ⟨ie, hie⟩ := hC.array t len e hu
      refine ⟨_, ?_, .ptr r _ b o hm⟩
      have : (0 : Int) ≤ (n : Int) ∧ (n : Int) < (len : Int) := ⟨by omega, by omega⟩
      simp only [Instr.indexAt, Sem.run_bind, asIntOf, Sem.run_pure, Result.andThen_ok, run_underlying hu, Instr.sureAddr, this, and_self, if_true, run_sizeOfA hie, add_addr, Int.toNat_natCast, Nat.add_assoc]
  · rename_i len e cs hu
    cases hl : Nat.blt n len with
    | false => simp [hl] at h
    | true =>
      simp [hl] at h; subst h
      have hlt := hblt _ _ hl
      cases hx with
      | iptr _ b o f hb hc hv =>
      obtain ⟨ie, hie⟩ := hC.array t len e hu
      refine ⟨_, ?_, .iptr _ b (o + n * P.cellsOf e) (fun j => f (n * P.cellsOf e + j)) hb (fun j hj => ?_) (fun j c hj => hv _ c (by simpa using hj))⟩
      · have : (0 : Int) ≤ (n : Int) ∧ (n : Int) < (len : Int) := ⟨by omega, by omega⟩
        simp only [Instr.indexAt, Sem.run_bind, asIntOf, Sem.run_pure, Result.andThen_ok, run_underlying hu, Instr.sureAddr, this, and_self, if_true, run_sizeOfA hie, add_addr, Int.toNat_natCast]
      · have := hc (n * P.cellsOf e + j) (by simp at hj; omega)
        rwa [Nat.add_assoc]
  · rename_i e r off len sz cap hu
    cases hl : Nat.blt n len with
    | false => simp [hl] at h
    | true =>
      simp [hl] at h; subst h
      have hlt := hblt _ _ hl
      cases hx with
      | slice _ _ _ _ _ b o cap' a hm hcap hn ha hs =>
      obtain ⟨ie, hie⟩ := hC.slice t e hu
      have ha' : a = ⟨b, o + off, none⟩ := by
        rcases ha with h0 | ha
        · omega
        · exact ha
      refine ⟨_, ?_, .ptr r _ b o hm⟩
      have : (0 : Int) ≤ (n : Int) ∧ (n : Int) < (len : Int) := ⟨by omega, by omega⟩
      simp only [Instr.indexAt, Sem.run_bind, asIntOf, Sem.run_pure, Result.andThen_ok, run_underlying hu, this, and_self, if_true, run_sizeOfA hie, ha', add_addr, Int.toNat_natCast, Nat.add_assoc]
  · rename_i e c cs len cap hu
    cases hl : Nat.blt n len with
    | false => simp [hl] at h
    | true =>
      simp only [hl, cond_true, Option.some.injEq] at h; subst h
      have hlt := hblt _ _ hl
      cases hx with
      | lst _ _ _ a cap' f hcap hnil hn hb hv =>
      obtain ⟨ie, hie⟩ := hC.slice t e hu
      rcases hb with hb | ⟨b, o, rfl, hf, hc⟩
      · simp at hb
      refine ⟨_, ?_, .iptr _ b (o + n * P.cellsOf e) (fun j => f (n * P.cellsOf e + j)) hf (fun j hj => ?_) (fun j c hj => hv _ c (by simpa using hj))⟩
      · have : (0 : Int) ≤ (n : Int) ∧ (n : Int) < (len : Int) := ⟨by omega, by omega⟩
        simp only [Instr.indexAt, Sem.run_bind, asIntOf, Sem.run_pure, Result.andThen_ok, run_underlying hu, this, and_self, if_true, run_sizeOfA hie, add_addr, Int.toNat_natCast]
      · have := hc (n * P.cellsOf e + j) (by simp at hj ⊢; omega)
        rwa [Nat.add_assoc]
  · simp at h

theorem indexA_sound {t : TypeId} {x i v : AVal} {x' i' : Value} (hC : ChildOk P) (h : indexA P t x i = some v) (hx : VRel m fz w x x') (hi : VRel m fz w i i') :
    ∃ v', (Instr.index t x' i').run P w = .ok v' w ∧ VRel m fz w v v' := by
  unfold indexA at h
  split at h
  · simp at h
  rename_i n hn
  obtain ⟨k, rfl⟩ := natOf_rel hn hi
  have hblt : ∀ a b : Nat, Nat.blt a b = true → a < b := fun a b h => Nat.le_of_ble_eq_true h
  split at h
  · rename_i len e cs hu
    cases hl : Nat.blt n len with
    | false => simp [hl] at h
    | true =>
      simp only [hl, cond_true] at h
      have hlt := hblt _ _ hl
      cases hx with
      | agg _ vs hlen hv =>
      obtain ⟨ie, hie⟩ := hC.array t len e hu
      obtain ⟨y, hy, hr⟩ := part_sound (P := P) (w := w) h hlen hv
      refine ⟨y, ?_, hr⟩
      have : (0 : Int) ≤ (n : Int) ∧ (n : Int) < (len : Int) := ⟨by omega, by omega⟩
      simp only [Instr.index, Sem.run_bind, asIntOf, Sem.run_pure, Result.andThen_ok, run_underlying hu, this, and_self, if_true, run_sizeOfA hie, Int.toNat_natCast, hy]
  · rename_i s hu
    obtain ⟨b, hb, rfl⟩ := Option.map_eq_some_iff.1 h
    cases hx with
    | str s' _ hs =>
    subst hs
    obtain ⟨hlt, hbe⟩ := List.getElem?_eq_some_iff.1 hb
    have hlt' : n < s'.size := by rw [Array.length_toList] at hlt; exact hlt
    refine ⟨_, ?_, .int _ _⟩
    rw [run_index_string w t s' k n hu]
    have : (0 : Int) ≤ (n : Int) ∧ (n : Int) < (s'.size : Int) := ⟨by omega, by omega⟩
    rw [dif_pos this]
    have : s'[(n : Int).toNat]'(by omega) = b := by
      rw [← hbe]
      simp [ByteArray.getElem_eq_getElem_data]
    rw [this]
  · simp at h

theorem cells?_rel {x : AVal} {x' : Value} {cs : List AVal} (h : x.cells? = some cs) (hx : VRel m fz w x x') : VRels m fz w cs x'.cells.toList := by
  cases hx <;> simp [AVal.cells?] at h <;> subst h
  case agg vs hl hv => exact ⟨by simpa [Value.cells] using hl, fun j x y hx hy => hv j x y hx (by simpa [Value.cells] using hy)⟩
  all_goals
    refine ⟨rfl, fun j x y hx hy => ?_⟩
    cases j with
    | zero =>
      simp [Value.cells] at hx hy
      subst hx hy
      constructor <;> assumption
    | succ j => simp at hx

theorem foldl_set (vs : List Value) : ∀ (i off : Nat) (cells : Array Value), off + i + vs.length ≤ cells.size →
    ((vs.zipIdx i).foldl (fun cs p => cs.setIfInBounds (off + p.2) p.1) cells).size = cells.size ∧
    ∀ k, ((vs.zipIdx i).foldl (fun cs p => cs.setIfInBounds (off + p.2) p.1) cells)[k]? = if off + i ≤ k ∧ k < off + i + vs.length then vs[k - (off + i)]? else cells[k]? := by
  induction vs with
  | nil => intro i off cells h; simp; intro k hk; omega
  | cons v vs ih =>
    intro i off cells h
    simp only [List.zipIdx_cons, List.foldl_cons]
    obtain ⟨h1, h2⟩ := ih (i + 1) off (cells.setIfInBounds (off + i) v) (by simp at h ⊢; omega)
    refine ⟨by simpa using h1, fun k => ?_⟩
    rw [h2 k]
    by_cases hk : off + (i + 1) ≤ k ∧ k < off + (i + 1) + vs.length
    · rw [if_pos hk, if_pos (by simp; omega)]
      have : k - (off + i) = (k - (off + (i + 1))) + 1 := by omega
      rw [this]; simp
    · rw [if_neg hk]
      by_cases hk0 : k = off + i
      · subst hk0
        rw [if_pos (by simp)]
        have : off + i < cells.size := by simp at h; omega
        simp [this]
      · rw [if_neg (by simp at hk ⊢; omega)]
        simp [Array.getElem?_setIfInBounds_ne (Ne.symm hk0)]

theorem fillA_sound {place : Nat → Option (Nat × Nat)} : ∀ {parts : List (Nat × AVal)} {parts' : List (Nat × Value)} {cells r : List AVal} {cells' : Array Value},
    fillA place cells parts = some r → VRels m fz w cells cells'.toList → parts.length = parts'.length →
    (∀ (j : Nat) x y, parts[j]? = some x → parts'[j]? = some y → x.1 = y.1 ∧ VRel m fz w x.2 y.2) →
    ∃ r', Instr.fill place cells' parts' = some r' ∧ VRels m fz w r r'.toList
  | [], [], cells, r, cells', h, hc, _, _ => by simp [fillA] at h; subst h; exact ⟨cells', rfl, hc⟩
  | [], _ :: _, _, _, _, _, _, hl, _ => by simp at hl
  | _ :: _, [], _, _, _, _, _, hl, _ => by simp at hl
  | (i, v) :: parts, (i', v') :: parts', cells, r, cells', h, hc, hl, hp => by
    obtain ⟨he, hv⟩ := hp 0 _ _ rfl rfl
    simp only at he hv
    subst he
    unfold fillA at h
    split at h
    · rename_i off size cs hpl hcs
      cases hsz : Nat.beq cs.length size with
      | false => simp [hsz] at h
      | true =>
        have hsz := Nat.eq_of_beq_eq_true hsz
        simp only [hsz, Nat.beq_refl, cond_true] at h
        split at h
        · rename_i cells2 hsp
          cases hle : Nat.ble (off + size) cells.length with
          | false => simp [hle] at h
          | true =>
            have hle := Nat.le_of_ble_eq_true hle
            simp [*] at h
            have hcr := cells?_rel hcs hv
            obtain ⟨s1, s2, s3⟩ := splice_spec hsp
            have hlc := hc.1
            have hcl := hcr.1
            simp at hlc hcl
            have hsize : v'.cells.size = size := by omega
            have hb : ¬ ((v'.cells.size ≠ size || off + v'.cells.size > cells'.size) = true) := by
              simp [hsize]; omega
            obtain ⟨f1, f2⟩ := foldl_set v'.cells.toList 0 off cells' (by simp; omega)
            have hnew : VRels m fz w cells2 ((v'.cells.zipIdx.foldl (fun cs x => cs.setIfInBounds (off + x.2) x.1) cells')).toList := by
              have hz : v'.cells.zipIdx.foldl (fun cs x => cs.setIfInBounds (off + x.2) x.1) cells' = (v'.cells.toList.zipIdx 0).foldl (fun cs p => cs.setIfInBounds (off + p.2) p.1) cells' := by
                rw [← Array.foldl_toList]; simp
              rw [hz]
              refine ⟨by have h1' := Array.length_toList (xs := (v'.cells.toList.zipIdx 0).foldl (fun cs p => cs.setIfInBounds (off + p.2) p.1) cells'); omega, fun j x y hx hy => ?_⟩
              rw [Array.getElem?_toList, f2 j] at hy
              rw [s3 j] at hx
              simp only [Nat.add_zero, Array.length_toList, hsize] at hy
              rw [hsz] at hx
              by_cases hj : off ≤ j ∧ j < off + size
              · rw [if_pos hj] at hx hy
                exact hcr.2 _ x y hx hy
              · rw [if_neg hj] at hx hy
                exact hc.2 j x y hx (by simpa using hy)
            obtain ⟨r', hr1, hr2⟩ := fillA_sound (parts := parts) (parts' := parts') h hnew (by simpa using hl) (fun j x y hx hy => hp (j + 1) x y (by simpa using hx) (by simpa using hy))
            refine ⟨r', ?_, hr2⟩
            unfold Instr.fill
            rw [hpl]
            simp only
            rw [if_neg hb]
            exact hr1
        · simp at h
    · simp at h

theorem zeroA_sound {t : TypeId} {z : AVal} (h : zeroA P t = some z) : ∃ i z', P.info? t = some i ∧ i.zero = some z' ∧ VRel m fz w z z' ∧ (zeroValue t).run P w = .ok z' w := by
  unfold zeroA at h
  split at h
  · rename_i i hi
    split at h
    · rename_i cs hz
      obtain ⟨l, hl, rfl⟩ := Option.map_eq_some_iff.1 h
      obtain ⟨h1, h2⟩ := absCells_rel (m := m) (fz := fz) (w := w) hl
      exact ⟨i, _, hi, hz, .agg _ _ (by simpa using h1) (fun j x y hx hy => h2 j x y hx (by simpa using hy)), by simp [zeroValue, typeInfo, hi, hz]⟩
    · rename_i v _ hz
      exact ⟨i, v, hi, hz, absCell_rel h, by simp [zeroValue, typeInfo, hi, hz]⟩
    · simp at h
  · simp at h

theorem run_places (fs : Array Field) (w : World) (hf : ∀ (i : Nat) f, fs[i]? = some f → ∃ j, P.info? f.type = some j) :
    (fs.mapM fun f => do pure (f.offset, ← sizeOf f.type) : Sem (Array (Nat × Nat))).run P w = .ok (fs.map fun f => (f.offset, P.cellsOf f.type)) w := by
  rw [Array.mapM_eq_mapM_toList]
  have key : ∀ l : List Field, (∀ f ∈ l, ∃ j, P.info? f.type = some j) →
      (l.mapM fun f => do pure (f.offset, ← sizeOf f.type) : Sem (List (Nat × Nat))).run P w = .ok (l.map fun f => (f.offset, P.cellsOf f.type)) w := by
    intro l
    induction l with
    | nil => intro _; rfl
    | cons f l ih =>
      intro h
      obtain ⟨j, hj⟩ := h f (by simp)
      simp only [List.mapM_cons, Sem.run_bind, run_sizeOfA hj, Result.andThen_ok, Sem.run_pure, ih (fun f hf => h f (by simp [hf])), List.map_cons]
  rw [Sem.run_map, key fs.toList (fun f hf' => by
    obtain ⟨i, hi⟩ := List.getElem?_of_mem hf'
    exact hf i f (by simpa using hi))]
  simp only [Result.andThen_ok]
  congr 1
  apply Array.ext'
  simp

theorem buildA_sound {t : TypeId} {parts : Array (Nat × Operand)} {ρ : Operand → AVal} {ρ' : Operand → Value} {v : AVal} (hC : ChildOk P)
    (h : buildA P t (partsA ρ parts) = some v) (hp : ∀ (j : Nat) x, parts[j]? = some x → VRel m fz w (ρ x.2) (ρ' x.2)) :
    ∃ v', (Instr.build t (parts.map fun (i, x) => (i, ρ' x))).run P w = .ok v' w ∧ VRel m fz w v v' := by
  have hparts : (partsA ρ parts).length = (parts.map fun (i, x) => (i, ρ' x)).toList.length := by simp [partsA]
  have hrel : ∀ (j : Nat) x y, (partsA ρ parts)[j]? = some x → (parts.map fun (i, x) => (i, ρ' x)).toList[j]? = some y → x.1 = y.1 ∧ VRel m fz w x.2 y.2 := by
    intro j x y hx hy
    simp only [partsA, List.getElem?_map, Array.getElem?_toList] at hx
    simp only [Array.toList_map, List.getElem?_map, Array.getElem?_toList] at hy
    obtain ⟨q, hq, rfl⟩ := Option.map_eq_some_iff.1 hx
    rw [hq] at hy
    simp at hy
    subst hy
    exact ⟨rfl, hp j q hq⟩
  unfold buildA at h
  split at h
  · rename_i z fs hz hu
    obtain ⟨r, hr, rfl⟩ := Option.map_eq_some_iff.1 h
    obtain ⟨i, z', hi, hz', hzr, hrun⟩ := zeroA_sound (m := m) (fz := fz) (w := w) hz
    cases hzr with
    | agg _ vs hlz hvz =>
    obtain ⟨r', hr1, hr2⟩ := fillA_sound (parts' := (parts.map fun (i, x) => (i, ρ' x)).toList) hr (cells' := vs) ⟨by simpa using hlz, fun j x y hx hy => hvz j x y hx (by simpa using hy)⟩ hparts hrel
    refine ⟨.agg r', ?_, .agg _ _ (by simpa using hr2.1) (fun j x y hx hy => hr2.2 j x y hx (by simpa using hy))⟩
    have hpl := run_places (P := P) fs w (fun i f hf => hC.field t fs i f hu hf)
    simp only [Instr.build, Sem.run_bind, hrun, Result.andThen_ok, Sem.run_pure, run_underlying hu, hpl]
    have : (fun x => (fs.map fun (f : Field) => (f.offset, P.cellsOf f.type))[x]?) = fun (i : Nat) => (fs[i]?).map fun (f : Field) => (f.offset, P.cellsOf f.type) := by
      funext i; simp
    simp only [this, Value.cells, hr1, Sem.run_pure]
  · rename_i z k e hz hu
    obtain ⟨r, hr, rfl⟩ := Option.map_eq_some_iff.1 h
    obtain ⟨i, z', hi, hz', hzr, hrun⟩ := zeroA_sound (m := m) (fz := fz) (w := w) hz
    cases hzr with
    | agg _ vs hlz hvz =>
    obtain ⟨ie, hie⟩ := hC.array t k e hu
    obtain ⟨r', hr1, hr2⟩ := fillA_sound (parts' := (parts.map fun (i, x) => (i, ρ' x)).toList) hr (cells' := vs) ⟨by simpa using hlz, fun j x y hx hy => hvz j x y hx (by simpa using hy)⟩ hparts hrel
    refine ⟨.agg r', ?_, .agg _ _ (by simpa using hr2.1) (fun j x y hx hy => hr2.2 j x y hx (by simpa using hy))⟩
    simp only [Instr.build, Sem.run_bind, hrun, Result.andThen_ok, Sem.run_pure, run_underlying hu, run_sizeOfA hie, Value.cells, hr1]
  · simp at h

end
end Go.Abs
