/- The evaluator's operations are the model's: slices, addresses, parts; all that only computes. -/
import Derived.Test.YtilmhmfdohbpbaaGreatQwC3
set_option linter.unusedVariables false
set_option linter.unusedSimpArgs false
namespace Go.Abs
open Go

section
variable {P : Program} {m : Emb} {fz pr : Nat → Prop} {H : Heap} {w : World}

theorem OptRel.map {ρ : Operand → AVal} {ρ' : Operand → Value} (o : Option Operand) (h : ∀ x, o = some x → VRel m fz w (ρ x) (ρ' x)) : OptRel m fz w (o.map ρ) (o.map ρ') := by
  cases o with
  | none => trivial
  | some x => exact h x rfl

theorem mapSub {c : Option Nat} {l k : Nat} (h : c.map (· - l) = some k) : ∃ k0, c = some k0 ∧ k = k0 - l := by
  cases c with
  | none => simp at h
  | some k0 => simp at h; exact ⟨k0, rfl, h.symm⟩

theorem sliceA_sound {t : TypeId} {x v : AVal} {x' : Value} {lo hi mx : Option AVal} {lo' hi' mx' : Option Value} (hC : ChildOk P) (hR : Rel m fz pr H w)
    (h : sliceA P H t x lo hi mx = some v) (hx : VRel m fz w x x') (hlo : OptRel m fz w lo lo') (hhi : OptRel m fz w hi hi') (hmx : OptRel m fz w mx mx') :
    ∃ v', (Instr.sliceAt t x' lo' hi' mx').run P w = .ok v' w ∧ VRel m fz w v v' := by
  unfold sliceA at h
  split at h
  case h_1 s hu =>
    -- a string
    cases hmxs : mx.isSome with
    | true => simp [hmxs] at h
    | false =>
      have hmx0 : mx = none := by cases mx <;> simp_all
      subst hmx0
      have hmx0' : mx' = none := by cases mx' with
        | none => rfl
        | some _ => exact hmx.elim
      subst hmx0'
      simp only [Option.isSome_none, cond_false] at h
      split at h
      · rename_i l hh c hb
        simp at h; subst h
        cases hx with
        | str s' _ hs =>
        subst hs
        obtain ⟨c', hrun, hle, hc1, hc2, hc3, hhc⟩ := boundsA_sound (P := P) (w := w) (isSlice := false) (cap' := s'.size) hb hlo hhi (mx' := none) trivial (fun c hc => (Option.some.inj hc)) (Nat.le_of_eq Array.length_toList)
        refine ⟨.string (s'.extract l hh), ?_, .str _ _ ?_⟩
        · have hlen : s'.data.toList.length = s'.size := Array.length_toList
          rw [hlen] at hrun
          simp only [Instr.sliceAt, Sem.run_bind, run_underlying hu, Result.andThen_ok, Instr.slice, hrun, Option.isSome_none, Bool.false_eq_true, if_false, Sem.run_pure]
        · rw [ByteArray.data_extract, Array.toList_extract]
      · simp at h
  case h_2 e r off n sz cap hu =>
    cases hsz : Nat.beq sz (P.cellsOf e) with
    | false => simp [hsz] at h
    | true =>
      have := Nat.eq_of_beq_eq_true hsz
      subst this
      simp only [hsz, cond_true] at h
      split at h
      · rename_i l hh c hb
        simp at h; subst h
        cases hx with
        | slice _ _ _ _ _ b o cap' a hm hcap hn ha hs =>
        obtain ⟨c', hrun, hle, hc1, hc2, hc3, hhc⟩ := boundsA_sound (P := P) (w := w) (isSlice := true) hb hlo hhi hmx hcap hn
        obtain ⟨i, hi⟩ := hC.slice t e hu
        have hlc : l ≤ c' := Nat.le_trans hle hhc
        have hccap : c' ≤ cap' := by
          cases hc : c with
          | none => rw [(hc2 hc).2.1]; exact Nat.le_refl _
          | some k => rw [hc1 k hc]; exact (hc3 k hc).1
        refine ⟨.slice ((some a).map fun a => if c' = l then a else a.add (l * P.cellsOf e)) (hh - l) (c' - l), ?_, ?_⟩
        · simp only [Instr.sliceAt, Sem.run_bind, run_underlying hu, Result.andThen_ok, Instr.slice, hrun, run_sizeOfA hi, Sem.run_pure]
          by_cases hcl : c' = l <;> simp [hcl]
        · simp only [Option.map_some]
          refine .slice r _ _ _ _ b o (c' - l) _ hm (fun k hk => ?_) (by omega) ?_ (fun j hj => ?_)
          · obtain ⟨k0, hk0, rfl⟩ := mapSub hk
            rw [hc1 k0 hk0]
          · by_cases hcl : c' = l
            · left; omega
            · right
              rw [if_neg hcl]
              have : a = ⟨b, o + off, none⟩ := by
                rcases ha with h0 | ha
                · omega
                · exact ha
              rw [this, add_addr]
              simp [Nat.add_assoc]
          · have := hs (l * P.cellsOf e + j) (by
              have h1 : (c' - l) * P.cellsOf e = c' * P.cellsOf e - l * P.cellsOf e := Nat.sub_mul _ _ _
              have h2 : c' * P.cellsOf e ≤ cap' * P.cellsOf e := Nat.mul_le_mul_right _ hccap
              have h3 : l * P.cellsOf e ≤ c' * P.cellsOf e := Nat.mul_le_mul_right _ hlc
              omega)
            have e1 : o + (off + l * P.cellsOf e) + j = o + off + (l * P.cellsOf e + j) := by omega
            rw [e1]; exact this
      · simp at h
  case h_3 e cs n cap hu =>
    split at h
    · rename_i l hh c hb
      cases hhn : Nat.ble hh n with
      | false => simp [hhn] at h
      | true =>
        simp only [hhn, cond_true, Option.some.injEq] at h; subst h
        have hhn' := Nat.le_of_ble_eq_true hhn
        cases hx with
        | lst _ _ _ a cap' f hcap hnil hn hbb hv =>
        obtain ⟨c', hrun, hle, hc1, hc2, hc3, hhc⟩ := boundsA_sound (P := P) (w := w) (isSlice := true) hb hlo hhi hmx hcap hn
        obtain ⟨i, hi⟩ := hC.slice t e hu
        have hlc : l ≤ c' := Nat.le_trans hle hhc
        refine ⟨.slice (if c' = l then a else a.map (·.add (l * P.cellsOf e))) (hh - l) (c' - l), ?_, ?_⟩
        · simp only [Instr.sliceAt, Sem.run_bind, run_underlying hu, Result.andThen_ok, Instr.slice, hrun, run_sizeOfA hi, Sem.run_pure]
        · refine .lst _ _ _ _ _ (fun j => f (l * P.cellsOf e + j)) (fun k hk => ?_) (fun h => (capOf_nil h).elim) (by omega) ?_ (fun j c hj => ?_)
          · obtain ⟨k0, hk0, rfl⟩ := mapSub (capOf_some hk)
            rw [hc1 k0 hk0]
          · by_cases hcl : c' = l
            · left
              have : hh - l = 0 := by omega
              simp [this]
            · rcases hbb with rfl | ⟨b, o, rfl, hf, hc⟩
              · left; simp
              · right
                refine ⟨b, o + l * P.cellsOf e, ?_, hf, fun j hj => ?_⟩
                · rw [if_neg hcl]; simp [add_addr]
                · have := hc (l * P.cellsOf e + j) (by simp at hj; omega)
                  rwa [Nat.add_assoc]
          · simp only [List.getElem?_take, List.getElem?_drop] at hj
            split at hj
            · exact hv _ c hj
            · simp at hj
    · simp at h
  case h_4 k e r off hu =>
    split at h
    · rename_i l hh c cells hb hg
      cases hlen : Nat.ble (off + k * P.cellsOf e) cells.length with
      | false => simp [hlen] at h
      | true =>
      have hlen := Nat.le_of_ble_eq_true hlen
      simp [*] at h; subst h
      cases hx with
      | ptr _ _ b o hm =>
      have harr : ∀ j, j < k * P.cellsOf e → okCell w b (o + off + j) := by
        intro j hj
        obtain ⟨b', o', hm', _, _, f, hf, hc⟩ := hR.rows r _ hg
        rw [hm] at hm'
        simp at hm'
        obtain ⟨rfl, rfl⟩ := hm'
        have := hf (off + j) (by omega)
        rw [← Nat.add_assoc] at this
        exact ⟨⟨_, this.1⟩, this.2⟩
      obtain ⟨c', hrun, hle, hc1, hc2, hc3, hhc⟩ := boundsA_sound (P := P) (w := w) (isSlice := false) (cap' := k) hb hlo hhi hmx (fun c hc => by simp at hc; exact hc) (Nat.le_refl _)
      obtain ⟨i, hi⟩ := hC.array t k e hu
      have hlc : l ≤ c' := Nat.le_trans hle hhc
      have hccap : c' ≤ k := by
        cases hc : c with
        | none => have := (hc2 hc).1; simp at this
        | some q => rw [hc1 q hc]; exact (hc3 q hc).1
      refine ⟨.slice (some (if c' = l then ⟨b, o + off, none⟩ else (Addr.add ⟨b, o + off, none⟩ (l * P.cellsOf e)))) (hh - l) (c' - l), ?_, ?_⟩
      · simp only [Instr.sliceAt, Sem.run_bind, run_underlying hu, Result.andThen_ok, Instr.sureAddr, hrun, run_sizeOfA hi, Sem.run_pure]
      · refine .slice r _ _ _ _ b o (c' - l) _ hm (fun q hq => ?_) (by omega) ?_ (fun j hj => ?_)
        · obtain ⟨k0, hk0, rfl⟩ := mapSub hq
          rw [hc1 k0 hk0]
        · by_cases hcl : c' = l
          · left; omega
          · right
            rw [if_neg hcl, add_addr]
            simp [Nat.add_assoc]
        · have := harr (l * P.cellsOf e + j) (by
            have h1 : (c' - l) * P.cellsOf e = c' * P.cellsOf e - l * P.cellsOf e := Nat.sub_mul _ _ _
            have h2 : c' * P.cellsOf e ≤ k * P.cellsOf e := Nat.mul_le_mul_right _ hccap
            have h3 : l * P.cellsOf e ≤ c' * P.cellsOf e := Nat.mul_le_mul_right _ hlc
            omega)
          have e1 : o + (off + l * P.cellsOf e) + j = o + off + (l * P.cellsOf e + j) := by omega
          rw [e1]; exact this
    · simp at h
  case h_5 k e cs hu =>
    split at h
    · rename_i l hh c hb
      simp at h; subst h
      cases hx with
      | iptr _ b o f hf hc hv =>
      obtain ⟨c', hrun, hle, hc1, hc2, hc3, hhc⟩ := boundsA_sound (P := P) (w := w) (isSlice := false) (cap' := k) hb hlo hhi hmx (fun c hc => by simp at hc; exact hc) (Nat.le_refl _)
      obtain ⟨i, hi⟩ := hC.array t k e hu
      refine ⟨.slice (some (if c' = l then ⟨b, o, none⟩ else (Addr.add ⟨b, o, none⟩ (l * P.cellsOf e)))) (hh - l) (c' - l), ?_, ?_⟩
      · simp only [Instr.sliceAt, Sem.run_bind, run_underlying hu, Result.andThen_ok, Instr.sureAddr, hrun, run_sizeOfA hi, Sem.run_pure]
      · refine .lst _ _ _ _ _ (fun j => f (l * P.cellsOf e + j)) (fun q hq => ?_) (fun h => (capOf_nil h).elim) (by omega) ?_ (fun j c hj => ?_)
        · obtain ⟨k0, hk0, rfl⟩ := mapSub (capOf_some hq)
          rw [hc1 k0 hk0]
        · by_cases hcl : c' = l
          · left
            have : hh - l = 0 := by omega
            simp [this]
          · right
            refine ⟨b, o + l * P.cellsOf e, ?_, hf, fun j hj => ?_⟩
            · rw [if_neg hcl]; simp [add_addr]
            · have := hc (l * P.cellsOf e + j) (by simp at hj; omega)
              rwa [Nat.add_assoc]
        · simp only [List.getElem?_take, List.getElem?_drop] at hj
          split at hj
          · exact hv _ c hj
          · simp at hj
    · simp at h
  case h_6 => simp at h

end
end Go.Abs
