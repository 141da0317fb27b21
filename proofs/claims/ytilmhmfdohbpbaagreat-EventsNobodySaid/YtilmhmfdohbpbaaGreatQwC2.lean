/- The evaluator's operations are the model's: numbers, texts, equality. -/
import Derived.Test.YtilmhmfdohbpbaaGreatQwC1
import Derived.IntWalk
import Derived.Laws.Strings
import Derived.Laws.StructEq
set_option linter.unusedVariables false
set_option linter.unusedSimpArgs false
namespace Go.Abs
open Go

theorem wrapA_eq (k : IntKind) (n : Int) : wrapA k n = k.wrap n := by
  unfold wrapA
  split
  · cases h : i64fits n with
    | false => rfl
    | true =>
      simp only [cond_true]
      have hblt : ∀ a b : Nat, Nat.blt a b = true → a < b := fun a b h => Nat.le_of_ble_eq_true h
      refine (IntWalk.i64_in n ?_).symm
      unfold i64fits at h
      split at h
      · have := hblt _ _ h; simp only [Int.ofNat_eq_natCast]; omega
      · have := hblt _ _ h; rw [Int.negSucc_eq]; omega
  · rfl

section
variable {P : Program} {m : Emb} {fz pr : Nat → Prop} {H : Heap} {w : World}

theorem intArithA_sound {op : BinOp} {k : IntKind} {x y : Int} {v : AVal} {t : TypeId} (h : intArithA op k x y = some v) :
    ∃ v', (binOp op t (.int k x) (.int k y)).run P w = .ok v' w ∧ VRel m fz w v v' := by
  cases op <;> simp only [intArithA, wrapA_eq] at h
  case quo =>
    cases hy : (y == 0) with
    | true => simp [hy] at h
    | false =>
      simp [hy] at h; subst h
      have : ¬ y = 0 := by simpa using hy
      exact ⟨_, by simp [binOp, Op.intDiv, this], .int _ _⟩
  case rem =>
    cases hy : (y == 0) with
    | true => simp [hy] at h
    | false =>
      simp [hy] at h; subst h
      have : ¬ y = 0 := by simpa using hy
      exact ⟨_, by simp [binOp, Op.intDiv, this], .int _ _⟩
  case and => simp only [Option.some.injEq] at h; subst h; exact ⟨_, by simp only [binOp, Op.intBits, ne_eq, not_true_eq_false, if_false]; rfl, .int _ _⟩
  case or => simp only [Option.some.injEq] at h; subst h; exact ⟨_, by simp only [binOp, Op.intBits, ne_eq, not_true_eq_false, if_false]; rfl, .int _ _⟩
  case xor => simp only [Option.some.injEq] at h; subst h; exact ⟨_, by simp only [binOp, Op.intBits, ne_eq, not_true_eq_false, if_false]; rfl, .int _ _⟩
  case andNot => simp only [Option.some.injEq] at h; subst h; exact ⟨_, by simp only [binOp, Op.intBits, ne_eq, not_true_eq_false, if_false]; rfl, .int _ _⟩
  all_goals first
    | (simp at h; done)
    | (simp only [Option.some.injEq] at h; subst h; exact ⟨_, by simp [binOp, Op.intArith, Op.intCmp]; rfl, by constructor⟩)

theorem strOpA_sound {op : BinOp} {x y : ByteArray} {v : AVal} {t : TypeId} (h : strOpA op x.data.toList y.data.toList = some v) :
    ∃ v', (binOp op t (.string x) (.string y)).run P w = .ok v' w ∧ VRel m fz w v v' := by
  have e1 := ByteArray.toList_eq x
  have e2 := ByteArray.toList_eq y
  cases op <;> simp only [strOpA] at h
  case add =>
    cases hb : Nat.ble (x.data.toList.length + y.data.toList.length) 9223372036854775807 with
    | false => simp only [hb, cond_false] at h; cases h
    | true =>
      simp only [hb, cond_true, Option.some.injEq] at h; subst h
      have hle := Nat.le_of_ble_eq_true hb
      have hs : ¬ (((x.size + y.size : Nat) : Int) > IntKind.i64.max) := by
        simp only [Array.length_toList] at hle
        have hm : IntKind.i64.max = 9223372036854775807 := rfl
        have : x.size = x.data.size := rfl
        have : y.size = y.data.size := rfl
        rw [hm]; omega
      refine ⟨.string (x ++ y), ?_, .str _ _ (by simp [ByteArray.data_append])⟩
      simp only [binOp, Op.stringOp, if_neg hs]; rfl
  all_goals first
    | (simp at h; done)
    | (simp only [Option.some.injEq] at h; subst h; refine ⟨_, by simp only [binOp, Op.stringOp, e1, e2]; rfl, by constructor⟩)

theorem eqA_sound : ∀ (d : Nat) {t : TypeId} {x y : AVal} {r : Bool} {x' y' : Value}, eqA P d t x y = some r → VRel m fz w x x' → VRel m fz w y y' →
    (Op.equalIn d t x' y').run P w = .ok r w
  | 0, t, x, y, r, x', y', h, _, _ => by simp [eqA] at h
  | d + 1, t, x, y, r, x', y', h, hx, hy => by
    unfold eqA at h
    split at h
    case h_1 hu => cases hx; cases hy; simp at h; subst h; simp [Op.equalIn, run_underlying hu]
    case h_2 hu =>
      cases hx; cases hy
      rename_i k1 a k2 b
      by_cases hk : k1 = k2
      · subst hk; simp at h; subst h; simp [Op.equalIn, run_underlying hu]
      · simp [hk] at h
    case h_3 hu =>
      cases hx; cases hy
      rename_i s1 e1 s2 e2
      subst e1 e2
      simp at h; subst h
      simp [Op.equalIn, run_underlying hu, beq_toListBytes, ByteArray.toList_eq]
    case h_4 hu => cases hx; cases hy; simp at h; subst h; simp [Op.equalIn, run_underlying hu]
    case h_5 hu => cases hx; cases hy; simp at h; subst h; simp [Op.equalIn, run_underlying hu]
    case h_6 hu => cases hx; cases hy; simp at h; subst h; simp [Op.equalIn, run_underlying hu]
    case h_7 hu => cases hx; cases hy; simp at h; subst h; simp [Op.equalIn, run_underlying hu]
    case h_8 hu => cases hx; cases hy; simp at h; subst h; simp [Op.equalIn, run_underlying hu]
    case h_9 hu => cases hx; cases hy; simp at h; subst h; simp [Op.equalIn, run_underlying hu]
    case h_10 hu => cases hx; cases hy; simp at h; subst h; simp [Op.equalIn, run_underlying hu]
    case h_11 hu => cases hx; cases hy; simp at h; subst h; simp [Op.equalIn, run_underlying hu]
    case h_12 hu => cases hx; cases hy; simp at h; subst h; simp [Op.equalIn, run_underlying hu]
    case h_13 hu => cases hx; cases hy; simp at h; subst h; simp [Op.equalIn, run_underlying hu]
    case h_14 hu => cases hx; cases hy; simp at h; subst h; simp [Op.equalIn, run_underlying hu]
    case h_15 fs xs ys hu =>
      cases hs : P.stoodInHeld t with
      | true => simp [hs] at h
      | false =>
        simp only [hs, cond_false] at h
        cases hx with
        | agg _ xs' hlx hx =>
        cases hy with
        | agg _ ys' hly hy =>
        have hu' : P.underlying t = some (.struct (P.fieldsOf t)) := by simp [Program.fieldsOf, hu]
        rw [run_equalIn_struct w d t xs' ys' hu' hs]
        have hf : P.fieldsOf t = fs := by simp [Program.fieldsOf, hu]
        rw [hf]
        generalize fs.toList = l at h
        clear hf hu hu'
        induction l with
        | nil => simp [eqFieldsA] at h; subst h; simp [Op.eqFields]
        | cons f l ih =>
          unfold eqFieldsA at h
          by_cases hn : f.name = "_"
          · have : (f.name == "_") = true := by simp [hn]
            simp only [this, cond_true] at h
            simp only [Op.eqFields, hn, ne_eq, not_true_eq_false, if_false]
            exact ih h
          · have : (f.name == "_") = false := by simp [hn]
            simp only [this, cond_false] at h
            split at h
            · rename_i a b ha hb
              obtain ⟨a', ha', hra⟩ := part_sound (P := P) (w := w) ha hlx hx
              obtain ⟨b', hb', hrb⟩ := part_sound (P := P) (w := w) hb hly hy
              simp only [Op.eqFields, ne_eq, hn, not_false_eq_true, if_true, Sem.run_bind, ha', hb', Result.andThen_ok]
              split at h
              · rename_i he
                rw [eqA_sound d he hra hrb]
                simp only [Result.andThen_ok, Bool.not_true, Bool.false_eq_true, if_false]
                exact ih h
              · rename_i he
                rw [eqA_sound d he hra hrb]
                simp at h; subst h
                simp
              · simp at h
            · simp at h
    case h_16 hu =>
      cases hx with
      | lst _ _ _ a cap' f hcap hnil hn hb hv =>
      cases hy with
      | lst _ _ _ a2 cap2 f2 hcap2 hnil2 hn2 hb2 hv2 =>
      have h1 := hnil rfl
      have h2 := hnil2 rfl
      subst h1 h2
      simp at h; subst h
      simp [Op.equalIn, run_underlying hu]
    case h_17 hu =>
      cases hx with
      | slice _ _ _ _ _ b o cap' a hm hcap hn ha hs =>
      cases hy with
      | lst _ _ _ a2 cap2 f2 hcap2 hnil2 hn2 hb2 hv2 =>
      have h2 := hnil2 rfl
      subst h2
      simp at h; subst h
      simp [Op.equalIn, run_underlying hu]
    case h_18 hu =>
      cases hx with
      | lst _ _ _ a cap' f hcap hnil hn hb hv =>
      cases hy with
      | slice _ _ _ _ _ b o cap2 a2 hm hcap2 hn2 ha hs =>
      have h1 := hnil rfl
      subst h1
      simp at h; subst h
      simp [Op.equalIn, run_underlying hu]
    case h_19 => simp at h

theorem eqGuardA_sound {op : BinOp} {t : TypeId} {x y : Operand} {a b : AVal} {a' b' : Value} (h : eqGuardA P op t x y a b = true) (ha : VRel m fz w a a') (hb : VRel m fz w b b') :
    (eqGuard op t x y a' b').run P w = .ok () w := by
  cases op
  case eql =>
    unfold eqGuardA at h
    unfold eqGuard
    cases ha <;> cases hb <;> first
      | rfl
      | (simp at h; done)
      | (cases x <;> cases y <;> simp at h <;> rfl)
      | (simp at h; simp [h])
  case neq =>
    unfold eqGuardA at h
    unfold eqGuard
    cases ha <;> cases hb <;> first
      | rfl
      | (simp at h; done)
      | (cases x <;> cases y <;> simp at h <;> rfl)
      | (simp at h; simp [h])
  all_goals rfl

theorem binOpA_sound {op : BinOp} {t : TypeId} {x y : AVal} {v : AVal} {x' y' : Value} (h : binOpA P op t x y = some v) (hx : VRel m fz w x x') (hy : VRel m fz w y y') :
    ∃ v', (binOp op t x' y').run P w = .ok v' w ∧ VRel m fz w v v' := by
  unfold binOpA at h
  split at h
  · rename_i k a k' b
    cases hx; cases hy
    split at h
    · rename_i hop
      cases hb : decide (b < 0) with
      | true => simp [hb] at h
      | false =>
        simp [hb, wrapA_eq] at h; subst h
        have : ¬ b < 0 := by simpa using hb
        exact ⟨_, by simp [binOp, Op.shift, this], .int _ _⟩
    · cases hb : decide (b < 0) with
      | true => simp [hb] at h
      | false =>
        simp [hb] at h; subst h
        have : ¬ b < 0 := by simpa using hb
        exact ⟨_, by simp [binOp, Op.shift, this], .int _ _⟩
    · by_cases hk : k = k'
      · subst hk
        simp at h
        exact intArithA_sound h
      · simp [hk] at h
  · cases hx with
    | str s _ hs =>
    cases hy with
    | str s' _ hs' =>
    subst hs hs'
    exact strOpA_sound h
  · rename_i hi hs
    have key : ∀ r, eqA P Op.maxDepth t x y = some r → (Op.equal t x' y').run P w = .ok r w := fun r hr => eqA_sound _ hr hx hy
    split at h
    · obtain ⟨r, hr, rfl⟩ := Option.map_eq_some_iff.1 h
      refine ⟨.bool r, ?_, .bool _⟩
      have hk := key r hr
      have hno : (binOp .eql t x' y') = (do pure (.bool (← Op.equal t x' y')) : Sem Value) := by
        unfold eqA Op.maxDepth at hr
        cases hx <;> cases hy <;> first
          | rfl
          | (exact absurd rfl (hi _ _ _ _ rfl))
          | (exact (hi _ _ _ _ rfl rfl).elim)
          | (exact (hs _ _ rfl rfl).elim)
          | (simp at hr; done)
          | (exfalso; revert hr; split <;> simp_all)
      rw [hno]; simp [hk]
    · obtain ⟨r, hr, rfl⟩ := Option.map_eq_some_iff.1 h
      refine ⟨.bool !r, ?_, .bool _⟩
      have hk := key r hr
      have hno : (binOp .neq t x' y') = (do pure (.bool !(← Op.equal t x' y')) : Sem Value) := by
        unfold eqA Op.maxDepth at hr
        cases hx <;> cases hy <;> first
          | rfl
          | (exact (hi _ _ _ _ rfl rfl).elim)
          | (exact (hs _ _ rfl rfl).elim)
          | (exfalso; revert hr; split <;> simp_all)
      rw [hno]; simp [hk]
    · simp at h

theorem unOpA_sound {op : UnOp} {x v : AVal} {x' : Value} (h : unOpA op x = some v) (hx : VRel m fz w x x') :
    ∃ v', (Op.unary op x').run P w = .ok v' w ∧ VRel m fz w v v' := by
  unfold unOpA at h
  split at h
  · cases hx; simp [wrapA_eq] at h; subst h; exact ⟨_, by simp [Op.unary, Op.intArith], .int _ _⟩
  · cases hx; simp at h; subst h; exact ⟨_, by simp [Op.unary], .bool _⟩
  · simp at h

end
end Go.Abs
