/- Part of the evaluator's core: see its own heading. -/
import Derived.Test.YtilmhmfdohbpbaaGreatQwC1
/-! The parts of each type are known, also of types that are made. -/
set_option linter.unusedVariables false
set_option linter.unusedSimpArgs false
namespace Go.Abs
open Go

theorem forIn_mono {α β : Type} : ∀ (l : List α) (s : β) {f g : α → β → Option (ForInStep β)}, (∀ a s r, f a s = some r → g a s = some r) → ∀ r, forIn l s f = some r → forIn l s g = some r := by
  intro l
  induction l with
  | nil => intro s f g _ r h; simpa using h
  | cons a l ih =>
    intro s f g hfg r h
    rw [List.forIn_cons] at h ⊢
    obtain ⟨x, hx, h⟩ := Option.bind_eq_some_iff.1 h
    refine Option.bind_eq_some_iff.2 ⟨x, hfg _ _ _ hx, ?_⟩
    cases x with
    | done b => exact h
    | yield b => exact ih b hfg r h

theorem forIn_inv {α β : Type} (I : β → Prop) : ∀ (l : List α) (s : β) {f : α → β → Option (ForInStep β)}, (∀ a s r, I s → f a s = some r → I (match r with | .done b => b | .yield b => b)) → I s → ∀ r, forIn l s f = some r → I r := by
  intro l
  induction l with
  | nil => intro s f _ hs r h; simp at h; subst h; exact hs
  | cons a l ih =>
    intro s f hf hs r h
    rw [List.forIn_cons] at h
    obtain ⟨x, hx, h⟩ := Option.bind_eq_some_iff.1 h
    have hi := hf _ _ _ hs hx
    cases x with
    | done b => simp at h; subst h; exact hi
    | yield b => exact ih b hf hi r h

theorem mapM_mono {α β : Type} : ∀ (l : List α) {f g : α → Option β}, (∀ a r, f a = some r → g a = some r) → ∀ r, l.mapM f = some r → l.mapM g = some r := by
  intro l
  induction l with
  | nil => intro f g _ r h; simpa using h
  | cons a l ih =>
    intro f g hfg r h
    rw [List.mapM_cons] at h ⊢
    obtain ⟨x, hx, h⟩ := Option.bind_eq_some_iff.1 h
    obtain ⟨y, hy, h⟩ := Option.bind_eq_some_iff.1 h
    exact Option.bind_eq_some_iff.2 ⟨x, hfg _ _ hx, Option.bind_eq_some_iff.2 ⟨y, ih hfg y hy, h⟩⟩

theorem reckonStruct_mono {f g : TypeId → Option TypeInfo} (hfg : ∀ t i, f t = some i → g t = some i) {fs : Array Field} {i : TypeInfo} (h : Made.reckonStruct f fs = some i) : Made.reckonStruct g fs = some i := by
  unfold Made.reckonStruct at h ⊢
  obtain ⟨x, hx, h⟩ := Option.bind_eq_some_iff.1 h
  refine Option.bind_eq_some_iff.2 ⟨x, ?_, h⟩
  rw [← Array.forIn_toList] at hx ⊢
  refine forIn_mono _ _ (fun a s r hr => ?_) _ hx
  obtain ⟨y, hy, hr⟩ := Option.bind_eq_some_iff.1 hr
  exact Option.bind_eq_some_iff.2 ⟨y, hfg _ _ hy, hr⟩

theorem funcStr_mono {f g : TypeId → Option TypeInfo} (hfg : ∀ t i, f t = some i → g t = some i) {ps rs : Array TypeId} {v : Bool} {s : String} (h : Made.funcStr f ps rs v = some s) : Made.funcStr g ps rs v = some s := by
  unfold Made.funcStr at h ⊢
  obtain ⟨x, hx, h⟩ := Option.bind_eq_some_iff.1 h
  obtain ⟨y, hy, h⟩ := Option.bind_eq_some_iff.1 h
  refine Option.bind_eq_some_iff.2 ⟨x, mapM_mono _ (fun a r hr => ?_) _ hx, Option.bind_eq_some_iff.2 ⟨y, mapM_mono _ (fun a r hr => ?_) _ hy, h⟩⟩
  · obtain ⟨t, k⟩ := a
    obtain ⟨i, hi, hr⟩ := Option.bind_eq_some_iff.1 hr
    refine Option.bind_eq_some_iff.2 ⟨i, hfg _ _ hi, ?_⟩
    split
    · rename_i hc
      rw [if_pos hc] at hr
      have fin : ∀ {o : Option TypeDesc}, (o.bind fun d => match d with | TypeDesc.slice e => (f e).bind fun x => (Made.spell x).bind fun y => some ("..." ++ y) | _ => none) = some r →
          (o.bind fun d => match d with | TypeDesc.slice e => (g e).bind fun x => (Made.spell x).bind fun y => some ("..." ++ y) | _ => none) = some r := by
        intro o ho
        obtain ⟨d, hd, ho⟩ := Option.bind_eq_some_iff.1 ho
        refine Option.bind_eq_some_iff.2 ⟨d, hd, ?_⟩
        split at ho
        · obtain ⟨z, hz, ho⟩ := Option.bind_eq_some_iff.1 ho
          exact Option.bind_eq_some_iff.2 ⟨z, hfg _ _ hz, ho⟩
        · simp at ho
      cases hd : i.desc with
      | named nm u =>
        simp only [hd] at hr ⊢
        cases hu : f u with
        | none => simp [hu] at hr
        | some j =>
          rw [hfg _ _ hu]
          rw [hu] at hr
          exact fin hr
      | slice e => simp only [hd] at hr ⊢; exact fin (o := some (.slice e)) hr
      | _ => simp [hd] at hr
    · rename_i hc
      rw [if_neg hc] at hr
      exact hr
  · obtain ⟨i, hi, hr⟩ := Option.bind_eq_some_iff.1 hr
    exact Option.bind_eq_some_iff.2 ⟨i, hfg _ _ hi, hr⟩

theorem reckon_mono {f g : TypeId → Option TypeInfo} (hfg : ∀ t i, f t = some i → g t = some i) {d : TypeDesc} {i : TypeInfo} (h : Made.reckon f d = some i) : Made.reckon g d = some i := by
  have one : ∀ {t : TypeId} {k : TypeInfo → Option TypeInfo} {i : TypeInfo}, (f t).bind k = some i → (g t).bind k = some i := fun hh => by
    obtain ⟨x, hx, hr⟩ := Option.bind_eq_some_iff.1 hh
    exact Option.bind_eq_some_iff.2 ⟨x, hfg _ _ hx, hr⟩
  have sp : ∀ {t : TypeId} {k : String → Option TypeInfo} {i : TypeInfo}, ((f t).bind Made.spell).bind k = some i → ((g t).bind Made.spell).bind k = some i := fun hh => by
    obtain ⟨x, hx, hr⟩ := Option.bind_eq_some_iff.1 hh
    obtain ⟨y, hy, hx⟩ := Option.bind_eq_some_iff.1 hx
    exact Option.bind_eq_some_iff.2 ⟨x, Option.bind_eq_some_iff.2 ⟨y, hfg _ _ hy, hx⟩, hr⟩
  unfold Made.reckon at h ⊢
  cases d with
  | pointer e => exact one h
  | slice e =>
    obtain ⟨y, hy, h⟩ := Option.bind_eq_some_iff.1 h
    exact Option.bind_eq_some_iff.2 ⟨y, hfg _ _ hy, h⟩
  | map k e =>
    obtain ⟨y, hy, h⟩ := Option.bind_eq_some_iff.1 h
    refine Option.bind_eq_some_iff.2 ⟨y, hfg _ _ hy, ?_⟩
    obtain ⟨z, hz, h⟩ := Option.bind_eq_some_iff.1 h
    refine Option.bind_eq_some_iff.2 ⟨z, hz, ?_⟩
    obtain ⟨q, hq, h⟩ := Option.bind_eq_some_iff.1 h
    exact Option.bind_eq_some_iff.2 ⟨q, hfg _ _ hq, h⟩
  | chan dir e =>
    obtain ⟨y, hy, h⟩ := Option.bind_eq_some_iff.1 h
    exact Option.bind_eq_some_iff.2 ⟨y, hfg _ _ hy, h⟩
  | func ps rs v =>
    obtain ⟨y, hy, h⟩ := Option.bind_eq_some_iff.1 h
    exact Option.bind_eq_some_iff.2 ⟨y, funcStr_mono hfg hy, h⟩
  | array n e => exact one h
  | struct fs => exact reckonStruct_mono hfg h
  | _ => simp at h

theorem infoAt_mono (T : Tables) : ∀ (n : Nat) (t : TypeId) (i : TypeInfo), Made.infoAt T n t = some i → Made.infoAt T (n + 1) t = some i := by
  intro n
  induction n with
  | zero => intro t i h; simp [Made.infoAt] at h
  | succ n ih =>
    intro t i h
    rw [Made.infoAt] at h ⊢
    split
    · rename_i hlt; rw [if_pos hlt] at h; exact h
    · rename_i hlt
      rw [if_neg hlt] at h
      obtain ⟨d, hd, h⟩ := Option.bind_eq_some_iff.1 h
      exact Option.bind_eq_some_iff.2 ⟨d, hd, reckon_mono ih h⟩

/-- What is known of the parts of a type that is made. -/
def Known (f : TypeId → Option TypeInfo) : TypeDesc → Prop
  | .slice e | .array _ e => ∃ i, f e = some i
  | .struct fs => ∀ (k : Nat) (x : Field), fs[k]? = some x → ∃ i, f x.type = some i
  | _ => True

theorem reckonStruct_known {f : TypeId → Option TypeInfo} {fs : Array Field} {i : TypeInfo} (h : Made.reckonStruct f fs = some i) : Known f i.desc := by
  unfold Made.reckonStruct at h
  obtain ⟨x, hx, h⟩ := Option.bind_eq_some_iff.1 h
  rw [← Array.forIn_toList] at hx
  have hinv := forIn_inv (fun s => ∀ (k : Nat) (y : Field), (s.1 : Array Field)[k]? = some y → ∃ i, f y.type = some i) _ _ (fun a s r hs hr => by
    obtain ⟨y, hy, hr⟩ := Option.bind_eq_some_iff.1 hr
    simp only at hr
    have fin : ∀ (s' : Array Field) (x : Field), s' = s.1.push x → x.type = a.type → ∀ (k : Nat) (z : Field), s'[k]? = some z → ∃ i, f z.type = some i := by
      intro s' x hs' hx k z hz
      subst hs'
      rw [Array.getElem?_push] at hz
      split at hz
      · simp at hz; subst hz; exact ⟨y, by rw [hx]; exact hy⟩
      · exact hs k z hz
    by_cases h1 : y.str.isEmpty = true
    · simp [h1] at hr
    · by_cases h2 : a.embedded = true
      · simp [h1, h2] at hr
      · by_cases h3 : a.tag.isEmpty = true
        · by_cases h4 : y.bytes = 0
          · simp only [h1, h2, h3, h4, Bool.false_eq_true, if_false, if_true] at hr
            cases hr
            exact fin _ _ rfl rfl
          · simp only [h1, h2, h3, h4, Bool.false_eq_true, if_false, if_true] at hr
            cases hr
            exact fin _ _ rfl rfl
        · simp only [h1, h2, h3, Bool.false_eq_true, if_false, if_true] at hr
          obtain ⟨tag, htag, hr⟩ := Option.bind_eq_some_iff.1 hr
          by_cases h4 : y.bytes = 0
          · simp only [h4, if_true] at hr
            cases hr
            exact fin _ _ rfl rfl
          · simp only [h4, if_false] at hr
            cases hr
            exact fin _ _ rfl rfl) (by intro k y hk; simp at hk) _ hx
  split at h <;> dsimp only at h <;> split at h <;> (cases h; exact hinv)

theorem infoAt_known (T : Tables) {n : Nat} {d : TypeDesc} {i : TypeInfo} (h : Made.reckon (Made.infoAt T n) d = some i) : Known (Made.infoAt T n) i.desc := by
  unfold Made.reckon at h
  cases d with
  | pointer e =>
    obtain ⟨y, hy, h⟩ := Option.bind_eq_some_iff.1 h
    split at h
    · simp at h
    · split at h
      · simp at h
      · obtain ⟨z, hz, h⟩ := Option.bind_eq_some_iff.1 h
        cases h; trivial
    · obtain ⟨z, hz, h⟩ := Option.bind_eq_some_iff.1 h
      cases h; trivial
  | slice e =>
    obtain ⟨y, hy, h⟩ := Option.bind_eq_some_iff.1 h
    obtain ⟨z, hz, h⟩ := Option.bind_eq_some_iff.1 h
    cases h; exact ⟨y, hy⟩
  | map k e =>
    obtain ⟨y, hy, h⟩ := Option.bind_eq_some_iff.1 h
    obtain ⟨z, hz, h⟩ := Option.bind_eq_some_iff.1 h
    obtain ⟨q, hq, h⟩ := Option.bind_eq_some_iff.1 h
    obtain ⟨u, hu, h⟩ := Option.bind_eq_some_iff.1 h
    cases h; trivial
  | chan dir e =>
    obtain ⟨y, hy, h⟩ := Option.bind_eq_some_iff.1 h
    obtain ⟨z, hz, h⟩ := Option.bind_eq_some_iff.1 h
    cases h; trivial
  | func ps rs v =>
    obtain ⟨y, hy, h⟩ := Option.bind_eq_some_iff.1 h
    cases h; trivial
  | array n e =>
    obtain ⟨y, hy, h⟩ := Option.bind_eq_some_iff.1 h
    obtain ⟨z, hz, h⟩ := Option.bind_eq_some_iff.1 h
    cases h; exact ⟨y, hy⟩
  | struct fs => exact reckonStruct_known h
  | _ => simp at h

/-- Are the parts of each type that is laid known? -/
def partsKnown (P : Program) : Bool :=
  P.types.toList.all fun i => match i.desc with
    | .slice e | .array _ e => (P.info? e).isSome
    | .struct fs => fs.toList.all fun f => (P.info? f.type).isSome
    | _ => true

theorem known_info {P : Program} (hc : partsKnown P = true) {t : TypeId} {i : TypeInfo} (h : P.info? t = some i) : Known P.info? i.desc := by
  have lift : ∀ (e : TypeId) (j : TypeInfo), Made.infoAt P.toTables 99 e = some j → ∃ j, P.info? e = some j := by
    intro e j hj
    by_cases he : e < P.types.size
    · rw [Made.infoAt, if_pos he] at hj
      exact ⟨j, by simp only [Tables.info?, if_pos he]; exact hj⟩
    · exact ⟨j, by simp only [Tables.info?, if_neg he]; exact infoAt_mono _ _ _ _ hj⟩
  by_cases ht : t < P.types.size
  · simp only [Tables.info?, if_pos ht] at h
    have hm : i ∈ P.types.toList := by
      have := Array.mem_of_getElem? h
      simpa using this
    have := List.all_eq_true.1 hc i hm
    cases hd : i.desc with
    | slice e => rw [hd] at this; exact Option.isSome_iff_exists.1 this
    | array n e => rw [hd] at this; exact Option.isSome_iff_exists.1 this
    | struct fs =>
      rw [hd] at this
      intro k x hk
      exact Option.isSome_iff_exists.1 (List.all_eq_true.1 this x (by have := Array.mem_of_getElem? hk; simpa using this))
    | _ => trivial
  · simp only [Tables.info?, if_neg ht] at h
    have h100 : Made.depth = 99 + 1 := rfl
    rw [h100, Made.infoAt, if_neg ht] at h
    obtain ⟨d, hd, h⟩ := Option.bind_eq_some_iff.1 h
    have hk := infoAt_known _ h
    cases hd : i.desc with
    | slice e => rw [hd] at hk; obtain ⟨j, hj⟩ := hk; exact lift e j hj
    | array n e => rw [hd] at hk; obtain ⟨j, hj⟩ := hk; exact lift e j hj
    | struct fs => rw [hd] at hk; intro k x hx; obtain ⟨j, hj⟩ := hk k x hx; exact lift _ j hj
    | _ => trivial

theorem childOk {P : Program} (hc : partsKnown P = true) : ChildOk P := by
  have key : ∀ t d, P.underlying t = some d → Known P.info? d := by
    intro t d h
    unfold Program.underlying at h
    cases hi : P.info? t with
    | none => simp [hi] at h
    | some i =>
      have hk := known_info hc hi
      rw [hi] at h
      obtain ⟨desc, _⟩ := i
      cases desc with
      | named nm u =>
        cases hu : P.info? u with
        | none => simp [hu] at h
        | some j =>
          simp only [hu, Option.map_some, Option.some.injEq] at h
          subst h
          exact known_info hc hu
      | _ =>
        simp only [Option.some.injEq] at h
        subst h
        exact hk
  exact ⟨fun t e h => key t _ h, fun t n e h => key t _ h, fun t fs i f h hf => key t _ h i f hf⟩

end Go.Abs
