/- The evaluator's operations are the model's: constants, rows, loads. -/
import Derived.Test.YtilmhmfdohbpbaaGreatQwB
import Derived.Laws.Entries
set_option linter.unusedVariables false
set_option linter.unusedSimpArgs false
namespace Go.Abs
open Go

/-- The parts of each type are known. -/
structure ChildOk (P : Program) : Prop where
  slice : ∀ t e, P.underlying t = some (.slice e) → ∃ i, P.info? e = some i
  array : ∀ t n e, P.underlying t = some (.array n e) → ∃ i, P.info? e = some i
  field : ∀ t (fs : Array Field) (i : Nat) (f : Field), P.underlying t = some (.struct fs) → fs[i]? = some f → ∃ i, P.info? f.type = some i

section
variable {P : Program} {m : Emb} {fz pr : Nat → Prop} {H : Heap} {w : World}

theorem absCell_rel {v : Value} {a : AVal} (h : absCell v = some a) : VRel m fz w a v := by
  unfold absCell at h
  split at h <;> simp at h <;> subst h
  · exact .bool _
  · exact .int _ _
  · exact .str _ _ rfl
  · exact .nilptr
  · exact .lst [] 0 (some 0) none 0 (fun _ => undef) (fun c hc => by simpa using hc) (fun _ => rfl) (Nat.le_refl _) (.inl rfl) (fun j c hj => by simp at hj)
  · exact .nilmap
  · exact .nilfunc
  · exact .niliface

theorem absCell_single {v : Value} {a : AVal} (h : absCell v = some a) : a.single = true ∧ v.oneCell' = true ∧ a.cells? = some [a] ∧ v.cells = #[v] := by
  unfold absCell at h
  split at h <;> simp at h <;> subst h <;> simp [AVal.single, Value.oneCell', AVal.cells?, Value.cells]

theorem absCells_rel : ∀ {vs : List Value} {l : List AVal}, absCells vs = some l → VRels m fz w l vs
  | [], l, h => by simp [absCells] at h; subst h; exact ⟨rfl, fun j x y hx => by simp at hx⟩
  | v :: vs, l, h => by
    simp only [absCells] at h
    split at h
    · rename_i a l' ha hl'
      simp at h; subst h
      have ih := absCells_rel hl'
      refine ⟨by simp [ih.1], fun j x y hx hy => ?_⟩
      cases j with
      | zero => simp at hx hy; subst hx hy; exact absCell_rel ha
      | succ j => exact ih.2 j x y (by simpa using hx) (by simpa using hy)
    · simp at h

theorem absConst_rel (v : Value) : VRel m fz w (absConst v) v := by
  unfold absConst
  split
  · split
    · rename_i cs _ l hl
      obtain ⟨h1, h2⟩ := absCells_rel (m := m) (fz := fz) (w := w) hl
      exact .agg _ _ (by simpa using h1) (fun j x y hx hy => h2 j x y hx (by simpa using hy))
    · exact .any _
  · split
    · rename_i cs _ l hl
      obtain ⟨h1, h2⟩ := absCells_rel (m := m) (fz := fz) (w := w) hl
      exact .tuple _ _ (by simpa using h1) (fun j x y hx hy => h2 j x y hx (by simpa using hy))
    · exact .any _
  · cases h : absCell v with
    | none => exact .any _
    | some a => exact absCell_rel h

theorem evalA_rel {T : Tmps} {a : Act} (h : TRel m fz w T a.tmps) (x : Operand) : VRel m fz w (evalA T x) (a.eval x) := by
  cases x with
  | tmp t => exact h t
  | const v => exact absConst_rel v
  | global g => exact .any _
  | func f => exact .func (.func f) [] [] #[] #[] (fun l h => by cases h) rfl rfl (fun j x y hx => by simp at hx) (fun j x y hx => by simp at hx)

theorem takeN_spec {α : Type} : ∀ {n : Nat} {l r : List α}, takeN n l = some r → n ≤ l.length ∧ r = l.take n
  | 0, l, r, h => by simp [takeN] at h; subst h; exact ⟨Nat.zero_le _, by simp⟩
  | n + 1, [], r, h => by simp [takeN] at h
  | n + 1, a :: l, r, h => by
    simp only [takeN, Option.map_eq_some_iff] at h
    obtain ⟨r', hr, rfl⟩ := h
    obtain ⟨h1, h2⟩ := takeN_spec hr
    exact ⟨by simp; omega, by simp [h2]⟩

theorem takeN_eq {α : Type} : ∀ {n : Nat} {l : List α}, n ≤ l.length → takeN n l = some (l.take n)
  | 0, l, _ => by simp [takeN]
  | n + 1, [], h => by simp at h
  | n + 1, a :: l, h => by simp [takeN, takeN_eq (n := n) (l := l) (by simpa using h)]

theorem splice_spec {α : Type} : ∀ {off : Nat} {vs cs r : List α}, splice off vs cs = some r →
    r.length = cs.length ∧ (vs = [] ∨ off + vs.length ≤ cs.length) ∧ ∀ j, r[j]? = if off ≤ j ∧ j < off + vs.length then vs[j - off]? else cs[j]?
  | 0, [], cs, r, h => by simp [splice] at h; subst h; refine ⟨rfl, .inl rfl, fun j => ?_⟩; rw [if_neg (by simp)]
  | 0, v :: vs, [], r, h => by simp [splice] at h
  | 0, v :: vs, c :: cs, r, h => by
    simp only [splice, Option.map_eq_some_iff] at h
    obtain ⟨r', hr, rfl⟩ := h
    obtain ⟨h1, h2, h3⟩ := splice_spec hr
    refine ⟨by simp [h1], .inr ?_, fun j => ?_⟩
    · rcases h2 with rfl | h2
      · simp
      · simp at h2 ⊢; omega
    · cases j with
      | zero => simp
      | succ j =>
        have := h3 j
        simp only [Nat.zero_add, Nat.zero_le, true_and, Nat.sub_zero] at this
        simp [this]
  | n + 1, [], cs, r, h => by simp [splice] at h; subst h; refine ⟨rfl, .inl rfl, fun j => ?_⟩; rw [if_neg (by simp only [List.length_nil]; omega)]
  | n + 1, v :: vs, [], r, h => by simp [splice] at h
  | n + 1, v :: vs, c :: cs, r, h => by
    simp only [splice, Option.map_eq_some_iff] at h
    obtain ⟨r', hr, rfl⟩ := h
    obtain ⟨h1, h2, h3⟩ := splice_spec hr
    refine ⟨by simp [h1], .inr ?_, fun j => ?_⟩
    · rcases h2 with h2 | h2
      · simp at h2
      · simp at h2 ⊢; omega
    · cases j with
      | zero => simp
      | succ j =>
        have := h3 j
        simp only [List.getElem?_cons_succ, this, List.length_cons]
        by_cases hc : n ≤ j ∧ j < n + (vs.length + 1)
        · rw [if_pos hc, if_pos (by omega)]; congr 1; omega
        · rw [if_neg hc, if_neg (by omega)]

theorem VRels.append {a b : List AVal} {x y : List Value} (h : VRels m fz w a x) (h' : VRels m fz w b y) : VRels m fz w (a ++ b) (x ++ y) := by
  refine ⟨by simp [h.1, h'.1], fun j u v hu hv => ?_⟩
  by_cases hj : j < a.length
  · rw [List.getElem?_append_left hj] at hu
    rw [List.getElem?_append_left (by rw [← h.1]; exact hj)] at hv
    exact h.2 j u v hu hv
  · rw [List.getElem?_append_right (by omega)] at hu
    rw [List.getElem?_append_right (by rw [← h.1]; omega)] at hv
    rw [← h.1] at hv
    exact h'.2 _ u v hu hv

/-- What a pointer's row holds. -/
theorem rowOf_sound {a : AVal} {v : Value} {cs : List AVal} (hR : Rel m fz pr H w) (h : rowOf H a = some cs) (hv : VRel m fz w a v) :
    ∃ (b o : Nat) (f : Nat → Value), v = .pointer (some ⟨b, o, none⟩) ∧ (∀ j, j < cs.length → w.cell? ⟨b, o + j, none⟩ = some (f j)) ∧ ∀ (j : Nat) c, cs[j]? = some c → VRel m fz w c (f j) := by
  cases hv <;> simp only [rowOf] at h
  case ptr r off b o hm =>
    split at h
    · rename_i c hg
      simp at h; subst h
      obtain ⟨b', o', hm', _, _, f, hf, hc⟩ := hR.rows r _ hg
      rw [hm] at hm'
      simp at hm'
      obtain ⟨rfl, rfl⟩ := hm'
      refine ⟨b, o + off, fun j => f (off + j), rfl, fun j hj => ?_, fun j c' hj => ?_⟩
      · have := (hf (off + j) (by simp at hj; omega)).1
        rwa [Nat.add_assoc]
      · exact hc (off + j) c' (by simpa using hj)
    · simp at h
  case iptr b o f hb hc hv =>
    simp at h; subst h
    exact ⟨b, o, f, rfl, hc, hv⟩
  all_goals simp at h

theorem underlying_info {t : TypeId} {d : TypeDesc} (h : P.underlying t = some d) : ∃ i, P.info? t = some i := by
  unfold Program.underlying at h
  cases hi : P.info? t with
  | none => simp [hi] at h
  | some i => exact ⟨i, rfl⟩

theorem run_sizeOfA {t : TypeId} {i : TypeInfo} (h : P.info? t = some i) (w : World) : (sizeOf t).run P w = .ok (P.cellsOf t) w := by
  simp [sizeOf, typeInfo, h, Program.cellsOf]

def aggD : TypeDesc → Bool
  | .struct _ | .array _ _ => true
  | _ => false

theorem run_isAgg {t : TypeId} {d : TypeDesc} (h : P.underlying t = some d) (w : World) :
    (isAgg t).run P w = .ok (aggD d) w := by
  simp only [isAgg, Sem.run_bind, run_underlying h, Result.andThen_ok]
  cases d <;> rfl

theorem takeVar_cells {t : TypeId} {cs : List AVal} {x : AVal} (h : takeVar P t cs = some x) (f : Nat → Value) (hv : ∀ (j : Nat) c, cs[j]? = some c → VRel m fz w c (f j)) :
    ∃ d, P.underlying t = some d ∧ ((aggD d = true ∧ P.cellsOf t ≤ cs.length ∧ VRel m fz w x (.agg ((List.range (P.cellsOf t)).map f).toArray)) ∨
      (aggD d = false ∧ 0 < cs.length ∧ VRel m fz w x (f 0))) := by
  unfold takeVar at h
  have hagg : ∀ r, takeN (P.cellsOf t) cs = some r → P.cellsOf t ≤ cs.length ∧ VRel m fz w (.agg r) (.agg ((List.range (P.cellsOf t)).map f).toArray) := by
    intro r hr
    obtain ⟨h1, rfl⟩ := takeN_spec hr
    refine ⟨h1, .agg _ _ (by simp; omega) (fun j x y hx hy => ?_)⟩
    simp only [List.getElem?_take] at hx
    split at hx
    · rename_i hj
      simp [hj] at hy
      subst hy
      exact hv j x hx
    · simp at hx
  split at h
  · rename_i fs hu
    obtain ⟨r, hr, rfl⟩ := Option.map_eq_some_iff.1 h
    exact ⟨_, hu, .inl ⟨rfl, hagg r hr⟩⟩
  · rename_i n e hu
    obtain ⟨r, hr, rfl⟩ := Option.map_eq_some_iff.1 h
    exact ⟨_, hu, .inl ⟨rfl, hagg r hr⟩⟩
  · rename_i d h1 h2 hu
    refine ⟨d, hu, .inr ⟨?_, ?_, ?_⟩⟩
    · cases d <;> first | rfl | exact (h1 _ rfl).elim | exact (h2 _ _ rfl).elim
    · cases cs with
      | nil => simp at h
      | cons c cs => simp
    · cases cs with
      | nil => simp at h
      | cons c cs => simp at h; subst h; exact hv 0 _ (by simp)
  · simp at h

/-- A variable that is read. -/
theorem loadVar_sound {t : TypeId} {cs : List AVal} {x : AVal} {b o : Nat} {f : Nat → Value} (h : takeVar P t cs = some x)
    (hc : ∀ j, j < cs.length → w.cell? ⟨b, o + j, none⟩ = some (f j)) (hv : ∀ (j : Nat) c, cs[j]? = some c → VRel m fz w c (f j)) :
    ∃ y, (loadVar t ⟨b, o, none⟩).run P w = .ok y w ∧ VRel m fz w x y := by
  obtain ⟨d, hu, h⟩ := takeVar_cells h f hv
  obtain ⟨i, hi⟩ := underlying_info hu
  rcases h with ⟨hag, hl, hr⟩ | ⟨hd, hl, hr⟩
  · refine ⟨_, ?_, hr⟩
    have hl' := run_loadCells (P := P) w ⟨b, o, none⟩ (P.cellsOf t) f (fun j hj => by
      have := hc j (by omega)
      unfold Addr.add
      split
      · rename_i h0; subst h0; exact this
      · exact this)
    simp only [loadVar, Sem.run_bind, run_isAgg hu, Result.andThen_ok, hag, if_true, run_sizeOfA hi, hl', Sem.run_pure]
  · refine ⟨f 0, ?_, hr⟩
    have := hc 0 hl
    simp only [Nat.add_zero] at this
    simp only [loadVar, Sem.run_bind, run_isAgg hu, Result.andThen_ok, hd, Bool.false_eq_true, if_false, run_load, this]

/-- A part of a struct's or an array's cells. -/
theorem part_sound {t : TypeId} {cs : List AVal} {x : AVal} {off : Nat} {vs : Array Value} (h : takeVar P t (cs.drop off) = some x) (hl : cs.length = vs.size)
    (hv : ∀ (j : Nat) c y, cs[j]? = some c → vs[j]? = some y → VRel m fz w c y) :
    ∃ y, (part t vs off).run P w = .ok y w ∧ VRel m fz w x y := by
  have hv' : ∀ (j : Nat) c, (cs.drop off)[j]? = some c → VRel m fz w c (vs.getD (off + j) undef) := by
    intro j c hj
    simp only [List.getElem?_drop] at hj
    have hlt : off + j < vs.size := by
      rw [← hl]
      rcases Nat.lt_or_ge (off + j) cs.length with h | h
      · exact h
      · simp [List.getElem?_eq_none h] at hj
    exact hv _ c _ hj (by simp [Array.getD, hlt])
  obtain ⟨d, hu, h⟩ := takeVar_cells (m := m) (fz := fz) (w := w) h (fun j => vs.getD (off + j) undef) hv'
  obtain ⟨i, hi⟩ := underlying_info hu
  rcases h with ⟨hag, hl', hr⟩ | ⟨hd, hl', hr⟩
  · refine ⟨_, ?_, hr⟩
    simp only [part, Sem.run_bind, run_isAgg hu, Result.andThen_ok, hag, if_true, run_sizeOfA hi, Sem.run_pure]
    congr 2
    apply Array.ext
    · simp at hl' ⊢; omega
    · intro j h1 h2
      simp at h1 h2
      simp [Array.getD]
      omega
  · refine ⟨_, ?_, hr⟩
    have hlt : off < vs.size := by simp at hl'; omega
    simp only [part, Sem.run_bind, run_isAgg hu, Result.andThen_ok, hd, Bool.false_eq_true, if_false]
    simp [Array.getD, hlt]

end
end Go.Abs
