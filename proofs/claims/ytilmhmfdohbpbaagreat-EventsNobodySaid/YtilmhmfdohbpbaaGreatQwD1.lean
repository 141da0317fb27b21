/- The evaluator's operations are the model's: new objects. -/
import Derived.Test.YtilmhmfdohbpbaaGreatQwC6
import Derived.Laws.IdiomStrings
set_option linter.unusedVariables false
set_option linter.unusedSimpArgs false
namespace Go.Abs
open Go

/-- A world that holds one more object, and is else as it was. -/
structure NewObj (w w' : World) : Prop where
  size : w'.heap.size = w.heap.size + 1
  same : ∀ b, b < w.heap.size → w'.heap[b]? = w.heap[b]?
  still : w'.os = w.os ∧ w'.output = w.output

theorem NewObj.push (w w0 : World) (o : Obj) (h : w0.heap = w.heap) (hs : w0.os = w.os ∧ w0.output = w.output := by exact ⟨rfl, rfl⟩) : NewObj w { w0 with heap := w0.heap.push o } :=
  ⟨by simp [h], fun b hb => by simp [h, Array.getElem?_push, Nat.ne_of_lt hb], hs⟩

section
variable {P : Program} {m : Emb} {fz pr : Nat → Prop} {H : Heap} {w : World}

/-- What a new object of the evaluator's is in the model's world. -/
def Made (m : Emb) (fz : Nat → Prop) (w : World) (w' : World) (obj : AObj) (val : Nat → AVal) (v' : Value) : Prop :=
  ∀ (m' : Emb) (fz' : Nat → Prop) (r : Nat), m' r = some (w.heap.size, 0) → (∀ c v, VRel m fz w c v → VRel m' fz' w' c v) →
    ORel m' fz' w' w.heap.size 0 obj ∧ VRel m' fz' w' (val r) v'

theorem heap_push_new (w : World) (o : Obj) : (w.heap.push o)[w.heap.size]? = some o := by simp

theorem made_cells {w0 : World} {cs : List AVal} {vs : Array Value} {e : TypeId} {fr : Nat × Nat} (hl : cs.length ≤ vs.size) (hfr : fr = (0, 0) ∨ vs.size ≤ fr.1) (hw : w0.heap = w.heap)
    (hv : ∀ (j : Nat) x y, cs[j]? = some x → vs[j]? = some y → VRel m fz w x y) :
    let w' : World := { w0 with heap := w0.heap.push (.cells vs e fr) }
    (∀ (m' : Emb) (fz' : Nat → Prop), (∀ c v, VRel m fz w c v → VRel m' fz' w' c v) → ORel m' fz' w' w.heap.size 0 (.cells cs)) ∧
      ∀ j, j < vs.size → okCell w' w.heap.size j := by
  intro w'
  have hb : w'.heap[w.heap.size]? = some (.cells vs e fr) := by
    show (w0.heap.push _)[w.heap.size]? = _
    rw [hw]; simp
  have hcell : ∀ j, w'.cell? ⟨w.heap.size, j, none⟩ = vs[j]? := by
    intro j; unfold World.cell?; simp only [hb]; rfl
  have hfroz : ∀ j, j < vs.size → w'.frozen? ⟨w.heap.size, j, none⟩ = false := by
    intro j hj
    unfold World.frozen?
    simp only [hb]
    rcases hfr with rfl | h
    · simp
    · have : ¬ fr.1 ≤ j := by omega
      simp [this]
  refine ⟨fun m' fz' hx => ?_, fun j hj => ⟨⟨vs[j], by rw [hcell]; simp [hj]⟩, hfroz j hj⟩⟩
  refine ⟨fun j => vs.getD j undef, fun j hj => ?_, fun j x hj => ?_⟩
  · have hj' : j < vs.size := by omega
    rw [Nat.zero_add]
    refine ⟨?_, hfroz j hj'⟩
    rw [hcell]
    simp [Array.getD, hj']
  · have hlt := (List.getElem?_eq_some_iff.1 hj).1
    have hj' : j < vs.size := by omega
    exact hx _ _ (hv j x _ hj (by simp [Array.getD, hj']))

theorem cat_length {α : Type} (l : List α) : ∀ n, (cat n l).length = n * l.length
  | 0 => by simp [cat]
  | n + 1 => by simp [cat, cat_length l n, Nat.succ_mul, Nat.add_comm]

theorem cat_get {α : Type} (l : List α) (h : 0 < l.length) : ∀ (n j : Nat), j < n * l.length → (cat n l)[j]? = l[j % l.length]?
  | 0, j, hj => by simp at hj
  | n + 1, j, hj => by
    by_cases hlt : j < l.length
    · rw [cat, List.getElem?_append_left hlt, Nat.mod_eq_of_lt hlt]
    · rw [cat, List.getElem?_append_right (by omega), cat_get l h n _ (by have := Nat.succ_mul n l.length; simp only [Nat.succ_eq_add_one] at this; omega)]
      congr 1
      rw [Nat.mod_eq_sub_mod (a := j) (by omega)]

theorem grown_cut (need old : Nat) (e : TypeId) (t : Nat) : need ≤ (Question.appendCap need old e).cut t := by
  simp [Question.cut]

theorem decodeL_eq (s : ByteArray) (i : Nat) (hi : i < s.size) : decodeL (s.data.toList.drop i) = Utf8.decode s i := by
  have hlen : s.data.toList.length = s.size := Array.length_toList
  have hget : ∀ k, (s.data.toList.drop i)[k]? = if i + k < s.size then some (s.get! (i + k)) else none := by
    intro k
    rw [List.getElem?_drop]
    by_cases h : i + k < s.size
    · rw [if_pos h, List.getElem?_eq_getElem (by omega), Array.getElem_toList]
      have h' : i + k < s.data.size := h
      show _ = some (s.data[i + k]!)
      rw [getElem!_pos s.data (i + k) h']
    · rw [if_neg h, List.getElem?_eq_none (by omega)]
  cases hd : s.data.toList.drop i with
  | nil => have := congrArg List.length hd; simp at this; omega
  | cons b r =>
    have h0 := hget 0
    rw [hd, if_pos (by simpa using hi)] at h0
    have hg0 : s.get! (i + 0) = b := by simpa using h0.symm
    have hr : ∀ k, r[k]? = if i + (k + 1) < s.size then some (s.get! (i + (k + 1))) else none := by
      intro k
      have := hget (k + 1)
      rw [hd] at this
      simpa using this
    have cont_ : ∀ k, contL r[k]? = (decide (i + (k + 1) < s.size) && ((s.get! (i + (k + 1))).toNat / 64 == 2)) := by
      intro k
      rw [hr k]
      by_cases h : i + (k + 1) < s.size
      · rw [if_pos h, decide_eq_true h]; rfl
      · rw [if_neg h, decide_eq_false h]; rfl
    have at_ : ∀ k, i + (k + 1) < s.size → atL r[k]? = (s.get! (i + (k + 1))).toNat := by
      intro k h
      rw [hr k, if_pos h]; rfl
    unfold decodeL Utf8.decode
    simp only [cont_, hg0]
    by_cases c1 : i + (0 + 1) < s.size
    · by_cases c2 : i + (1 + 1) < s.size
      · by_cases c3 : i + (2 + 1) < s.size
        · simp only [at_ 0 c1, at_ 1 c2, at_ 2 c3]
        · simp only [at_ 0 c1, at_ 1 c2]
          have : (decide (i + (2 + 1) < s.size)) = false := by simpa using c3
          simp only [this, Bool.false_and, Bool.and_false, Bool.false_eq_true, if_false]
      · have h2 : (decide (i + (1 + 1) < s.size)) = false := by simpa using c2
        simp only [at_ 0 c1, h2, Bool.false_and, Bool.and_false, Bool.false_eq_true, if_false]
    · have h1 : (decide (i + (0 + 1) < s.size)) = false := by simpa using c1
      simp only [h1, Bool.false_and, Bool.and_false, Bool.false_eq_true, if_false]

theorem decode_pos (s : ByteArray) (i : Nat) : 0 < (Utf8.decode s i).2 := by
  unfold Utf8.decode
  simp only
  repeat' split
  all_goals simp

theorem runesL_eq (s : ByteArray) : ∀ (n i : Nat) (acc : Array Value), i ≤ s.size →
    (Conv.runesFrom s n i acc).toList = acc.toList ++ (runesL n (s.data.toList.drop i)).map fun (c : Nat) => Value.int .i32 (c : Int)
  | 0, i, acc, _ => by simp [Conv.runesFrom, runesL]
  | n + 1, i, acc, hi => by
    have hlen : s.data.toList.length = s.size := Array.length_toList
    unfold Conv.runesFrom
    by_cases h : i < s.size
    · rw [if_pos h]
      simp only
      have hne : ∃ b r, s.data.toList.drop i = b :: r := by
        cases hd : s.data.toList.drop i with
        | nil => have := congrArg List.length hd; simp at this; omega
        | cons b r => exact ⟨b, r, rfl⟩
      obtain ⟨b, r, hd⟩ := hne
      have hrun : runesL (n + 1) (s.data.toList.drop i) = (decodeL (s.data.toList.drop i)).1 :: runesL n ((s.data.toList.drop i).drop (decodeL (s.data.toList.drop i)).2) := by
        rw [hd]; rfl
      rw [hrun, decodeL_eq s i h, List.drop_drop]
      by_cases hle : i + (Utf8.decode s i).2 ≤ s.size
      · rw [runesL_eq s n _ _ hle]
        simp
      · have e1 : s.data.toList.drop (i + (Utf8.decode s i).2) = [] := List.drop_eq_nil_of_le (by omega)
        rw [e1]
        have e2 : Conv.runesFrom s n (i + (Utf8.decode s i).2) (acc.push (.int .i32 (Int.ofNat (Utf8.decode s i).1))) = acc.push (.int .i32 (Int.ofNat (Utf8.decode s i).1)) := by
          cases n with
          | zero => rfl
          | succ n => unfold Conv.runesFrom; rw [if_neg (by omega)]
        rw [e2]
        have e3 : runesL n [] = [] := by cases n <;> rfl
        simp [e3]
    · rw [if_neg h]
      have : i = s.size := by omega
      subst this
      have e1 : s.data.toList.drop s.size = [] := List.drop_eq_nil_of_le (by omega)
      rw [e1]
      simp [runesL]

end
end Go.Abs
