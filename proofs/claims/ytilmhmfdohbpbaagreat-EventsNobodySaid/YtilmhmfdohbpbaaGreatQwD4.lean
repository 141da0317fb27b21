/- The evaluator's operations are the model's: appends and copies. -/
import Derived.Test.YtilmhmfdohbpbaaGreatQwD3
import Derived.Laws.Append
set_option linter.unusedVariables false
set_option linter.unusedSimpArgs false
namespace Go.Abs
open Go

section
variable {P : Program} {m : Emb} {fz pr : Nat → Prop} {H H' : Heap} {w : World}

theorem srcOf_sound {sz : Nat} {y : AVal} {y' : Value} {src : List AVal} {k : Nat} (hR : Rel m fz pr H w) (h : srcOf H sz y = some (src, k)) (hy : VRel m fz w y y') :
    ∃ vs : Array Value, (Builtin.lenOf y').run P w = .ok k w ∧ (∀ (w' : World), w'.heap = w.heap → (Builtin.firstCells sz k y').run P w' = .ok vs w') ∧ VRels m fz w src vs.toList ∧ src.length = k * sz := by
  unfold srcOf at h
  split at h
  · rename_i s
    cases hs : Nat.beq sz 1 with
    | false => simp [hs] at h
    | true =>
      have := Nat.eq_of_beq_eq_true hs
      subst this
      simp only [hs, cond_true, Option.some.injEq, Prod.mk.injEq] at h
      obtain ⟨rfl, rfl⟩ := h
      cases hy with
      | str s' _ he =>
      subst he
      have hlen : s'.data.toList.length = s'.size := Array.length_toList
      refine ⟨(s'.extract 0 s'.size).data.map fun b => .int .u8 b.toNat, by rw [hlen]; rfl, fun w' _ => by rw [hlen]; rfl, ⟨?_, fun j x v hx hv => ?_⟩, by simp⟩
      · have : (s'.extract 0 s'.size) = s' := by
          apply ByteArray.ext
          rw [ByteArray.data_extract]
          have e : s'.size = s'.data.size := rfl
          rw [e, Array.extract_size]
        rw [this]; simp
      · have : (s'.extract 0 s'.size) = s' := by
          apply ByteArray.ext
          rw [ByteArray.data_extract]
          have e : s'.size = s'.data.size := rfl
          rw [e, Array.extract_size]
        rw [this] at hv
        simp only [List.getElem?_map, Array.getElem?_toList] at hx
        simp only [Array.toList_map, List.getElem?_map, Array.getElem?_toList] at hv
        obtain ⟨q, hq, rfl⟩ := Option.map_eq_some_iff.1 hx
        rw [hq] at hv
        simp at hv; subst hv
        exact .int _ _
  · obtain ⟨a, cap', f, rfl, hl, hn, hrow⟩ := elemsOf_sound hR h hy
    refine ⟨((List.range src.length).map f).toArray, rfl, fun w' hw' => ?_, by simpa using hrow.list, hl⟩
    cases a with
    | none =>
      have : src = [] := by rcases hrow.at_ with h | ⟨b, o, h, _⟩; exact h; simp at h
      subst this
      rfl
    | some a =>
      simp only [Builtin.firstCells]
      rw [← hl]
      refine run_loadCells w' _ _ f fun j hj => ?_
      rcases hrow.at_ with rfl | ⟨b', o', he, hc⟩
      · simp at hj
      · simp at he
        subst he
        rw [add_addr, cell?_of_heap (w := w) (by rw [hw'])]; exact hc j hj

theorem storeCells_nil (a : Addr) (w : World) : (storeCells a []).run P w = .ok () w := rfl

def inPlace (base : Option Addr) (n sz : Nat) (vs : Array Value) : Sem Unit :=
  match base with | some a => storeCells (a.add (n * sz)) vs.toList | none => pure ()

/-- An append that goes on in place. -/
theorem run_append_in {t u e ty : TypeId} {ts : List TypeId} {ud : TypeDesc} {base : Option Addr} {n cap' k : Nat} {y' : Value} {vs : Array Value} {w' : World} (hC : ChildOk P)
    (hu : P.underlying t = some (.slice e)) (hud : P.underlying u = some ud) (hni : srcTy ud = true) (hl : (Builtin.lenOf y').run P w = .ok k w)
    (hf : (Builtin.firstCells (P.cellsOf e) k y').run P w = .ok vs w) (hle : n + k ≤ cap')
    (hst : (inPlace base n (P.cellsOf e) vs).run P w = .ok () w') :
    (Builtin.append_ (t :: u :: ts).toArray ty #[.slice base n cap', y']).run P w = .ok (.slice base (n + k) cap') w' := by
  obtain ⟨i, hi⟩ := hC.slice t e hu
  have hsz : P.cellsOf e = i.size := by simp [Program.cellsOf, hi]
  rw [hsz] at hf hst
  have key : (Builtin.append_ (t :: u :: ts).toArray ty #[.slice base n cap', y']).run P w =
      ((inPlace base n i.size vs).run P w).andThen fun _ w' => .ok (.slice base (n + k) cap') w' := by
    cases ud <;> first
      | (simp [srcTy] at hni; done)
      | (cases base <;> simp [inPlace, Builtin.append_, run_underlying hu, run_underlying hud, sizeOf, typeInfo, hi, hl, hle, hf])
  rw [key, hst]
  rfl

/-- An append that makes a new row. -/
theorem run_append_new {t u e ty : TypeId} {ts : List TypeId} {ud : TypeDesc} {base : Option Addr} {n cap' k : Nat} {y' : Value} {vs os : Array Value} (hC : ChildOk P)
    (hu : P.underlying t = some (.slice e)) (hud : P.underlying u = some ud) (hni : srcTy ud = true) (hl : (Builtin.lenOf y').run P w = .ok k w)
    (hf : ∀ w' : World, w'.heap = w.heap → (Builtin.firstCells (P.cellsOf e) k y').run P w' = .ok vs w')
    (ho : ∀ w' : World, w'.heap = w.heap → (Builtin.firstCells (P.cellsOf e) n (.slice base n cap')).run P w' = .ok os w') (hgt : cap' < n + k)
    (hsm : appendA.small P e n k = true) :
    ∃ cap'' zs, n + k ≤ cap'' ∧ zs.size = P.cellsOf e ∧
      (Builtin.append_ (t :: u :: ts).toArray ty #[.slice base n cap', y']).run P w =
        .ok (.slice (some ⟨w.heap.size, 0, none⟩) (n + k) cap'') { w.drew with heap := w.drew.heap.push (.cells (os ++ vs ++ Builtin.zeroCells zs (cap'' - (n + k))) e) } := by
  obtain ⟨i, hi⟩ := hC.slice t e hu
  simp only [appendA.small, Bool.and_eq_true] at hsm
  obtain ⟨hs1, hs2, hs3⟩ := hsm
  have hs1 := Nat.le_of_ble_eq_true hs1
  have hs2 := Nat.le_of_ble_eq_true hs2
  unfold zeroOk at hs3
  split at hs3
  case h_2 => simp at hs3
  rename_i z hzb
  have hzl := Nat.eq_of_beq_eq_true hs3
  obtain ⟨i', z', hi', hz', _, hzr⟩ := bind_cells (P := P) (m := fun _ => none) (fz := fun _ => False) (w := w) hzb
  rw [hi] at hi'
  simp at hi'; subst hi'
  have hzs : z'.cells.size = P.cellsOf e := by have h1 := hzr.1; have h2 := Array.length_toList (xs := z'.cells); omega
  have hbytes : P.bytesOf e = i.bytes := by simp [Program.bytesOf, hi]
  have hsz : P.cellsOf e = i.size := by simp [Program.cellsOf, hi]
  refine ⟨(Question.appendCap (n + k) cap' e).cut (w.tape w.drawn (.appendCap (n + k) cap' e)), z'.cells, grown_cut _ _ _ _, hzs, ?_⟩
  rw [hsz] at hf ho
  have hn1 : ¬ (n + k ≤ cap') := by omega
  have h63' : ¬ (9223372036854775807 < ((n : Int) + (k : Int))) := by omega
  have h48' : ¬ (281474976710656 < Builtin.nextslicecap (n + k) cap' * i.bytes) := by
    have h1 := nextslicecap_le hgt
    have h2 : Builtin.nextslicecap (n + k) cap' * i.bytes ≤ 2 * (n + k) * i.bytes := Nat.mul_le_mul_right _ h1
    rw [hbytes] at hs1
    omega
  have hm : IntKind.i64.max = 9223372036854775807 := rfl
  have f1 := hf w.drew rfl
  have f2 := ho w.drew rfl
  cases ud <;> first
    | (simp [srcTy] at hni; done)
    | (simp [Builtin.append_, run_underlying hu, run_underlying hud, sizeOf, typeInfo, zeroValue, hi, hz', hl, hn1, h63', h48', hm, Question.forced, f1, f2, newRow]; rfl)

end
end Go.Abs
