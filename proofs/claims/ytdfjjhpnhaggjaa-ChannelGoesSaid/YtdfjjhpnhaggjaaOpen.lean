/- Arguments opened leaf by leaf: an array, a struct, of whatever depth, of bools, whole numbers, strings and slices. No program in sight. -/
import Derived.ProofKit
import Derived.OpenShut
import Derived.Deep.Slices
namespace Go.Mem
open Go Go.ChangeShapes Go.WideShapes Go.Deep Go.RowKit

/-- The type of the leaf that lies at cell i of a value of type t. -/
def leafAt (P : Program) : Nat → TypeId → Nat → Option TypeId
  | 0, _, _ => none
  | d + 1, t, i => match P.underlying t with
    | some (.struct fs) => fs.toList.findSome? fun f => if f.offset ≤ i ∧ i < f.offset + P.cellsOf f.type then leafAt P d f.type (i - f.offset) else none
    | some (.array n e) => if i < n * P.cellsOf e then leafAt P d e (i % P.cellsOf e) else none
    | some .bool | some (.int _) | some .string | some (.slice _) => if i = 0 then some t else none
    | _ => none

section
variable {H : Type} {enc : TypeId × Value → H} {P : Program} {w : World} {base : Nat} {spare : Nat → Bool} {held : Bool}

theorem trod_leaf : ∀ (d : Nat) {t u : TypeId} {i fuel : Nat} {cs : List Value} {x : DataW H × List MemPlace}, DataW.trod enc P w base spare held fuel t cs = some x → leafAt P d t i = some u →
    ∃ m y v, cs[i]? = some v ∧ DataW.trod enc P w base spare held m u [v] = some y
  | 0, _, _, _, _, _, _, _, hl => by simp [leafAt] at hl
  | d + 1, t, u, i, fuel, cs, x, h, hl => by
    unfold leafAt at hl
    have leaf : ∀ {v : Value}, cs = [v] → (if i = 0 then some t else none) = some u → ∃ m y v, cs[i]? = some v ∧ DataW.trod enc P w base spare held m u [v] = some y := by
      intro v hc hu
      split at hu
      · rename_i hi
        cases hu
        subst hi hc
        exact ⟨fuel, x, v, rfl, h⟩
      · cases hu
    split at hl
    · rename_i fs hs
      obtain ⟨xs, n, rfl, hx, hlen, hxl, hf⟩ := DataW.trod_struct hs h
      obtain ⟨f, hfm, hif⟩ := List.exists_of_findSome?_eq_some hl
      obtain ⟨j, hj⟩ := List.mem_iff_getElem?.1 hfm
      split at hif
      · rename_i hr
        have hj' : fs[j]? = some f := by simpa using hj
        have hjl : j < fs.size := (Array.getElem?_eq_some_iff.1 hj').1
        have h1 := hf j f hj'
        rw [List.getElem?_eq_getElem (by omega)] at h1
        obtain ⟨m, y, v, hv, ht⟩ := trod_leaf d h1 hif
        refine ⟨m, y, v, ?_, ht⟩
        rw [List.getElem?_take_of_lt (by omega), List.getElem?_drop] at hv
        rwa [show f.offset + (i - f.offset) = i by omega] at hv
      · cases hif
    · rename_i n e hs
      obtain ⟨xs, m', rfl, hx, hlen, hxl, hf⟩ := DataW.trod_array hs h
      split at hl
      · rename_i hi
        have hc0 : 0 < P.cellsOf e := by
          rcases Nat.eq_zero_or_pos (P.cellsOf e) with h0 | h0
          · rw [h0] at hi; omega
          · exact h0
        have hq : i / P.cellsOf e < n := Nat.div_lt_of_lt_mul (by rw [Nat.mul_comm]; exact hi)
        have h1 := hf (i / P.cellsOf e) hq
        rw [List.getElem?_eq_getElem (by omega)] at h1
        obtain ⟨m, y, v, hv, ht⟩ := trod_leaf d h1 hl
        refine ⟨m, y, v, ?_, ht⟩
        rw [List.getElem?_take_of_lt (Nat.mod_lt _ hc0), List.getElem?_drop] at hv
        rwa [Nat.div_add_mod' i (P.cellsOf e)] at hv
      · cases hl
    · rename_i hs
      obtain ⟨b, rfl, -⟩ := DataW.trod_bool hs h
      exact leaf rfl hl
    · rename_i k hs
      obtain ⟨b, rfl, -⟩ := DataW.trod_int hs h
      exact leaf rfl hl
    · rename_i hs
      obtain ⟨b, rfl, -⟩ := DataW.trod_string hs h
      exact leaf rfl hl
    · rename_i e hs
      rcases open_slice hs h with ⟨rfl, -⟩ | ⟨a, len, cap, m, n, D, Pl, rfl, -⟩
      · exact leaf rfl hl
      · exact leaf rfl hl
    · cases hl

theorem leaf_int {d : Nat} {t u : TypeId} {i fuel : Nat} {cs : List Value} {x : DataW H × List MemPlace} {k : IntKind} (h : DataW.trod enc P w base spare held fuel t cs = some x) (hl : leafAt P d t i = some u) (hu : P.underlying u = some (.int k)) :
    ∃ n, cs[i]? = some (.int k n) ∧ (Lit.int k n).wf = true := by
  obtain ⟨m, y, v, hv, ht⟩ := trod_leaf d h hl
  obtain ⟨n, hn, -, hw⟩ := DataW.trod_int hu ht
  simp at hn; subst hn
  exact ⟨n, hv, hw⟩
theorem leaf_bool {d : Nat} {t u : TypeId} {i fuel : Nat} {cs : List Value} {x : DataW H × List MemPlace} (h : DataW.trod enc P w base spare held fuel t cs = some x) (hl : leafAt P d t i = some u) (hu : P.underlying u = some .bool) :
    ∃ b, cs[i]? = some (.bool b) := by
  obtain ⟨m, y, v, hv, ht⟩ := trod_leaf d h hl
  obtain ⟨n, hn, -⟩ := DataW.trod_bool hu ht
  simp at hn; subst hn
  exact ⟨n, hv⟩
theorem leaf_string {d : Nat} {t u : TypeId} {i fuel : Nat} {cs : List Value} {x : DataW H × List MemPlace} (h : DataW.trod enc P w base spare held fuel t cs = some x) (hl : leafAt P d t i = some u) (hu : P.underlying u = some .string) :
    ∃ s : ByteArray, cs[i]? = some (.string s) ∧ s.size ≤ maxLen := by
  obtain ⟨m, y, v, hv, ht⟩ := trod_leaf d h hl
  obtain ⟨n, hn, -, hw⟩ := DataW.trod_string hu ht
  simp at hn; subst hn
  exact ⟨n, hv, hw⟩

theorem okWide_array {r : Reach} {b : Nat} {t : TypeId} {v : Value} {n : Nat} {e : TypeId} (ht : P.underlying t = some (.array n e)) (h : Value.okWide P w r b t v) : ∃ cs, v = .agg cs ∧ cs.size = P.cellsOf t := by
  simp only [Value.okWide, ht] at h
  obtain ⟨cs, h1, h2, _⟩ := h
  exact ⟨cs, h1, h2⟩

theorem list_of {α : Type} (Q : Nat → α → Prop) : ∀ n, (∀ i, i < n → ∃ x, Q i x) → ∃ A : List α, A.length = n ∧ ∀ i x, A[i]? = some x → Q i x
  | 0, _ => ⟨[], rfl, by simp⟩
  | n + 1, h => by
    obtain ⟨A, hA, hq⟩ := list_of Q n (fun i hi => h i (by omega))
    obtain ⟨x, hx⟩ := h n (by omega)
    refine ⟨A ++ [x], by simp [hA], fun i y hy => ?_⟩
    by_cases hi : i < n
    · rw [List.getElem?_append_left (by omega)] at hy; exact hq i y hy
    · by_cases he : i = n
      · subst he; rw [List.getElem?_append_right (by omega), hA] at hy; simp at hy; subst hy; exact hx
      · rw [List.getElem?_eq_none (by simp; omega)] at hy; cases hy

/-- A slice of whatever elements: its length, and each element's cells with their reading. -/
theorem open_rows {t e : TypeId} {v : Value} {x : DataW H} {ps : List MemPlace} (ht : P.underlying t = some (.slice e)) (hone : ∃ a n c, v = .slice a n c) (h : DataW.Trod enc P w base spare held t v x ps) :
    ∃ (a : Option Addr) (len cap : Nat), v = .slice a len cap ∧ len ≤ maxLen ∧ (0 < len → ∃ a0, a = some a0) ∧
      ∀ i, i < len → ∀ a0, a = some a0 → ∃ (cs : List Value) (m : Nat) (y : DataW H × List MemPlace), cs.length = P.cellsOf e ∧ (∀ j, j < P.cellsOf e → w.cell? (a0.add (i * P.cellsOf e + j)) = cs[j]?) ∧ DataW.trod enc P w base spare held m e cs = some y := by
  obtain ⟨a, n, c, rfl⟩ := hone
  obtain ⟨fuel, hf⟩ := h
  rcases open_slice ht hf with ⟨hcs, -⟩ | ⟨a', len, cap, m, k, D, Pl, hcs, hb, hl, hm, hmm, hx, hi⟩
  · simp [Value.cells] at hcs
    obtain ⟨rfl, rfl, rfl⟩ := hcs
    exact ⟨none, 0, 0, rfl, Nat.zero_le _, by omega, by omega⟩
  · simp [Value.cells] at hcs
    obtain ⟨rfl, rfl, rfl⟩ := hcs
    refine ⟨some a', n, c, rfl, Nat.le_trans hl hm, fun _ => ⟨a', rfl⟩, fun i hil a0 ha0 => ?_⟩
    cases ha0
    obtain ⟨cs, hc, ht'⟩ := hi i (by rw [hmm]; split <;> omega)
    obtain ⟨_, hcl, hat⟩ := World.cells?_some hc
    exact ⟨cs, k, _, hcl, fun j hj => by rw [← Go.Deep.add_add, hat j hj], ht'⟩
end
end Go.Mem
