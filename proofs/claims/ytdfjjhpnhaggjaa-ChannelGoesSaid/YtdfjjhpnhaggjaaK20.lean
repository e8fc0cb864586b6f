/- The plain law of reaching: the matrix that New makes, and what leads where. -/
import Derived.Test.YtdfjjhpnhaggjaaK5
namespace Go.Proofs.Ytdfjjhpnhaggjaa
open Go.RowKit Go.Mem

theorem at2_set {m : List Bool} (hm : m.length = 256) {i j a b : Nat} (hi : i < 16) (hj : j < 16) (ha : a < 16) (hb : b < 16) (v : Bool) : at2 (m.set (i * 16 + j) v) a b = if a = i ∧ b = j then v else at2 m a b := by
  unfold at2
  rw [List.getD_eq_getElem?_getD, List.getD_eq_getElem?_getD, List.getElem?_set]
  by_cases h : a = i ∧ b = j
  · obtain ⟨rfl, rfl⟩ := h
    rw [if_pos rfl, if_pos (by omega), if_pos ⟨rfl, rfl⟩]; rfl
  · rw [if_neg (by omega), if_neg h]

theorem mstep_len (kb : Bool) (g : Nat) (m : List Bool) (x : Int × Int) : (mstep kb g m x).length = m.length := by simp [mstep]
/-- One destination: the source leads to it, and, of a queue, it to the source. -/
theorem mstep_at {m : List Bool} (hm : m.length = 256) {kb : Bool} {g : Nat} {x : Int × Int} (hg : g < 16) (hx : x.1.toNat < 16) {a b : Nat} (ha : a < 16) (hb : b < 16) :
    at2 (mstep kb g m x) a b = (at2 m a b || (decide (a = g) && decide (b = x.1.toNat)) || (kb && decide (a = x.1.toNat) && decide (b = g))) := by
  unfold mstep
  rw [at2_set (by simpa using hm) hx hg ha hb, at2_set hm hg hx ha hb, at2_set hm hg hx hx hg]
  by_cases h1 : a = x.1.toNat ∧ b = g
  · obtain ⟨rfl, rfl⟩ := h1
    by_cases h2 : x.1.toNat = b
    · simp [h2]
    · have : ¬ (b = x.1.toNat) := fun h => h2 h.symm
      simp [h2]
  · by_cases h2 : a = g ∧ b = x.1.toNat
    · obtain ⟨rfl, rfl⟩ := h2
      simp [h1]
    · rw [if_neg h1, if_neg h2]
      have e1 : (decide (a = g) && decide (b = x.1.toNat)) = false := by simpa using fun h => (fun h' => h2 ⟨h, h'⟩)
      have e2 : (kb && decide (a = x.1.toNat) && decide (b = g)) = false := by
        cases kb
        · rfl
        · simpa using fun h => (fun h' => h1 ⟨h, h'⟩)
      rw [e1, e2]; simp

/-- A channel leads from a to b. -/
def leadC (c : Ch) (a b : Nat) : Bool := c.to.any fun x => (decide (a = c.guest.toNat) && decide (b = x.1.toNat)) || ((c.kind == 1) && decide (a = x.1.toNat) && decide (b = c.guest.toNat))
def lead (l : List Ch) (a b : Nat) : Bool := l.any fun c => leadC c a b

theorem fold_mstep (kb : Bool) (g : Nat) (hg : g < 16) : ∀ (E : List (Int × Int)) (m : List Bool), m.length = 256 → (∀ x ∈ E, x.1.toNat < 16) → ∀ {a b : Nat}, a < 16 → b < 16 →
    (E.foldl (mstep kb g) m).length = 256 ∧ at2 (E.foldl (mstep kb g) m) a b = (at2 m a b || E.any fun x => (decide (a = g) && decide (b = x.1.toNat)) || (kb && decide (a = x.1.toNat) && decide (b = g)))
  | [], m, hm, _, a, b, _, _ => by simpa using hm
  | x :: E, m, hm, hx, a, b, ha, hb => by
    obtain ⟨h1, h2⟩ := fold_mstep kb g hg E (mstep kb g m x) (by rw [mstep_len]; exact hm) (fun y hy => hx y (by simp [hy])) ha hb
    refine ⟨h1, ?_⟩
    rw [List.foldl_cons, h2, mstep_at hm hg (hx x (by simp)) ha hb, List.any_cons]
    simp only [Bool.or_assoc]
theorem fold_mch : ∀ (l : List Ch) (m : List Bool), m.length = 256 → (∀ c ∈ l, c.guest.toNat < 16 ∧ ∀ x ∈ c.to, x.1.toNat < 16) → ∀ {a b : Nat}, a < 16 → b < 16 →
    (l.foldl mch m).length = 256 ∧ at2 (l.foldl mch m) a b = (at2 m a b || lead l a b)
  | [], m, hm, _, a, b, _, _ => by simpa [lead] using hm
  | c :: l, m, hm, hc, a, b, ha, hb => by
    obtain ⟨k1, k2⟩ := fold_mstep (c.kind == 1) c.guest.toNat (hc c (by simp)).1 c.to m hm (hc c (by simp)).2 ha hb
    obtain ⟨h1, h2⟩ := fold_mch l (mch m c) k1 (fun y hy => hc y (by simp [hy])) ha hb
    refine ⟨h1, ?_⟩
    rw [List.foldl_cons, h2]
    unfold mch
    rw [k2]
    unfold lead
    rw [List.any_cons, Bool.or_assoc]
    rfl
end Go.Proofs.Ytdfjjhpnhaggjaa
