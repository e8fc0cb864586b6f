/- The plain law of reaching: close is the reflexive closure of ways of any length. -/
import Derived.Test.YtdfjjhpnhaggjaaK21
namespace Go.Proofs.Ytdfjjhpnhaggjaa
open Go.RowKit Go.Mem

/-- The edges of a matrix among the guests below n. -/
def Ed (n : Nat) (m : List Bool) (a b : Nat) : Prop := a < n ∧ b < n ∧ at2 m a b = true
inductive Star (E : Nat → Nat → Prop) : Nat → Nat → Prop
  | refl {a : Nat} : Star E a a
  | step {a b c : Nat} : E a b → Star E b c → Star E a c
theorem Star.trans {E : Nat → Nat → Prop} {a b c : Nat} (h : Star E a b) (k : Star E b c) : Star E a c := by
  induction h with
  | refl => exact k
  | step e _ ih => exact .step e (ih k)

theorem clo_upto_len (n : Nat) (m : List Bool) (k : Nat) (hm : m.length = 256) : ((List.range k).foldl (clo3 n) m).length = 256 := by rw [fold_len (clo3_len n)]; exact hm
theorem Pk.lt {n : Nat} {m : List Bool} {k a b : Nat} (h : Pk (Ed n m) k a b) : a < n ∧ b < n := by
  induction h with
  | edge h => exact ⟨h.1, h.2.1⟩
  | mid c _ _ _ i1 i2 => exact ⟨i1.1, i2.2⟩
theorem clo_upto {n : Nat} (hn : n ≤ 16) {m : List Bool} (hm : m.length = 256) : ∀ k, k ≤ n → ∀ {a b : Nat}, Pk (Ed n m) k a b → at2 ((List.range k).foldl (clo3 n) m) a b = true
  | 0, _, a, b, h => by
    cases h with
    | edge h => exact h.2.2
    | mid c hc _ _ => omega
  | k + 1, hk, a, b, h => by
    have hl := clo_upto_len n m k hm
    obtain ⟨ha, hb⟩ := h.lt
    rw [fold_next]
    rcases h.split with h1 | ⟨h1, h2⟩
    · exact clo3_mono hn (by omega) hl (by omega) (by omega) (clo_upto hn hm k (by omega) h1)
    · exact clo3_step hn (by omega) hl ha hb (clo_upto hn hm k (by omega) h1) (clo_upto hn hm k (by omega) h2)
theorem self_upto {n : Nat} (hn : n ≤ 16) {m : List Bool} (hm : m.length = 256) : ∀ k, k ≤ n → ∀ {a : Nat}, a < k → at2 ((List.range k).foldl (clo3 n) m) a a = true
  | 0, _, a, h => by omega
  | k + 1, hk, a, h => by
    have hl := clo_upto_len n m k hm
    rw [fold_next]
    by_cases e : a = k
    · subst e; exact clo3_self hn (by omega) hl
    · exact clo3_mono hn (by omega) hl (by omega) (by omega) (self_upto hn hm k (by omega) (by omega))
theorem star_pk {n : Nat} {m : List Bool} {a b : Nat} (h : Star (Ed n m) a b) : a = b ∨ Pk (Ed n m) n a b := by
  induction h with
  | refl => exact .inl rfl
  | step e _ ih =>
    right
    rcases ih with rfl | ih
    · exact .edge e
    · exact .mid _ e.2.1 (.edge e) ih
theorem clo_full {n : Nat} (hn : n ≤ 16) {m : List Bool} (hm : m.length = 256) {a b : Nat} (ha : a < n) (h : Star (Ed n m) a b) : at2 (clo n m) a b = true := by
  unfold clo
  rcases star_pk h with rfl | h
  · exact self_upto hn hm n (Nat.le_refl _) ha
  · exact clo_upto hn hm n (Nat.le_refl _) h

/-- Every entry among the guests is a way of the first matrix. -/
def Snd (n : Nat) (m0 m : List Bool) : Prop := ∀ a b, a < n → b < n → at2 m a b = true → Star (Ed n m0) a b
theorem clo1_snd {n : Nat} (hn : n ≤ 16) {m0 m : List Bool} (hm : m.length = 256) {k i j : Nat} (hk : k < n) (hi : i < n) (hj : j < n) (h : Snd n m0 m) : Snd n m0 (clo1 k i m j) := by
  intro a b ha hb hab
  rw [clo1_at hm (by omega) (by omega) (by omega) (by omega)] at hab
  split at hab
  · rename_i e
    obtain ⟨rfl, rfl⟩ := e
    simp only [Bool.or_eq_true, Bool.and_eq_true] at hab
    rcases hab with h1 | ⟨h1, h2⟩
    · exact h a b ha hb h1
    · exact (h a k ha hk h1).trans (h k b hk hb h2)
  · exact h a b ha hb hab
theorem clo2_snd {n : Nat} (hn : n ≤ 16) {m0 : List Bool} {k i : Nat} (hk : k < n) (hi : i < n) : ∀ (l : List Nat) (m : List Bool), m.length = 256 → (∀ j ∈ l, j < n) → Snd n m0 m → Snd n m0 (l.foldl (clo1 k i) m)
  | [], _, _, _, h => h
  | j :: l, m, hm, hl, h => clo2_snd hn hk hi l _ (by rw [clo1_len]; exact hm) (fun x hx => hl x (by simp [hx])) (clo1_snd hn hm hk hi (hl j (by simp)) h)
theorem rows_snd {n : Nat} (hn : n ≤ 16) {m0 : List Bool} {k : Nat} (hk : k < n) : ∀ (l : List Nat) (m : List Bool), m.length = 256 → (∀ j ∈ l, j < n) → Snd n m0 m → Snd n m0 (l.foldl (clo2 n k) m)
  | [], _, _, _, h => h
  | i :: l, m, hm, hl, h => rows_snd hn hk l _ (by rw [clo2_len]; exact hm) (fun x hx => hl x (by simp [hx])) (clo2_snd hn hk (hl i (by simp)) _ _ hm (by simp) h)
theorem clo3_snd {n : Nat} (hn : n ≤ 16) {m0 m : List Bool} (hm : m.length = 256) {k : Nat} (hk : k < n) (h : Snd n m0 m) : Snd n m0 (clo3 n m k) := by
  unfold clo3
  refine rows_snd hn hk _ _ (by simpa using hm) (by simp) ?_
  intro a b ha hb hab
  rw [at2_set hm (by omega) (by omega) (by omega) (by omega)] at hab
  split at hab
  · rename_i e; obtain ⟨rfl, rfl⟩ := e; exact .refl
  · exact h a b ha hb hab
theorem clo_snd {n : Nat} (hn : n ≤ 16) {m0 : List Bool} : ∀ (l : List Nat) (m : List Bool), m.length = 256 → (∀ j ∈ l, j < n) → Snd n m0 m → Snd n m0 (l.foldl (clo3 n) m)
  | [], _, _, _, h => h
  | k :: l, m, hm, hl, h => clo_snd hn l _ (by rw [clo3_len]; exact hm) (fun x hx => hl x (by simp [hx])) (clo3_snd hn hm (hl k (by simp)) h)
/-- CLOSE: an entry stands where one gets to in any number of steps. -/
theorem clo_iff {n : Nat} (hn : n ≤ 16) {m : List Bool} (hm : m.length = 256) {a b : Nat} (ha : a < n) (hb : b < n) : at2 (clo n m) a b = true ↔ Star (Ed n m) a b :=
  ⟨fun h => clo_snd hn _ m hm (by simp) (fun a b ha hb h => .step ⟨ha, hb, h⟩ .refl) a b ha hb h, clo_full hn hm ha⟩
end Go.Proofs.Ytdfjjhpnhaggjaa
