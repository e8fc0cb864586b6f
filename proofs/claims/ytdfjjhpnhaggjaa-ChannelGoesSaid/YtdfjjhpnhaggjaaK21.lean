/- The plain law of reaching: what close makes of a matrix is where one gets to in any number of steps. -/
import Derived.Test.YtdfjjhpnhaggjaaK20
namespace Go.Proofs.Ytdfjjhpnhaggjaa
open Go.RowKit Go.Mem

/-- A way of one step or more, between whose steps lie nodes below k. -/
inductive Pk (E : Nat → Nat → Prop) (k : Nat) : Nat → Nat → Prop
  | edge {a b : Nat} : E a b → Pk E k a b
  | mid {a b : Nat} (c : Nat) : c < k → Pk E k a c → Pk E k c b → Pk E k a b
theorem Pk.split {E : Nat → Nat → Prop} {k a b : Nat} (h : Pk E (k + 1) a b) : Pk E k a b ∨ (Pk E k a k ∧ Pk E k k b) := by
  induction h with
  | edge h => exact .inl (.edge h)
  | mid c hc h1 h2 i1 i2 =>
    by_cases hk : c = k
    · subst hk
      right
      refine ⟨?_, ?_⟩
      · rcases i1 with h | h
        · exact h
        · exact h.1
      · rcases i2 with h | h
        · exact h
        · exact h.2
    · have hck : c < k := by omega
      rcases i1 with x1 | ⟨x1, x2⟩ <;> rcases i2 with y1 | ⟨y1, y2⟩
      · exact .inl (.mid c hck x1 y1)
      · exact .inr ⟨.mid c hck x1 y1, y2⟩
      · exact .inr ⟨x1, .mid c hck x2 y1⟩
      · exact .inr ⟨x1, y2⟩

theorem clo1_at {m : List Bool} (hm : m.length = 256) {k i j a b : Nat} (hi : i < 16) (hj : j < 16) (ha : a < 16) (hb : b < 16) :
    at2 (clo1 k i m j) a b = if a = i ∧ b = j then (at2 m i j || at2 m i k && at2 m k j) else at2 m a b := at2_set hm hi hj ha hb _
/-- Nothing is lost. -/
theorem clo1_mono {m : List Bool} (hm : m.length = 256) {k i j a b : Nat} (hi : i < 16) (hj : j < 16) (ha : a < 16) (hb : b < 16) (h : at2 m a b = true) : at2 (clo1 k i m j) a b = true := by
  rw [clo1_at hm hi hj ha hb]
  split
  · rename_i e; obtain ⟨rfl, rfl⟩ := e; simp [h]
  · exact h
theorem clo2_mono {n k i : Nat} (hn : n ≤ 16) (hi : i < 16) {a b : Nat} (ha : a < 16) (hb : b < 16) : ∀ (l : List Nat) (m : List Bool), m.length = 256 → (∀ j ∈ l, j < n) → at2 m a b = true → at2 (l.foldl (clo1 k i) m) a b = true
  | [], _, _, _, h => h
  | j :: l, m, hm, hl, h => clo2_mono hn hi ha hb l _ (by rw [clo1_len]; exact hm) (fun x hx => hl x (by simp [hx])) (clo1_mono hm hi (by have := hl j (by simp); omega) ha hb h)

/-- One row: what goes by way of k is there. -/
theorem clo2_step {n k i : Nat} (hn : n ≤ 16) (hi : i < 16) (hk : k < 16) {b : Nat} : ∀ (l : List Nat) (m : List Bool), m.length = 256 → (∀ j ∈ l, j < n) → b ∈ l → at2 m i k = true → at2 m k b = true → at2 (l.foldl (clo1 k i) m) i b = true
  | [], _, _, _, h, _, _ => by cases h
  | j :: l, m, hm, hl, hb, h1, h2 => by
    have hj : j < 16 := by have := hl j (by simp); omega
    by_cases e : b = j
    · subst e
      refine clo2_mono hn hi hi hj l _ (by rw [clo1_len]; exact hm) (fun x hx => hl x (by simp [hx])) ?_
      rw [clo1_at hm hi hj hi hj, if_pos ⟨rfl, rfl⟩, h1, h2]; simp
    · have hbl : b ∈ l := by
        rcases List.mem_cons.1 hb with h | h
        · exact absurd h e
        · exact h
      have hb16 : b < 16 := by have := hl b (by simp [hbl]); omega
      exact clo2_step hn hi hk l _ (by rw [clo1_len]; exact hm) (fun x hx => hl x (by simp [hx])) hbl (clo1_mono hm hi hj hi hk h1) (clo1_mono hm hi hj hk hb16 h2)
theorem rows_mono {n k : Nat} (hn : n ≤ 16) {a b : Nat} (ha : a < 16) (hb : b < 16) : ∀ (l : List Nat) (m : List Bool), m.length = 256 → (∀ j ∈ l, j < n) → at2 m a b = true → at2 (l.foldl (clo2 n k) m) a b = true
  | [], _, _, _, h => h
  | i :: l, m, hm, hl, h => rows_mono hn ha hb l _ (by rw [clo2_len]; exact hm) (fun x hx => hl x (by simp [hx])) (clo2_mono hn (by have := hl i (by simp); omega) ha hb _ _ hm (by simp) h)
theorem rows_step {n k : Nat} (hn : n ≤ 16) (hk : k < 16) {a b : Nat} (hbn : b < n) : ∀ (l : List Nat) (m : List Bool), m.length = 256 → (∀ j ∈ l, j < n) → a ∈ l → at2 m a k = true → at2 m k b = true → at2 (l.foldl (clo2 n k) m) a b = true
  | [], _, _, _, h, _, _ => by cases h
  | i :: l, m, hm, hl, ha, h1, h2 => by
    have hi : i < 16 := by have := hl i (by simp); omega
    have hb16 : b < 16 := by omega
    by_cases e : a = i
    · subst e
      exact rows_mono hn hi hb16 l _ (by rw [clo2_len]; exact hm) (fun x hx => hl x (by simp [hx])) (clo2_step hn hi hk _ _ hm (by simp) (by simpa using hbn) h1 h2)
    · have hal : a ∈ l := by
        rcases List.mem_cons.1 ha with h | h
        · exact absurd h e
        · exact h
      have ha16 : a < 16 := by have := hl a (by simp [hal]); omega
      exact rows_step hn hk hbn l _ (by rw [clo2_len]; exact hm) (fun x hx => hl x (by simp [hx])) hal (clo2_mono hn hi ha16 hk _ _ hm (by simp) h1) (clo2_mono hn hi hk hb16 _ _ hm (by simp) h2)
theorem clo3_mono {n k : Nat} (hn : n ≤ 16) (hk : k < n) {m : List Bool} (hm : m.length = 256) {a b : Nat} (ha : a < 16) (hb : b < 16) (h : at2 m a b = true) : at2 (clo3 n m k) a b = true := by
  unfold clo3
  refine rows_mono hn ha hb _ _ (by simpa using hm) (by simp) ?_
  rw [at2_set hm (by omega) (by omega) ha hb]
  split
  · rfl
  · exact h
theorem clo3_self {n k : Nat} (hn : n ≤ 16) (hk : k < n) {m : List Bool} (hm : m.length = 256) : at2 (clo3 n m k) k k = true := by
  unfold clo3
  refine rows_mono hn (by omega) (by omega) _ _ (by simpa using hm) (by simp) ?_
  rw [at2_set hm (by omega) (by omega) (by omega) (by omega), if_pos ⟨rfl, rfl⟩]
theorem clo3_step {n k : Nat} (hn : n ≤ 16) (hk : k < n) {m : List Bool} (hm : m.length = 256) {a b : Nat} (ha : a < n) (hb : b < n) (h1 : at2 m a k = true) (h2 : at2 m k b = true) : at2 (clo3 n m k) a b = true := by
  unfold clo3
  refine rows_step hn (by omega) hb _ _ (by simpa using hm) (by simp) (by simpa using ha) ?_ ?_
  · rw [at2_set hm (by omega) (by omega) (by omega) (by omega)]; split
    · rfl
    · exact h1
  · rw [at2_set hm (by omega) (by omega) (by omega) (by omega)]; split
    · rfl
    · exact h2
end Go.Proofs.Ytdfjjhpnhaggjaa
