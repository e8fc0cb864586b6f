/- few: may channels and acts be gone through? -/
import Derived.Test.YtdfjjhpnhaggjaaK14
namespace Go.Proofs.Ytdfjjhpnhaggjaa
open Go.RowKit Go.Mem

/-- A slice whose elements are rows of cells. -/
def RowsAt {α : Type} (w : World) (b off sz : Nat) (f : α → List Value) (A : List α) : Prop := ∀ (i : Nat) x, A[i]? = some x → ∀ (j : Nat) v, (f x)[j]? = some v → w.cell? ⟨b, off + i * sz + j, none⟩ = some v
def IsRows {α : Type} (w : World) (v : Value) (sz : Nat) (f : α → List Value) (A : List α) : Prop :=
  ∃ a cap, v = .slice a A.length cap ∧ (A ≠ [] → ∃ b off, a = some ⟨b, off, none⟩ ∧ RowsAt w b off sz f A ∧ b < w.heap.size)
theorem IsRows.upd {α : Type} {w w' : World} {v : Value} {sz : Nat} {f : α → List Value} {A : List α} {S : List Nat} (h : IsRows w v sz f A) (hu : Upd S w w') (hS : ∀ k ∈ S, w.heap.size ≤ k) : IsRows w' v sz f A := by
  obtain ⟨a, cap, rfl, h⟩ := h
  refine ⟨a, cap, rfl, fun hne => ?_⟩
  obtain ⟨b, off, rfl, h2, h3⟩ := h hne
  have hb : b ∉ S := fun hm => by have := hS b hm; omega
  exact ⟨b, off, rfl, fun i x hx j v hv => cell_upd hu hb h3 _ (h2 i x hx j v hv), by have := hu.size; omega⟩

/-- An act of the law's. -/
structure Act where
  what : Int
  guest : Int
  port : Int
  s : ByteArray
  step : Int
  by' : Bool
def Act.cells (a : Act) : List Value := [.int .u8 a.what, .int .u8 a.guest, .int .u8 a.port, .string a.s, .int .u64 a.step, .bool a.by']
structure Act.Ok (a : Act) : Prop where
  w0 : 0 ≤ a.what
  w1 : a.what ≤ 255
  g0 : 0 ≤ a.guest
  g1 : a.guest ≤ 255
  p0 : 0 ≤ a.port
  p1 : a.port ≤ 255
  t0 : 0 ≤ a.step
  t1 : a.step < 18446744073709551616
def IsAs (w : World) (v : Value) (A : List Act) : Prop := IsRows w v 6 Act.cells A

def fewB (l : List Ch) (A : List Act) : Bool := (l.take 30).all (fun c => decide (c.to.length ≤ 10)) && (A.take 90).all (fun a => decide (a.s.size ≤ 100)) && decide (l.length ≤ 20) && decide (A.length ≤ 80)

theorem take_ext {α : Type} {P : α → Prop} {l : List α} {k : Nat} (h : ∀ c ∈ l.take k, P c) {c : α} (hc : l[k]? = some c) (hP : P c) : ∀ c ∈ l.take (k + 1), P c := by
  intro d hd
  rw [List.take_add_one, hc, Option.toList_some] at hd
  rcases List.mem_append.1 hd with hd | hd
  · exact h d hd
  · simp at hd; subst hd; exact hP
theorem take_le_mem {α : Type} {P : α → Prop} {l : List α} {k m : Nat} (h : ∀ c ∈ l.take k, P c) (hk : l.length ≤ k ∨ m ≤ k) : ∀ c ∈ l.take m, P c := by
  intro d hd
  refine h d ?_
  rcases hk with hk | hk
  · rw [List.take_of_length_le hk]; exact List.mem_of_mem_take hd
  · have : l.take m = (l.take k).take m := by rw [List.take_take, Nat.min_eq_left hk]
    rw [this] at hd
    exact List.mem_of_mem_take hd

/-- The cell that tells a channel's destinations. -/
theorem chan_to {w : World} {a : Option Addr} {n cap : Nat} {l : List Ch} (h : IsChans w (.slice a n cap) l) : n = l.length ∧ ∀ (k : Nat) c, l[k]? = some c → ∃ b off ta tcap, a = some ⟨b, off, none⟩ ∧ w.cell? ⟨b, off + k * 7 + 3, none⟩ = some (.slice ta c.to.length tcap) := by
  obtain ⟨⟨a', cap', hv, h⟩, he⟩ := h
  simp only [Value.slice.injEq] at hv
  obtain ⟨rfl, rfl, rfl⟩ := hv
  refine ⟨rfl, fun k c hc => ?_⟩
  obtain ⟨b, off, rfl, h2, h3⟩ := h (by intro e; subst e; simp at hc)
  obtain ⟨ta, tcap, htv, -⟩ := he c (List.mem_of_getElem? hc)
  obtain ⟨c0, c1, c2, c3, -⟩ := h2 k c hc
  rw [htv] at c3
  exact ⟨b, off, ta, tcap, rfl, c3⟩

set_option maxHeartbeats 1000000 in
theorem few_bad (v u : Value) (l : List Ch) (w : World) (h : IsChans w v l) (hl : l.length ≤ maxLen) (hb : ¬ ∀ c ∈ l.take 30, c.to.length ≤ 10) :
    Calls Try.prog 16 #[v, u] w fun e w' => e = .returned (.bool false) ∧ w = w' := by
  unfold maxLen at hl
  have h' := h
  obtain ⟨⟨a, cap, rfl, -⟩, -⟩ := h'
  obtain ⟨-, hto⟩ := chan_to h
  obtain ⟨n, hn⟩ : ∃ n, n = l.length := ⟨_, rfl⟩
  rw [← hn] at hl
  rw [← hn]
  have HN := Lib.hid hn
  have HTO := Lib.hid hto
  have HB := Lib.hid hb
  clear h hto hn hb
  go_enter Try.func16, Try.ntmps16
  go_wp2
  go_loop [5] (fun i => ∃ k : Nat, k ≤ n ∧ i = .int .i64 k ∧ ∀ c ∈ l.take k, c.to.length ≤ 10) (fun i => n - (intOf i).toNat)
  case atStart => exact ⟨0, by omega, rfl, by simp⟩
  case round =>
    obtain ⟨k, hk, rfl, hall⟩ := hrel
    have hlt : k < n ∧ k < 30 := by
      have := HN.out
      refine ⟨Nat.lt_of_not_le fun hh => HB.out (take_le_mem hall (.inl (by omega))), Nat.lt_of_not_le fun hh => HB.out (take_le_mem hall (.inr hh))⟩
    obtain ⟨hlt, hlt2⟩ := hlt
    obtain ⟨c, hc⟩ : ∃ c, l[k]? = some c := ⟨_, List.getElem?_eq_getElem (by rw [← HN.out]; omega)⟩
    obtain ⟨b, off, ta, tcap, rfl, hcell⟩ := HTO.out k c hc
    have HC := Lib.hid hc
    have HALL := Lib.hid hall
    obtain ⟨tn, htn⟩ : ∃ tn, tn = c.to.length := ⟨_, rfl⟩
    rw [← htn] at hcell
    have HT := Lib.hid htn
    clear hc hall htn
    have z1 : decide ((k : Int) < 30) = true := by simp; omega
    by_cases hbad : 10 < tn
    · go_wp2
      go_ret
      exact ⟨rfl, rfl⟩
    · go_wp2
      go_round
      case rel => exact ⟨k + 1, by omega, by go_num, take_ext HALL.out HC.out (by rw [← HT.out]; omega)⟩
      case measure => simp [intOf]; omega

set_option maxHeartbeats 2000000 in
theorem few_ok (v u : Value) (l : List Ch) (A : List Act) (w : World) (h : IsChans w v l) (hA : IsAs w u A) (hl : l.length ≤ maxLen) (hAl : A.length ≤ maxLen) (hb : ∀ c ∈ l.take 30, c.to.length ≤ 10) :
    Calls Try.prog 16 #[v, u] w fun e w' => e = .returned (.bool (fewB l A)) ∧ w = w' := by
  unfold maxLen at hl hAl
  have h' := h
  obtain ⟨⟨a, cap, rfl, -⟩, -⟩ := h'
  obtain ⟨-, hto⟩ := chan_to h
  obtain ⟨n, hn⟩ : ∃ n, n = l.length := ⟨_, rfl⟩
  obtain ⟨a2, cap2, rfl, hA⟩ := hA
  obtain ⟨n2, hn2⟩ : ∃ n2, n2 = A.length := ⟨_, rfl⟩
  rw [← hn] at hl
  rw [← hn]
  rw [← hn2] at hAl
  rw [← hn2]
  have HN := Lib.hid hn
  have HN2 := Lib.hid hn2
  have HTO := Lib.hid hto
  have HB := Lib.hid hb
  have HA := Lib.hid hA
  have hfew : fewB l A = ((A.take 90).all (fun a => decide (a.s.size ≤ 100)) && decide (n ≤ 20) && decide (n2 ≤ 80)) := by
    unfold fewB
    rw [← hn, ← hn2]
    have : (l.take 30).all (fun c => decide (c.to.length ≤ 10)) = true := by simpa using hb
    rw [this, Bool.true_and]
  obtain ⟨q, hq⟩ : ∃ q, q = fewB l A := ⟨_, rfl⟩
  rw [← hq] at hfew
  rw [← hq]
  have HF := Lib.hid hfew
  clear h hto hn hb hn2 hA hfew hq
  go_enter Try.func16, Try.ntmps16
  go_wp2
  go_loop [5] (fun i => ∃ k : Nat, k ≤ n ∧ i = .int .i64 k) (fun i => n - (intOf i).toNat)
  case atStart => exact ⟨0, by omega, rfl⟩
  case round =>
    obtain ⟨k, hk, rfl⟩ := hrel
    by_cases hlt : k < n ∧ k < 30
    · obtain ⟨hlt, hlt2⟩ := hlt
      obtain ⟨c, hc⟩ : ∃ c, l[k]? = some c := ⟨_, List.getElem?_eq_getElem (by rw [← HN.out]; omega)⟩
      obtain ⟨b, off, ta, tcap, rfl, hcell⟩ := HTO.out k c hc
      have hle := HB.out c (List.mem_of_getElem? (i := k) (by rw [List.getElem?_take_of_lt hlt2]; exact hc))
      obtain ⟨tn, htn⟩ : ∃ tn, tn = c.to.length := ⟨_, rfl⟩
      rw [← htn] at hcell hle
      clear hc htn
      have z1 : decide ((k : Int) < 30) = true := by simp; omega
      go_wp2
      go_round
      case rel => exact ⟨k + 1, by omega, by go_num⟩
      case measure => simp [intOf]; omega
    · have hway : n ≤ k ∨ k < n ∧ 30 ≤ k := by omega
      clear hlt
      rcases hway with hlt | ⟨hlt, hlt2⟩
      all_goals
        go_wp2
        go_loop [6] (fun i => ∃ j : Nat, j ≤ n2 ∧ i = .int .i64 j ∧ ∀ a ∈ A.take j, a.s.size ≤ 100) (fun i => n2 - (intOf i).toNat)
        case atStart => exact ⟨0, by omega, rfl, by simp⟩
        case round =>
          obtain ⟨j, hj, rfl, hall⟩ := hrel
          by_cases hjl : j < n2 ∧ j < 90
          · obtain ⟨hjl, hjl2⟩ := hjl
            obtain ⟨x, hx⟩ : ∃ x, A[j]? = some x := ⟨_, List.getElem?_eq_getElem (by rw [← HN2.out]; omega)⟩
            obtain ⟨b2, off2, rfl, hrow, -⟩ := HA.out (by intro e; subst e; simp at hx)
            have hcell := hrow j x hx 3 _ rfl
            have HX := Lib.hid hx
            have HALL := Lib.hid hall
            clear hx hall hrow
            have z2 : decide ((j : Int) < 90) = true := by simp; omega
            by_cases hbad : 100 < x.s.size
            · have hfin : q = false := by
                rw [HF.out]
                have : (A.take 90).all (fun a => decide (a.s.size ≤ 100)) = false := by
                  rw [List.all_eq_false]
                  exact ⟨x, List.mem_of_getElem? (i := j) (by rw [List.getElem?_take_of_lt hjl2]; exact HX.out), by simpa using hbad⟩
                rw [this]; rfl
              have HFI := Lib.hid hfin
              clear hfin
              go_wp2
              go_ret
              exact ⟨ret_bool HFI.out.symm, rfl⟩
            · go_wp2
              go_round
              case rel => exact ⟨j + 1, by omega, by go_num, take_ext HALL.out HX.out (by omega)⟩
              case measure => simp [intOf]; omega
          · have hway : n2 ≤ j ∨ j < n2 ∧ 90 ≤ j := by omega
            have hfin : q = (decide (n ≤ 20) && decide (n2 ≤ 80)) := by
              rw [HF.out]
              have : (A.take 90).all (fun a => decide (a.s.size ≤ 100)) = true := by
                rw [List.all_eq_true]
                intro y hy
                have := take_le_mem (m := 90) hall (by have := HN2.out; omega) y hy
                simpa using this
              rw [this, Bool.true_and]
            have HFI := Lib.hid hfin
            clear hfin hjl hall
            rcases hway with hjl | ⟨hjl, hjl2⟩
            all_goals
              by_cases z3 : n ≤ 20
              all_goals by_cases z4 : n2 ≤ 80
              all_goals go_wp2
              all_goals go_ret
              all_goals exact ⟨ret_bool (by rw [HFI.out, Bool.eq_iff_iff]; simp; omega), rfl⟩
theorem few_calls (v u : Value) (l : List Ch) (A : List Act) (w : World) (h : IsChans w v l) (hA : IsAs w u A) (hl : l.length ≤ maxLen) (hAl : A.length ≤ maxLen) :
    Calls Try.prog 16 #[v, u] w fun e w' => e = .returned (.bool (fewB l A)) ∧ w = w' := by
  by_cases hb : ∀ c ∈ l.take 30, c.to.length ≤ 10
  · exact few_ok v u l A w h hA hl hAl hb
  · have : fewB l A = false := by
      unfold fewB
      have : (l.take 30).all (fun c => decide (c.to.length ≤ 10)) = false := by
        cases hx : (l.take 30).all (fun c => decide (c.to.length ≤ 10))
        · rfl
        · exact absurd (by simpa using hx) hb
      rw [this]; rfl
    rw [this]
    exact few_bad v u l w h hl hb
end Go.Proofs.Ytdfjjhpnhaggjaa
