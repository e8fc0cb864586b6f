/- The law's own walks: few. -/
import Derived.Test.YtdfjjhpnhaggjaaL3
namespace Go.Proofs.Ytdfjjhpnhaggjaa
open Go.RowKit Go.Mem

structure Act18 where
  wh : Int
  t : Int
  s : ByteArray
  en : Int
structure Act18.Ok (x : Act18) : Prop where
  h0 : 0 ≤ x.wh
  h1 : x.wh ≤ 255
  t0 : 0 ≤ x.t
  t1 : x.t < 18446744073709551616

def ActsAt (w : World) (b off : Nat) (A : List Act18) : Prop := ∀ i x, A[i]? = some x → w.cell? ⟨b, off + i * 4, none⟩ = some (.int .u8 x.wh) ∧ w.cell? ⟨b, off + i * 4 + 1, none⟩ = some (.int .u64 x.t) ∧
  w.cell? ⟨b, off + i * 4 + 2, none⟩ = some (.string x.s) ∧ w.cell? ⟨b, off + i * 4 + 3, none⟩ = some (.int .i64 x.en)
def IsActs (w : World) (v : Value) (A : List Act18) : Prop :=
  ∃ a cap, v = .slice a A.length cap ∧ (A ≠ [] → ∃ b off, a = some ⟨b, off, none⟩ ∧ ActsAt w b off A ∧ b < w.heap.size)

theorem ActsAt.upd {w w' : World} {b off : Nat} {A : List Act18} {S : List Nat} (h : ActsAt w b off A) (hu : Upd S w w') (hb : b ∉ S) (h3 : b < w.heap.size) : ActsAt w' b off A := fun i x hx => by
  obtain ⟨c0, c1, c2, c3⟩ := h i x hx
  exact ⟨cell_upd hu hb h3 _ c0, cell_upd hu hb h3 _ c1, cell_upd hu hb h3 _ c2, cell_upd hu hb h3 _ c3⟩
theorem IsActs.upd {w w' : World} {v : Value} {A : List Act18} {S : List Nat} (h : IsActs w v A) (hu : Upd S w w') (hS : ∀ k ∈ S, w.heap.size ≤ k) : IsActs w' v A := by
  obtain ⟨a, cap, rfl, h⟩ := h
  refine ⟨a, cap, rfl, fun hne => ?_⟩
  obtain ⟨b, off, rfl, h2, h3⟩ := h hne
  have hb : b ∉ S := fun hm => by have := hS b hm; omega
  exact ⟨b, off, rfl, h2.upd hu hb h3, by have := hu.size; omega⟩

def fewB (A : List Act18) : Bool := (A.take 60).all (fun x => decide (x.s.size ≤ 100)) && decide (A.length ≤ 50)

set_option maxHeartbeats 1000000 in
theorem few_calls (v : Value) (A : List Act18) (w : World) (h : IsActs w v A) (hl : A.length ≤ maxLen) :
    Calls Try.prog 9 #[v] w fun y w' => y = .returned (.bool (fewB A)) ∧ w = w' := by
  unfold maxLen at hl
  obtain ⟨a, cap, rfl, h⟩ := h
  by_cases hne : A = []
  · subst hne
    clear h
    have hz : (([] : List Act18).length : Int) = 0 := rfl
    go_enter Try.func9, Try.ntmps9
    go_wp2
    go_rounds 1
    go_ret
    exact ⟨rfl, rfl⟩
  · obtain ⟨b, off, rfl, h2, h3⟩ := h hne
    obtain ⟨n, hn⟩ : ∃ n, n = A.length := ⟨_, rfl⟩
    rw [← hn] at hl ⊢
    have HN := Lib.hid hn
    have HA := Lib.hid h2
    clear hn h2 hne h
    go_enter Try.func9, Try.ntmps9
    go_wp2
    go_loop [3] (fun i => ∃ k : Nat, k ≤ n ∧ k ≤ 60 ∧ i = .int .i64 k ∧ (A.take k).all (fun x => decide (x.s.size ≤ 100)) = true) (fun i => 60 - (intOf i).toNat)
    case atStart => exact ⟨0, by omega, by omega, rfl, by simp⟩
    case round =>
      obtain ⟨k, hk, hk6, rfl, hall⟩ := hrel
      have HH := Lib.hid hall
      clear hall
      by_cases hlt : k < n
      · by_cases h6 : k < 60
        · obtain ⟨x, hx⟩ : ∃ x, A[k]? = some x := ⟨_, List.getElem?_eq_getElem (by have := HN.out; omega)⟩
          have c2 := (HA.out k x hx).2.2.1
          obtain ⟨s, hs⟩ : ∃ s, s = x.s := ⟨_, rfl⟩
          rw [← hs] at c2
          have HX := Lib.hid hx
          have HS := Lib.hid hs
          clear hx hs
          by_cases hb : s.size ≤ 100
          · go_wp2
            go_round
            case rel => exact ⟨k + 1, by omega, by omega, by go_num, by
              rw [List.take_add_one, HX.out, List.all_append, HH.out]
              simp [← HS.out, hb]⟩
            case measure => simp [intOf]; omega
          · have HF : Hid (fewB A = false) := by
              unfold Hid fewB
              rw [Bool.and_eq_false_iff]; left
              rw [List.all_eq_false]
              refine ⟨x, ?_, by simp [← HS.out]; omega⟩
              exact List.mem_of_getElem? (i := k) (by rw [List.getElem?_take_of_lt h6]; exact HX.out)
            go_wp2
            go_ret
            exact ⟨ret_bool HF.out.symm, rfl⟩
        · have HF : Hid (fewB A = decide (n ≤ 50)) := by
            unfold Hid fewB
            rw [HN.out, show (60 : Nat) = k by omega, HH.out, Bool.true_and]
          go_wp2
          go_ret
          exact ⟨ret_bool (by rw [HF.out, decide_eq_decide]; omega), rfl⟩
      · have HF : Hid (fewB A = decide (n ≤ 50)) := by
          unfold Hid fewB
          have : A.take 60 = A.take k := by rw [List.take_of_length_le (by have := HN.out; omega), List.take_of_length_le (by have := HN.out; omega)]
          rw [HN.out, this, HH.out, Bool.true_and]
        go_wp2
        go_ret
        exact ⟨ret_bool (by rw [HF.out, decide_eq_decide]; omega), rfl⟩
end Go.Proofs.Ytdfjjhpnhaggjaa
