/- The walks of the reference's texts: digits, Hex, in. -/
import Derived.Test.YtdfjjhpnhaggjaaRows
import Derived.Test.YtdfjjhpnhaggjaaMem
namespace Go.Proofs.Ytdfjjhpnhaggjaa
open Go.RowKit Go.Mem

theorem conv_one (w : World) (x : Int) : (convert 108 9 (.slice (some ⟨w.heap.size, 0, none⟩) 1 1)).run Try.prog (w.alloc (.cells #[.int .u8 x] 5)) = .ok (.string (strOfNums [x])) (w.alloc (.cells #[.int .u8 x] 5)) :=
  run_convert_bytes_arg _ 108 5 Try.underlying108 Try.underlying5 w.heap.size 0 1 1 [x] rfl (fun i hi => by
    obtain rfl : i = 0 := by omega
    exact (Blk.new w [.int .u8 x] 5).at 0 rfl) 9 Try.underlying9

theorem elems_of_row {w : World} {g : Nat} {cur : Array Value} {e : TypeId} {l : List Value} {m : Nat} (hg : w.heap[g]? = some (.cells cur e (0, 0))) (h : cur.toList.take m = l) (i : Nat) (v : Value) (hi : l[i]? = some v) :
    w.cell? ⟨g, i, none⟩ = some v := by
  have : (cur.toList.take m)[i]? = some v := by rw [h]; exact hi
  have hm : i < m := by
    rcases Nat.lt_or_ge i m with h' | h'
    · exact h'
    · rw [List.getElem?_eq_none (by simp; omega)] at this; cases this
  rw [List.getElem?_take_of_lt hm] at this
  simpa [World.cell?, hg] using this

def inB (l : List Int) (e : Int) : Bool := l.contains e

set_option maxHeartbeats 400000 in
theorem in_calls (v : Value) (l : List Int) (e : Int) (w : World) (h : w.ownsRow 0 3 1 v l.length (l.map (.int .i64))) (hm : l.length ≤ 1000000) :
    Calls Try.prog 64 #[v, .int .i64 e] w fun r w' => r = .returned (.bool (inB l e)) ∧ w = w' := by
  rcases h.2 with ⟨rfl, hl⟩ | ⟨g, cap, cur, rfl, _, hg, hn, hc, hsz, htk⟩
  · obtain rfl : l = [] := by simpa using hl
    clear h hl
    go_enter Try.func64, Try.ntmps64
    go_wp2
    go_rounds 1
    go_ret
    exact ⟨rfl, rfl⟩
  · have he : ∀ i y, l[i]? = some y → w.cell? ⟨g, i, none⟩ = some (.int .i64 y) := fun i y hy => elems_of_row hg htk i _ (by simp [hy])
    have HE := Lib.hid he
    obtain ⟨n, hnl⟩ : ∃ n, n = l.length := ⟨_, rfl⟩
    rw [← hnl] at hm ⊢
    have HN := Lib.hid hnl
    clear h hg hn hc hsz htk hnl he
    go_enter Try.func64, Try.ntmps64
    go_wp2
    go_loop [5] (fun i => ∃ k : Nat, k ≤ n ∧ i = .int .i64 k ∧ ∀ x ∈ l.take k, x ≠ e) (fun i => n - (intOf i).toNat)
    case atStart => exact ⟨0, by omega, rfl, by simp⟩
    case round =>
      obtain ⟨k, hk, rfl, hall⟩ := hrel
      have HA := Lib.hid hall
      clear hall
      by_cases hlt : k < n
      · have hkl : k < l.length := by rw [← HN.out]; exact hlt
        obtain ⟨y, hy⟩ : ∃ y, l[k]? = some y := ⟨_, List.getElem?_eq_getElem hkl⟩
        have hx := HE.out k y hy
        have HY := Lib.hid hy
        clear hy hkl
        by_cases hq : y = e
        · have hb : (y == e) = true := by simpa using hq
          have hc : inB l e = true := by
            unfold inB
            have := HY.out
            simp only [List.contains_eq_mem, decide_eq_true_eq]
            rw [← hq]; exact List.mem_of_getElem? this
          have HC := Lib.hid hc
          clear hq hc
          go_wp2
          go_ret
          exact ⟨ret_bool HC.out.symm, rfl⟩
        · have hb : (y == e) = false := by simpa using hq
          have HQ := Lib.hid hq
          clear hq
          go_wp2
          go_round
          case rel => exact ⟨k + 1, by omega, by go_num, by
            intro x hx'
            rw [List.take_add_one, HY.out] at hx'
            rcases List.mem_append.1 hx' with h' | h'
            · exact HA.out x h'
            · simp at h'; rw [h']; exact HQ.out⟩
          case measure => simp [intOf]; omega
      · have hc : inB l e = false := by
          unfold inB
          simp only [List.contains_eq_mem, decide_eq_false_iff_not]
          intro hmem
          have := HA.out e (by rw [List.take_of_length_le (by have := HN.out; omega)]; exact hmem)
          exact this rfl
        have HC := Lib.hid hc
        clear hc
        go_wp2
        go_ret
        exact ⟨ret_bool HC.out.symm, rfl⟩

/-- A number's digits. -/
def dg (n : Nat) : List UInt8 := if h : n < 10 then [UInt8.ofNat (48 + n)] else dg (n / 10) ++ [UInt8.ofNat (48 + n % 10)]
termination_by n
decreasing_by omega

theorem dg_small {n : Nat} (h : n < 10) : dg n = [UInt8.ofNat (48 + n)] := by rw [dg, dif_pos h]
theorem dg_big {n : Nat} (h : ¬ n < 10) : dg n = dg (n / 10) ++ [UInt8.ofNat (48 + n % 10)] := by rw [dg, dif_neg h]

theorem dg_len (k : Nat) : ∀ n, n < 10 ^ (k + 1) → (dg n).length ≤ k + 1 := by
  induction k with
  | zero => intro n h; rw [dg_small (by simpa using h)]; simp
  | succ k ih =>
    intro n h
    by_cases hs : n < 10
    · rw [dg_small hs]; simp
    · rw [dg_big hs]
      have := ih (n / 10) (by rw [Nat.pow_succ] at h; omega)
      simp; omega
theorem dg_len20 {n : Nat} (h : n < 18446744073709551616) : (dg n).length ≤ 20 := dg_len 19 n (by omega)

theorem size_tail {a b : List UInt8} {l : ByteArray} (h : a = b ++ l.data.toList) (hn : a.length ≤ 30) : l.size ≤ 30 := by
  subst h
  have : l.data.toList.length = l.size := Array.length_toList
  rw [List.length_append, this] at hn
  omega
theorem wrap_div10 {n m : Nat} (h : m ≤ n) (hn : n < 18446744073709551616) : IntKind.u64.wrap ((m : Int) / 10) = (m : Int) / 10 := IntWalk.u64_in _ (by omega)

set_option maxRecDepth 10000 in
set_option maxHeartbeats 400000 in
theorem digits_calls (n : Nat) (w : World) (hn : n < 18446744073709551616) :
    Calls Try.prog 62 #[.int .u64 n] w fun r w' => r = .returned (.string ⟨(dg n).toArray⟩) ∧ Upd [] w w' := by
  have hcv := conv_one
  have HN := Lib.hid hn
  clear hn
  go_enter Try.func62, Try.ntmps62
  go_wp2
  go_loopw [0, 3] (fun x s wr => ∃ m : Nat, m ≤ n ∧ x = .int .u64 m ∧ ∃ l : ByteArray, s = .string l ∧ dg n = dg m ++ l.data.toList ∧ Upd [] w wr) (fun x _ _ => (intOf x).toNat)
  case atStart => exact ⟨n, Nat.le_refl _, rfl, _, rfl, by simp, Upd.refl _ _⟩
  case round =>
    obtain ⟨m, hm, rfl, l, rfl, hd, hu⟩ := hrel
    have h1 : 0 ≤ (m : Int) % 10 := by omega
    have h2 : (m : Int) % 10 ≤ 9 := by omega
    have h3 := size_tail hd (Nat.le_trans (dg_len20 HN.out) (by omega))
    have h4 : (strOfNums [48 + (m : Int) % 10]).size = 1 := rfl
    have h5 := wrap_div10 hm HN.out
    have HD := Lib.hid hd
    have HU := Lib.hid hu
    clear hd hu
    by_cases hs : m < 10
    · have hb : ((m : Int) / 10 == 0) = true := by rw [beq_iff_eq]; omega
      go_wp2
      go_ret
      refine ⟨ret_str (str_ext ?_), HU.out.alloc _⟩
      rw [HD.out, dg_small hs]
      simp [strOfNums, show ((48 : Int) + (m : Int) % 10).toNat = 48 + m by omega]
    · have hb : ((m : Int) / 10 == 0) = false := by rw [beq_eq_false_iff_ne]; omega
      have HS := Lib.hid hs
      clear hs
      go_wp2
      go_roundw
      case rel => exact ⟨m / 10, by omega, by go_num, _, rfl, by rw [HD.out, dg_big HS.out]; simp [strOfNums, show ((48 : Int) + (m : Int) % 10).toNat = 48 + m % 10 by omega], HU.out.alloc _⟩
      case measure => have := HS.out; simp [intOf]; omega
end Go.Proofs.Ytdfjjhpnhaggjaa
