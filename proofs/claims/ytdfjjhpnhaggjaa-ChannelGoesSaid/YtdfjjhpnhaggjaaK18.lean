/- The reference's leads, walked. -/
import Derived.Test.YtdfjjhpnhaggjaaK17
import Derived.Test.YtdfjjhpnhaggjaaK22
namespace Go.Proofs.Ytdfjjhpnhaggjaa
open Go.RowKit Go.Mem

/-- One destination, one test. -/
def leadX (kind g x a b : Int) : Bool := (g == a) && (x == b) || ((kind == 1) && (g == b) && (x == a))
def leadI (l : List Ch) (a b : Int) : Bool := l.any fun c => c.to.any fun x => leadX c.kind c.guest x.1 a b

theorem any_take_all {α : Type} {f : α → Bool} {l : List α} {k : Nat} (h : ∀ x ∈ l.take k, f x = false) (hk : l.length ≤ k) : l.any f = false := by
  rw [List.any_eq_false]
  intro x hx
  rw [h x (by rw [List.take_of_length_le hk]; exact hx)]
  decide

/-- The cells of a channel that are read: its kind, its guest, its destinations. -/
theorem chan_all {w : World} {a : Option Addr} {n cap : Nat} {l : List Ch} (h : IsChans w (.slice a n cap) l) : n = l.length ∧ ∀ (k : Nat) c, l[k]? = some c → ∃ b off ta tcap, a = some ⟨b, off, none⟩ ∧
    w.cell? ⟨b, off + k * 7, none⟩ = some (.int .u8 c.kind) ∧ w.cell? ⟨b, off + k * 7 + 1, none⟩ = some (.int .u8 c.guest) ∧ w.cell? ⟨b, off + k * 7 + 3, none⟩ = some (.slice ta c.to.length tcap) ∧
    ∀ (j : Nat) x, c.to[j]? = some x → ∃ tb toff, ta = some ⟨tb, toff, none⟩ ∧ w.cell? ⟨tb, toff + j * 2, none⟩ = some (.int .u8 x.1) := by
  obtain ⟨⟨a', cap', hv, h⟩, he⟩ := h
  simp only [Value.slice.injEq] at hv
  obtain ⟨rfl, rfl, rfl⟩ := hv
  refine ⟨rfl, fun k c hc => ?_⟩
  obtain ⟨b, off, rfl, h2, h3⟩ := h (by intro e; subst e; simp at hc)
  obtain ⟨ta, tcap, htv, hend⟩ := he c (List.mem_of_getElem? hc)
  obtain ⟨c0, c1, c2, c3, -⟩ := h2 k c hc
  rw [htv] at c3
  refine ⟨b, off, ta, tcap, rfl, c0, c1, c3, fun j x hx => ?_⟩
  obtain ⟨tb, toff, rfl, hea, -⟩ := hend (by intro e; rw [e] at hx; simp at hx)
  exact ⟨tb, toff, rfl, (hea j x hx).1⟩

set_option maxRecDepth 100000 in
set_option maxHeartbeats 4000000 in
theorem leads_calls (v : Value) (l : List Ch) (a b : Int) (w : World) (h : IsChans w v l) (hl : l.length ≤ 16) (hto : ∀ c ∈ l, c.to.length ≤ 4) :
    Calls Try.prog 45 #[v, .int .u8 a, .int .u8 b] w fun e w' => e = .returned (.bool (leadI l a b)) ∧ w = w' := by
  have h' := h
  obtain ⟨⟨s, cap, rfl, -⟩, -⟩ := h'
  obtain ⟨-, hch⟩ := chan_all h
  obtain ⟨n, hn⟩ : ∃ n, n = l.length := ⟨_, rfl⟩
  rw [← hn] at hl
  rw [← hn]
  obtain ⟨q, hq⟩ : ∃ q, q = leadI l a b := ⟨_, rfl⟩
  rw [← hq]
  have HN := Lib.hid hn
  have HCH := Lib.hid hch
  have HTO := Lib.hid hto
  have HQ := Lib.hid hq
  clear h hch hn hto hq
  go_enter Try.func45, Try.ntmps45
  go_wp2
  go_loop [7, 8, 9] (fun i _ _ => ∃ k : Nat, k ≤ n ∧ i = .int .i64 k ∧ ∀ c ∈ l.take k, (c.to.any fun x => leadX c.kind c.guest x.1 a b) = false) (fun i _ _ => n - (intOf i).toNat)
  case atStart => exact ⟨0, by omega, rfl, by simp⟩
  case round =>
    obtain ⟨k, hk, rfl, hall⟩ := hrel
    by_cases hlt : k < n
    · obtain ⟨c, hc⟩ : ∃ c, l[k]? = some c := ⟨_, List.getElem?_eq_getElem (by rw [← HN.out]; omega)⟩
      obtain ⟨B, off, ta, tcap, rfl, c0, c1, c3, hjx⟩ := HCH.out k c hc
      have htn4 := HTO.out c (List.mem_of_getElem? hc)
      obtain ⟨tn, htn⟩ : ∃ tn, tn = c.to.length := ⟨_, rfl⟩
      rw [← htn] at c3 htn4
      obtain ⟨kind, hki⟩ : ∃ x, x = c.kind := ⟨_, rfl⟩
      obtain ⟨g, hg⟩ : ∃ x, x = c.guest := ⟨_, rfl⟩
      rw [← hki] at c0
      rw [← hg] at c1
      have HC := Lib.hid hc
      have HALL := Lib.hid hall
      have HT := Lib.hid htn
      have HJX := Lib.hid hjx
      have HK := Lib.hid hki
      have HG := Lib.hid hg
      clear hc hall htn hjx hki hg
      obtain ⟨R, hR⟩ : ∃ R : Nat → Prop, R = fun m => ∀ x ∈ c.to.take m, leadX kind g x.1 a b = false := ⟨_, rfl⟩
      have HR := Lib.hid hR
      have R0 : Hid (R 0) := by rw [hR]; exact Lib.hid (by simp)
      clear hR
      go_wp2
      go_loop [8, 9] (fun j _ => ∃ m : Nat, m ≤ tn ∧ j = .int .i64 m ∧ R m) (fun j _ => tn - (intOf j).toNat)
      case atStart => exact ⟨0, by omega, rfl, R0.out⟩
      case round =>
        obtain ⟨m, hm, rfl, hal2⟩ := hrel
        by_cases hml : m < tn
        · obtain ⟨x, hx⟩ : ∃ x, c.to[m]? = some x := ⟨_, List.getElem?_eq_getElem (by rw [← HT.out]; omega)⟩
          obtain ⟨tb, toff, rfl, y0⟩ := HJX.out m x hx
          obtain ⟨x1, hx1⟩ : ∃ y, y = x.1 := ⟨_, rfl⟩
          rw [← hx1] at y0
          have HX := Lib.hid hx
          have HX1 := Lib.hid hx1
          have HAL2 := Lib.hid hal2
          clear hx hx1 hal2
          have hit : leadX kind g x1 a b = true → q = true := by
            intro hh
            rw [HQ.out]
            unfold leadI
            rw [List.any_eq_true]
            refine ⟨c, List.mem_of_getElem? HC.out, ?_⟩
            rw [List.any_eq_true]
            exact ⟨x, List.mem_of_getElem? HX.out, by rw [← HK.out, ← HG.out, ← HX1.out]; exact hh⟩
          have HIT := Lib.hid hit
          have next : leadX kind g x1 a b = false → R (m + 1) := fun hh => by
            have h1 := HAL2.out
            rw [HR.out] at h1 ⊢
            exact take_ext h1 HX.out (by rw [← HX1.out]; exact hh)
          have NEXT := Lib.hid next
          clear hit next
          go_wp2
          all_goals first
            | (go_ret; exact ⟨ret_bool (HIT.out (by simp_all [leadX])).symm, rfl⟩)
            | (go_round
               case rel => exact ⟨m + 1, by omega, by go_num, NEXT.out (by simp_all [leadX])⟩
               case measure => simp [intOf]; omega)
        · rw [HR.out] at hal2
          have hdone := any_take_all hal2 (by have := HT.out; omega)
          have hnx : ∀ c ∈ l.take (k + 1), (c.to.any fun x => leadX c.kind c.guest x.1 a b) = false := take_ext HALL.out HC.out (by rw [← HK.out, ← HG.out]; exact hdone)
          have HNX := Lib.hid hnx
          clear hdone hnx hal2
          go_wp2
          go_round
          case rel => exact ⟨k + 1, by omega, by go_num, HNX.out⟩
          case measure => simp [intOf]; omega
    · have hdone : q = false := by rw [HQ.out]; exact any_take_all hall (by have := HN.out; omega)
      have HD := Lib.hid hdone
      clear hdone hall
      go_wp2
      go_ret
      exact ⟨ret_bool HD.out.symm, rfl⟩

theorem leadI_eq {l : List Ch} (hok : ∀ c ∈ l, c.Ok) (a b : Nat) : leadI l a b = lead l a b := by
  have hx : ∀ c ∈ l, ∀ x ∈ c.to, leadX c.kind c.guest x.1 a b = ((decide (a = c.guest.toNat) && decide (b = x.1.toNat)) || ((c.kind == 1) && decide (a = x.1.toNat) && decide (b = c.guest.toNat))) := by
    intro c hc x hx
    have h0 := (hok c hc).g0
    have h1 := ((hok c hc).ends x hx).1
    unfold leadX
    rw [Bool.eq_iff_iff]
    simp only [Bool.or_eq_true, Bool.and_eq_true, beq_iff_eq, decide_eq_true_eq]
    omega
  unfold leadI lead leadC
  rw [Bool.eq_iff_iff]
  simp only [List.any_eq_true]
  constructor
  · rintro ⟨c, hc, x, hxc, h⟩
    exact ⟨c, hc, x, hxc, by rw [← hx c hc x hxc]; exact h⟩
  · rintro ⟨c, hc, x, hxc, h⟩
    exact ⟨c, hc, x, hxc, by rw [hx c hc x hxc]; exact h⟩
end Go.Proofs.Ytdfjjhpnhaggjaa
