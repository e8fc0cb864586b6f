/- The walks of package sample over one channel's block: Read, Fresh, Copy, Same, New. -/
import Derived.Test.YtdfjjhpnhaggjaaS1
namespace Go.Proofs.Ytdfjjhpnhaggjaa
open Go.RowKit Go.Mem

set_option maxHeartbeats 400000 in
theorem read_no (b : Nat) (c : Chn) (e t : Int) (w : World) (h : IsCh w b c) (ho : c.Ok) (hw : (whyI c e == 0) = false) :
    Calls Try.prog 33 #[.pointer (some ⟨b, 0, none⟩), .int .i64 e, .int .u64 t] w fun r w' =>
      r = .returned (.tuple #[.agg #[.string ⟨#[]⟩, .int .u64 0, .bool false], .int .i64 (whyI c e)]) ∧ Upd [] w w' := by
  have H := Lib.hid h
  have HO := Lib.hid ho
  clear ho h
  go_enter Try.func33, Try.ntmps33
  go_wp2_with (go_at_call 61; refine (why_calls _ c _ _ (H.out.alloc _) HO.out).mono ?_; rintro e w' ⟨rfl, rfl⟩)
  go_returns
  exact ⟨rfl, (Upd.refl _ _).alloc _⟩

/-- The age of a message, and whether it is stale. -/
def ageI (c : Chn) (t : Int) : Int := if t < c.t then 0 else t - c.t
def staleB (c : Chn) (t : Int) : Bool := decide (c.val < ageI c t)
def Chn.seen (c : Chn) (k : Nat) : Chn := { c with fresh := c.fresh.set k false }

theorem wr64 {n : Int} (h0 : 0 ≤ n) (h1 : n < 18446744073709551616) : IntKind.u64.wrap n = n := IntWalk.u64_in n (by omega)

theorem cells_fresh (c : Chn) (k : Nat) (h : k < c.fresh.length) : c.cells[6 + k]? = some (.bool (c.fresh.getD k false)) := by
  have : 6 + k = k + 1 + 1 + 1 + 1 + 1 + 1 := by omega
  rw [this]
  simp [Chn.cells, h]

theorem cells_seen (c : Chn) (k : Nat) : c.cells.set (6 + k) (.bool false) = (c.seen k).cells := by
  have : 6 + k = k + 1 + 1 + 1 + 1 + 1 + 1 := by omega
  rw [this]
  simp [Chn.cells, Chn.seen, List.map_set]

set_option maxHeartbeats 400000 in
theorem read_ok (b : Nat) (c : Chn) (k : Nat) (t : Int) (w : World) (h : IsCh w b c) (ho : c.Ok) (h1 : (k : Int) < c.ends) (hh : c.has = true) (ht0 : 0 ≤ t) (ht1 : t < 18446744073709551616) :
    Calls Try.prog 33 #[.pointer (some ⟨b, 0, none⟩), .int .i64 k, .int .u64 t] w fun r w' =>
      r = .returned (.tuple #[.agg #[.string c.s, .int .u64 (ageI c t), .bool (staleB c t)], .int .i64 0]) ∧ IsCh w' b (c.seen k) ∧ Upd [b] w w' := by
  have hw : whyI c k = 0 := by unfold whyI; rw [if_neg (by omega), if_neg (by omega), if_pos hh]
  have hx := h.at (6 + k) (cells_fresh c k (by have := ho.f; have := ho.e2; omega))
  have hx5 := h.at 5 rfl
  have hx4 := h.at 4 rfl
  have hx1 := h.at 1 rfl
  have hf := h.free (6 + k)
  have hb := h.lt
  have he := ho.e2
  have HW := Lib.hid hw
  have H := Lib.hid h
  have HO := Lib.hid ho
  have HT0 := Lib.hid ht0
  have HT1 := Lib.hid ht1
  clear ho h hw hh ht0 ht1
  go_enter Try.func33, Try.ntmps33
  go_wp2_with (go_at_call 61; refine (why_calls _ c _ _ (H.out.alloc _) HO.out).mono ?_; rintro e w' ⟨rfl, rfl⟩; rw [HW.out])
  go_region
  all_goals go_wp2
  all_goals go_region
  all_goals go_wp2
  all_goals go_returns
  all_goals refine ⟨?_, ?_, ((((Upd.refl _ _).setCell (.inl (by simp)) _).alloc _).drew).drew⟩
  all_goals try (unfold IsCh; rw [← cells_seen]; exact ((H.out.setCell _ _).alloc _))
  all_goals have a0 := HO.out.t0
  all_goals have a1 := HO.out.t1
  all_goals have a2 := HO.out.v0
  all_goals have a3 := HO.out.v1
  all_goals have a4 := HT0.out
  all_goals have a5 := HT1.out
  · have e1 : ageI c t = 0 := by unfold ageI; rw [if_pos (by omega)]
    have e2 : staleB c t = decide (c.val < 0) := by unfold staleB; rw [e1]
    rw [e1, e2, wr64 a2 (by omega)]
  · have e1 : ageI c t = t - c.t := by unfold ageI; rw [if_neg (by omega)]
    have e2 : staleB c t = decide (c.val < t - c.t) := by unfold staleB; rw [e1]
    rw [e1, e2, wr64 a2 (by omega), wr64 (n := t - c.t) (by omega) (by omega)]

/-- Which ends have not read. -/
def freshB (c : Chn) (e : Int) : Bool := whyI c e == 0 && c.fresh.getD e.toNat false

set_option maxHeartbeats 400000 in
theorem fresh_calls (b : Nat) (c : Chn) (e : Int) (w : World) (h : IsCh w b c) (ho : c.Ok) :
    Calls Try.prog 29 #[.pointer (some ⟨b, 0, none⟩), .int .i64 e] w fun r w' => r = .returned (.bool (freshB c e)) ∧ w = w' := by
  have H := Lib.hid h
  have HO := Lib.hid ho
  clear ho h
  by_cases hw : whyI c e = 0
  · have hr : 0 ≤ e ∧ e < c.ends := by unfold whyI at hw; split at hw; omega; split at hw; omega; omega
    obtain ⟨k, rfl⟩ := Int.eq_ofNat_of_zero_le hr.1
    have hx := H.out.at (6 + k) (cells_fresh c k (by have := HO.out.f; have := HO.out.e2; omega))
    have he := HO.out.e2
    have hfr : freshB c k = c.fresh.getD k false := by simp [freshB, hw]
    have HW := Lib.hid hw
    rw [hfr]
    have h1 : (k : Int) < c.ends := hr.2
    clear hw hr hfr
    go_enter Try.func29, Try.ntmps29
    go_wp2_with (go_at_call 61; refine (why_calls _ c _ _ H.out HO.out).mono ?_; rintro e w' ⟨rfl, rfl⟩; rw [HW.out])
    go_ret
    exact ⟨rfl, rfl⟩
  · have hw' : (whyI c e == 0) = false := by simpa using hw
    have hfr : freshB c e = false := by simp [freshB, hw]
    rw [hfr]
    clear hw hfr
    go_enter Try.func29, Try.ntmps29
    go_wp2_with (go_at_call 61; refine (why_calls _ c _ _ H.out HO.out).mono ?_; rintro e w' ⟨rfl, rfl⟩)
    go_ret
    exact ⟨rfl, rfl⟩

set_option maxHeartbeats 400000 in
theorem new_ok (most val ends : Int) (w : World) (m1 : 1 ≤ most) (m2 : most ≤ 64) (e1 : 1 ≤ ends) (e2 : ends ≤ 16) :
    Calls Try.prog 8 #[.int .i64 most, .int .u32 val, .int .i64 ends] w fun r w' => r = .returned (.tuple #[.pointer (some ⟨w.heap.size, 0, none⟩), .int .i64 0]) ∧
      IsCh w' w.heap.size ⟨most, val, ends, false, ⟨#[]⟩, 0, List.replicate 16 false⟩ ∧ Upd [] w w' := by
  go_enter Try.func8, Try.ntmps8
  go_wp2
  go_returns
  exact ⟨rfl, Blk.new _ _ _, (Upd.refl _ _).alloc _⟩

def mayI (most ends : Int) : Bool := decide (1 ≤ most) && decide (most ≤ 64) && decide (1 ≤ ends) && decide (ends ≤ 16)
set_option maxHeartbeats 400000 in
theorem new_no (most val ends : Int) (w : World) (h : mayI most ends = false) :
    Calls Try.prog 8 #[.int .i64 most, .int .u32 val, .int .i64 ends] w fun r w' => r = .returned (.tuple #[.pointer none, .int .i64 2]) ∧ w = w' := by
  by_cases a1 : most < 1
  · clear h
    go_enter Try.func8, Try.ntmps8
    go_wp2
    go_returns
    exact ⟨rfl, rfl⟩
  by_cases a2 : 64 < most
  · clear h
    go_enter Try.func8, Try.ntmps8
    go_wp2
    go_returns
    exact ⟨rfl, rfl⟩
  by_cases a3 : ends < 1
  · clear h
    go_enter Try.func8, Try.ntmps8
    go_wp2
    go_returns
    exact ⟨rfl, rfl⟩
  have a4 : 16 < ends := by simp [mayI] at h; omega
  clear h
  go_enter Try.func8, Try.ntmps8
  go_wp2
  go_returns
  exact ⟨rfl, rfl⟩
end Go.Proofs.Ytdfjjhpnhaggjaa
