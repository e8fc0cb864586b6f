/- The walk of the reference's Read, where there is a message. -/
import Derived.Test.YtdfjjhpnhaggjaaD5
namespace Go.Proofs.Ytdfjjhpnhaggjaa
open Go.RowKit Go.Mem

def rage (xt t : Int) : Int := if t < xt then 0 else t - xt
theorem wr64 {n : Int} (h0 : 0 ≤ n) (h1 : n < 18446744073709551616) : IntKind.u64.wrap n = n := IntWalk.u64_in n (by omega)
theorem own_drewN {w : World} {e sz n : Nat} {v : Value} {xs : List Value} (h : w.ownsRow 0 e sz v n xs) (k : Nat) : (w.drewN k).ownsRow 0 e sz v n xs := h

theorem refread_steps {w w2 : World} {r g cap g' : Nat} {m val e : Int} {L : List Wr} {x : Wr} {rvs : List Value} {rv rv' : Value}
    (h : RefTop w2 r g cap m val e L x rvs rv') (hrv : bl rv' = [g']) (hu : Upd (g :: bl rv) w w2) (hg : g' ∈ bl rv ∨ w.heap.size ≤ g') (n : Nat) :
    Steps1 (fun w' fp' => RefIs w' fp' r m val e (L ++ [x])) (r :: (g :: (rvs.flatMap bl ++ bl rv))) w (w2.drewN n) := by
  refine ⟨_, h.is.upd ((Upd.refl [] _).drewN n) (by simp), (hu.mono ?_).drewN n, ?_⟩
  · intro y hy
    simp only [List.mem_cons, List.mem_append] at hy ⊢
    rcases hy with h | h
    · exact .inl (.inr (.inl h))
    · exact .inl (.inr (.inr (.inr h)))
  · intro k hk
    simp only [List.mem_cons, List.mem_append] at hk ⊢
    rcases hk with h | h | h | h
    · exact .inl (.inl h)
    · exact .inl (.inr (.inl h))
    · exact .inl (.inr (.inr (.inl h)))
    · have : k = g' := by rw [hrv] at h; simpa using h
      subst this
      rcases hg with h' | h'
      · exact .inl (.inr (.inr (.inr h')))
      · exact .inr h'

set_option maxRecDepth 10000 in
set_option maxHeartbeats 1000000 in
theorem rread_top (w : World) (r g cap : Nat) (m val e j t : Int) (L : List Wr) (x : Wr) (rvs : List Value) (rv : Value) (h : RefTop w r g cap m val e L x rvs rv) (h0 : 0 ≤ j) (h1 : j < e) (hn : L.length ≤ 1000) (hm : x.reads.length ≤ 1000)
    (hv0 : 0 ≤ val) (hv1 : val < 4294967296) (ht0 : 0 ≤ t) (ht1 : t < 18446744073709551616) (hx0 : 0 ≤ x.t) :
    Calls Try.prog 34 #[.pointer (some ⟨r, 0, none⟩), .int .i64 j, .int .u64 t] w fun y w' => y = .returned (.tuple #[.string x.s, .int .u64 (rage x.t t), .bool (decide (val < rage x.t t)), .int .i64 0]) ∧
      Steps1 (fun w' fp' => RefIs w' fp' r m val e (L ++ [{ x with reads := x.reads ++ [j] }])) (r :: (g :: (rvs.flatMap bl ++ bl rv))) w w' := by
  have hz : (((L.length : Nat) : Int) + 1 == 0) = false := by rw [beq_eq_false_iff_ne]; omega
  have c1 := h.blk.at 1 rfl
  have c2 := h.blk.at 2 rfl
  have c3 := h.blk.at 3 rfl
  obtain ⟨d0, d1, d2, df⟩ := h.cells
  obtain ⟨i0, hi, hz0, hz1, hz2⟩ := info_parts i3
  have q3 : x.reads.length + 1 ≤ maxLen := by unfold maxLen; omega
  have hu0 : IntKind.u64.wrap val = val := wr64 hv0 (by omega)
  have hglt : g < w.heap.size := own_lt h.own g (by simp [bl, Value.ownBlock])
  have hrlt := h.blk.lt
  have hnd := h.nd
  simp only [List.nodup_cons, List.mem_cons, List.mem_append, not_or] at hnd
  have hrg := hnd.1.1
  have hgr : g ≠ r := fun h => hrg h.symm
  have HRV := Lib.hid hnd.1.2.2
  have HGV := Lib.hid hnd.2.1.2
  have Q3 := Lib.hid q3
  have H := Lib.hid h
  have HT1 := Lib.hid ht1
  have HI := Lib.hid (And.intro hi (And.intro hz0 (And.intro hz1 hz2)))
  clear h hi hz0 hz1 hz2 q3 ht1 hv1 hnd
  by_cases ht : t < x.t
  · have HA : Hid (rage x.t t = 0) := if_pos ht
    go_enter Try.func34, Try.ntmps34
    go_wp2
    go_quiet (fail)
    go_wp2_with (at_builtin; go_loud (refine wpList_append_lies _ rfl _ _ 134 rfl 0 3 i0 (.int .i64 0) 1 8 Try.underlying134 HI.out.1 HI.out.2.1 HI.out.2.2.1 HI.out.2.2.2 rfl (by decide) rv _ _ rfl (own_drewN (H.out.last.alloc _) nq) ⟨w.heap.size, 0, none⟩ 1 1 [.int .i64 j] rfl rfl (cells_new _ _ _) (by intro u hu; simp at hu; rw [hu]; rfl) (by decide) Q3.out (by omega) (Nat.zero_le _) (w.heap.size + 1) (by simp) ?_); intro g' cap' w2 hown hgrow hg hlt2; have HP := Lib.hid (refread_post H.out (((Upd.refl [] w).drewN nq).alloc _) hown hgrow hg); have hu2 := ((((Upd.refl [] w).drewN nq).alloc (.cells #[.int .i64 j] 3)).mono (T := bl rv) (by simp)).grown hgrow (by intro k hk; left; simp [bl, hk]); have e1 := cell_upd hu2 HRV.out hrlt 1 c1; have e2 := cell_upd hu2 HGV.out hglt _ d0; have e3 := cell_upd hu2 HGV.out hglt _ d1; have e4 := cell_upd hu2 HGV.out hglt _ d2; have e5 := free_upd hu2 HGV.out hglt (L.length * 3 + 2) df; clear hown hgrow hg hu2 c1 c2 c3 d0 d1 d2 df)
    go_returns
    refine ⟨?_, refread_steps HP.out.1 (by simp [bl, Value.ownBlock]) HP.out.2.1 HP.out.2.2 0⟩
    rw [HA.out, decide_eq_false (by omega)]
  · have HA : Hid (rage x.t t = t - x.t) := if_neg ht
    have hu1 : IntKind.u64.wrap (t - x.t) = t - x.t := wr64 (by omega) (by have := HT1.out; omega)
    go_enter Try.func34, Try.ntmps34
    go_wp2
    go_quiet (fail)
    go_wp2_with (at_builtin; go_loud (refine wpList_append_lies _ rfl _ _ 134 rfl 0 3 i0 (.int .i64 0) 1 8 Try.underlying134 HI.out.1 HI.out.2.1 HI.out.2.2.1 HI.out.2.2.2 rfl (by decide) rv _ _ rfl (own_drewN (H.out.last.alloc _) nq) ⟨w.heap.size, 0, none⟩ 1 1 [.int .i64 j] rfl rfl (cells_new _ _ _) (by intro u hu; simp at hu; rw [hu]; rfl) (by decide) Q3.out (by omega) (Nat.zero_le _) (w.heap.size + 1) (by simp) ?_); intro g' cap' w2 hown hgrow hg hlt2; have HP := Lib.hid (refread_post H.out (((Upd.refl [] w).drewN nq).alloc _) hown hgrow hg); have hu2 := ((((Upd.refl [] w).drewN nq).alloc (.cells #[.int .i64 j] 3)).mono (T := bl rv) (by simp)).grown hgrow (by intro k hk; left; simp [bl, hk]); have e1 := cell_upd hu2 HRV.out hrlt 1 c1; have e2 := cell_upd hu2 HGV.out hglt _ d0; have e3 := cell_upd hu2 HGV.out hglt _ d1; have e4 := cell_upd hu2 HGV.out hglt _ d2; have e5 := free_upd hu2 HGV.out hglt (L.length * 3 + 2) df; clear hown hgrow hg hu2 c1 c2 c3 d0 d1 d2 df)
    go_quiet (fail)
    go_wp2
    go_returns
    refine ⟨?_, refread_steps HP.out.1 (by simp [bl, Value.ownBlock]) HP.out.2.1 HP.out.2.2 _⟩
    rw [HA.out]
end Go.Proofs.Ytdfjjhpnhaggjaa
