/- The queue's methods, and the ways' over it. -/
import Derived.Test.YtdfjjhpnhaggjaaK7
namespace Go.Proofs.Ytdfjjhpnhaggjaa
open Go.RowKit Go.Mem

theorem q_ring {w : World} {b : Nat} {q : Qu} (h : IsQ w b q) (ho : q.Ok) (p : Nat) (hp : p < 16) : w.cell? ⟨b, p, none⟩ = some (.string (q.ring.getD p ⟨#[]⟩)) ∧ w.frozen? ⟨b, p, none⟩ = false := by
  refine ⟨h.at p ?_, h.free p⟩
  have hr := ho.r
  unfold Qu.cells
  rw [List.getElem?_append_left (by simp; omega), List.getElem?_map, List.getElem?_eq_getElem (by omega)]
  simp [List.getD, List.getElem?_eq_getElem (show p < q.ring.length by omega)]
theorem q_at {w : World} {b : Nat} {q : Qu} (h : IsQ w b q) (ho : q.Ok) : w.cell? ⟨b, 16, none⟩ = some (.int .i64 q.first) ∧ w.cell? ⟨b, 17, none⟩ = some (.int .i64 q.many) ∧ w.cell? ⟨b, 18, none⟩ = some (.int .i64 q.depth) ∧ w.cell? ⟨b, 19, none⟩ = some (.int .i64 q.most) := by
  have hr := ho.r
  refine ⟨h.at 16 ?_, h.at 17 ?_, h.at 18 ?_, h.at 19 ?_⟩ <;> (unfold Qu.cells; rw [List.getElem?_append_right (by simp; omega)]; simp [hr])
theorem q_set_ring {w : World} {b : Nat} {q : Qu} (h : IsQ w b q) (ho : q.Ok) (p : Nat) (hp : p < 16) (s : ByteArray) : IsQ (w.setCell ⟨b, p, none⟩ (.string s)) b { q with ring := q.ring.set p s } := by
  have := h.setCell p (.string s)
  unfold IsQ
  have e : q.cells.set p (.string s) = Qu.cells { q with ring := q.ring.set p s } := by
    have hr := ho.r
    unfold Qu.cells
    rw [List.set_append_left _ _ (by simp; omega), List.map_set]
  rw [← e]; exact this
theorem q_set_first {w : World} {b : Nat} {q : Qu} (h : IsQ w b q) (hr : q.ring.length = 16) (x : Int) : IsQ (w.setCell ⟨b, 16, none⟩ (.int .i64 x)) b { q with first := x } := by
  have := h.setCell 16 (.int .i64 x)
  unfold IsQ
  have e : q.cells.set 16 (.int .i64 x) = Qu.cells { q with first := x } := by
    unfold Qu.cells
    rw [List.set_append_right _ _ (by simp; omega)]; simp [hr]
  rw [← e]; exact this
theorem q_set_many {w : World} {b : Nat} {q : Qu} (h : IsQ w b q) (hr : q.ring.length = 16) (x : Int) : IsQ (w.setCell ⟨b, 17, none⟩ (.int .i64 x)) b { q with many := x } := by
  have := h.setCell 17 (.int .i64 x)
  unfold IsQ
  have e : q.cells.set 17 (.int .i64 x) = Qu.cells { q with many := x } := by
    unfold Qu.cells
    rw [List.set_append_right _ _ (by simp; omega)]; simp [hr]
  rw [← e]; exact this

set_option maxHeartbeats 400000 in
theorem qis_calls (b : Nat) (d : Int) (w : World) (h0 : w.cell? ⟨b, 18, none⟩ = some (.int .i64 d)) (hm : 0 < d) :
    Calls Try.prog 100 #[.pointer (some ⟨b, 0, none⟩)] w fun e w' => e = .returned (.bool true) ∧ w = w' := by
  go_enter Try.func100, Try.ntmps100
  go_wp2
  go_ret
  exact ⟨rfl, rfl⟩

set_option maxHeartbeats 400000 in
theorem qwaits_calls (b : Nat) (q : Qu) (w : World) (h : IsQ w b q) (ho : q.Ok) : Calls Try.prog 96 #[.pointer (some ⟨b, 0, none⟩)] w fun e w' => e = .returned (.int .i64 q.many) ∧ w = w' := by
  obtain ⟨c0, c1, c2, c3⟩ := q_at h ho
  have d1 := ho.d1
  clear h ho
  go_enter Try.func96, Try.ntmps96
  go_wp2_with (go_at_call 100; refine (qis_calls _ _ _ c2 (by omega)).mono ?_; rintro e w' ⟨rfl, rfl⟩)
  go_ret
  exact ⟨rfl, rfl⟩

set_option maxHeartbeats 400000 in
theorem qsend_long (b : Nat) (q : Qu) (s : ByteArray) (w : World) (h : IsQ w b q) (ho : q.Ok) (hl : q.most < (s.size : Int)) :
    Calls Try.prog 99 #[.pointer (some ⟨b, 0, none⟩), .string s] w fun e w' => e = .returned (.int .u8 3) ∧ w = w' := by
  obtain ⟨c0, c1, c2, c3⟩ := q_at h ho
  have d1 := ho.d1
  clear h ho
  go_enter Try.func99, Try.ntmps99
  go_wp2_with (go_at_call 100; refine (qis_calls _ _ _ c2 (by omega)).mono ?_; rintro e w' ⟨rfl, rfl⟩)
  go_ret
  exact ⟨rfl, rfl⟩
set_option maxHeartbeats 400000 in
theorem qsend_full (b : Nat) (q : Qu) (s : ByteArray) (w : World) (h : IsQ w b q) (ho : q.Ok) (hl : (s.size : Int) ≤ q.most) (hm : (q.many == q.depth) = true) :
    Calls Try.prog 99 #[.pointer (some ⟨b, 0, none⟩), .string s] w fun e w' => e = .returned (.int .u8 1) ∧ ∃ n, w' = w.drewN n := by
  obtain ⟨c0, c1, c2, c3⟩ := q_at h ho
  have d1 := ho.d1
  clear h ho
  go_enter Try.func99, Try.ntmps99
  go_wp2_with (go_at_call 100; refine (qis_calls _ _ _ c2 (by omega)).mono ?_; rintro e w' ⟨rfl, rfl⟩)
  go_quiet (fail)
  go_wp2
  go_ret
  exact ⟨rfl, nq, rfl⟩
set_option maxHeartbeats 1000000 in
theorem qsend_ok (b : Nat) (q : Qu) (s : ByteArray) (w : World) (h : IsQ w b q) (ho : q.Ok) (hl : (s.size : Int) ≤ q.most) (hm : (q.many == q.depth) = false) :
    Calls Try.prog 99 #[.pointer (some ⟨b, 0, none⟩), .string s] w fun e w' => e = .returned (.int .u8 0) ∧ IsQ w' b { q with ring := q.ring.set ((q.first + q.many) % q.depth).toNat s, many := q.many + 1 } ∧ Upd [b] w w' := by
  obtain ⟨c0, c1, c2, c3⟩ := q_at h ho
  have d1 := ho.d1
  have d2 := ho.d2
  have f0 := ho.f0
  have f1 := ho.f1
  have n0 := ho.n0
  have n1 := ho.n1
  obtain ⟨p, hp⟩ := Int.eq_ofNat_of_zero_le (Int.emod_nonneg (q.first + q.many) (by omega : q.depth ≠ 0))
  have hp2 := Int.emod_lt_of_pos (q.first + q.many) (by omega : 0 < q.depth)
  have hp16 : p < 16 := by omega
  rw [hp] at hp2
  have htm : (q.first + q.many).tmod q.depth = p := by rw [Int.tmod_eq_emod_of_nonneg (by omega)]; exact hp
  have hwr : IntKind.i64.wrap (q.first + q.many) = q.first + q.many := IntWalk.i64_in _ (by omega)
  obtain ⟨r0, r1⟩ := q_ring h ho p hp16
  have hf17 := h.free 17
  have H := Lib.hid h
  have HO := Lib.hid ho
  have HP := Lib.hid hp
  rw [hp, Int.toNat_natCast]
  clear h ho hp
  go_enter Try.func99, Try.ntmps99
  go_wp2_with (go_at_call 100; refine (qis_calls _ _ _ c2 (by omega)).mono ?_; rintro e w' ⟨rfl, rfl⟩)
  go_quiet (fail)
  go_wp2
  go_region
  go_wp2
  go_returns
  refine ⟨rfl, ?_, (((Upd.refl [b] w).drewN _).setCell (b := b) (.inl (by simp)) _).setCell (b := b) (.inl (by simp)) _⟩
  exact q_set_many (q := { q with ring := q.ring.set p s }) (q_set_ring (w := w.drewN _) H.out HO.out p hp16 s) (by simpa using HO.out.r) (q.many + 1)

set_option maxHeartbeats 400000 in
theorem qrecv_none (b : Nat) (q : Qu) (w : World) (h : IsQ w b q) (ho : q.Ok) (hm : (q.many == 0) = true) :
    Calls Try.prog 98 #[.pointer (some ⟨b, 0, none⟩)] w fun e w' => e = .returned (.tuple #[.string ⟨#[]⟩, .int .u8 4]) ∧ w = w' := by
  obtain ⟨c0, c1, c2, c3⟩ := q_at h ho
  have d1 := ho.d1
  clear h ho
  go_enter Try.func98, Try.ntmps98
  go_wp2_with (go_at_call 100; refine (qis_calls _ _ _ c2 (by omega)).mono ?_; rintro e w' ⟨rfl, rfl⟩)
  go_ret2
  exact ⟨rfl, rfl⟩
set_option maxHeartbeats 1000000 in
theorem qrecv_ok (b : Nat) (q : Qu) (w : World) (h : IsQ w b q) (ho : q.Ok) (hm : (q.many == 0) = false) :
    Calls Try.prog 98 #[.pointer (some ⟨b, 0, none⟩)] w fun e w' => e = .returned (.tuple #[.string (q.ring.getD q.first.toNat ⟨#[]⟩), .int .u8 0]) ∧
      IsQ w' b { q with ring := q.ring.set q.first.toNat ⟨#[]⟩, first := (q.first + 1) % q.depth, many := q.many - 1 } ∧ Upd [b] w w' := by
  obtain ⟨c0, c1, c2, c3⟩ := q_at h ho
  have d1 := ho.d1
  have d2 := ho.d2
  have f1 := ho.f1
  have n0 := ho.n0
  have n1 := ho.n1
  obtain ⟨p, hp⟩ := Int.eq_ofNat_of_zero_le ho.f0
  have hp16 : p < 16 := by omega
  have htm : (q.first + 1).tmod q.depth = (q.first + 1) % q.depth := Int.tmod_eq_emod_of_nonneg (by omega)
  have hwr : IntKind.i64.wrap (q.first + 1) = q.first + 1 := IntWalk.i64_in _ (by omega)
  rw [hp] at htm hwr
  obtain ⟨r0, r1⟩ := q_ring h ho p hp16
  obtain ⟨fs, hfs⟩ : ∃ x, x = ((p : Int) + 1) % q.depth := ⟨_, rfl⟩
  have g0 : 0 ≤ fs := by rw [hfs]; exact Int.emod_nonneg _ (by omega)
  have g1 : fs < q.depth := by rw [hfs]; exact Int.emod_lt_of_pos _ (by omega)
  obtain ⟨sv, hsv⟩ : ∃ x, x = q.ring.getD p ⟨#[]⟩ := ⟨_, rfl⟩
  rw [← hfs] at htm
  rw [← hsv] at r0
  have hf16 := h.free 16
  have hf17 := h.free 17
  have H := Lib.hid h
  have HO := Lib.hid ho
  rw [hp, Int.toNat_natCast, ← hfs, ← hsv]
  rw [hp] at c0 f1
  clear h ho hp hfs hsv
  go_enter Try.func98, Try.ntmps98
  go_wp2_with (go_at_call 100; refine (qis_calls _ _ _ c2 (by omega)).mono ?_; rintro e w' ⟨rfl, rfl⟩)
  go_quiet (fail)
  go_wp2
  go_region
  go_wp2
  go_region
  go_wp2
  go_returns
  refine ⟨rfl, ?_, ?_⟩
  · have e1 := q_set_ring (w := w.drewN (nq + 1)) H.out HO.out p hp16 ⟨#[]⟩
    have e2 := q_set_first e1 (by simpa using HO.out.r) fs
    exact q_set_many e2 (by simpa using HO.out.r) (q.many - 1)
  · exact (((((Upd.refl [b] w).drewN _).setCell (b := b) (.inl (by simp)) _).setCell (b := b) (.inl (by simp)) _).setCell (b := b) (.inl (by simp)) _).drew

theorem sendQ_ok {q : Qu} (h : q.Ok) (s : ByteArray) : ((Way.que q).sendW 0 s).Ok := by
  unfold Way.sendW
  simp only
  split
  · exact h
  · split
    · exact h
    · have := h.n0; have := h.n1
      exact ⟨by simpa using h.r, h.f0, h.f1, by show 0 ≤ q.many + 1; omega, by show q.many + 1 ≤ q.depth; omega, h.d1, h.d2, h.m1, h.m2⟩
theorem recvQ_ok {q : Qu} (h : q.Ok) (k : Nat) : ((Way.que q).recvW k).Ok := by
  unfold Way.recvW
  simp only
  split
  · exact h
  · have := h.n0; have := h.n1; have := h.d1
    exact ⟨by simpa using h.r, Int.emod_nonneg _ (by omega), Int.emod_lt_of_pos _ (by omega), by show 0 ≤ q.many - 1; omega, by show q.many - 1 ≤ q.depth; omega, h.d1, h.d2, h.m1, h.m2⟩

theorem qsend_calls (b : Nat) (q : Qu) (now : Int) (s : ByteArray) (w : World) (h : IsQ w b q) (ho : q.Ok) :
    Calls Try.prog 99 #[.pointer (some ⟨b, 0, none⟩), .string s] w fun e w' => e = .returned (.int .u8 ((Way.que q).sendS s)) ∧ ((Way.que q).sendW now s).Is w' b ∧ Upd [b] w w' := by
  unfold Way.sendS Way.sendW
  by_cases hl : q.most < (s.size : Int)
  · simp only [if_pos hl]
    exact (qsend_long b q s w h ho hl).mono fun _ _ ⟨h1, h2⟩ => by subst h2; exact ⟨h1, h, Upd.refl _ _⟩
  · simp only [if_neg hl]
    by_cases hm : q.many = q.depth
    · simp only [if_pos hm]
      exact (qsend_full b q s w h ho (by omega) (by simpa using hm)).mono fun _ _ ⟨h1, n, h2⟩ => by subst h2; exact ⟨h1, Blk.drewN h n, (Upd.refl _ _).drewN n⟩
    · simp only [if_neg hm]
      exact qsend_ok b q s w h ho (by omega) (by simpa using hm)
theorem qrecv_calls (b : Nat) (q : Qu) (k : Nat) (now : Int) (w : World) (h : IsQ w b q) (ho : q.Ok) :
    Calls Try.prog 98 #[.pointer (some ⟨b, 0, none⟩)] w fun e w' => e = .returned (.tuple #[.string ((Way.que q).recvS k now).s, .int .u8 ((Way.que q).recvS k now).st]) ∧ ((Way.que q).recvS k now).age = 0 ∧ ((Way.que q).recvW k).Is w' b ∧ Upd [b] w w' := by
  unfold Way.recvS Way.recvW
  by_cases hm : q.many = 0
  · simp only [if_pos hm]
    exact (qrecv_none b q w h ho (by simpa using hm)).mono fun _ _ ⟨h1, h2⟩ => by subst h2; exact ⟨h1, trivial, h, Upd.refl _ _⟩
  · simp only [if_neg hm]
    exact (qrecv_ok b q w h ho (by simpa using hm)).mono fun _ _ ⟨h1, h2, h3⟩ => ⟨h1, trivial, h2, h3⟩

set_option maxHeartbeats 400000 in
theorem lsend_calls (b : Nat) (q : Qu) (now : Int) (s : ByteArray) (w : World) (h : IsQ w b q) (ho : q.Ok) :
    Calls Try.prog 94 #[.agg #[.pointer (some ⟨b, 0, none⟩)], .int .u64 now, .string s] w fun e w' => e = .returned (.int .u8 ((Way.que q).sendS s)) ∧ ((Way.que q).sendW now s).Is w' b ∧ Upd [b] w w' := by
  have HC := Lib.hid (fun w' hh => qsend_calls b q now s w' hh ho)
  obtain ⟨st, hst⟩ : ∃ st, st = (Way.que q).sendS s := ⟨_, rfl⟩
  rw [← hst] at HC ⊢
  have H := Lib.hid h
  clear h ho hst
  go_enter Try.func94, Try.ntmps94
  go_wp2_with (go_at_call 99; refine (HC.out _ (H.out.alloc _)).mono ?_; rintro e w1 ⟨rfl, hc, hu⟩; have HCC := Lib.hid hc; have HU := Lib.hid (((Upd.refl [b] w).alloc _).trans hu (fun _ h => .inl h)); clear hc hu)
  go_ret
  exact ⟨rfl, HCC.out, HU.out⟩
set_option maxHeartbeats 400000 in
theorem lrecv_calls (b : Nat) (q : Qu) (k : Nat) (now : Int) (w : World) (h : IsQ w b q) (ho : q.Ok) :
    Calls Try.prog 93 #[.agg #[.pointer (some ⟨b, 0, none⟩)], .int .i64 k, .int .u64 now] w fun e w' =>
      e = .returned (.tuple #[.string ((Way.que q).recvS k now).s, .int .u64 ((Way.que q).recvS k now).age, .int .u8 ((Way.que q).recvS k now).st]) ∧ ((Way.que q).recvW k).Is w' b ∧ Upd [b] w w' := by
  have HC := Lib.hid (fun w' hh => qrecv_calls b q k now w' hh ho)
  obtain ⟨r, hr⟩ : ∃ r, r = (Way.que q).recvS k now := ⟨_, rfl⟩
  rw [← hr] at HC ⊢
  have H := Lib.hid h
  clear h ho hr
  go_enter Try.func93, Try.ntmps93
  go_wp2_with (go_at_call 98; refine (HC.out _ (H.out.alloc _)).mono ?_; rintro e w1 ⟨rfl, ha, hc, hu⟩; have HA := Lib.hid ha; have HCC := Lib.hid hc; have HU := Lib.hid (((Upd.refl [b] w).alloc _).trans hu (fun _ h => .inl h)); clear ha hc hu)
  go_returns
  refine ⟨?_, HCC.out, HU.out⟩
  rw [HA.out]; rfl
set_option maxHeartbeats 400000 in
theorem lwaits_calls (b : Nat) (q : Qu) (k : Nat) (w : World) (h : IsQ w b q) (ho : q.Ok) :
    Calls Try.prog 95 #[.agg #[.pointer (some ⟨b, 0, none⟩)], .int .i64 k] w fun e w' => e = .returned (.int .i64 ((Way.que q).waits k)) ∧ Upd [] w w' := by
  have HC := Lib.hid (fun w' hh => qwaits_calls b q w' hh ho)
  have H := Lib.hid h
  clear h ho
  go_enter Try.func95, Try.ntmps95
  go_wp2_with (go_at_call 96; refine (HC.out _ (H.out.alloc _)).mono ?_; rintro e w1 ⟨rfl, rfl⟩)
  go_ret
  exact ⟨rfl, (Upd.refl _ _).alloc _⟩
end Go.Proofs.Ytdfjjhpnhaggjaa
