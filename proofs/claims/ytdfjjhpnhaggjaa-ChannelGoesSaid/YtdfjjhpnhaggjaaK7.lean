/- The ways' own methods: a sampling channel's, a queue's. -/
import Derived.Test.YtdfjjhpnhaggjaaK5
namespace Go.Proofs.Ytdfjjhpnhaggjaa
open Go.RowKit Go.Mem

/-- What a way answers, and what it is behind it. -/
def Way.sendS (y : Way) (s : ByteArray) : Int := match y with
  | .smp c => if c.most < (s.size : Int) then 3 else 0
  | .que q => if q.most < (s.size : Int) then 3 else if q.many = q.depth then 1 else 0
def Way.sendW (y : Way) (now : Int) (s : ByteArray) : Way := match y with
  | .smp c => if c.most < (s.size : Int) then .smp c else .smp (c.put now s)
  | .que q => if q.most < (s.size : Int) then .que q else if q.many = q.depth then .que q else .que { q with ring := q.ring.set ((q.first + q.many) % q.depth).toNat s, many := q.many + 1 }
structure Rcv where
  s : ByteArray
  age : Int
  st : Int
def Way.recvS (y : Way) (k : Nat) (now : Int) : Rcv := match y with
  | .smp c => if whyI c k = 0 then ⟨c.s, ageI c now, if staleB c now = true then 5 else 0⟩ else ⟨⟨#[]⟩, 0, 4⟩
  | .que q => if q.many = 0 then ⟨⟨#[]⟩, 0, 4⟩ else ⟨q.ring.getD q.first.toNat ⟨#[]⟩, 0, 0⟩
def Way.recvW (y : Way) (k : Nat) : Way := match y with
  | .smp c => if whyI c k = 0 then .smp (c.seen k) else .smp c
  | .que q => if q.many = 0 then .que q else .que { q with ring := q.ring.set q.first.toNat ⟨#[]⟩, first := (q.first + 1) % q.depth, many := q.many - 1 }
def Way.waits (y : Way) (k : Nat) : Int := match y with
  | .smp c => if freshB c k = true then 1 else 0
  | .que q => q.many

theorem put_ok {c : Chn} (h : c.Ok) {t : Int} (t0 : 0 ≤ t) (t1 : t < 18446744073709551616) (s : ByteArray) : (c.put t s).Ok :=
  ⟨h.m1, h.m2, h.e1, h.e2, by have := h.f; have := h.e1; have := h.e2; simp [Chn.put]; omega, h.v0, h.v1, t0, t1⟩
theorem seen_ok {c : Chn} (h : c.Ok) (k : Nat) : (c.seen k).Ok :=
  ⟨h.m1, h.m2, h.e1, h.e2, by have := h.f; simpa [Chn.seen] using this, h.v0, h.v1, h.t0, h.t1⟩

set_option maxHeartbeats 400000 in
theorem ssend_calls (b : Nat) (c : Chn) (now : Int) (s : ByteArray) (w : World) (h : IsCh w b c) (ho : c.Ok) :
    Calls Try.prog 104 #[.agg #[.pointer (some ⟨b, 0, none⟩)], .int .u64 now, .string s] w fun e w' => e = .returned (.int .u8 ((Way.smp c).sendS s)) ∧ ((Way.smp c).sendW now s).Is w' b ∧ Upd [b] w w' := by
  have hb := h.lt
  have H := Lib.hid h
  have HO := Lib.hid ho
  clear h ho
  unfold Way.sendS Way.sendW
  by_cases hl : c.most < (s.size : Int)
  · simp only [if_pos hl]
    have HL := Lib.hid hl
    clear hl
    go_enter Try.func104, Try.ntmps104
    go_wp2_with (go_at_call 30; refine (write_long _ c _ _ _ (H.out.alloc _) HO.out HL.out).mono ?_; rintro e w' ⟨rfl, rfl⟩)
    go_ret
    exact ⟨rfl, H.out.alloc _, (Upd.refl _ _).alloc _⟩
  · simp only [if_neg hl]
    have HL := Lib.hid hl
    clear hl
    go_enter Try.func104, Try.ntmps104
    go_wp2_with (go_at_call 30; refine (write_ok _ c _ _ _ (H.out.alloc _) HO.out (by have := HL.out; omega)).mono ?_; rintro e w' ⟨rfl, hc, hu⟩; have HC := Lib.hid hc; have HU := Lib.hid hu; clear hc hu)
    go_ret
    exact ⟨rfl, HC.out, ((Upd.refl [b] w).alloc _).trans HU.out (fun _ h => .inl h)⟩

set_option maxHeartbeats 400000 in
theorem swaits_calls (b : Nat) (c : Chn) (k : Nat) (w : World) (h : IsCh w b c) (ho : c.Ok) :
    Calls Try.prog 105 #[.agg #[.pointer (some ⟨b, 0, none⟩)], .int .i64 k] w fun e w' => e = .returned (.int .i64 ((Way.smp c).waits k)) ∧ Upd [] w w' := by
  have H := Lib.hid h
  have HO := Lib.hid ho
  clear h ho
  unfold Way.waits
  obtain ⟨q, hq⟩ : ∃ q, q = freshB c k := ⟨_, rfl⟩
  have HQ := Lib.hid hq
  simp only [← hq]
  clear hq
  cases q
  · go_enter Try.func105, Try.ntmps105
    go_wp2_with (go_at_call 29; refine (fresh_calls _ c _ _ (H.out.alloc _) HO.out).mono ?_; rintro e w' ⟨rfl, rfl⟩; rw [← HQ.out])
    go_ret
    exact ⟨rfl, (Upd.refl _ _).alloc _⟩
  · go_enter Try.func105, Try.ntmps105
    go_wp2_with (go_at_call 29; refine (fresh_calls _ c _ _ (H.out.alloc _) HO.out).mono ?_; rintro e w' ⟨rfl, rfl⟩; rw [← HQ.out])
    go_ret
    exact ⟨rfl, (Upd.refl _ _).alloc _⟩

theorem got3 {w w' : World} {B : Nat} {x y z : Value} (h : Blk w B [x, y, z] 85) (hu : Upd [] w w') :
    w'.cell? ⟨B, 0, none⟩ = some x ∧ w'.cell? ⟨B, 1, none⟩ = some y ∧ w'.cell? ⟨B, 2, none⟩ = some z := by
  have k := h.upd hu (by simp)
  exact ⟨k.at 0 rfl, k.at 1 rfl, k.at 2 rfl⟩

set_option maxHeartbeats 1000000 in
theorem srecv_calls (b : Nat) (c : Chn) (k : Nat) (now : Int) (w : World) (h : IsCh w b c) (ho : c.Ok) (t0 : 0 ≤ now) (t1 : now < 18446744073709551616) :
    Calls Try.prog 103 #[.agg #[.pointer (some ⟨b, 0, none⟩)], .int .i64 k, .int .u64 now] w fun e w' =>
      e = .returned (.tuple #[.string ((Way.smp c).recvS k now).s, .int .u64 ((Way.smp c).recvS k now).age, .int .u8 ((Way.smp c).recvS k now).st]) ∧ ((Way.smp c).recvW k).Is w' b ∧ Upd [b] w w' := by
  have hb := h.lt
  have H := Lib.hid h
  have HO := Lib.hid ho
  have T0 := Lib.hid t0
  have T1 := Lib.hid t1
  clear h ho t0 t1
  unfold Way.recvS Way.recvW
  by_cases hy : whyI c k = 0
  · simp only [if_pos hy]
    have hk : (k : Int) < c.ends ∧ c.has = true := by
      unfold whyI at hy
      rw [if_neg (by omega)] at hy
      split at hy
      · omega
      · split at hy
        · exact ⟨by omega, by assumption⟩
        · omega
    have HC := Lib.hid (fun w' hh => read_ok b c k now w' hh HO.out hk.1 hk.2 T0.out T1.out)
    obtain ⟨st, hst⟩ : ∃ st, st = staleB c now := ⟨_, rfl⟩
    obtain ⟨ag, hag⟩ : ∃ ag, ag = ageI c now := ⟨_, rfl⟩
    obtain ⟨cs, hcs⟩ : ∃ cs, cs = c.s := ⟨_, rfl⟩
    rw [← hst, ← hag, ← hcs] at HC
    simp only [← hst, ← hag, ← hcs]
    clear hy hk hst hag hcs
    cases st
    · go_enter Try.func103, Try.ntmps103
      go_wp2_with (go_at_call 33; refine (HC.out _ (H.out.alloc _)).mono ?_; rintro e w1 ⟨rfl, hc, hu⟩; have HCC := Lib.hid hc; have HU := Lib.hid (((Upd.refl [b] w).alloc _).trans hu (fun _ h => .inl h)); clear hc hu)
      go_quiet (fail)
      go_wp2
      go_returns
      exact ⟨rfl, (HCC.out.alloc _).drewN _, (HU.out.alloc _).drewN _⟩
    · go_enter Try.func103, Try.ntmps103
      go_wp2_with (go_at_call 33; refine (HC.out _ (H.out.alloc _)).mono ?_; rintro e w1 ⟨rfl, hc, hu⟩; have HCC := Lib.hid hc; have HU := Lib.hid (((Upd.refl [b] w).alloc _).trans hu (fun _ h => .inl h)); clear hc hu)
      go_quiet (fail)
      go_wp2
      go_returns
      exact ⟨rfl, (HCC.out.alloc _).drewN _, (HU.out.alloc _).drewN _⟩
  · simp only [if_neg hy]
    obtain ⟨q, hq⟩ : ∃ q, q = whyI c k := ⟨_, rfl⟩
    have HC := Lib.hid (fun w' hh => read_no b c k now w' hh HO.out (by simpa using hy))
    rw [← hq] at HC hy
    have hq0 : (q == 0) = false := by simpa using hy
    clear hq hy
    go_enter Try.func103, Try.ntmps103
    go_wp2_with (go_at_call 33; refine (HC.out _ (H.out.alloc _)).mono ?_; rintro e w1 ⟨rfl, hu⟩; have HU := Lib.hid (((Upd.refl [] w).alloc _).trans hu (fun _ h => .inl h)); clear hu)
    go_returns
    exact ⟨rfl, (H.out.upd HU.out (by simp)).alloc _, (HU.out.mono (by simp)).alloc _⟩
end Go.Proofs.Ytdfjjhpnhaggjaa
