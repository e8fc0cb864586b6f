/- The law's own walks: few, works and what it calls. -/
import Derived.Test.YtdfjjhpnhaggjaaL2
namespace Go.Proofs.Ytdfjjhpnhaggjaa
open Go.RowKit Go.Mem

set_option maxHeartbeats 400000 in
theorem fails_calls (b : Nat) (c : Chn) (e q : Int) (w : World) (h : IsCh w b c) (ho : c.Ok) (hq : whyI c e = q) (hne : (q == 0) = false) :
    Calls Try.prog 28 #[.pointer (some ⟨b, 0, none⟩), .int .i64 e, .int .i64 q] w fun y w' => y = .returned (.bool true) ∧ Upd [] w w' := by
  have hC := read_no b c e 0 w h ho (by rw [hq]; exact hne)
  rw [hq] at hC
  have HC := Lib.hid hC
  clear h ho hq hC
  go_enter Try.func28, Try.ntmps28
  go_wp2_with (go_at_call 33; refine HC.out.mono ?_; rintro e w1 ⟨rfl, hu⟩; have HU := Lib.hid hu; clear hu)
  go_ret
  exact ⟨rfl, HU.out.alloc _⟩

set_option maxHeartbeats 400000 in
theorem got_calls (b : Nat) (c : Chn) (k : Nat) (t : Int) (w : World) (h : IsCh w b c) (ho : c.Ok) (h1 : (k : Int) < c.ends) (hh : c.has = true) (ht0 : 0 ≤ t) (ht1 : t < 18446744073709551616)
    (s : ByteArray) (a : Int) (z : Bool) (hs : c.s = s) (ha : ageI c t = a) (hz : staleB c t = z) :
    Calls Try.prog 31 #[.pointer (some ⟨b, 0, none⟩), .int .i64 k, .int .u64 t, .string s, .int .u64 a, .bool z] w fun y w' => y = .returned (.bool true) ∧ IsCh w' b (c.seen k) ∧ Upd [b] w w' := by
  have hC := read_ok b c k t w h ho h1 hh ht0 ht1
  rw [hs, ha, hz] at hC
  have HC := Lib.hid hC
  clear h ho hs ha hz hC hh h1 ht0 ht1
  go_enter Try.func31, Try.ntmps31
  go_wp2_with (go_at_call 33; refine HC.out.mono ?_; rintro e w1 ⟨rfl, hc, hu⟩; have HU := Lib.hid hu; have HCC := Lib.hid hc; clear hu hc)
  go_ret
  exact ⟨rfl, HCC.out.alloc _, HU.out.alloc _⟩

def cw0 : Chn := ⟨4, 10, 2, false, ⟨#[]⟩, 0, List.replicate 16 false⟩
def cw1 : Chn := cw0.put 7 ⟨#[97, 98]⟩
def cw2 : Chn := cw1.seen 0
theorem cw0_ok : cw0.Ok := ⟨by decide, by decide, by decide, by decide, rfl, by decide, by decide, by decide, by decide⟩
theorem cw1_ok : cw1.Ok := ⟨by decide, by decide, by decide, by decide, rfl, by decide, by decide, by decide, by decide⟩
theorem cw2_ok : cw2.Ok := ⟨by decide, by decide, by decide, by decide, rfl, by decide, by decide, by decide, by decide⟩

set_option maxHeartbeats 1000000 in
theorem works_calls (w : World) : Calls Try.prog 10 #[] w fun y w' => y = .returned (.bool true) ∧ Upd [] w w' := by
  go_enter Try.func10, Try.ntmps10
  go_wp2_with fail
  refine (new_ok 4 10 2 _ (by omega) (by omega) (by omega) (by omega)).mono ?_
  rintro e w1 ⟨rfl, hc, hu⟩
  have H0 : Hid (IsCh w1 w.heap.size cw0) := hc
  have U0 := Lib.hid hu
  clear hc hu
  go_wp2_with fail
  refine (fails_calls _ cw0 _ _ _ H0.out cw0_ok (by decide) (by decide)).mono ?_
  rintro e w2 ⟨rfl, hu⟩
  have H1 := Lib.hid (Blk.upd H0.out hu (by simp))
  have U1 := Lib.hid (U0.out.trans hu (by simp))
  clear hu H0 U0
  go_wp2_with fail
  refine (fresh_calls _ cw0 _ _ H1.out cw0_ok).mono ?_
  rintro e w' ⟨rfl, rfl⟩
  rw [show freshB cw0 0 = false by decide]
  go_wp2_with fail
  refine (write_long _ cw0 _ _ _ H1.out cw0_ok (by decide)).mono ?_
  rintro e w' ⟨rfl, rfl⟩
  go_wp2_with fail
  refine (write_ok _ cw0 _ _ _ H1.out cw0_ok (by decide)).mono ?_
  rintro e w3 ⟨rfl, hc, hu⟩
  have H2 : Hid (IsCh w3 w.heap.size cw1) := hc
  have U2 := Lib.hid (U1.out.trans hu (by intro x hx; simp at hx; right; omega))
  clear hc hu H1 U1
  go_wp2_with fail
  refine (fresh_calls _ cw1 _ _ H2.out cw1_ok).mono ?_
  rintro e w' ⟨rfl, rfl⟩
  rw [show freshB cw1 0 = true by decide]
  go_wp2_with fail
  refine (fresh_calls _ cw1 _ _ H2.out cw1_ok).mono ?_
  rintro e w' ⟨rfl, rfl⟩
  rw [show freshB cw1 1 = true by decide]
  go_wp2_with fail
  refine (got_calls _ cw1 0 9 _ H2.out cw1_ok (by decide) (by decide) (by omega) (by omega) ⟨#[97, 98]⟩ 2 false rfl (by decide) (by decide)).mono ?_
  rintro e w4 ⟨rfl, hc, hu⟩
  have H3 : Hid (IsCh w4 w.heap.size cw2) := hc
  have U3 := Lib.hid (U2.out.trans hu (by intro x hx; simp at hx; right; omega))
  clear hc hu H2 U2
  go_wp2_with fail
  refine (fresh_calls _ cw2 _ _ H3.out cw2_ok).mono ?_
  rintro e w' ⟨rfl, rfl⟩
  rw [show freshB cw2 0 = false by decide]
  go_wp2_with fail
  refine (fresh_calls _ cw2 _ _ H3.out cw2_ok).mono ?_
  rintro e w' ⟨rfl, rfl⟩
  rw [show freshB cw2 1 = true by decide]
  go_wp2_with fail
  go_ret
  exact ⟨rfl, U3.out⟩
end Go.Proofs.Ytdfjjhpnhaggjaa
