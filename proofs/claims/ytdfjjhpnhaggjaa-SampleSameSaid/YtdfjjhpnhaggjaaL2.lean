/- The law's own walks: one act at both channels, the other ways. -/
import Derived.Test.YtdfjjhpnhaggjaaL1
namespace Go.Proofs.Ytdfjjhpnhaggjaa
open Go.RowKit Go.Mem




theorem box_cells {w w' : World} {B : Nat} {a b c d : Value} (hB : B = w.heap.size) {S : List Nat} (hS : w.heap.size ∉ S) (hu : Upd S (w.alloc (.cells #[a, b, c, d] 39)) w') :
    w'.cell? ⟨B, 1, none⟩ = some b ∧ w'.cell? ⟨B, 2, none⟩ = some c ∧ w'.cell? ⟨B, 3, none⟩ = some d ∧ B < w'.heap.size := by
  subst hB
  have h := (Blk.new w [a, b, c, d] 39).upd hu hS
  exact ⟨h.at 1 rfl, h.at 2 rfl, h.at 3 rfl, h.lt⟩
theorem got_cells {w1 w2 : World} {n : Nat} {x y z : Value} {fp : List Nat} (hfp : ∀ k ∈ fp, k < n) (hn : n < w1.heap.size) (hu : Upd fp (w1.alloc (.cells #[x, y, z] 85)) w2) :
    w2.cell? ⟨w1.heap.size, 0, none⟩ = some x ∧ w2.cell? ⟨w1.heap.size, 1, none⟩ = some y ∧ w2.cell? ⟨w1.heap.size, 2, none⟩ = some z := by
  have h := (Blk.new w1 [x, y, z] 85).upd hu (by intro hm; have := hfp _ hm; omega)
  exact ⟨h.at 0 rfl, h.at 1 rfl, h.at 2 rfl⟩

set_option maxHeartbeats 400000 in
theorem one_write_ok (w : World) (b r : Nat) (fp : List Nat) (m val e : Int) (L : List Wr) (h : Pair w b r fp m val e L) (hs : Shp m val e) (ho : LOk L) (wh t : Int) (s : ByteArray) (en : Int)
    (h0 : 0 ≤ wh) (h1 : wh ≤ 255) (hw : wh % 5 < 2) (hl : (s.size : Int) ≤ m) :
    Calls Try.prog 11 #[.pointer (some ⟨b, 0, none⟩), .pointer (some ⟨r, 0, none⟩), .agg #[.int .u8 wh, .int .u64 t, .string s, .int .i64 en]] w fun y w' => y = .returned (.bool true) ∧
      PairStep b r fp m val e (L ++ [⟨t, s, []⟩]) w w' := by
  have hA := ((Upd.refl [] w).alloc (.cells #[.int .u8 wh, .int .u64 t, .string s, .int .i64 en] 39))
  have hbn : w.heap.size ∉ [b] := by have := h.ch.lt; simp; omega
  have HC := Lib.hid (write_ok b (absL m val e L) t s _ (h.ch.upd hA (by simp)) (absL_ok hs ho) (by rw [absL_most]; exact hl))
  have HR := Lib.hid (fun (w' : World) (hu : Upd [b] (w.alloc (.cells #[.int .u8 wh, .int .u64 t, .string s, .int .i64 en] 39)) w') => rwrite_ok w' fp r m val e t s L ((h.rf.upd hA (by simp)).upd hu (by intro k hk hk'; simp at hk'; subst hk'; exact h.no hk)) hl ho.len)
  have HB := Lib.hid (fun (w' : World) (hu : Upd [b] (w.alloc (.cells #[.int .u8 wh, .int .u64 t, .string s, .int .i64 en] 39)) w') => box_cells rfl hbn hu)
  have HF := Lib.hid (fun (w1 w2 : World) (hc : IsCh w1 b ((absL m val e L).put t s)) hu hr => Pair.step (w1 := w1) (w2 := w2) (L' := L ++ [⟨t, s, []⟩]) h _ hA (by rw [← absL_write hs]; exact hc) hu hr)
  clear h hs ho hA hbn
  go_enter Try.func11, Try.ntmps11
  go_wp2_with (first | (go_at_call 30; refine HC.out.mono ?_; rintro e w1 ⟨rfl, hc, hu⟩; obtain ⟨k1, k2, k3, k4⟩ := HB.out _ hu; have HCC := Lib.hid hc; have HUU := Lib.hid hu; clear hc hu) | (go_at_call 32; refine (HR.out _ HUU.out).mono ?_; rintro e w2 ⟨rfl, hr⟩; have HRR := Lib.hid hr; clear hr))
  go_ret
  exact ⟨rfl, HF.out _ _ HCC.out HUU.out HRR.out⟩

set_option maxHeartbeats 1000000 in
theorem one_read_no (w : World) (b r : Nat) (fp : List Nat) (m val e : Int) (L : List Wr) (h : Pair w b r fp m val e L) (hs : Shp m val e) (ho : LOk L) (wh t : Int) (s : ByteArray) (en : Int)
    (h0 : 0 ≤ wh) (h1 : wh ≤ 255) (ht0 : 0 ≤ t) (ht1 : t < 18446744073709551616) (hw : ¬ wh % 5 < 2) (hy : whyI (absL m val e L) en ≠ 0) :
    Calls Try.prog 11 #[.pointer (some ⟨b, 0, none⟩), .pointer (some ⟨r, 0, none⟩), .agg #[.int .u8 wh, .int .u64 t, .string s, .int .i64 en]] w fun y w' => y = .returned (.bool true) ∧
      PairStep b r fp m val e (rdNext e L en) w w' := by
  have hA := ((Upd.refl [] w).alloc (.cells #[.int .u8 wh, .int .u64 t, .string s, .int .i64 en] 39))
  have hout : rdOut val e L en t = (⟨#[]⟩, 0, false, whyI (absL m val e L) en) := by
    have h2 := (rdNext_abs (j := en) hs ho)
    unfold whyI at hy ⊢
    rw [absL_ends] at hy ⊢
    unfold rdOut
    by_cases hj : en < 0 ∨ e ≤ en
    · rw [if_pos hj]
      rcases hj with hj | hj
      · rw [if_pos hj]
      · rw [if_pos hj]; split <;> rfl
    · rw [if_neg hj, if_neg (by omega), if_neg (by omega)]
      rw [if_neg (by omega), if_neg (by omega)] at hy
      rcases nil_or_snoc L with rfl | ⟨L0, x, rfl⟩
      · simp [absL_nil]
      · simp [absL_snoc] at hy
  have hnx : rdNext e L en = L := (rdNext_abs hs ho).2 hy
  obtain ⟨q, hq⟩ : ∃ q, q = whyI (absL m val e L) en := ⟨_, rfl⟩
  have hq0 : (q == 0) = false := by rw [hq]; simpa using hy
  have hC := fun (w' : World) (hu : Upd [] w w') => read_no b (absL m val e L) en t w' (h.ch.upd hu (by simp)) (absL_ok hs ho) (by simpa using hy)
  rw [← hq] at hC
  have hR := fun (w' : World) (hu : Upd [] w w') => rread_calls w' fp r m val e en t L (h.rf.upd hu (by simp)) ho hs.v0 hs.v1 ht0 ht1
  rw [hout, ← hq] at hR
  rw [hnx] at hR ⊢
  have HC := Lib.hid (hC _ hA)
  have HR := Lib.hid hR
  have HA := Lib.hid hA
  have HB := Lib.hid (fun (w' : World) (hu : Upd [] (w.alloc (.cells #[.int .u8 wh, .int .u64 t, .string s, .int .i64 en] 39)) w') => box_cells rfl (by simp) hu)
  have HF := Lib.hid (fun (w1 w2 : World) (hu : Upd [] w w1) hr => Pair.step (w1 := w1) (w2 := w2) (L' := L) h w (Upd.refl _ _) (h.ch.upd hu (by simp)) (hu.mono (by simp)) hr)
  have HG := Lib.hid h.rf.lt
  clear h hs ho hA hout hnx hq hC hR hy
  go_enter Try.func11, Try.ntmps11
  go_wp2_with (first | (go_at_call 33; refine HC.out.mono ?_; rintro e w1 ⟨rfl, hu⟩; obtain ⟨k1, k2, k3, k4⟩ := HB.out _ hu; have HUU := Lib.hid (HA.out.trans hu (by simp)); clear hu) | (go_at_call 34; refine (HR.out _ (HUU.out.alloc _)).mono ?_; rintro e w2 ⟨rfl, hr⟩; obtain ⟨g0, g1, g2⟩ := got_cells HG.out k4 hr.choose_spec.2.1; have HRR := Lib.hid hr; clear hr))
  go_ret
  exact ⟨rfl, HF.out _ _ (HUU.out.alloc _) HRR.out⟩

set_option maxHeartbeats 1000000 in
theorem one_read_ok (w : World) (b r : Nat) (fp : List Nat) (m val e : Int) (L : List Wr) (h : Pair w b r fp m val e L) (hs : Shp m val e) (ho : LOk L) (wh t : Int) (s : ByteArray) (en : Int)
    (h0 : 0 ≤ wh) (h1 : wh ≤ 255) (ht0 : 0 ≤ t) (ht1 : t < 18446744073709551616) (hw : ¬ wh % 5 < 2) (hy : whyI (absL m val e L) en = 0) :
    Calls Try.prog 11 #[.pointer (some ⟨b, 0, none⟩), .pointer (some ⟨r, 0, none⟩), .agg #[.int .u8 wh, .int .u64 t, .string s, .int .i64 en]] w fun y w' => y = .returned (.bool true) ∧
      PairStep b r fp m val e (rdNext e L en) w w' := by
  have hA := ((Upd.refl [] w).alloc (.cells #[.int .u8 wh, .int .u64 t, .string s, .int .i64 en] 39))
  have hbn : w.heap.size ∉ [b] := by have := h.ch.lt; simp; omega
  obtain ⟨j0, j1, hseen⟩ := (rdNext_abs hs ho).1 hy
  have hhas : (absL m val e L).has = true := by
    unfold whyI at hy
    rw [absL_ends, if_neg (by omega), if_neg (by omega)] at hy
    cases hb : (absL m val e L).has
    · rw [hb] at hy; simp at hy
    · rfl
  obtain ⟨k, rfl⟩ := Int.eq_ofNat_of_zero_le j0
  have hC := read_ok b (absL m val e L) k t _ (h.ch.upd hA (by simp)) (absL_ok hs ho) (by rw [absL_ends]; exact j1) hhas ht0 ht1
  have hR := fun (w' : World) (hu : Upd [b] w w') => rread_calls w' fp r m val e k t L (h.rf.upd hu (by intro k hk hk'; simp at hk'; subst hk'; exact h.no hk)) ho hs.v0 hs.v1 ht0 ht1
  have hout : rdOut val e L k t = ((absL m val e L).s, ageI (absL m val e L) t, staleB (absL m val e L) t, 0) := by
    unfold rdOut
    rw [if_neg (by omega)]
    rcases nil_or_snoc L with rfl | ⟨L0, x, rfl⟩
    · simp [absL_nil] at hhas
    · simp [absL_snoc, ageI, staleB, rage]
      exact decide_eq_decide.2 Iff.rfl
  rw [hout] at hR
  obtain ⟨S, hS⟩ : ∃ S, S = (absL m val e L).s := ⟨_, rfl⟩
  obtain ⟨A, hAA⟩ : ∃ A, A = ageI (absL m val e L) t := ⟨_, rfl⟩
  obtain ⟨Z, hZ⟩ : ∃ Z, Z = staleB (absL m val e L) t := ⟨_, rfl⟩
  rw [← hS, ← hAA, ← hZ] at hC hR
  rw [Int.toNat_natCast] at hseen
  rw [hseen] at hC
  have HC := Lib.hid hC
  have HR := Lib.hid hR
  have HA := Lib.hid hA
  have HB := Lib.hid (fun (w' : World) (hu : Upd [b] (w.alloc (.cells #[.int .u8 wh, .int .u64 t, .string s, .int .i64 (k : Int)] 39)) w') => box_cells rfl hbn hu)
  have HF := Lib.hid (fun (w1 w2 : World) (hu : Upd [b] w w1) hc hr => Pair.step (w1 := w1) (w2 := w2) (L' := rdNext e L k) h w (Upd.refl _ _) hc hu hr)
  have HG := Lib.hid h.rf.lt
  clear h hs ho hA hbn hout hC hR hy hhas hseen hS hAA hZ
  go_enter Try.func11, Try.ntmps11
  go_wp2_with (first | (go_at_call 33; refine HC.out.mono ?_; rintro e w1 ⟨rfl, hc, hu⟩; obtain ⟨k1, k2, k3, k4⟩ := HB.out _ hu; have HCC := Lib.hid hc; have HUU := Lib.hid ((HA.out.mono (T := [b]) (by simp)).trans hu (by simp)); clear hu hc) | (go_at_call 34; refine (HR.out _ (HUU.out.alloc _)).mono ?_; rintro e w2 ⟨rfl, hr⟩; obtain ⟨g0, g1, g2⟩ := got_cells HG.out k4 hr.choose_spec.2.1; have HRR := Lib.hid hr; clear hr))
  go_ret
  exact ⟨rfl, HF.out _ _ (HUU.out.alloc _) (HCC.out.alloc _) HRR.out⟩

theorem pair_same {w w' : World} {b r : Nat} {fp : List Nat} {m val e : Int} {L : List Wr} (h : Pair w b r fp m val e L) (hu : Upd [] w w') : PairStep b r fp m val e L w w' :=
  ⟨fp, ⟨h.ch.upd hu (by simp), h.rf.upd hu (by simp), h.no⟩, hu.mono (by simp), fun _ hk => .inl hk⟩

theorem one_calls (w : World) (b r : Nat) (fp : List Nat) (m val e : Int) (L : List Wr) (h : Pair w b r fp m val e L) (hs : Shp m val e) (ho : LOk L) (wh t : Int) (s : ByteArray) (en : Int)
    (h0 : 0 ≤ wh) (h1 : wh ≤ 255) (ht0 : 0 ≤ t) (ht1 : t < 18446744073709551616) :
    Calls Try.prog 11 #[.pointer (some ⟨b, 0, none⟩), .pointer (some ⟨r, 0, none⟩), .agg #[.int .u8 wh, .int .u64 t, .string s, .int .i64 en]] w fun y w' => y = .returned (.bool true) ∧
      PairStep b r fp m val e (actNext m e L wh t s en) w w' := by
  unfold actNext
  by_cases hw : wh % 5 < 2
  · rw [if_pos hw]
    by_cases hl : (s.size : Int) ≤ m
    · rw [if_pos hl]
      exact one_write_ok w b r fp m val e L h hs ho wh t s en h0 h1 hw hl
    · rw [if_neg hl]
      exact (one_write_long w b r fp m val e L h hs ho wh t s en h0 h1 hw (by omega)).mono fun _ _ ⟨h1, h2⟩ => ⟨h1, pair_same h h2⟩
  · rw [if_neg hw]
    by_cases hy : whyI (absL m val e L) en = 0
    · exact one_read_ok w b r fp m val e L h hs ho wh t s en h0 h1 ht0 ht1 hw hy
    · exact one_read_no w b r fp m val e L h hs ho wh t s en h0 h1 ht0 ht1 hw hy
end Go.Proofs.Ytdfjjhpnhaggjaa
