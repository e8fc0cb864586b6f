/- The law SampleSame itself: the walk, where it is not gone through; and all ways together. -/
import Derived.Test.YtdfjjhpnhaggjaaL6
namespace Go.Proofs.Ytdfjjhpnhaggjaa
open Go.RowKit Go.Mem

theorem shp_of {m val e : Int} (h : mayI m e = true) (v0 : 0 ≤ val) (v1 : val < 4294967296) : Shp m val e := by
  simp only [mayI, Bool.and_eq_true, decide_eq_true_eq] at h
  exact ⟨h.1.1.1, h.1.1.2, h.1.2, h.2, v0, v1⟩

/-- New, whatever it is asked for: what the error is, and that nothing that was there has turned. -/
theorem new_any (m val e : Int) (w : World) : ∃ p, Calls Try.prog 8 #[.int .i64 m, .int .u32 val, .int .i64 e] w fun r w' => r = .returned (.tuple #[.pointer p, .int .i64 (if mayI m e then 0 else 2)]) ∧ Upd [] w w' := by
  by_cases h : mayI m e = true
  · obtain ⟨h1, h2, h3, h4, -, -⟩ := shp_of (val := 0) h (by omega) (by omega)
    exact ⟨_, (new_ok m val e w h1 h2 h3 h4).mono fun r w' ⟨hr, _, hu⟩ => ⟨by rw [hr, if_pos h], hu⟩⟩
  · exact ⟨_, (new_no m val e w (by simpa using h)).mono fun r w' ⟨hr, hw⟩ => ⟨by rw [hr, if_neg h], hw ▸ Upd.refl _ _⟩⟩

theorem box6 {w w' : World} {a b c d e f : Value} (hu : Upd [] (w.alloc (.cells #[a, b, c, d, e, f] 25)) w') :
    w'.cell? ⟨w.heap.size, 3, none⟩ = some d ∧ w'.cell? ⟨w.heap.size, 4, none⟩ = some e ∧ w'.cell? ⟨w.heap.size, 5, none⟩ = some f := by
  have h := (Blk.new w [a, b, c, d, e, f] 25).upd hu (by simp)
  exact ⟨h.at 3 rfl, h.at 4 rfl, h.at 5 rfl⟩

set_option maxRecDepth 20000 in
set_option maxHeartbeats 2000000 in
theorem same_other (w : World) (m val e m' val' e' : Int) (va vb : Value) (A B : List Act18) (hA : IsActs w va A) (hB : IsActs w vb B) (hl : A.length ≤ maxLen) (hl' : B.length ≤ maxLen)
    (h : (mayI m e && mayI m' e' && fewB A && fewB B) = false) :
    Calls Try.prog 3 #[.agg #[.int .i64 m, .int .u32 val, .int .i64 e, .int .i64 m', .int .u32 val', .int .i64 e'], va, vb] w fun y w' => y = .returned (.bool true) ∧ Upd [] w w' := by
  obtain ⟨q, hq⟩ : ∃ q : Int, q = if mayI m e then 0 else 2 := ⟨_, rfl⟩
  obtain ⟨q', hq'⟩ : ∃ q : Int, q = if mayI m' e' then 0 else 2 := ⟨_, rfl⟩
  have n1 : ∀ W, ∃ p, Calls Try.prog 8 #[.int .i64 m, .int .u32 val, .int .i64 e] W fun r w' => r = .returned (.tuple #[.pointer p, .int .i64 q]) ∧ Upd [] W w' := by rw [hq]; exact fun W => new_any m val e W
  have n2 : ∀ W, ∃ p, Calls Try.prog 8 #[.int .i64 m', .int .u32 val', .int .i64 e'] W fun r w' => r = .returned (.tuple #[.pointer p, .int .i64 q']) ∧ Upd [] W w' := by rw [hq']; exact fun W => new_any m' val' e' W
  have N1 := Lib.hid n1
  have N2 := Lib.hid n2
  have HA := Lib.hid hA
  have HB := Lib.hid hB
  have HL := Lib.hid hl
  have HL' := Lib.hid hl'
  by_cases c1 : mayI m e = true
  · have z1 : (q != 0) = false := by rw [hq, if_pos c1]; rfl
    by_cases c2 : mayI m' e' = true
    · have z2 : (q' != 0) = false := by rw [hq', if_pos c2]; rfl
      by_cases c3 : fewB A = true
      · have c4 : fewB B = false := by simpa [c1, c2, c3] using h
        have F3 := Lib.hid c3
        have F4 := Lib.hid c4
        clear n1 n2 hA hB hl hl' hq hq' c1 c2 c3 c4 h
        go_enter Try.func3, Try.ntmps3
        go_wp2_with fail
        obtain ⟨p, hp⟩ := N1.out (w.alloc (.cells #[.int .i64 m, .int .u32 val, .int .i64 e, .int .i64 m', .int .u32 val', .int .i64 e'] 25))
        refine hp.mono ?_
        rintro r w1 ⟨rfl, hu⟩
        obtain ⟨b3, b4, b5⟩ := box6 hu
        have HU := Lib.hid (((Upd.refl [] w).alloc _).trans hu (by simp))
        clear hp hu
        go_wp2_with fail
        obtain ⟨p', hp⟩ := N2.out w1
        refine hp.mono ?_
        rintro r w2 ⟨rfl, hu⟩
        have HU2 := Lib.hid (HU.out.trans hu (by simp))
        clear hp hu b3 b4 b5 HU
        go_wp2_with fail
        refine (few_calls _ A _ (HA.out.upd HU2.out (by simp)) HL.out).mono ?_
        rintro r w' ⟨rfl, rfl⟩
        rw [F3.out]
        go_wp2_with fail
        refine (few_calls _ B _ (HB.out.upd HU2.out (by simp)) HL'.out).mono ?_
        rintro r w' ⟨rfl, rfl⟩
        rw [F4.out]
        go_wp2_with fail
        refine (works_calls _).mono ?_
        rintro r w3 ⟨rfl, hu⟩
        have HU3 := Lib.hid (HU2.out.trans hu (by simp))
        clear hu
        go_wp2_with fail
        go_ret
        exact ⟨rfl, HU3.out⟩
      · have c3' : fewB A = false := by simpa using c3
        have F3 := Lib.hid c3'
        clear n1 n2 hA hB hl hl' hq hq' c1 c2 c3 c3' h
        go_enter Try.func3, Try.ntmps3
        go_wp2_with fail
        obtain ⟨p, hp⟩ := N1.out (w.alloc (.cells #[.int .i64 m, .int .u32 val, .int .i64 e, .int .i64 m', .int .u32 val', .int .i64 e'] 25))
        refine hp.mono ?_
        rintro r w1 ⟨rfl, hu⟩
        obtain ⟨b3, b4, b5⟩ := box6 hu
        have HU := Lib.hid (((Upd.refl [] w).alloc _).trans hu (by simp))
        clear hp hu
        go_wp2_with fail
        obtain ⟨p', hp⟩ := N2.out w1
        refine hp.mono ?_
        rintro r w2 ⟨rfl, hu⟩
        have HU2 := Lib.hid (HU.out.trans hu (by simp))
        clear hp hu b3 b4 b5 HU
        go_wp2_with fail
        refine (few_calls _ A _ (HA.out.upd HU2.out (by simp)) HL.out).mono ?_
        rintro r w' ⟨rfl, rfl⟩
        rw [F3.out]
        go_wp2_with fail
        refine (works_calls _).mono ?_
        rintro r w3 ⟨rfl, hu⟩
        have HU3 := Lib.hid (HU2.out.trans hu (by simp))
        clear hu
        go_wp2_with fail
        go_ret
        exact ⟨rfl, HU3.out⟩
    · have z2 : (q' != 0) = true := by rw [hq', if_neg c2]; rfl
      clear n1 n2 hA hB hl hl' hq hq' c1 c2 h
      go_enter Try.func3, Try.ntmps3
      go_wp2_with fail
      obtain ⟨p, hp⟩ := N1.out (w.alloc (.cells #[.int .i64 m, .int .u32 val, .int .i64 e, .int .i64 m', .int .u32 val', .int .i64 e'] 25))
      refine hp.mono ?_
      rintro r w1 ⟨rfl, hu⟩
      obtain ⟨b3, b4, b5⟩ := box6 hu
      have HU := Lib.hid (((Upd.refl [] w).alloc _).trans hu (by simp))
      clear hp hu
      go_wp2_with fail
      obtain ⟨p', hp⟩ := N2.out w1
      refine hp.mono ?_
      rintro r w2 ⟨rfl, hu⟩
      have HU2 := Lib.hid (HU.out.trans hu (by simp))
      clear hp hu b3 b4 b5 HU
      go_wp2_with fail
      refine (works_calls _).mono ?_
      rintro r w3 ⟨rfl, hu⟩
      have HU3 := Lib.hid (HU2.out.trans hu (by simp))
      clear hu
      go_wp2_with fail
      go_ret
      exact ⟨rfl, HU3.out⟩
  · have z1 : (q != 0) = true := by rw [hq, if_neg c1]; rfl
    clear n1 n2 hA hB hl hl' hq hq' c1 h
    go_enter Try.func3, Try.ntmps3
    go_wp2_with fail
    obtain ⟨p, hp⟩ := N1.out (w.alloc (.cells #[.int .i64 m, .int .u32 val, .int .i64 e, .int .i64 m', .int .u32 val', .int .i64 e'] 25))
    refine hp.mono ?_
    rintro r w1 ⟨rfl, hu⟩
    obtain ⟨b3, b4, b5⟩ := box6 hu
    have HU := Lib.hid (((Upd.refl [] w).alloc _).trans hu (by simp))
    clear hp hu
    go_wp2_with fail
    obtain ⟨p', hp⟩ := N2.out w1
    refine hp.mono ?_
    rintro r w2 ⟨rfl, hu⟩
    have HU2 := Lib.hid (HU.out.trans hu (by simp))
    clear hp hu b3 b4 b5 HU
    go_wp2_with fail
    refine (works_calls _).mono ?_
    rintro r w3 ⟨rfl, hu⟩
    have HU3 := Lib.hid (HU2.out.trans hu (by simp))
    clear hu
    go_wp2_with fail
    go_ret
    exact ⟨rfl, HU3.out⟩

theorem same_all (w : World) (m val e m' val' e' : Int) (va vb : Value) (A B : List Act18) (hA : IsActs w va A) (hB : IsActs w vb B) (hAo : ∀ x ∈ A, x.Ok) (hBo : ∀ x ∈ B, x.Ok) (hl : A.length ≤ maxLen) (hl' : B.length ≤ maxLen)
    (v0 : 0 ≤ val) (v1 : val < 4294967296) (v0' : 0 ≤ val') (v1' : val' < 4294967296) :
    Calls Try.prog 3 #[.agg #[.int .i64 m, .int .u32 val, .int .i64 e, .int .i64 m', .int .u32 val', .int .i64 e'], va, vb] w fun y w' => y = .returned (.bool true) ∧ Upd [] w w' := by
  by_cases h : (mayI m e && mayI m' e' && fewB A && fewB B) = true
  · simp only [Bool.and_eq_true] at h
    exact same_main w m val e m' val' e' va vb A B hA hB hAo hBo hl hl' (shp_of h.1.1.1 v0 v1) (shp_of h.1.1.2 v0' v1') h.1.2 h.2
  · exact same_other w m val e m' val' e' va vb A B hA hB hl hl' (by simpa using h)
end Go.Proofs.Ytdfjjhpnhaggjaa
