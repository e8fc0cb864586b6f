/- does: a Waiting, walked; and any act. -/
import Derived.Test.YtdfjjhpnhaggjaaK32
namespace Go.Proofs.Ytdfjjhpnhaggjaa
open Go.RowKit Go.Mem

set_option maxRecDepth 100000 in
set_option maxHeartbeats 20000000 in
theorem does_wait (T : Nat) (g now : Int) (m : List Bool) (P : List Item) (fp : List Nat) (a : Act) (w : World) (h : Tab w fp T g now m P) (hg : 0 < g) (ha : a.Ok) (hP : Good P) (hI : InG g P)
    (hw : a.what % 8 = 6) :
    Calls Try.prog 20 #[.pointer (some ⟨T, 0, none⟩), .agg a.cells.toArray] w fun e w' => e = .returned (.agg (tell a now P).cells.toArray) ∧ Tab w' fp T g (nowA a now) m (itemsA a now P) ∧ Upd fp w w' := by
  have hlt := h.lt
  have htell : tell a now P = ⟨⟨#[]⟩, 0, 0, stWait (a.guest, a.port) P⟩ := by unfold tell; rw [if_neg (by omega), if_pos hw]
  have hnow : nowA a now = now := by unfold nowA; rw [if_neg (by omega)]
  have hit : itemsA a now P = P := by unfold itemsA; rw [if_neg (by omega), if_pos hw]
  rw [htell, hnow, hit]
  clear htell hnow hit
  obtain ⟨what, gu, po, s, step, by'⟩ := a
  simp only at hw
  simp only [Act.cells]
  have w0 := ha.w0
  simp only at w0
  have HL := Lib.hid (fun (w' : World) (hu : Upd [] w w') => link_any (gu := gu) (h.upd hu (by simp)) hg ha.g0 ha.g1)
  have HC := Lib.hid (fun (w' : World) (hu : Upd [] w w') => twaits_calls T g now m P fp gu po w' (h.upd hu (by simp)) hg ⟨ha.g0, ha.g1, ha.p0, ha.p1⟩ hP)
  have HD := Lib.hid (fun (w' : World) (v : Value) (hu : Upd [] w w') (hv : LinkV w' v T gu g) => lkwait_any (po := po) hv hI (h.upd hu (by simp)) hg ⟨ha.g0, ha.g1, ha.p0, ha.p1⟩ hP)
  obtain ⟨r, hr⟩ : ∃ r, r = stWait (gu, po) P := ⟨_, rfl⟩
  rw [← hr] at HC HD ⊢
  have HLT := Lib.hid hlt
  have HTT := Lib.hid h
  clear h hg ha hP hr hlt hI
  have z3 : (what % 8 == 3) = _ := congrArg (· == (3 : Int)) hw
  have z4 : (what % 8 == 4) = _ := congrArg (· == (4 : Int)) hw
  have z5 : (what % 8 == 5) = _ := congrArg (· == (5 : Int)) hw
  have z6 : (what % 8 == 6) = _ := congrArg (· == (6 : Int)) hw
  simp only [Int.reduceBEq] at z3 z4 z5 z6
  clear hw
  cases by'
  all_goals
    go_enter Try.func20, Try.ntmps20
    go_wp2_with fail
    refine (HL.out _ (((Upd.refl _ _).alloc _).alloc _)).mono ?_
    rintro e w1 ⟨v, rfl, hv, hu⟩
    obtain ⟨hb0, hb1, hlt, hu1⟩ := does_boxes hu
    have x0 := hb0.at 0 rfl
    have x1 := hb0.at 1 rfl
    have x2 := hb0.at 2 rfl
    have x3 := hb0.at 5 rfl
    have hlt2 : w.heap.size < w1.heap.size := by omega
    have HV := Lib.hid hv
    have HB0 := Lib.hid hb0
    have HB1 := Lib.hid hb1
    have HU1 := Lib.hid hu1
    clear hu hb0 hb1 hu1 hv
    go_wp2_with fail
    refine (HC.out _ (HU1.out.alloc _)).mono ?_
    rintro e w2 ⟨rfl, h2⟩
    obtain ⟨hy, hv⟩ := does_mid (fp := []) (by simp) HB1.out hlt h2
    clear x0 x1 x2 x3 hlt2
    have hx := (HB0.out.alloc (.cells zeros.toArray 59)).upd h2 (by simp)
    have x2 := hx.at 2 rfl
    have x3 := hx.at 5 rfl
    have y0 := hy.at 0 rfl
    have y1 := hy.at 1 rfl
    have y2 := hy.at 2 rfl
    have y3 := hy.at 3 rfl
    have f3 := hy.free 3
  · have v0 := hv.at 0 rfl
    have v1 := hv.at 1 rfl
    have v2 := hv.at 2 rfl
    have v3 := hv.at 3 rfl
    have g0 := hv.free 0
    have g1 := hv.free 1
    have g2 := hv.free 2
    have g3 := hv.free 3
    have hlt2 : w.heap.size < w1.heap.size := by omega
    have H2 := Lib.hid (h2.mono (T := fp) (by simp))
    have H1 := Lib.hid (HTT.out.upd ((HU1.out.alloc (.cells zeros.toArray 59)).trans h2 (by simp)) (by simp))
    have HVV := Lib.hid hv
    clear hy hv h2 hx
    go_wp2_with fail
    generalize hw3 : World.setCell _ _ _ = w3
    have hr3 : Blk w3 (w.heap.size + 1) [.string ⟨#[]⟩, .int .u64 0, .int .u8 0, .int .i64 r] 59 := by
      rw [← hw3]
      exact fin1 HVV.out (by omega) _ _ _ _ _ _
    have hu3 : Upd [w1.heap.size, w.heap.size + 1] w2 w3 := by
      rw [← hw3]
      exact upd1 _ _ _ _ _ _
    have HE := Lib.hid (does_end HLT.out HU1.out hlt H2.out H1.out hu3)
    have r0 := hr3.at 0 rfl
    have r1 := hr3.at 1 rfl
    have r2 := hr3.at 2 rfl
    have r3 := hr3.at 3 rfl
    clear hw3 hr3 hu3 y0 y1 y2 y3 f3 v0 v1 v2 v3 g0 g1 g2 g3 x2 x3
    exact bodyPost_ret (v := .agg #[.string ⟨#[]⟩, .int .u64 0, .int .u8 0, .int .i64 r]) (by simp [results, Try.results20, go_sem, r0, r1, r2, r3]) rfl ⟨rfl, HE.out⟩
  · have hlt2 : w.heap.size < w1.heap.size := by omega
    have HVV := Lib.hid hv
    have HYY := Lib.hid hy
    have HXX := Lib.hid hx
    have H2 := Lib.hid h2
    clear hy hv h2 hx
    go_wp2_with fail
    generalize hw3 : World.setCell _ _ _ = w3
    have hu3 : Upd [w1.heap.size] w2 w3 := by rw [← hw3]; exact (Upd.refl _ _).setCell (.inl (by simp)) _
    have hy3 : Blk w3 w1.heap.size [.string ⟨#[]⟩, .int .u64 0, .int .u8 0, .int .i64 r] 59 := by
      rw [← hw3]
      have e := HYY.out.setCell 3 (.int .i64 r)
      exact e
    have HY3 := Lib.hid hy3
    have hv3 := HVV.out.upd hu3 (by simp; omega)
    have HV3 := Lib.hid hv3
    have hu4 : Upd [] w w3 := ((HU1.out.alloc (.cells zeros.toArray 59)).trans H2.out (by simp)).trans hu3 (by intro x hx; simp at hx; subst hx; right; omega)
    have HU4 := Lib.hid hu4
    have HLV := Lib.hid (show LinkV w3 v T gu g from by
      have h3 := HV.out
      rcases h3 with ⟨q1, L, q2, q3⟩ | q
      · refine .inl ⟨q1, L, q2, ?_⟩
        have q4 := q3.lt
        exact ((q3.alloc _).upd H2.out (by simp)).upd hu3 (by simp; omega)
      · exact .inr q)
    have x2 := (HXX.out.upd hu3 (by simp; omega)).at 2 rfl
    clear hy3 hu4 hw3 hv3 y0 y1 y2 y3 f3 x3
    refine (HD.out _ _ HU4.out HLV.out).mono ?_
    rintro e w4 ⟨rfl, h4⟩
    clear x2
    have hy := HY3.out.upd h4 (by simp)
    have hv := HV3.out.upd h4 (by simp)
    have y0 := hy.at 0 rfl
    have y1 := hy.at 1 rfl
    have y2 := hy.at 2 rfl
    have y3 := hy.at 3 rfl
    have f3 := hy.free 3
    have v0 := hv.at 0 rfl
    have v1 := hv.at 1 rfl
    have v2 := hv.at 2 rfl
    have v3 := hv.at 3 rfl
    have g0 := hv.free 0
    have g1 := hv.free 1
    have g2 := hv.free 2
    have g3 := hv.free 3
    have HV4 := Lib.hid hv
    have HU5 := Lib.hid (HU4.out.trans h4 (by simp))
    clear hy hv h4 hu3
    go_wp2_with fail
    generalize hw5 : World.setCell _ _ _ = w5
    have hr3 : Blk w5 (w.heap.size + 1) [.string ⟨#[]⟩, .int .u64 0, .int .u8 0, .int .i64 r] 59 := by
      rw [← hw5]
      exact fin1 HV4.out (by omega) _ _ _ _ _ _
    have hu5 : Upd [w1.heap.size, w.heap.size + 1] w4 w5 := by
      rw [← hw5]
      exact upd1 _ _ _ _ _ _
    have hu6 : Upd [] w w5 := HU5.out.trans hu5 (by intro x hx; simp at hx; right; omega)
    have HE := Lib.hid (And.intro (HTT.out.upd hu6 (by simp)) (hu6.mono (T := fp) (by simp)))
    have r0 := hr3.at 0 rfl
    have r1 := hr3.at 1 rfl
    have r2 := hr3.at 2 rfl
    have r3 := hr3.at 3 rfl
    clear hw5 hr3 hu5 hu6 y0 y1 y2 y3 f3 v0 v1 v2 v3 g0 g1 g2 g3
    exact bodyPost_ret (v := .agg #[.string ⟨#[]⟩, .int .u64 0, .int .u8 0, .int .i64 r]) (by simp [results, Try.results20, go_sem, r0, r1, r2, r3]) rfl ⟨rfl, HE.out⟩

/-- ANY ACT. -/
theorem does_calls (T : Nat) (g now : Int) (m : List Bool) (P : List Item) (fp : List Nat) (a : Act) (w : World) (h : Tab w fp T g now m P) (hg : 0 < g) (t0 : 0 ≤ now) (t1 : now < 18446744073709551616) (ha : a.Ok) (hP : Good P) (hI : InG g P) :
    Calls Try.prog 20 #[.pointer (some ⟨T, 0, none⟩), .agg a.cells.toArray] w fun e w' => e = .returned (.agg (tell a now P).cells.toArray) ∧ Tab w' fp T g (nowA a now) m (itemsA a now P) ∧ Upd fp w w' := by
  have w0 := ha.w0
  by_cases h1 : a.what % 8 = 3 ∨ a.what % 8 = 4 ∨ a.what % 8 = 5
  · exact does_recv T g now m P fp a w h hg t0 t1 ha hP hI h1
  · by_cases h2 : a.what % 8 = 6
    · exact does_wait T g now m P fp a w h hg ha hP hI h2
    · by_cases h3 : a.what % 8 = 7
      · exact does_at T g now m P fp a w h hg ha h3
      · exact does_send T g now m P fp a w h hg ha hP hI (by omega)
end Go.Proofs.Ytdfjjhpnhaggjaa
