/- does: a Send, a Waiting, an At, walked; and any act. -/
import Derived.Test.YtdfjjhpnhaggjaaK31
namespace Go.Proofs.Ytdfjjhpnhaggjaa
open Go.RowKit Go.Mem

set_option maxRecDepth 100000 in
set_option maxHeartbeats 20000000 in
theorem does_send (T : Nat) (g now : Int) (m : List Bool) (P : List Item) (fp : List Nat) (a : Act) (w : World) (h : Tab w fp T g now m P) (hg : 0 < g) (ha : a.Ok) (hP : Good P) (hI : InG g P)
    (hw : a.what % 8 = 0 ∨ a.what % 8 = 1 ∨ a.what % 8 = 2) :
    Calls Try.prog 20 #[.pointer (some ⟨T, 0, none⟩), .agg a.cells.toArray] w fun e w' => e = .returned (.agg (tell a now P).cells.toArray) ∧ Tab w' fp T g (nowA a now) m (itemsA a now P) ∧ Upd fp w w' := by
  have hlt := h.lt
  have htell : tell a now P = ⟨⟨#[]⟩, 0, stSend (a.guest, a.port) a.s P, 0⟩ := by unfold tell; rw [if_neg (by omega), if_neg (by omega), if_neg (by omega)]
  have hnow : nowA a now = now := by unfold nowA; rw [if_neg (by omega)]
  have hit : itemsA a now P = psend (a.guest, a.port) now a.s P := by unfold itemsA; rw [if_neg (by omega), if_neg (by omega), if_neg (by omega)]
  rw [htell, hnow, hit]
  clear htell hnow hit
  obtain ⟨what, gu, po, s, step, by'⟩ := a
  simp only at hw
  simp only [Act.cells]
  have w0 := ha.w0
  simp only at w0
  have HL := Lib.hid (fun (w' : World) (hu : Upd [] w w') => link_any (gu := gu) (h.upd hu (by simp)) hg ha.g0 ha.g1)
  have HC := Lib.hid (fun (w' : World) (hu : Upd [] w w') => tsend_calls T g now m P fp gu po s w' (h.upd hu (by simp)) hg ⟨ha.g0, ha.g1, ha.p0, ha.p1⟩ hP)
  have HD := Lib.hid (fun (w' : World) (v : Value) (hu : Upd [] w w') (hv : LinkV w' v T gu g) => lksend_any (po := po) (s := s) hv hI (h.upd hu (by simp)) hg ⟨ha.g0, ha.g1, ha.p0, ha.p1⟩ hP)
  obtain ⟨r, hr⟩ : ∃ r, r = stSend (gu, po) s P := ⟨_, rfl⟩
  rw [← hr] at HC HD ⊢
  have HLT := Lib.hid hlt
  clear h hg ha hP hr hlt hI
  rcases hw with hw | hw | hw
  all_goals
    have z3 : (what % 8 == 3) = _ := congrArg (· == (3 : Int)) hw
    have z4 : (what % 8 == 4) = _ := congrArg (· == (4 : Int)) hw
    have z5 : (what % 8 == 5) = _ := congrArg (· == (5 : Int)) hw
    have z6 : (what % 8 == 6) = _ := congrArg (· == (6 : Int)) hw
    have z7 : (what % 8 == 7) = _ := congrArg (· == (7 : Int)) hw
    simp only [Int.reduceBEq] at z3 z4 z5 z6 z7
    clear hw
    cases by'
    all_goals
      go_enter Try.func20, Try.ntmps20
      go_wp2_with fail
      refine (HL.out _ (((Upd.refl _ _).alloc _).alloc _)).mono ?_
      rintro e w1 ⟨v, rfl, hv, hu⟩
      obtain ⟨hb0, hb1, hlt, hu1⟩ := does_boxes hu
      have x0 := hb0.at 0 rfl
      have x1 := hb0.at 1 rfl
      have x2 := hb0.at 2 rfl
      have x3 := hb0.at 5 rfl
      have x4 := hb0.at 3 rfl
      have hlt2 : w.heap.size < w1.heap.size := by omega
      have HV := Lib.hid hv
      have HB1 := Lib.hid hb1
      have HU1 := Lib.hid hu1
      clear hu hb0 hb1 hu1 hv
      go_wp2_with fail
      first
        | refine (HC.out _ (HU1.out.alloc _)).mono ?_
        | refine (HD.out _ _ (HU1.out.alloc _) (HV.out.upd ((Upd.refl _ _).alloc _))).mono ?_
      rintro e w2 ⟨rfl, h1, h2⟩
      obtain ⟨hy, hv⟩ := does_mid HLT.out HB1.out hlt h2
      clear x0 x1 x2 x3 x4 hlt2
      have y0 := hy.at 0 rfl
      have y1 := hy.at 1 rfl
      have y2 := hy.at 2 rfl
      have y3 := hy.at 3 rfl
      have f0 := hy.free 0
      have f1 := hy.free 1
      have f2 := hy.free 2
      have v0 := hv.at 0 rfl
      have v1 := hv.at 1 rfl
      have v2 := hv.at 2 rfl
      have v3 := hv.at 3 rfl
      have g0 := hv.free 0
      have g1 := hv.free 1
      have g2 := hv.free 2
      have g3 := hv.free 3
      have H1 := Lib.hid h1
      have H2 := Lib.hid h2
      have HVV := Lib.hid hv
      clear hy hv h1 h2
      go_wp2_with fail
      generalize hw3 : World.setCell _ _ _ = w3
      have hr3 : Blk w3 (w.heap.size + 1) [.string ⟨#[]⟩, .int .u64 0, .int .u8 r, .int .i64 0] 59 := by
        rw [← hw3]
        exact fin1 HVV.out (by omega) _ _ _ _ _ _
      have hu3 : Upd [w1.heap.size, w.heap.size + 1] w2 w3 := by
        rw [← hw3]
        exact upd1 _ _ _ _ _ _
      have HE := Lib.hid (does_end HLT.out HU1.out hlt H2.out H1.out hu3)
      have r0 := hr3.at 0 rfl
      have r1 := hr3.at 1 rfl
      have r2 := hr3.at 2 rfl
      have r3 := hr3.at 3 rfl
      clear hw3 hr3 hu3 y0 y1 y2 y3 f0 f1 f2 v0 v1 v2 v3 g0 g1 g2 g3
      exact bodyPost_ret (v := .agg #[.string ⟨#[]⟩, .int .u64 0, .int .u8 r, .int .i64 0]) (by simp [results, Try.results20, go_sem, r0, r1, r2, r3]) rfl ⟨rfl, HE.out⟩
set_option maxRecDepth 100000 in
set_option maxHeartbeats 20000000 in
theorem does_at (T : Nat) (g now : Int) (m : List Bool) (P : List Item) (fp : List Nat) (a : Act) (w : World) (h : Tab w fp T g now m P) (hg : 0 < g) (ha : a.Ok) 
    (hw : a.what % 8 = 7) :
    Calls Try.prog 20 #[.pointer (some ⟨T, 0, none⟩), .agg a.cells.toArray] w fun e w' => e = .returned (.agg (tell a now P).cells.toArray) ∧ Tab w' fp T g (nowA a now) m (itemsA a now P) ∧ Upd fp w w' := by
  have hlt := h.lt
  have htell : tell a now P = ⟨⟨#[]⟩, 0, 0, 0⟩ := by unfold tell; rw [if_neg (by omega), if_neg (by omega), if_pos hw]
  have hnow : nowA a now = a.step := by unfold nowA; rw [if_pos hw]
  have hit : itemsA a now P = P := by unfold itemsA; rw [if_neg (by omega), if_neg (by omega), if_pos hw]
  rw [htell, hnow, hit]
  clear htell hnow hit
  obtain ⟨what, gu, po, s, step, by'⟩ := a
  simp only at hw
  simp only [Act.cells]
  have w0 := ha.w0
  simp only at w0
  have HL := Lib.hid (fun (w' : World) (hu : Upd [] w w') => link_any (gu := gu) (h.upd hu (by simp)) hg ha.g0 ha.g1)
  have HC := Lib.hid (fun (w' : World) (hu : Upd [] w w') => (tat_calls T g now step m P fp w' (h.upd hu (by simp)) hg).mono (fun e w'' hh => (⟨hh.1, hh.2.1, hh.2.2.mono (by intro k hk; simp at hk; subst hk; exact .inl hh.2.1.memT)⟩ : e = .returned (.tuple #[]) ∧ Tab w'' fp T g step m P ∧ Upd fp w' w'')))
  have HLT := Lib.hid hlt
  clear h hg ha hlt
  all_goals
    have z3 : (what % 8 == 3) = _ := congrArg (· == (3 : Int)) hw
    have z4 : (what % 8 == 4) = _ := congrArg (· == (4 : Int)) hw
    have z5 : (what % 8 == 5) = _ := congrArg (· == (5 : Int)) hw
    have z6 : (what % 8 == 6) = _ := congrArg (· == (6 : Int)) hw
    have z7 : (what % 8 == 7) = _ := congrArg (· == (7 : Int)) hw
    simp only [Int.reduceBEq] at z3 z4 z5 z6 z7
    clear hw
    all_goals
      go_enter Try.func20, Try.ntmps20
      go_wp2_with fail
      refine (HL.out _ (((Upd.refl _ _).alloc _).alloc _)).mono ?_
      rintro e w1 ⟨v, rfl, hv, hu⟩
      obtain ⟨hb0, hb1, hlt, hu1⟩ := does_boxes hu
      have x0 := hb0.at 0 rfl
      have x1 := hb0.at 1 rfl
      have x2 := hb0.at 2 rfl
      have x3 := hb0.at 4 rfl
      have hlt2 : w.heap.size < w1.heap.size := by omega
      have HV := Lib.hid hv
      have HB1 := Lib.hid hb1
      have HU1 := Lib.hid hu1
      clear hu hb0 hb1 hu1 hv
      go_wp2_with fail
      refine (HC.out _ (HU1.out.alloc _)).mono ?_
      rintro e w2 ⟨rfl, h1, h2⟩
      obtain ⟨hy, hv⟩ := does_mid HLT.out HB1.out hlt h2
      clear x0 x1 x2 x3 hlt2
      have y0 := hy.at 0 rfl
      have y1 := hy.at 1 rfl
      have y2 := hy.at 2 rfl
      have y3 := hy.at 3 rfl
      have f0 := hy.free 0
      have f1 := hy.free 1
      have f2 := hy.free 2
      have v0 := hv.at 0 rfl
      have v1 := hv.at 1 rfl
      have v2 := hv.at 2 rfl
      have v3 := hv.at 3 rfl
      have g0 := hv.free 0
      have g1 := hv.free 1
      have g2 := hv.free 2
      have g3 := hv.free 3
      have H1 := Lib.hid h1
      have H2 := Lib.hid h2
      have HVV := Lib.hid hv
      clear hy hv h1 h2
      go_wp2_with fail
      generalize hw3 : World.setCell _ _ _ = w3
      have hr3 : Blk w3 (w.heap.size + 1) [.string ⟨#[]⟩, .int .u64 0, .int .u8 0, .int .i64 0] 59 := by
        rw [← hw3]
        exact fin0 HVV.out _ _ _ _
      have hu3 : Upd [w1.heap.size, w.heap.size + 1] w2 w3 := by
        rw [← hw3]
        exact upd0 _ _ _ _
      have HE := Lib.hid (does_end HLT.out HU1.out hlt H2.out H1.out hu3)
      have r0 := hr3.at 0 rfl
      have r1 := hr3.at 1 rfl
      have r2 := hr3.at 2 rfl
      have r3 := hr3.at 3 rfl
      clear hw3 hr3 hu3 y0 y1 y2 y3 f0 f1 f2 v0 v1 v2 v3 g0 g1 g2 g3
      exact bodyPost_ret (v := .agg #[.string ⟨#[]⟩, .int .u64 0, .int .u8 0, .int .i64 0]) (by simp [results, Try.results20, go_sem, r0, r1, r2, r3]) rfl ⟨rfl, HE.out⟩
end Go.Proofs.Ytdfjjhpnhaggjaa
