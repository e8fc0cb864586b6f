/- One case of ChannelGoes' round. -/
import Derived.Test.YtdfjjhpnhaggjaaK38
namespace Go.Proofs.Ytdfjjhpnhaggjaa
open Go.RowKit Go.Mem

set_option maxRecDepth 1000000 in
set_option maxHeartbeats 20000000 in
theorem goes_send_no (w : World) (va : Option Addr) (vcap n : Nat) (ua : Option Addr) (ucap n2 : Nat) (l : List Ch) (A : List Act) (gn T S : Nat) (fp : List Nat) (mm : List Bool) (c : Nat → Value) (cx : Cx w va vcap n ua ucap n2 l A gn) (Q0 : Exit → Go.Act → World → Prop) (U : Nat → Value) (j : Nat) (now : Int) (P : List Item) (vs : List Value) (L : List (List ByteArray)) (wr : World) (hgs : Gs w wr T S fp gn now mm l P vs L j) (hlt : j < n2) (a : Act) (ha : A[j]? = some a) (c1 : a.what % 8 < 3) (i : Nat) (hi0 : srcI (a.guest, a.port) l = some i) (hs0 : stSend (a.guest, a.port) a.s P ≠ 0) :
    Code.wp Try.prog body5 (Exit.then (fun a' w'' => WI w va vcap n ua ucap n2 l gn T S fp mm c a' w'' ∧ Wmu n2 a' w'' < Wmu n2 (FR va vcap n ua ucap n2 T S c U j) wr) Q0) (FR va vcap n ua ucap n2 T S c U j) wr := by
  obtain ⟨hl, hA80, h1, h2, HL, HL2, HAR, HAO, HZ, HOK, HFR, HTO, HCH⟩ := cx
  replace HL := Lib.hid HL
  replace HL2 := Lib.hid HL2
  replace HAR := Lib.hid HAR
  replace HAO := Lib.hid HAO
  replace HZ := Lib.hid HZ
  replace HOK := Lib.hid HOK
  replace HFR := Lib.hid HFR
  replace HTO := Lib.hid HTO
  replace HCH := Lib.hid HCH
  have hao := HAO.out a (List.mem_of_getElem? ha)
  obtain ⟨b2, off2, rfl, hrow, hb2⟩ := HAR.out (by intro e; subst e; simp at ha)
  have hrw : ∀ (i : Nat) v, a.cells[i]? = some v → wr.cell? ⟨b2, off2 + j * 6 + i, none⟩ = some v := fun i v hv => cell_upd hgs.up (by simp) hb2 _ (hrow j a ha i v hv)
  have hD := does_calls T gn now mm P fp a (wr.alloc (.cells a.cells.toArray 57)) (hgs.tab.upd ((Upd.refl [] _).alloc _) (by simp)) (by omega) hgs.t0 hgs.t1 hao hgs.good (ing_of HZ.out hgs.pc)
  have hTO := fun (w1 : World) (L' : List (List ByteArray)) hT hu => goes_told (w1 := w1) (L' := L') hgs hao hT hu
  obtain ⟨q, hq⟩ : ∃ q, q = tell a now P := ⟨_, rfl⟩
  rw [← hq] at hD
  obtain ⟨now', hnow'⟩ : ∃ x, x = nowA a now := ⟨_, rfl⟩
  obtain ⟨P', hP'⟩ : ∃ x, x = itemsA a now P := ⟨_, rfl⟩
  rw [← hnow', ← hP'] at hD
  simp only [← hnow', ← hP'] at hTO
  obtain ⟨what, gu, po, s, step, by'⟩ := a
  have x0 := hrw 0 _ rfl
  have x1 := hrw 1 _ rfl
  have x2 := hrw 2 _ rfl
  have x3 := hrw 3 _ rfl
  have x4 := hrw 4 _ rfl
  have x5 := hrw 5 _ rfl
  simp only [Nat.add_zero] at x0 x1 x2 x3 x4 x5
  have w0 : 0 ≤ what := hao.w0
  have HD := Lib.hid hD
  simp only [Act.cells, Told.cells] at HD
  have HTD := Lib.hid hTO
  have HQ := Lib.hid hq
  have HP := Lib.hid hP'
  have HGS := Lib.hid hgs
  clear ha hao hrow hrw hD hTO hq hnow' hP' hgs
  conv => arg 2; whnf
  unfold FR
  simp only at c1 hi0 hs0
  have z1 : decide (what % 8 < 3) = true := by simp; omega
  have hst : q.st = stSend (gu, po) s P := by
    rw [HQ.out]; unfold tell; simp only
    rw [if_neg (by omega), if_neg (by omega), if_neg (by omega)]
  have hit : P' = psend (gu, po) now s P := by
    rw [HP.out]; unfold itemsA; simp only
    rw [if_neg (by omega), if_neg (by omega), if_neg (by omega)]
  obtain ⟨o, ho⟩ : ∃ o, o = srcI (gu, po) l := ⟨_, rfl⟩
  have HST := Lib.hid hst
  have HIT := Lib.hid hit
  have HOO := Lib.hid ho
  clear hst hit ho
  go_wp2_with fail
  refine HD.out.mono ?_
  rintro e w3 ⟨rfl, hT, hu⟩
  obtain ⟨hb, hlt3, hu3, hs3, -⟩ := HTD.out w3 L hT hu
  have hend := fun L' => (HTD.out w3 L' hT hu).2.2.2.2
  have y0 := hb.at 0 rfl
  have y1 := hb.at 1 rfl
  have y2 := hb.at 2 rfl
  have HB := Lib.hid hb
  have HS3 := Lib.hid hs3
  have HEND := Lib.hid hend
  have HU3 := Lib.hid hu3
  have HTL := Lib.hid hT.lt
  clear hT hu hb hu3 hs3 hend x0 x1 x2 x3 x4 x5
  go_wp2_with fail
  refine (HFR.out _ (HU3.out.alloc _) gu po).mono ?_
  rintro e w4 ⟨rfl, hu4⟩
  rw [← HOO.out]
  have hbA := (HB.out.alloc (.cells #[.string q.s, .int .u64 q.age, .int .u8 q.st, .int .i64 q.n] 59)).upd hu4 (by simp)
  have hbT := (Blk.new w3 [.string q.s, .int .u64 q.age, .int .u8 q.st, .int .i64 q.n] 59).upd hu4 (by simp)
  have hs4 := (HS3.out.upd ((Upd.refl [] _).alloc (.cells #[.string q.s, .int .u64 q.age, .int .u8 q.st, .int .i64 q.n] 59)) (by simp)).upd hu4 (by simp)
  have t2 := hbT.at 2 rfl
  have y0 := hbA.at 0 rfl
  have y3 := hbA.at 3 rfl
  have HU4 := Lib.hid (((Upd.refl [] w3).alloc (.cells #[.string q.s, .int .u64 q.age, .int .u8 q.st, .int .i64 q.n] 59)).trans hu4 (by simp))
  have HS4 := Lib.hid hs4
  clear y1 y2 hbA hbT hs4 hu4 HB HS3
  have ho : o = some i := by rw [HOO.out]; exact hi0
  subst ho
  have hi : srcI (gu, po) (P.map Item.c) = some i := by rw [HGS.out.pc]; exact HOO.out.symm
  obtain ⟨p, ss, hp, hss, hcase⟩ := rel_send HGS.out.rel HGS.out.good hi now s
  have hlc : l[i]? = some p.c := by rw [← HGS.out.pc, List.getElem?_map, hp]; rfl
  have hin : i < n := by rw [HL.out]; exact (List.getElem?_eq_some_iff.1 hlc).1
  obtain ⟨-, hic⟩ := chan_km (HCH.out w4 (HU3.out.trans HU4.out (by simp)))
  obtain ⟨b, off, rfl, -, m4⟩ := hic i p.c hlc
  have z2 : idxV (some i) = (i : Nat) := rfl
  have hi16 : (i : Int) < 16 := by omega
  have hin2 : (i : Int) < n := by omega
  rw [z2]
  have HSS := Lib.hid hss
  obtain ⟨most, hmost⟩ : ∃ x, x = p.c.most := ⟨_, rfl⟩
  rw [← hmost] at m4 hcase
  rw [← HST.out, ← HIT.out] at hcase
  have hco := HOK.out p.c (List.mem_of_getElem? hlc)
  have hm0 : 0 ≤ most := by rw [hmost]; exact hco.m0
  have hm1 : most ≤ 255 := by rw [hmost]; exact hco.m1
  clear hi hp hlc hic z2 hmost hss hco
  have hs1 : q.st ≠ 0 := by rw [HST.out]; exact hs0
  obtain ⟨hst13, hrel'⟩ : (q.st = 1 ∨ q.st = 3) ∧ Rel P' L := by
    rcases hcase with ⟨h, -⟩ | h
    · exact absurd h hs1
    · exact h
  clear hcase hs1 hs0
  have HR := Lib.hid hrel'
  have H13 := Lib.hid hst13
  have zst : (q.st == 0) = false := by rw [beq_eq_false_iff_ne]; omega
  have zst2 : (q.st == 2) = false := by rw [beq_eq_false_iff_ne]; omega
  clear hst13 hrel'
  go_wp2_with fail
  refine wp_region_quiet_lit (by kernel_rfl) (by kernel_rfl) ?_
  repeat (first | go_big_quiet_step (fail) | quiet_step (fail))
  refine wpQuiet_nil ?_
  intro _ hw'
  obtain ⟨nq, hw''⟩ := hw'
  subst hw''
  go_wp2_with fail
  exact ⟨wi_mk (j + 1) now' P' vs (L) rfl (by omega) (HEND.out L (w4.drewN nq) (HU4.out.drewN _) HR.out (fun i ss hss => by have := HGS.out.bd i ss hss; omega) _ vs [] (Upd.refl _ _) (by simp) (HS4.out.upd ((Upd.refl [] _).drewN _) (by simp))), by simp [Wmu, intOf]; omega⟩
end Go.Proofs.Ytdfjjhpnhaggjaa
