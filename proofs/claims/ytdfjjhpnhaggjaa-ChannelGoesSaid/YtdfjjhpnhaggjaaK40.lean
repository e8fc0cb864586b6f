/- One case of ChannelGoes' round. -/
import Derived.Test.YtdfjjhpnhaggjaaK38
namespace Go.Proofs.Ytdfjjhpnhaggjaa
open Go.RowKit Go.Mem

set_option maxRecDepth 1000000 in
set_option maxHeartbeats 20000000 in
theorem goes_send_ok (w : World) (va : Option Addr) (vcap n : Nat) (ua : Option Addr) (ucap n2 : Nat) (l : List Ch) (A : List Act) (gn T S : Nat) (fp : List Nat) (mm : List Bool) (c : Nat → Value) (cx : Cx w va vcap n ua ucap n2 l A gn) (K : Go.Act → World → Prop) (R : Ending → World → Prop) (U : Nat → Value) (j : Nat) (now : Int) (P : List Item) (vs : List Value) (L : List (List ByteArray)) (wr : World) (hgs : Gs w wr T S fp gn now mm l P vs L j) (hlt : j < n2) (a : Act) (ha : A[j]? = some a) (c1 : a.what % 8 < 3) (i : Nat) (hi0 : srcI (a.guest, a.port) l = some i) (hs0 : stSend (a.guest, a.port) a.s P = 0) :
    Code.wp Try.prog body5 (Exit.then (fun a' w'' => WI w va vcap n ua ucap n2 l gn T S fp mm c a' w'' ∧ Wmu n2 a' w'' < Wmu n2 (FR va vcap n ua ucap n2 T S c U j) wr) (Exit.inBlock 0 (Exit.then K (bodyPost Try.prog Try.f5 R)))) (FR va vcap n ua ucap n2 T S c U j) wr := by
  obtain ⟨hl, hA80, h1, h2, HL, HL2, HAR, HAO, HZ, HOK, HFR, HTO, HCH⟩ := cx
  replace HL := Lib.hid HL
  replace HL2 := Lib.hid HL2
  replace HAR := Lib.hid HAR
  replace HAO := Lib.hid HAO
  replace HZ := Lib.hid HZ
  replace HOK := Lib.hid HOK
  replace HFR := Lib.hid HFR
  replace HTO := Lib.hid HTO
  replace HCH := Lib.hid HCH
  have hao := HAO.out a (List.mem_of_getElem? ha)
  obtain ⟨b2, off2, rfl, hrow, hb2⟩ := HAR.out (by intro e; subst e; simp at ha)
  have hrw : ∀ (i : Nat) v, a.cells[i]? = some v → wr.cell? ⟨b2, off2 + j * 6 + i, none⟩ = some v := fun i v hv => cell_upd hgs.up (by simp) hb2 _ (hrow j a ha i v hv)
  have hD := does_calls T gn now mm P fp a (wr.alloc (.cells a.cells.toArray 57)) (hgs.tab.upd ((Upd.refl [] _).alloc _) (by simp)) (by omega) hgs.t0 hgs.t1 hao hgs.good (ing_of HZ.out hgs.pc)
  have hTO := fun (w1 : World) (L' : List (List ByteArray)) hT hu => goes_told (w1 := w1) (L' := L') hgs hao hT hu
  obtain ⟨q, hq⟩ : ∃ q, q = tell a now P := ⟨_, rfl⟩
  rw [← hq] at hD
  obtain ⟨now', hnow'⟩ : ∃ x, x = nowA a now := ⟨_, rfl⟩
  obtain ⟨P', hP'⟩ : ∃ x, x = itemsA a now P := ⟨_, rfl⟩
  rw [← hnow', ← hP'] at hD
  simp only [← hnow', ← hP'] at hTO
  obtain ⟨what, gu, po, s, step, by'⟩ := a
  have x0 := hrw 0 _ rfl
  have x1 := hrw 1 _ rfl
  have x2 := hrw 2 _ rfl
  have x3 := hrw 3 _ rfl
  have x4 := hrw 4 _ rfl
  have x5 := hrw 5 _ rfl
  simp only [Nat.add_zero] at x0 x1 x2 x3 x4 x5
  have w0 : 0 ≤ what := hao.w0
  have HD := Lib.hid hD
  simp only [Act.cells, Told.cells] at HD
  have HTD := Lib.hid hTO
  have HQ := Lib.hid hq
  have HP := Lib.hid hP'
  have HGS := Lib.hid hgs
  clear ha hao hrow hrw hD hTO hq hnow' hP' hgs
  conv => arg 2; whnf
  unfold FR
  obtain ⟨i1, gi, gz0, gz1, gz2⟩ := info_parts i9
  have HI9 : Hid (i1.zero = _ ∧ _ ∧ _ ∧ _) := ⟨gz0, gz1, gz2, gi⟩
  clear gi gz0 gz1 gz2
  simp only at c1 hi0 hs0
  have z1 : decide (what % 8 < 3) = true := by simp; omega
  have hst : q.st = stSend (gu, po) s P := by
    rw [HQ.out]; unfold tell; simp only
    rw [if_neg (by omega), if_neg (by omega), if_neg (by omega)]
  have hit : P' = psend (gu, po) now s P := by
    rw [HP.out]; unfold itemsA; simp only
    rw [if_neg (by omega), if_neg (by omega), if_neg (by omega)]
  obtain ⟨o, ho⟩ : ∃ o, o = srcI (gu, po) l := ⟨_, rfl⟩
  have HST := Lib.hid hst
  have HIT := Lib.hid hit
  have HOO := Lib.hid ho
  clear hst hit ho
  go_wp2_with fail
  refine HD.out.mono ?_
  rintro e w3 ⟨rfl, hT, hu⟩
  obtain ⟨hb, hlt3, hu3, hs3, -⟩ := HTD.out w3 L hT hu
  have hend := fun L' => (HTD.out w3 L' hT hu).2.2.2.2
  have y0 := hb.at 0 rfl
  have y1 := hb.at 1 rfl
  have y2 := hb.at 2 rfl
  have HB := Lib.hid hb
  have HS3 := Lib.hid hs3
  have HEND := Lib.hid hend
  have HU3 := Lib.hid hu3
  have HTL := Lib.hid hT.lt
  clear hT hu hb hu3 hs3 hend x0 x1 x2 x3 x4 x5
  go_wp2_with fail
  refine (HFR.out _ (HU3.out.alloc _) gu po).mono ?_
  rintro e w4 ⟨rfl, hu4⟩
  rw [← HOO.out]
  have hbA := (HB.out.alloc (.cells #[.string q.s, .int .u64 q.age, .int .u8 q.st, .int .i64 q.n] 59)).upd hu4 (by simp)
  have hbT := (Blk.new w3 [.string q.s, .int .u64 q.age, .int .u8 q.st, .int .i64 q.n] 59).upd hu4 (by simp)
  have hs4 := (HS3.out.upd ((Upd.refl [] _).alloc (.cells #[.string q.s, .int .u64 q.age, .int .u8 q.st, .int .i64 q.n] 59)) (by simp)).upd hu4 (by simp)
  have t2 := hbT.at 2 rfl
  have y0 := hbA.at 0 rfl
  have y3 := hbA.at 3 rfl
  have HU4 := Lib.hid (((Upd.refl [] w3).alloc (.cells #[.string q.s, .int .u64 q.age, .int .u8 q.st, .int .i64 q.n] 59)).trans hu4 (by simp))
  have HS4 := Lib.hid hs4
  clear y1 y2 hbA hbT hs4 hu4 HB HS3
  have ho : o = some i := by rw [HOO.out]; exact hi0
  subst ho
  have hi : srcI (gu, po) (P.map Item.c) = some i := by rw [HGS.out.pc]; exact HOO.out.symm
  obtain ⟨p, ss, hp, hss, hcase⟩ := rel_send HGS.out.rel HGS.out.good hi now s
  have hlc : l[i]? = some p.c := by rw [← HGS.out.pc, List.getElem?_map, hp]; rfl
  have hin : i < n := by rw [HL.out]; exact (List.getElem?_eq_some_iff.1 hlc).1
  obtain ⟨-, hic⟩ := chan_km (HCH.out w4 (HU3.out.trans HU4.out (by simp)))
  obtain ⟨b, off, rfl, -, m4⟩ := hic i p.c hlc
  have z2 : idxV (some i) = (i : Nat) := rfl
  have hi16 : (i : Int) < 16 := by omega
  have hin2 : (i : Int) < n := by omega
  rw [z2]
  have HSS := Lib.hid hss
  obtain ⟨most, hmost⟩ : ∃ x, x = p.c.most := ⟨_, rfl⟩
  rw [← hmost] at m4 hcase
  rw [← HST.out, ← HIT.out] at hcase
  have hco := HOK.out p.c (List.mem_of_getElem? hlc)
  have hm0 : 0 ≤ most := by rw [hmost]; exact hco.m0
  have hm1 : most ≤ 255 := by rw [hmost]; exact hco.m1
  clear hi hp hlc hic z2 hmost hss hco
  have hs1 : q.st = 0 := by rw [HST.out]; exact hs0
  obtain ⟨hst0, hsz, hrel'⟩ : q.st = 0 ∧ (s.size : Int) ≤ most ∧ Rel P' (L.set i (ss ++ [s])) := by
    rcases hcase with h | ⟨h, -⟩
    · exact h
    · omega
  clear hcase hs1 hs0
  rw [hst0] at t2
  have HR := Lib.hid hrel'
  have H0 := Lib.hid hst0
  have zsz : decide (most < (s.size : Int)) = false := by simp; omega
  clear hst0 hrel'
  go_wp2_with fail
  refine wp_region_quiet_lit (by kernel_rfl) (by kernel_rfl) ?_
  repeat (first | go_big_quiet_step (fail) | quiet_step (fail))
  refine wpQuiet_nil ?_
  intro _ hw'
  obtain ⟨nq, hw''⟩ := hw'
  subst hw''
  go_wp2_with fail
  obtain ⟨w5, hw5⟩ : ∃ w5, w5 = w4.drewN nq := ⟨_, rfl⟩
  rw [← hw5]
  have hu5 : Upd [] w4 w5 := by rw [hw5]; exact (Upd.refl _ _).drewN _
  have hs5 := HS4.out.upd hu5 (by simp)
  obtain ⟨v5, hv5⟩ : ∃ v5, vs[i]? = some v5 := ⟨_, List.getElem?_eq_getElem (by rw [hs5.len]; exact (List.getElem?_eq_some_iff.1 HSS.out).1)⟩
  have ho5 := hs5.own i v5 ss hv5 HSS.out
  obtain ⟨sa, scap, hsv, -, -⟩ := ho5.form
  have e5 := hs5.blk.at i hv5
  have y5 := cell_upd hu5 (by simp) (Nat.lt_of_lt_of_le hlt3 HU4.out.size) 3 y3
  have Y5 := Lib.hid (cell_upd hu5 (by simp) (Nat.lt_of_lt_of_le hlt3 HU4.out.size) 0 y0)
  have HZ5 := Lib.hid hu5.size
  have HS5 := Lib.hid hs5
  have HU5 := Lib.hid (HU4.out.trans hu5 (by simp))
  have HV5 := Lib.hid hv5
  have HO5 := Lib.hid ho5
  rw [hsv] at e5
  obtain ⟨sn, hsn⟩ : ∃ sn, sn = (ss.map Value.string).length := ⟨_, rfl⟩
  rw [← hsn] at e5 hsv
  have HSN := Lib.hid hsn
  have HSV := Lib.hid hsv
  have hS6 : Upd [] w5 ((w5.alloc (.cells #[.string s] 9)).drew) := ((Upd.refl [] w5).alloc _).drew
  have hltS := hs5.blk.lt
  have hbd := HGS.out.bd i ss HSS.out
  obtain ⟨v6, w6, hr6, ho6, hu6, hbl6, -⟩ := run_append_at (P := Try.prog) (w := (w5.alloc (.cells #[.string s] 9)).drew) 67 67 9 Try.underlying67 HI9.out.2.2.2 HI9.out.1 HI9.out.2.1 HI9.out.2.2.1 rfl (ho5.upd hS6 (by simp)) ⟨w5.heap.size, 0, none⟩ (.string s) (((Blk.new w5 [.string s] 9).drew).at 0 rfl) rfl (by simp; unfold maxLen; omega) (by simp; omega)
  have hnS : S ∉ bl v5 := fun hm => (hs5.far i v5 hv5 S hm).1 rfl
  have hbS := (hs5.blk.upd hS6 (by simp)).upd hu6 hnS
  have e6 := hbS.at i hv5
  have f6 := hbS.free i
  obtain ⟨a6, c6, hv6, -, -⟩ := ho6.form
  rw [hsv] at e6
  rw [hsv] at hr6
  rw [hv6] at hr6
  obtain ⟨n6, hn6⟩ : ∃ n6, n6 = (ss.map Value.string ++ [Value.string s]).length := ⟨_, rfl⟩
  rw [← hn6] at hr6 hv6
  have HFIN : Hid (Sent (w6.setCell ⟨S, i, none⟩ v6) S (vs.set i v6) (L.set i (ss ++ [s])) fp w.heap.size) :=
    Sent.put (hs5.upd hS6 (by simp)) hv5 (by rw [List.map_append]; exact ho6) hu6 hbl6 (fun k hk => by have := HTL.out k hk; have h1 := hu5.size; have h2 := HU4.out.size; have h3 := hS6.size; omega) (by have h1 := HU3.out.size; have h2 := HU4.out.size; have h3 := hu5.size; have h4 := hS6.size; omega)
  have HU6 : Hid (Upd (bl v5) w5 w6) := (hS6.mono (T := bl v5) (by simp)).trans hu6 (fun x hx => .inl hx)
  have HFAR := Lib.hid (hs5.far i v5 hv5)
  rw [hv6] at HFIN
  clear hw5 hu5 hs5 hv5 ho5 t2 y0 y3 m4 zsz hsv hsn hS6 hbd ho6 hu6 hbl6 hnS hbS hv6 hn6
  have HR6 := Lib.hid hr6
  have hSA := HGS.out.sent.blk.lt
  have y6 : w6.cell? ⟨wr.heap.size, 0, none⟩ = some (.int .u8 what) := by
    refine cell_upd HU6.out (fun hm => ?_) (Nat.lt_of_lt_of_le (Nat.lt_of_lt_of_le hlt3 HU4.out.size) HZ5.out) 0 (Y5.out)
    have := (HGS.out.sent.own i v5 ss HV5.out HSS.out).lt _ hm
    omega
  clear hr6
  go_region_law (refine step_append_run rfl _ _ 67 rfl _ _ _ _ rfl rfl HR6.out ?_)
  all_goals go_wp2_with fail
  all_goals exact ⟨wi_mk (j + 1) now' P' _ (L.set i (ss ++ [s])) rfl (by omega) (HEND.out (L.set i (ss ++ [s])) w5 HU5.out HR.out (bd_set HGS.out.bd HSS.out) _ _ (S :: bl v5) ((HU6.out.mono (T := S :: bl v5) (fun x hx => .inl (List.mem_cons_of_mem _ hx))).setCell (.inl (by simp)) _) (by intro x hx; rcases List.mem_cons.1 hx with rfl | hx; exact ⟨HGS.out.sent.sfp, HGS.out.sent.slo⟩; exact (HFAR.out x hx).2) HFIN.out), by simp [Wmu, intOf]; omega⟩
end Go.Proofs.Ytdfjjhpnhaggjaa
