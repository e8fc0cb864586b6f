/- One case of ChannelGoes' round. -/
import Derived.Test.YtdfjjhpnhaggjaaK38
namespace Go.Proofs.Ytdfjjhpnhaggjaa
open Go.RowKit Go.Mem

set_option maxRecDepth 1000000 in
set_option maxHeartbeats 20000000 in
theorem goes_recv_stale (w : World) (va : Option Addr) (vcap n : Nat) (ua : Option Addr) (ucap n2 : Nat) (l : List Ch) (A : List Act) (gn T S : Nat) (fp : List Nat) (mm : List Bool) (c : Nat → Value) (cx : Cx w va vcap n ua ucap n2 l A gn) (Q0 : Exit → Go.Act → World → Prop) (U : Nat → Value) (j : Nat) (now : Int) (P : List Item) (vs : List Value) (L : List (List ByteArray)) (wr : World) (hgs : Gs w wr T S fp gn now mm l P vs L j) (hlt : j < n2) (a : Act) (ha : A[j]? = some a) (c1 : ¬ a.what % 8 < 3) (c2 : ¬ 5 < a.what % 8) (i : Nat) (hi0 : dstI (a.guest, a.port) l = some i) (p0 : Item) (hp0 : P[i]? = some p0) (hk : p0.c.kind = 0) (ss0 : List ByteArray) (hL : L[i]? = some ss0) (hn0 : ss0 ≠ []) (hq0 : (stRecv (a.guest, a.port) now P).st ≠ 0) :
    Code.wp Try.prog body5 (Exit.then (fun a' w'' => WI w va vcap n ua ucap n2 l gn T S fp mm c a' w'' ∧ Wmu n2 a' w'' < Wmu n2 (FR va vcap n ua ucap n2 T S c U j) wr) Q0) (FR va vcap n ua ucap n2 T S c U j) wr := by
  obtain ⟨hl, hA80, h1, h2, HL, HL2, HAR, HAO, HZ, HOK, HFR, HTO, HCH⟩ := cx
  replace HL := Lib.hid HL
  replace HL2 := Lib.hid HL2
  replace HAR := Lib.hid HAR
  replace HAO := Lib.hid HAO
  replace HZ := Lib.hid HZ
  replace HOK := Lib.hid HOK
  replace HFR := Lib.hid HFR
  replace HTO := Lib.hid HTO
  replace HCH := Lib.hid HCH
  have hao := HAO.out a (List.mem_of_getElem? ha)
  obtain ⟨b2, off2, rfl, hrow, hb2⟩ := HAR.out (by intro e; subst e; simp at ha)
  have hrw : ∀ (i : Nat) v, a.cells[i]? = some v → wr.cell? ⟨b2, off2 + j * 6 + i, none⟩ = some v := fun i v hv => cell_upd hgs.up (by simp) hb2 _ (hrow j a ha i v hv)
  have hD := does_calls T gn now mm P fp a (wr.alloc (.cells a.cells.toArray 57)) (hgs.tab.upd ((Upd.refl [] _).alloc _) (by simp)) (by omega) hgs.t0 hgs.t1 hao hgs.good (ing_of HZ.out hgs.pc)
  have hTO := fun (w1 : World) (L' : List (List ByteArray)) hT hu => goes_told (w1 := w1) (L' := L') hgs hao hT hu
  obtain ⟨q, hq⟩ : ∃ q, q = tell a now P := ⟨_, rfl⟩
  rw [← hq] at hD
  obtain ⟨now', hnow'⟩ : ∃ x, x = nowA a now := ⟨_, rfl⟩
  obtain ⟨P', hP'⟩ : ∃ x, x = itemsA a now P := ⟨_, rfl⟩
  rw [← hnow', ← hP'] at hD
  simp only [← hnow', ← hP'] at hTO
  obtain ⟨what, gu, po, s, step, by'⟩ := a
  have x0 := hrw 0 _ rfl
  have x1 := hrw 1 _ rfl
  have x2 := hrw 2 _ rfl
  have x3 := hrw 3 _ rfl
  have x4 := hrw 4 _ rfl
  have x5 := hrw 5 _ rfl
  simp only [Nat.add_zero] at x0 x1 x2 x3 x4 x5
  have w0 : 0 ≤ what := hao.w0
  have HD := Lib.hid hD
  simp only [Act.cells, Told.cells] at HD
  have HTD := Lib.hid hTO
  have HQ := Lib.hid hq
  have HP := Lib.hid hP'
  have HGS := Lib.hid hgs
  clear ha hao hrow hrw hD hTO hq hnow' hP' hgs
  conv => arg 2; whnf
  unfold FR
  simp only at c1 c2 hi0
  have z1 : decide (what % 8 < 3) = false := by simp; omega
  have z2 : decide (5 < what % 8) = false := by simp; omega
  have hst : q.st = (stRecv (gu, po) now P).st ∧ q.s = (stRecv (gu, po) now P).s := by
    rw [HQ.out]; unfold tell; simp only
    rw [if_pos (by omega)]; exact ⟨rfl, rfl⟩
  have hit : P' = precv (gu, po) P := by
    rw [HP.out]; unfold itemsA; simp only
    rw [if_pos (by omega)]
  obtain ⟨o, ho⟩ : ∃ o, o = dstI (gu, po) l := ⟨_, rfl⟩
  have HST := Lib.hid hst
  have HIT := Lib.hid hit
  have HOO := Lib.hid ho
  clear hst hit ho
  go_wp2_with fail
  refine HD.out.mono ?_
  rintro e w3 ⟨rfl, hT, hu⟩
  obtain ⟨hb, hlt3, hu3, hs3, -⟩ := HTD.out w3 L hT hu
  have hend := fun L' => (HTD.out w3 L' hT hu).2.2.2.2
  have y0 := hb.at 0 rfl
  have y1 := hb.at 1 rfl
  have y2 := hb.at 2 rfl
  have HS3 := Lib.hid hs3
  have HEND := Lib.hid hend
  have HU3 := Lib.hid hu3
  have HTL := Lib.hid hT.lt
  clear hT hu hb hu3 hs3 hend x0 x1 x2 x3 x4 x5
  go_wp2_with fail
  refine (HTO.out _ (HU3.out.alloc _) gu po).mono ?_
  rintro e w4 ⟨rfl, hu4⟩
  rw [← HOO.out]
  have hbT := (Blk.new w3 [.string q.s, .int .u64 q.age, .int .u8 q.st, .int .i64 q.n] 59).upd hu4 (by simp)
  have hs4 := (HS3.out.upd ((Upd.refl [] _).alloc (.cells #[.string q.s, .int .u64 q.age, .int .u8 q.st, .int .i64 q.n] 59)) (by simp)).upd hu4 (by simp)
  have t2 := hbT.at 2 rfl
  have t0 := hbT.at 0 rfl
  have HU4 := Lib.hid (((Upd.refl [] w3).alloc (.cells #[.string q.s, .int .u64 q.age, .int .u8 q.st, .int .i64 q.n] 59)).trans hu4 (by simp))
  have HS4 := Lib.hid hs4
  clear y0 y1 y2 hbT hs4 hu4 HS3
  have ho : o = some i := by rw [HOO.out]; exact hi0
  subst ho
  have hi : dstI (gu, po) (P.map Item.c) = some i := by rw [HGS.out.pc]; exact HOO.out.symm
  obtain ⟨p, ss, hp, hss, hcase⟩ := rel_recv HGS.out.rel HGS.out.good hi now
  have hlc : l[i]? = some p.c := by rw [← HGS.out.pc, List.getElem?_map, hp]; rfl
  have hin : i < n := by rw [HL.out]; exact (List.getElem?_eq_some_iff.1 hlc).1
  obtain ⟨-, hic⟩ := chan_km (HCH.out w4 (HU3.out.trans HU4.out (by simp)))
  obtain ⟨b, off, rfl, m0, -⟩ := hic i p.c hlc
  have z3 : idxV (some i) = (i : Nat) := rfl
  have hi16 : (i : Int) < 16 := by omega
  have hin2 : (i : Int) < n := by omega
  rw [z3]
  rw [← HST.out.1, ← HST.out.2, ← HIT.out] at hcase
  obtain ⟨v5, hv5⟩ : ∃ v5, vs[i]? = some v5 := ⟨_, List.getElem?_eq_getElem (by rw [HS4.out.len]; exact (List.getElem?_eq_some_iff.1 hss).1)⟩
  have ho5 := HS4.out.own i v5 ss hv5 hss
  have e5 := HS4.out.blk.at i hv5
  have f5 := HS4.out.blk.free i
  have HSS := Lib.hid hss
  have HPP := Lib.hid hp
  have HV5 := Lib.hid hv5
  have HO5 := Lib.hid ho5
  obtain ⟨sa, scap, hsv, hsc, hsa⟩ := ho5.form
  rw [hsv] at e5
  rw [List.length_map] at e5 hsc
  clear hi hp hlc hic z3 hss hv5 ho5
  have hpi : p = p0 := by have h := HPP.out; rw [hp0] at h; cases h; rfl
  subst hpi
  have hss0 : ss = ss0 := by have h := HSS.out; rw [hL] at h; cases h; rfl
  subst hss0
  obtain ⟨hne, hk0, hst05, hlast, hrel'⟩ : ss ≠ [] ∧ p.c.kind = 0 ∧ (q.st = 0 ∨ q.st = 5) ∧ ss.getLast? = some q.s ∧ Rel P' L := by
    rcases hcase with ⟨h, -⟩ | h | ⟨h, -⟩
    · exact absurd h hn0
    · exact h
    · omega
  clear hcase hp0 hL hn0
  have HR := Lib.hid hrel'
  obtain ⟨k, hk⟩ : ∃ k, ss.length = k + 1 := ⟨ss.length - 1, by have := List.length_pos_iff.2 hne; omega⟩
  obtain ⟨sb, so, rfl⟩ := hsa (by simpa using hne)
  have ec : w4.cell? ⟨sb, so + k, none⟩ = some (.string q.s) := by
    have ho := HO5.out
    rw [hsv] at ho
    refine ho.cell ?_
    rw [List.getElem?_map]
    rw [List.getLast?_eq_getElem?, hk] at hlast
    rw [show k = k + 1 - 1 by omega, hlast]; rfl
  rw [hk] at e5 hsc
  rw [hk0] at m0
  have hk80 : k ≤ 80 := by have := HGS.out.bd i ss HSS.out; omega
  have z4 : (q.st == 2) = false := by rw [beq_eq_false_iff_ne]; omega
  have z5 : ((k : Int) + 1 == 0) = false := by rw [beq_eq_false_iff_ne]; omega
  clear hrel' hsv hsa hlast hne hk hk0
  have hz5 : Hid (q.st = 0 ∨ q.st = 5) := hst05
  have hst5 : q.st = 5 := by
    rcases hst05 with h | h
    · rw [HST.out.1] at h; exact absurd h hq0
    · exact h
  clear hst05 hq0
  rw [hst5] at t2
  clear hst5 z4
  go_wp2_with fail
  refine wp_region_quiet_lit (by kernel_rfl) (by kernel_rfl) ?_
  repeat (first | go_big_quiet_step (fail) | quiet_step (fail))
  refine wpQuiet_nil ?_
  intro _ hw'
  obtain ⟨nq, hw''⟩ := hw'
  subst hw''
  go_wp2_with fail
  exact ⟨wi_mk (j + 1) now' P' vs (L) rfl (by omega) (HEND.out L (w4.drewN nq) (HU4.out.drewN _) HR.out (fun i ss hss => by have := HGS.out.bd i ss hss; omega) _ vs [] (Upd.refl _ _) (by simp) (HS4.out.upd ((Upd.refl [] _).drewN _) (by simp))), by simp [Wmu, intOf]; omega⟩
end Go.Proofs.Ytdfjjhpnhaggjaa
