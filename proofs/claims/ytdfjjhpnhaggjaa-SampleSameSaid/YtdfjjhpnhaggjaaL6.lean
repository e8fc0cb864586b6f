/- The law SampleSame itself: the walk, where the acts are gone through. -/
import Derived.Test.YtdfjjhpnhaggjaaL5
namespace Go.Proofs.Ytdfjjhpnhaggjaa
open Go.RowKit Go.Mem

set_option maxRecDepth 20000 in
set_option maxHeartbeats 2000000 in
theorem same_main (w : World) (m val e m' val' e' : Int) (va vb : Value) (A B : List Act18) (hA : IsActs w va A) (hB : IsActs w vb B) (hAo : ∀ x ∈ A, x.Ok) (hBo : ∀ x ∈ B, x.Ok) (hl : A.length ≤ maxLen) (hl' : B.length ≤ maxLen)
    (hs : Shp m val e) (hs' : Shp m' val' e') (hfa : fewB A = true) (hfb : fewB B = true) :
    Calls Try.prog 3 #[.agg #[.int .i64 m, .int .u32 val, .int .i64 e, .int .i64 m', .int .u32 val', .int .i64 e'], va, vb] w fun y w' => y = .returned (.bool true) ∧ Upd [] w w' := by
  obtain ⟨aa, ca, rfl, ha⟩ := hA
  obtain ⟨ab, cb, rfl, hb⟩ := hB
  have m1 := hs.m1
  have m2 := hs.m2
  have e1 := hs.e1
  have e2 := hs.e2
  have m1' := hs'.m1
  have m2' := hs'.m2
  have e1' := hs'.e1
  have e2' := hs'.e2
  have HA : Hid (IsActs w (.slice aa A.length ca) A) := ⟨aa, ca, rfl, ha⟩
  have HB : Hid (IsActs w (.slice ab B.length cb) B) := ⟨ab, cb, rfl, hb⟩
  have HAA := Lib.hid ha
  have HBB := Lib.hid hb
  have hla : A.length ≤ 50 := (fewB_all hfa).1
  have hlb : B.length ≤ 50 := (fewB_all hfb).1
  have HL := Lib.hid hl
  have HL' := Lib.hid hl'
  have HFA := Lib.hid hfa
  have HFB := Lib.hid hfb
  have HS := Lib.hid hs
  have HS' := Lib.hid hs'
  have HAO := Lib.hid hAo
  have HBO := Lib.hid hBo
  clear ha hb hl hl' hfa hfb hs hs' hAo hBo
  go_enter Try.func3, Try.ntmps3
  go_wp2_with fail
  refine (new_ok m val e _ m1 m2 e1 e2).mono ?_
  rintro r w1 ⟨rfl, hc, hu⟩
  simp only [World.size_alloc] at hc ⊢
  have hX := (Blk.new w [.int .i64 m, .int .u32 val, .int .i64 e, .int .i64 m', .int .u32 val', .int .i64 e'] 25).upd hu (by simp)
  have a3 := hX.at 3 rfl
  have a4 := hX.at 4 rfl
  have a5 := hX.at 5 rfl
  have HX := Lib.hid hX
  have HC := Lib.hid hc
  have HU := Lib.hid hu
  clear hX hc hu
  go_wp2_with fail
  refine (new_ok m' val' e' _ m1' m2' e1' e2').mono ?_
  rintro r w2 ⟨rfl, hd, hu2⟩
  have hX := HX.out.upd hu2 (by simp)
  have hUU := ((Upd.refl [] w).alloc (.cells #[.int .i64 m, .int .u32 val, .int .i64 e, .int .i64 m', .int .u32 val', .int .i64 e'] 25)).trans HU.out (by simp)
  have HA2 := Lib.hid (HA.out.upd (hUU.trans hu2 (by simp)) (by simp))
  have HB2 := Lib.hid (HB.out.upd (hUU.trans hu2 (by simp)) (by simp))
  have HD := Lib.hid (Duo.start HC.out HU.out hd hu2)
  have hlt2 := hX.lt
  clear a3 a4 a5
  have b0 := hX.at 0 rfl
  have b1 := hX.at 1 rfl
  have b2 := hX.at 2 rfl
  have b3 := hX.at 3 rfl
  have b4 := hX.at 4 rfl
  have b5 := hX.at 5 rfl
  clear hX hd hu2 hUU HX HC HU HA HB m1 m2 e1 e2 m1' m2' e1' e2'
  go_wp2_with fail
  refine (few_calls _ A _ HA2.out HL.out).mono ?_
  rintro r w' ⟨rfl, rfl⟩
  rw [HFA.out]
  go_wp2_with fail
  refine (few_calls _ B _ HB2.out HL'.out).mono ?_
  rintro r w' ⟨rfl, rfl⟩
  rw [HFB.out]
  go_wp2_with fail
  clear b0 b1 b2 b3 b4 b5 hlt2
  obtain ⟨c, hc⟩ : ∃ c, c = w.heap.size + 1 := ⟨_, rfl⟩
  obtain ⟨d, hd⟩ : ∃ d, d = w1.heap.size := ⟨_, rfl⟩
  obtain ⟨r, hr⟩ : ∃ r, r = w2.heap.size := ⟨_, rfl⟩
  obtain ⟨s, hs⟩ : ∃ s, s = w2.heap.size + 1 := ⟨_, rfl⟩
  rw [← hc, ← hd, ← hs, ← hr] at HD
  rw [← hc, ← hd, ← hs, ← hr]
  clear hc hd hr hs HA2 HB2
  go_loopw [13] (fun i wr => ∃ k : Nat, k ≤ A.length ∧ i = .int .i64 k ∧ ∃ fp, Duo w wr c r fp m val e (play m e (A.take k)) d s [s] m' val' e' []) (fun i _ => A.length - (intOf i).toNat)
  case atStart => exact ⟨0, by omega, rfl, [r], HD.out⟩
  case round =>
    obtain ⟨k, hk, rfl, fp, hduo⟩ := hrel
    have HDU := Lib.hid hduo
    clear hduo
    by_cases hlt : k < A.length
    · obtain ⟨b, off, rfl, hacts, hblt⟩ := HAA.out (by intro h; subst h; simp at hlt)
      obtain ⟨x, hx⟩ : ∃ x, A[k]? = some x := ⟨_, List.getElem?_eq_getElem hlt⟩
      obtain ⟨k0, k1, k2, k3⟩ := (hacts.upd HDU.out.up (by simp) hblt) k x hx
      have hxo := HAO.out x (List.mem_of_getElem? hx)
      have x0 := hxo.h0
      have x1 := hxo.h1
      have HXO := Lib.hid hxo
      have HX := Lib.hid hx
      have hnext : play m e (A.take (k + 1)) = stepL m e (play m e (A.take k)) x := by rw [List.take_add_one, hx]; exact play_snoc m e _ x
      have HNX := Lib.hid hnext
      clear hacts hx hxo hnext
      by_cases hq : x.wh % 5 = 4
      · have hb4 : (x.wh % 5 != 4) = false := by simp [hq]
        have HQ := Lib.hid hq
        clear hq
        go_wp2
        go_roundw
        case rel => exact ⟨k + 1, by omega, by go_num, fp, by rw [HNX.out, stepL, if_pos HQ.out]; exact HDU.out⟩
        case measure => simp [intOf]; omega
      · have hb4 : (x.wh % 5 != 4) = true := by simp [hq]
        have HQ := Lib.hid hq
        clear hq
        have HBD := Lib.hid (play_bd m e 50 (A.take k) (fun y hy => HAO.out y (List.mem_of_mem_take hy)) (fun y hy => (fewB_all HFA.out).2 y (List.mem_of_mem_take hy)) (by have := List.length_take_le k A; simp; omega))
        go_wp2_with (go_at_call 11; refine (one_calls _ c r fp m val e _ HDU.out.one HS.out (HBD.out.ok (by omega)) x.wh x.t x.s x.en x0 x1 HXO.out.t0 HXO.out.t1).mono ?_; rintro y w' ⟨rfl, hp⟩; have HP := Lib.hid (HDU.out.step hp); clear hp)
        go_roundw
        case rel => exact ⟨k + 1, by omega, by go_num, by rw [HNX.out, stepL, if_neg HQ.out]; exact HP.out⟩
        case measure => simp [intOf]; omega
    · have hk2 : A.take k = A := List.take_of_length_le (by omega)
      have HDV := HDU.out
      rw [hk2] at HDV
      have HD1 := Lib.hid HDV
      clear HDV hk2 HDU HD
      have hLO := (play_bd m e 50 A HAO.out (fewB_all HFA.out).2 hla).ok (by omega)
      obtain ⟨L, hL⟩ : ∃ L, L = play m e A := ⟨_, rfl⟩
      rw [← hL] at HD1 hLO
      have HLO := Lib.hid hLO
      clear hLO hL HAA HAO HFA HL hla
      go_wp2_with fail
      clear hlt hk
      obtain ⟨wo, rfl⟩ : ∃ wo : World, wo = wr := ⟨_, rfl⟩
      go_loopw [14] (fun i wr => ∃ k : Nat, k ≤ B.length ∧ i = .int .i64 k ∧ ∃ fq, Duo w wr c r fp m val e L d s fq m' val' e' (play m' e' (B.take k))) (fun i _ => B.length - (intOf i).toNat)
      case atStart => exact ⟨0, by omega, rfl, [s], HD1.out⟩
      case round =>
        obtain ⟨j, hj, rfl, fq, hduo⟩ := hrel
        have HDU := Lib.hid hduo
        clear hduo
        by_cases hlt : j < B.length
        · obtain ⟨b, off, rfl, hacts, hblt⟩ := HBB.out (by intro h; subst h; simp at hlt)
          obtain ⟨x, hx⟩ : ∃ x, B[j]? = some x := ⟨_, List.getElem?_eq_getElem hlt⟩
          obtain ⟨k0, k1, k2, k3⟩ := (hacts.upd HDU.out.up (by simp) hblt) j x hx
          have hxo := HBO.out x (List.mem_of_getElem? hx)
          have x0 := hxo.h0
          have x1 := hxo.h1
          have HXO := Lib.hid hxo
          have HX := Lib.hid hx
          have hnext : play m' e' (B.take (j + 1)) = stepL m' e' (play m' e' (B.take j)) x := by rw [List.take_add_one, hx]; exact play_snoc m' e' _ x
          have HNX := Lib.hid hnext
          clear hacts hx hxo hnext
          by_cases hq : x.wh % 5 = 4
          · have hb4 : (x.wh % 5 != 4) = false := by simp [hq]
            have HQ := Lib.hid hq
            clear hq
            go_wp2
            go_roundw
            case rel => exact ⟨j + 1, by omega, by go_num, fq, by rw [HNX.out, stepL, if_pos HQ.out]; exact HDU.out⟩
            case measure => simp [intOf]; omega
          · have hb4 : (x.wh % 5 != 4) = true := by simp [hq]
            have HQ := Lib.hid hq
            clear hq
            have HBD := Lib.hid (play_bd m' e' 50 (B.take j) (fun y hy => HBO.out y (List.mem_of_mem_take hy)) (fun y hy => (fewB_all HFB.out).2 y (List.mem_of_mem_take hy)) (by have := List.length_take_le j B; simp; omega))
            go_wp2_with (go_at_call 11; refine (one_calls _ d s fq m' val' e' _ HDU.out.two HS'.out (HBD.out.ok (by omega)) x.wh x.t x.s x.en x0 x1 HXO.out.t0 HXO.out.t1).mono ?_; rintro y w' ⟨rfl, hp⟩; have HP := Lib.hid (HDU.out.swap.step hp); clear hp)
            go_roundw
            case rel => exact ⟨j + 1, by omega, by go_num, by rw [HNX.out, stepL, if_neg HQ.out]; exact HP.out.imp fun _ h => h.swap⟩
            case measure => simp [intOf]; omega
        · have hk2 : B.take j = B := List.take_of_length_le (by omega)
          have HDV := HDU.out
          rw [hk2] at HDV
          have hMO := (play_bd m' e' 50 B HBO.out (fewB_all HFB.out).2 hlb).ok (by omega)
          obtain ⟨M, hM⟩ : ∃ M, M = play m' e' B := ⟨_, rfl⟩
          rw [← hM] at HDV hMO
          have HD2 := Lib.hid HDV
          have HMO := Lib.hid hMO
          obtain ⟨q, hq⟩ : ∃ q, q = rsame m val e L m' val' e' M := ⟨_, rfl⟩
          have hlaw := same_law (m' := m') (val' := val') (e' := e') HS.out HLO.out hMO
          rw [← hq] at hlaw
          have HQ := Lib.hid hq
          have HLAW := Lib.hid hlaw
          have hoC := Lib.hid (absL_ok HS.out HLO.out)
          have hoD := Lib.hid (absL_ok HS'.out hMO)
          clear HDV hk2 HDU hMO hM hq hlaw HBB HBO HFB HL' HD1
          go_wp2_with fail
          refine (same_calls c d _ _ _ HD2.out.one.ch HD2.out.two.ch hoC.out hoD.out).mono ?_
          rintro y w' ⟨rfl, n1, rfl⟩
          rw [HLAW.out]
          have HD3 := Lib.hid (HD2.out.upd ((Upd.refl [] _).drewN n1))
          clear HD2
          go_wp2_with fail
          refine (rsame_calls _ _ _ r s m val e m' val' e' L M HD3.out.one.rf HD3.out.two.rf HLO.out HMO.out (by have := HS.out.e1; omega) HS.out.e2 (by have := HS'.out.e1; omega) HS'.out.e2).mono ?_
          rintro y w3 ⟨rfl, hu3⟩
          rw [← HQ.out]
          have HD4 := Lib.hid (HD3.out.upd hu3)
          clear HD3 hu3
          go_wp2_with fail
          refine (copy_calls c _ _ HD4.out.one.ch hoC.out).mono ?_
          rintro y w4 ⟨rfl, hcp, hu4⟩
          have HD5 := Lib.hid (HD4.out.upd hu4)
          have HCP := Lib.hid hcp
          clear HD4 hu4 hcp
          go_wp2_with fail
          refine (same_calls c _ _ _ _ HD5.out.one.ch HCP.out hoC.out hoC.out).mono ?_
          rintro y w' ⟨rfl, n2, rfl⟩
          rw [chEq_self]
          have HD6 := Lib.hid (HD5.out.upd ((Upd.refl [] _).drewN n2))
          clear HD5 HCP
          go_wp2_with fail
          refine (works_calls _).mono ?_
          rintro y w5 ⟨rfl, hu5⟩
          have HD7 := Lib.hid (HD6.out.upd hu5)
          clear HD6 hu5
          go_wp2_with fail
          go_ret
          exact ⟨rfl, HD7.out.up⟩
end Go.Proofs.Ytdfjjhpnhaggjaa
