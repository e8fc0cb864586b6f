/- A guest's link: Link, and its Send, Receive, Waiting. -/
import Derived.Test.YtdfjjhpnhaggjaaK14
import Derived.StillTailTactics
import Derived.RegionTactic
import Derived.Deep.RegionWith
namespace Go.Proofs.Ytdfjjhpnhaggjaa
open Go.RowKit Go.Mem

set_option maxHeartbeats 400000 in
theorem link_in (T : Nat) (g now gu : Int) (m : List Bool) (P : List Item) (fp : List Nat) (w : World) (h : Tab w fp T g now m P) (hg : 0 < g) (h0 : 0 ≤ gu) (h2 : gu ≤ 255) (h1 : gu < g) :
    Calls Try.prog 46 #[.pointer (some ⟨T, 0, none⟩), .int .u8 gu] w fun e w' => e = .returned (.pointer (some ⟨w.heap.size, 0, none⟩)) ∧ Blk w' w.heap.size [.pointer (some ⟨T, 0, none⟩), .int .u8 gu] 153 ∧ Upd [] w w' := by
  obtain ⟨ways, bo, bi, htb, -⟩ := h.ex
  have c0 := htb.at 0 rfl
  have z1 : decide (g ≤ gu) = false := by simp; omega
  clear h htb
  go_enter Try.func46, Try.ntmps46
  go_wp2_with (go_at_call 44; refine (tis_calls _ _ _ c0 (by assumption)).mono ?_; rintro e w' ⟨rfl, rfl⟩)
  go_ret
  exact ⟨rfl, Blk.new w [.pointer (some ⟨T, 0, none⟩), .int .u8 gu] 153, (Upd.refl _ _).alloc _⟩
set_option maxHeartbeats 400000 in
theorem link_out (T : Nat) (g now gu : Int) (m : List Bool) (P : List Item) (fp : List Nat) (w : World) (h : Tab w fp T g now m P) (hg : 0 < g) (h0 : 0 ≤ gu) (h2 : gu ≤ 255) (h1 : g ≤ gu) :
    Calls Try.prog 46 #[.pointer (some ⟨T, 0, none⟩), .int .u8 gu] w fun e w' => e = .returned (.pointer none) ∧ w = w' := by
  obtain ⟨ways, bo, bi, htb, -⟩ := h.ex
  have c0 := htb.at 0 rfl
  have z1 : decide (g ≤ gu) = true := by simp; omega
  clear h htb
  go_enter Try.func46, Try.ntmps46
  go_wp2_with (go_at_call 44; refine (tis_calls _ _ _ c0 (by assumption)).mono ?_; rintro e w' ⟨rfl, rfl⟩)
  go_ret
  exact ⟨rfl, rfl⟩

set_option maxHeartbeats 400000 in
theorem lkrecv_nil (po : Int) (w : World) : Calls Try.prog 47 #[.pointer none, .int .u8 po] w fun e w' => e = .returned (.tuple #[.string ⟨#[]⟩, .int .u64 0, .int .u8 2]) ∧ w = w' := by
  go_enter Try.func47, Try.ntmps47
  go_wp2
  go_returns
  exact ⟨rfl, rfl⟩
set_option maxHeartbeats 400000 in
theorem lkwait_nil (po : Int) (w : World) : Calls Try.prog 49 #[.pointer none, .int .u8 po] w fun e w' => e = .returned (.int .i64 0) ∧ w = w' := by
  go_enter Try.func49, Try.ntmps49
  go_wp2
  go_ret
  exact ⟨rfl, rfl⟩
set_option maxHeartbeats 400000 in
theorem lksend_nil (po : Int) (s : ByteArray) (w : World) : Calls Try.prog 50 #[.pointer none, .int .u8 po, .string s] w fun e w' => e = .returned (.int .u8 2) ∧ w = w' := by
  go_enter Try.func50, Try.ntmps50
  go_wp2
  go_ret
  exact ⟨rfl, rfl⟩

set_option maxRecDepth 100000 in
set_option maxHeartbeats 1000000 in
theorem lkrecv_in (L T : Nat) (g now : Int) (m : List Bool) (P : List Item) (fp : List Nat) (gu po : Int) (w : World) (hL : Blk w L [.pointer (some ⟨T, 0, none⟩), .int .u8 gu] 153) (h : Tab w fp T g now m P) (hg : 0 < g) (t0 : 0 ≤ now) (t1 : now < 18446744073709551616) (hk : KOk (gu, po)) (hP : Good P) :
    Calls Try.prog 47 #[.pointer (some ⟨L, 0, none⟩), .int .u8 po] w fun e w' => e = .returned (.tuple #[.string (stRecv (gu, po) now P).s, .int .u64 (stRecv (gu, po) now P).age, .int .u8 (stRecv (gu, po) now P).st]) ∧ Tab w' fp T g now m (precv (gu, po) P) ∧ Upd fp w w' := by
  have HC := Lib.hid (fun (w' : World) (hu : Upd [] w w') => trecv_calls T g now m P fp gu po w' (h.upd hu (by simp)) hg t0 t1 hk hP)
  have e0 := hL.at 0 rfl
  have e1 := hL.at 1 rfl
  obtain ⟨r, hr⟩ : ∃ r, r = stRecv (gu, po) now P := ⟨_, rfl⟩
  rw [← hr] at HC ⊢
  clear h hg t0 t1 hk hP hL hr
  go_enter Try.func47, Try.ntmps47
  go_wp2
  go_region_with (go_at_call 48; refine (HC.out _ ((Upd.refl _ _).drew)).mono ?_; rintro e w1 ⟨rfl, hcc, hu⟩; have HCC := Lib.hid hcc; have HU := Lib.hid ((((Upd.refl [] w).mono (T := fp) (by simp)).drew).trans hu (fun _ h => .inl h)); clear hcc hu)
  all_goals dsimp only [Act.put, List.getElem_toArray, List.getElem_cons_succ, List.getElem_cons_zero]
  all_goals simp only [List.setIfInBounds_toArray, List.set_cons_succ, List.set_cons_zero]
  all_goals go_wp2
  all_goals go_returns
  all_goals exact ⟨rfl, HCC.out, HU.out⟩
set_option maxRecDepth 100000 in
set_option maxHeartbeats 1000000 in
theorem lkwait_in (L T : Nat) (g now : Int) (m : List Bool) (P : List Item) (fp : List Nat) (gu po : Int) (w : World) (hL : Blk w L [.pointer (some ⟨T, 0, none⟩), .int .u8 gu] 153) (h : Tab w fp T g now m P) (hg : 0 < g) (hk : KOk (gu, po)) (hP : Good P) :
    Calls Try.prog 49 #[.pointer (some ⟨L, 0, none⟩), .int .u8 po] w fun e w' => e = .returned (.int .i64 (stWait (gu, po) P)) ∧ Upd [] w w' := by
  have HC := Lib.hid (fun (w' : World) (hu : Upd [] w w') => twaits_calls T g now m P fp gu po w' (h.upd hu (by simp)) hg hk hP)
  have e0 := hL.at 0 rfl
  have e1 := hL.at 1 rfl
  obtain ⟨r, hr⟩ : ∃ r, r = stWait (gu, po) P := ⟨_, rfl⟩
  rw [← hr] at HC ⊢
  clear h hg hk hP hL hr
  go_enter Try.func49, Try.ntmps49
  go_wp2
  go_still_tail 9, (by kernel_rfl)
  change wpList _ _ _ _ _ w.drew
  obtain ⟨w2, hw2⟩ : ∃ w2, w2 = w.drew := ⟨_, rfl⟩
  rw [← hw2]
  have HU := Lib.hid (show Upd [] w w2 by rw [hw2]; exact (Upd.refl _ _).drew)
  clear hw2 e0 e1
  go_wp2_with fail
  refine (HC.out _ HU.out).mono ?_
  rintro e w3 ⟨rfl, h2⟩
  have H2 := Lib.hid (HU.out.trans h2 (by simp))
  clear h2 HC HU
  go_wp2
  go_ret
  exact ⟨rfl, H2.out⟩
set_option maxRecDepth 100000 in
set_option maxHeartbeats 1000000 in
theorem lksend_in (L T : Nat) (g now : Int) (m : List Bool) (P : List Item) (fp : List Nat) (gu po : Int) (s : ByteArray) (w : World) (hL : Blk w L [.pointer (some ⟨T, 0, none⟩), .int .u8 gu] 153) (h : Tab w fp T g now m P) (hg : 0 < g) (hk : KOk (gu, po)) (hP : Good P) :
    Calls Try.prog 50 #[.pointer (some ⟨L, 0, none⟩), .int .u8 po, .string s] w fun e w' => e = .returned (.int .u8 (stSend (gu, po) s P)) ∧ Tab w' fp T g now m (psend (gu, po) now s P) ∧ Upd fp w w' := by
  have HC := Lib.hid (fun (w' : World) (hu : Upd [] w w') => tsend_calls T g now m P fp gu po s w' (h.upd hu (by simp)) hg hk hP)
  have e0 := hL.at 0 rfl
  have e1 := hL.at 1 rfl
  obtain ⟨r, hr⟩ : ∃ r, r = stSend (gu, po) s P := ⟨_, rfl⟩
  rw [← hr] at HC ⊢
  clear h hg hk hP hL hr
  go_enter Try.func50, Try.ntmps50
  go_wp2
  go_still_tail 10, (by kernel_rfl)
  change wpList _ _ _ _ _ w.drew
  obtain ⟨w2, hw2⟩ : ∃ w2, w2 = w.drew := ⟨_, rfl⟩
  rw [← hw2]
  have HU := Lib.hid (show Upd [] w w2 by rw [hw2]; exact (Upd.refl _ _).drew)
  clear hw2 e0 e1
  go_wp2_with fail
  refine (HC.out _ HU.out).mono ?_
  rintro e w3 ⟨rfl, h1, h2⟩
  have H1 := Lib.hid h1
  have H2 := Lib.hid ((HU.out.mono (T := fp) (by simp)).trans h2 (fun _ h => .inl h))
  clear h1 h2 HC HU
  go_wp2
  go_ret
  exact ⟨rfl, H1.out, H2.out⟩
end Go.Proofs.Ytdfjjhpnhaggjaa
