/- The chapter's channels, and what they answer: given, receives. -/
import Derived.Test.YtdfjjhpnhaggjaaK14
namespace Go.Proofs.Ytdfjjhpnhaggjaa
open Go.RowKit Go.Mem

def givL (n : Nat) : List Ch := [⟨0, 0, 0, .slice (some ⟨n, 0, none⟩) 2 2, [(1, 1), (2, 1)], 4, 0, 5⟩, ⟨1, 1, 0, .slice (some ⟨n + 1, 0, none⟩) 1 1, [(2, 2)], 4, 1, 0⟩]

theorem giv_is {w : World} {n : Nat} (h0 : Blk w n [.int .u8 1, .int .u8 1, .int .u8 2, .int .u8 1] 63) (h1 : Blk w (n + 1) [.int .u8 2, .int .u8 2] 63)
    (h2 : Blk w (n + 2) [.int .u8 0, .int .u8 0, .int .u8 0, .slice (some ⟨n, 0, none⟩) 2 2, .int .u8 4, .int .u8 0, .int .u32 5, .int .u8 1, .int .u8 1, .int .u8 0, .slice (some ⟨n + 1, 0, none⟩) 1 1, .int .u8 4, .int .u8 1, .int .u32 0] 66) :
    IsChans w (.slice (some ⟨n + 2, 0, none⟩) 2 2) (givL n) := by
  refine ⟨⟨_, 2, rfl, fun _ => ⟨n + 2, 0, rfl, ?_, h2.lt⟩⟩, ?_⟩
  · intro i c hc
    match i, hc with
    | 0, hc => cases hc; exact ⟨h2.at 0 rfl, h2.at 1 rfl, h2.at 2 rfl, h2.at 3 rfl, h2.at 4 rfl, h2.at 5 rfl, h2.at 6 rfl⟩
    | 1, hc => cases hc; exact ⟨h2.at 7 rfl, h2.at 8 rfl, h2.at 9 rfl, h2.at 10 rfl, h2.at 11 rfl, h2.at 12 rfl, h2.at 13 rfl⟩
    | i + 2, hc => simp [givL] at hc
  · intro c hc
    simp only [givL, List.mem_cons, List.not_mem_nil, or_false] at hc
    rcases hc with rfl | rfl
    · refine ⟨_, 2, rfl, fun _ => ⟨n, 0, rfl, ?_, h0.lt⟩⟩
      intro i c hc
      match i, hc with
      | 0, hc => cases hc; exact ⟨h0.at 0 rfl, h0.at 1 rfl⟩
      | 1, hc => cases hc; exact ⟨h0.at 2 rfl, h0.at 3 rfl⟩
      | i + 2, hc => simp at hc
    · refine ⟨_, 1, rfl, fun _ => ⟨n + 1, 0, rfl, ?_, h1.lt⟩⟩
      intro i c hc
      match i, hc with
      | 0, hc => cases hc; exact ⟨h1.at 0 rfl, h1.at 1 rfl⟩
      | i + 1, hc => simp at hc

set_option maxHeartbeats 400000 in
theorem given_calls (w : World) :
    Calls Try.prog 39 #[] w fun e w' => e = .returned (.slice (some ⟨w.heap.size + 2, 0, none⟩) 2 2) ∧ IsChans w' (.slice (some ⟨w.heap.size + 2, 0, none⟩) 2 2) (givL w.heap.size) ∧ Upd [] w w' := by
  go_enter Try.func39, Try.ntmps39
  go_wp2
  go_ret
  have e0 := Blk.new w [.int .u8 1, .int .u8 1, .int .u8 2, .int .u8 1] 63
  have e1 := Blk.new (w.alloc (.cells [Value.int .u8 1, .int .u8 1, .int .u8 2, .int .u8 1].toArray 63)) [.int .u8 2, .int .u8 2] 63
  have e2 := Blk.new ((w.alloc (.cells [Value.int .u8 1, .int .u8 1, .int .u8 2, .int .u8 1].toArray 63)).alloc (.cells [Value.int .u8 2, .int .u8 2].toArray 63)) [.int .u8 0, .int .u8 0, .int .u8 0, .slice (some ⟨w.heap.size, 0, none⟩) 2 2, .int .u8 4, .int .u8 0, .int .u32 5, .int .u8 1, .int .u8 1, .int .u8 0, .slice (some ⟨w.heap.size + 1, 0, none⟩) 1 1, .int .u8 4, .int .u8 1, .int .u32 0] 66
  simp only [World.size_alloc] at e1 e2
  exact ⟨rfl, giv_is ((e0.alloc _).alloc _) (e1.alloc _) e2, (((Upd.refl _ _).alloc _).alloc _).alloc _⟩

set_option maxHeartbeats 1000000 in
theorem receives_calls (T : Nat) (g now : Int) (m : List Bool) (P : List Item) (fp : List Nat) (gu po : Int) (s : ByteArray) (age st : Int) (w : World) (h : Tab w fp T g now m P) (hg : 0 < g) (t0 : 0 ≤ now) (t1 : now < 18446744073709551616) (hk : KOk (gu, po)) (hP : Good P)
    (r : Rcv) (hr : stRecv (gu, po) now P = r) :
    Calls Try.prog 43 #[.pointer (some ⟨T, 0, none⟩), .int .u8 gu, .int .u8 po, .string s, .int .u64 age, .int .u8 st] w fun e w' => e = .returned (.bool (decide (r.s.toList = s.toList) && (decide (r.age = age) && decide (r.st = st)))) ∧ Tab w' fp T g now m (precv (gu, po) P) ∧ Upd fp w w' := by
  have HC := Lib.hid (trecv_calls T g now m P fp gu po w h hg t0 t1 hk hP)
  rw [hr] at HC
  clear h hg t0 t1 hk hP hr
  go_enter Try.func43, Try.ntmps43
  go_wp2_with (go_at_call 48; refine HC.out.mono ?_; rintro e w1 ⟨rfl, hc, hu⟩; have HT := Lib.hid hc; have HU := Lib.hid hu; clear hc hu)
  all_goals go_ret
  all_goals refine ⟨ret_bool ?_, HT.out, HU.out⟩
  all_goals simp_all
  all_goals rw [Bool.eq_iff_iff]; simp

theorem good_mkc {P : List Item} {guests : Int} {l : List Ch} (hz : check l guests = 0) (hok : ∀ c ∈ l, c.Ok) (hc : P.map Item.c = l) (hy : ∀ p ∈ P, p.y = mkc p.c) : Good P := by
  intro p hp
  have hpl : p.c ∈ l := by rw [← hc]; exact List.mem_map_of_mem hp
  rw [hy p hp]
  unfold check at hz
  split at hz
  · cases hz
  split at hz
  · cases hz
  have hs := ((chk_zero guests l [] List.nodup_nil hz).1 p.c hpl).1
  have ho := hok p.c hpl
  have hv0 := ho.v0
  have hv1 := ho.v1
  unfold Ch.shapeB shapeI at hs
  simp only [Bool.and_eq_true, decide_eq_true_eq] at hs
  obtain ⟨⟨m1, m2⟩, hs⟩ := hs
  unfold mkc mk
  by_cases h1 : p.c.kind = 1
  · rw [if_pos h1]
    rw [h1] at hs
    simp at hs
    exact ⟨List.length_replicate, Int.le_refl _, by show 0 < p.c.depth; omega, Int.le_refl _, by show 0 ≤ p.c.depth; omega, hs.1.1.2, hs.1.2, m1, m2⟩
  · rw [if_neg h1]
    split at hs
    · simp at hs
      exact ⟨m1, m2, by show (1 : Int) ≤ (p.c.to.length : Nat); omega, by show ((p.c.to.length : Nat) : Int) ≤ 16; omega, List.length_replicate, hv0, hv1, Int.le_refl _, by show (0 : Int) < 18446744073709551616; omega⟩
    · cases hs
end Go.Proofs.Ytdfjjhpnhaggjaa
