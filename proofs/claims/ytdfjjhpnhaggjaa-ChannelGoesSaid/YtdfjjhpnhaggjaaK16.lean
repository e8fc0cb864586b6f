/- awake, walked. -/
import Derived.Test.YtdfjjhpnhaggjaaK15
namespace Go.Proofs.Ytdfjjhpnhaggjaa
open Go.RowKit Go.Mem

theorem giv_ok (n : Nat) : ∀ c ∈ givL n, c.Ok := by
  intro c hc
  simp only [givL, List.mem_cons, List.not_mem_nil, or_false] at hc
  rcases hc with rfl | rfl
  · refine ⟨by simp, by simp, by simp, by simp, by simp, by simp, by simp, by simp, by simp, by simp, by simp, by simp, ?_⟩
    intro x hx
    simp only [List.mem_cons, List.not_mem_nil, or_false] at hx
    rcases hx with rfl | rfl <;> exact ⟨by decide, by decide, by decide, by decide⟩
  · refine ⟨by simp, by simp, by simp, by simp, by simp, by simp, by simp, by simp, by simp, by simp, by simp, by simp, ?_⟩
    intro x hx
    simp only [List.mem_cons, List.not_mem_nil, or_false] at hx
    rcases hx with rfl <;> exact ⟨by decide, by decide, by decide, by decide⟩
theorem giv_chk (n : Nat) : check (givL n) 3 = 0 := rfl

def givP (n b0 b1 : Nat) : List Item := [⟨⟨0, 0, 0, .slice (some ⟨n, 0, none⟩) 2 2, [(1, 1), (2, 1)], 4, 0, 5⟩, b0, .smp ⟨4, 5, 2, false, ⟨#[]⟩, 0, List.replicate 16 false⟩⟩,
  ⟨⟨1, 1, 0, .slice (some ⟨n + 1, 0, none⟩) 1 1, [(2, 2)], 4, 1, 0⟩, b1, .que ⟨List.replicate 16 ⟨#[]⟩, 0, 0, 1, 4⟩⟩]
theorem two_of {α : Type} : ∀ {P : List α}, P.length = 2 → ∃ p q, P = [p, q]
  | [p, q], _ => ⟨p, q, rfl⟩
theorem givP_of {n : Nat} {P : List Item} (hc : P.map Item.c = givL n) (hy : ∀ p ∈ P, p.y = mkc p.c) : ∃ b0 b1, P = givP n b0 b1 := by
  have hl : P.length = 2 := by have := congrArg List.length hc; simpa [givL] using this
  obtain ⟨p, q, rfl⟩ := two_of hl
  have h1 := hy p (by simp)
  have h2 := hy q (by simp)
  obtain ⟨c, b, y⟩ := p
  obtain ⟨c', b', y'⟩ := q
  simp only [givL, List.map_cons, List.map_nil, List.cons.injEq, and_true] at hc
  obtain ⟨rfl, rfl⟩ := hc
  simp only at h1 h2
  rw [h1, h2]
  exact ⟨b, b', rfl⟩
def ab : ByteArray := ⟨#[97, 98]⟩
def givP1 (n b0 b1 : Nat) : List Item := psend (0, 0) 3 ab (givP n b0 b1)
theorem giv_send (n b0 b1 : Nat) : stSend (0, 0) ab (givP n b0 b1) = 0 := rfl
theorem giv_w1 (n b0 b1 : Nat) : stWait (2, 1) (givP1 n b0 b1) = 1 := rfl
theorem giv_recv (n b0 b1 : Nat) : stRecv (2, 1) 7 (givP1 n b0 b1) = ⟨ab, 4, 0⟩ := rfl
theorem giv_w2 (n b0 b1 : Nat) : stWait (2, 1) (precv (2, 1) (givP1 n b0 b1)) = 0 := rfl
theorem giv_w3 (n b0 b1 : Nat) : stWait (1, 1) (precv (2, 1) (givP1 n b0 b1)) = 1 := rfl

def AwT (w wr : World) (T n b0 b1 : Nat) (now : Int) (P : List Item) : Prop := ∃ fp m, Tab wr fp T 3 now m P ∧ Good P ∧ Upd [] w wr ∧ (∀ k ∈ fp, w.heap.size ≤ k) ∧ n = n ∧ b0 = b0 ∧ b1 = b1
theorem aw_step {w wr w' : World} {T n b0 b1 : Nat} {now' : Int} {P' : List Item} {fp : List Nat} {m : List Bool} (hT : Tab w' fp T 3 now' m P') (hG : Good P') (hu : Upd [] w wr) (hfp : ∀ k ∈ fp, w.heap.size ≤ k) (hu' : Upd fp wr w') : AwT w w' T n b0 b1 now' P' :=
  ⟨fp, m, hT, hG, hu.trans hu' (fun x hx => .inr (hfp x hx)), hfp, rfl, rfl, rfl⟩
theorem aw_new {w w1 w2 : World} {e : Ending} (hu : Upd [] w w1) (h : NewRes 3 (givL w.heap.size) w1 e w2) : ∃ T b0 b1, e = .returned (.tuple #[.pointer (some ⟨T, 0, none⟩), .int .i64 0]) ∧ AwT w w2 T w.heap.size b0 b1 0 (givP w.heap.size b0 b1) := by
  unfold NewRes at h
  rw [if_pos (giv_chk _)] at h
  obtain ⟨fp, T, P, rfl, hT, hc, hy, hu2, hfp⟩ := h
  have hg := good_mkc (giv_chk _) (giv_ok _) hc hy
  obtain ⟨b0, b1, rfl⟩ := givP_of hc hy
  exact ⟨T, b0, b1, rfl, fp, _, hT, hg, hu.trans hu2 (by simp), fun k hk => Nat.le_trans hu.size (hfp k hk), rfl, rfl, rfl⟩
theorem aw_at {w wr : World} {T n b0 b1 : Nat} {now x : Int} {P : List Item} (h : AwT w wr T n b0 b1 now P) : Calls Try.prog 40 #[.pointer (some ⟨T, 0, none⟩), .int .u64 x] wr fun e w' => e = .returned (.tuple #[]) ∧ AwT w w' T n b0 b1 x P := by
  obtain ⟨fp, m, hT, hG, hu, hfp, -, -, -⟩ := h
  refine (tat_calls T 3 now x m P fp wr hT (by decide)).mono ?_
  rintro e w' ⟨rfl, h1, h2⟩
  exact ⟨rfl, aw_step h1 hG hu hfp (h2.mono (by intro k hk; simp at hk; subst hk; exact .inl h1.memT))⟩
theorem aw_send {w wr : World} {T n b0 b1 : Nat} (h : AwT w wr T n b0 b1 3 (givP n b0 b1)) : Calls Try.prog 41 #[.pointer (some ⟨T, 0, none⟩), .int .u8 0, .int .u8 0, .string ⟨#[97, 98]⟩] wr fun e w' => e = .returned (.int .u8 0) ∧ AwT w w' T n b0 b1 3 (givP1 n b0 b1) := by
  obtain ⟨fp, m, hT, hG, hu, hfp, -, -, -⟩ := h
  refine (tsend_calls T 3 3 m _ fp 0 0 ab wr hT (by decide) (by unfold KOk; decide) hG).mono ?_
  rintro e w' ⟨rfl, h1, h2⟩
  exact ⟨by rw [giv_send], aw_step h1 (psend_good hG _ (by decide) (by decide) _) hu hfp h2⟩
theorem aw_wait {w wr : World} {T n b0 b1 : Nat} {now x y : Int} {P : List Item} (h : AwT w wr T n b0 b1 now P) (hk : KOk (x, y)) {r : Int} (hr : stWait (x, y) P = r) : Calls Try.prog 42 #[.pointer (some ⟨T, 0, none⟩), .int .u8 x, .int .u8 y] wr fun e w' => e = .returned (.int .i64 r) ∧ AwT w w' T n b0 b1 now P := by
  obtain ⟨fp, m, hT, hG, hu, hfp, -, -, -⟩ := h
  refine (twaits_calls T 3 now m P fp x y wr hT (by decide) hk hG).mono ?_
  rintro e w' ⟨rfl, h2⟩
  exact ⟨by rw [hr], aw_step (hT.upd h2 (by simp)) hG hu hfp (h2.mono (by simp))⟩
theorem aw_recv {w wr : World} {T n b0 b1 : Nat} (h : AwT w wr T n b0 b1 7 (givP1 n b0 b1)) : Calls Try.prog 43 #[.pointer (some ⟨T, 0, none⟩), .int .u8 2, .int .u8 1, .string ⟨#[97, 98]⟩, .int .u64 4, .int .u8 0] wr fun e w' => e = .returned (.bool true) ∧ AwT w w' T n b0 b1 7 (precv (2, 1) (givP1 n b0 b1)) := by
  obtain ⟨fp, m, hT, hG, hu, hfp, -, -, -⟩ := h
  refine (receives_calls T 3 7 m _ fp 2 1 ab 4 0 wr hT (by decide) (by decide) (by decide) (by unfold KOk; decide) hG _ (giv_recv n b0 b1)).mono ?_
  rintro e w' ⟨rfl, h1, h2⟩
  exact ⟨by simp, aw_step h1 (precv_good hG _) hu hfp h2⟩

set_option maxRecDepth 100000 in
set_option maxHeartbeats 2000000 in
theorem awake_calls (w : World) : Calls Try.prog 17 #[] w fun e w' => e = .returned (.bool true) ∧ Upd [] w w' := by
  go_enter Try.func17, Try.ntmps17
  go_wp2_with fail
  refine (given_calls _).mono ?_
  rintro e w1 ⟨rfl, hi, hu⟩
  have HNW := Lib.hid (new_calls _ _ 3 w1 hi (giv_ok _) (by simp [givL, maxLen]))
  have HU := Lib.hid hu
  clear hi hu
  go_wp2_with fail
  refine HNW.out.mono ?_
  intro e w2 h
  obtain ⟨T, b0, b1, rfl, ha⟩ := aw_new HU.out h
  have HA := Lib.hid ha
  clear h ha HNW HU
  go_wp2_with fail
  refine (aw_at HA.out).mono ?_
  rintro e w3 ⟨rfl, ha⟩
  clear HA
  have HA := Lib.hid ha
  clear ha
  go_wp2_with fail
  refine (aw_send HA.out).mono ?_
  rintro e w4 ⟨rfl, ha⟩
  clear HA
  have HA := Lib.hid ha
  clear ha
  go_wp2_with fail
  refine (aw_at HA.out).mono ?_
  rintro e w5 ⟨rfl, ha⟩
  clear HA
  have HA := Lib.hid ha
  clear ha
  go_wp2_with fail
  refine (aw_wait HA.out (by unfold KOk; decide) (giv_w1 _ _ _)).mono ?_
  rintro e w6 ⟨rfl, ha⟩
  clear HA
  have HA := Lib.hid ha
  clear ha
  go_wp2_with fail
  refine (aw_recv HA.out).mono ?_
  rintro e w7 ⟨rfl, ha⟩
  clear HA
  have HA := Lib.hid ha
  clear ha
  go_wp2_with fail
  refine (aw_wait HA.out (by unfold KOk; decide) (giv_w2 _ _ _)).mono ?_
  rintro e w8 ⟨rfl, ha⟩
  clear HA
  have HA := Lib.hid ha
  clear ha
  go_wp2_with fail
  refine (aw_wait HA.out (by unfold KOk; decide) (giv_w3 _ _ _)).mono ?_
  rintro e w9 ⟨rfl, ha⟩
  clear HA
  have HA := Lib.hid ha
  clear ha
  go_wp2_with fail
  go_ret
  obtain ⟨fp, m, hT, hG, hu, hfp, -, -, -⟩ := HA.out
  exact ⟨rfl, hu⟩
end Go.Proofs.Ytdfjjhpnhaggjaa
