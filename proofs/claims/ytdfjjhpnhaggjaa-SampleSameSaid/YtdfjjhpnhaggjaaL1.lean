/- The law's own walks: one act at both channels. -/
import Derived.Test.YtdfjjhpnhaggjaaP1
namespace Go.Proofs.Ytdfjjhpnhaggjaa
open Go.RowKit Go.Mem

/-- What was written is at most n, n readings each, of short texts. -/
structure LBd (n : Nat) (L : List Wr) : Prop where
  len : L.length ≤ n
  reads : ∀ x ∈ L, x.reads.length ≤ n
  size : ∀ x ∈ L, x.s.size ≤ 1000
  t0 : ∀ x ∈ L, 0 ≤ x.t
  t1 : ∀ x ∈ L, x.t < 18446744073709551616
theorem LBd.ok {n : Nat} {L : List Wr} (h : LBd n L) (hn : n ≤ 1000) : LOk L := ⟨by have := h.len; omega, fun x hx => by have := h.reads x hx; omega, h.size, h.t0, h.t1⟩
theorem LBd.nil : LBd 0 [] := ⟨by simp, by simp, by simp, by simp, by simp⟩
theorem LBd.mono {n k : Nat} {L : List Wr} (h : LBd n L) (hn : n ≤ k) : LBd k L := ⟨by have := h.len; omega, fun x hx => by have := h.reads x hx; omega, h.size, h.t0, h.t1⟩

/-- Both channels, side by side. -/
structure Pair (w : World) (b r : Nat) (fp : List Nat) (m val e : Int) (L : List Wr) : Prop where
  ch : IsCh w b (absL m val e L)
  rf : RefIs w fp r m val e L
  no : b ∉ fp

def actNext (m e : Int) (L : List Wr) (wh t : Int) (s : ByteArray) (en : Int) : List Wr :=
  if wh % 5 < 2 then (if (s.size : Int) ≤ m then L ++ [⟨t, s, []⟩] else L) else rdNext e L en

theorem actNext_bd {n : Nat} {m e : Int} {L : List Wr} {wh t : Int} {s : ByteArray} {en : Int} (h : LBd n L) (hs : s.size ≤ 1000) (ht0 : 0 ≤ t) (ht1 : t < 18446744073709551616) : LBd (n + 1) (actNext m e L wh t s en) := by
  unfold actNext
  split
  · split
    · refine ⟨by have := h.len; simp; omega, ?_, ?_, ?_, ?_⟩
      all_goals
        intro x hx
        rcases List.mem_append.1 hx with hx | hx
      · have := h.reads x hx; omega
      · simp at hx; subst hx; simp
      · exact h.size x hx
      · simp at hx; subst hx; exact hs
      · exact h.t0 x hx
      · simp at hx; subst hx; exact ht0
      · exact h.t1 x hx
      · simp at hx; subst hx; exact ht1
    · exact h.mono (by omega)
  · unfold rdNext
    split
    · exact h.mono (by omega)
    · rcases nil_or_snoc L with rfl | ⟨L0, x, rfl⟩
      · exact h.mono (by omega)
      · simp only [List.getLast?_append, List.getLast?_singleton, Option.some_or, List.dropLast_concat]
        have hx0 : x ∈ L0 ++ [x] := by simp
        refine ⟨by have := h.len; simp at this ⊢; omega, ?_, ?_, ?_, ?_⟩
        all_goals
          intro y hy
          rcases List.mem_append.1 hy with hy | hy
        · have := h.reads y (by simp [hy]); omega
        · simp at hy; subst hy; have := h.reads x hx0; simp; omega
        · exact h.size y (by simp [hy])
        · simp at hy; subst hy; exact h.size x hx0
        · exact h.t0 y (by simp [hy])
        · simp at hy; subst hy; exact h.t0 x hx0
        · exact h.t1 y (by simp [hy])
        · simp at hy; subst hy; exact h.t1 x hx0

/-- What a step of both leaves. -/
def PairStep (b r : Nat) (fp : List Nat) (m val e : Int) (L' : List Wr) (w w' : World) : Prop :=
  ∃ fp', Pair w' b r fp' m val e L' ∧ Upd (b :: fp) w w' ∧ ∀ k ∈ fp', k ∈ fp ∨ w.heap.size ≤ k

theorem Pair.step {w w1 w2 : World} {b r : Nat} {fp : List Nat} {m val e : Int} {L L' : List Wr} (h : Pair w b r fp m val e L) (w0 : World) (h0 : Upd [] w w0)
    (hc : IsCh w1 b (absL m val e L')) (hu : Upd [b] w0 w1) (hr : Steps1 (fun w' fp' => RefIs w' fp' r m val e L') fp w1 w2) : PairStep b r fp m val e L' w w2 := by
  obtain ⟨fp', h1, h2, h3⟩ := hr
  have hb : b < w.heap.size := h.ch.lt
  refine ⟨fp', ⟨hc.upd h2 h.no, h1, ?_⟩, ?_, ?_⟩
  · intro hb'
    rcases h3 b hb' with h' | h'
    · exact h.no h'
    · have := h0.size; have := hu.size; omega
  · exact ((h0.mono (by simp)).trans hu (by simp)).trans h2 (by intro x hx; left; simp [hx])
  · intro k hk
    rcases h3 k hk with h' | h'
    · exact .inl h'
    · have := h0.size; have := hu.size; exact .inr (by omega)

set_option maxHeartbeats 400000 in
theorem one_write_long (w : World) (b r : Nat) (fp : List Nat) (m val e : Int) (L : List Wr) (h : Pair w b r fp m val e L) (hs : Shp m val e) (ho : LOk L) (wh t : Int) (s : ByteArray) (en : Int)
    (h0 : 0 ≤ wh) (h1 : wh ≤ 255) (hw : wh % 5 < 2) (hl : m < (s.size : Int)) :
    Calls Try.prog 11 #[.pointer (some ⟨b, 0, none⟩), .pointer (some ⟨r, 0, none⟩), .agg #[.int .u8 wh, .int .u64 t, .string s, .int .i64 en]] w fun y w' => y = .returned (.bool true) ∧ Upd [] w w' := by
  have hmo : (absL m val e L).most = m := by rcases nil_or_snoc L with rfl | ⟨L0, x, rfl⟩; rfl; rw [absL_snoc]
  have HC := Lib.hid (fun (w' : World) (hu : Upd [] w w') => write_long b (absL m val e L) t s w' (h.ch.upd hu (by simp)) (absL_ok hs ho) (by rw [hmo]; exact hl))
  have HR := Lib.hid (fun (w' : World) (hu : Upd [] w w') => rwrite_long w' fp r m val e t s L (h.rf.upd hu (by simp)) hl)
  have HA := Lib.hid (((Upd.refl [] w).alloc (.cells #[.int .u8 wh, .int .u64 t, .string s, .int .i64 en] 39)))
  clear h hs ho hmo
  go_enter Try.func11, Try.ntmps11
  go_wp2_with (first | (go_at_call 30; refine (HC.out _ HA.out).mono ?_; rintro e w' ⟨rfl, rfl⟩) | (go_at_call 32; refine (HR.out _ HA.out).mono ?_; rintro e w' ⟨rfl, rfl⟩))
  go_ret
  exact ⟨rfl, HA.out⟩
end Go.Proofs.Ytdfjjhpnhaggjaa
