/- The law SampleSame itself: what the rounds keep. -/
import Derived.Test.YtdfjjhpnhaggjaaL4
import Derived.Test.YtdfjjhpnhaggjaaP2
namespace Go.Proofs.Ytdfjjhpnhaggjaa
open Go.RowKit Go.Mem

/-- What an act makes of what was written. -/
def stepL (m e : Int) (L : List Wr) (x : Act18) : List Wr := if x.wh % 5 = 4 then L else actNext m e L x.wh x.t x.s x.en
def play (m e : Int) (A : List Act18) : List Wr := A.foldl (stepL m e) []

theorem play_snoc (m e : Int) (A : List Act18) (x : Act18) : play m e (A ++ [x]) = stepL m e (play m e A) x := by simp [play]
theorem play_bd (m e : Int) (k : Nat) (A : List Act18) (hA : ∀ x ∈ A, x.Ok) (hs : ∀ x ∈ A, x.s.size ≤ 100) (hl : A.length ≤ k) : LBd k (play m e A) := by
  induction k generalizing A with
  | zero => have : A = [] := List.eq_nil_of_length_eq_zero (by omega)
            subst this; exact LBd.nil
  | succ k ih =>
    rcases nil_or_snoc A with rfl | ⟨B, x, rfl⟩
    · exact LBd.nil.mono (by omega)
    · rw [play_snoc]
      have h1 := ih B (fun y hy => hA y (by simp [hy])) (fun y hy => hs y (by simp [hy])) (by simp at hl; omega)
      have hx := hA x (by simp)
      unfold stepL
      split
      · exact h1.mono (by omega)
      · exact actNext_bd h1 (by have := hs x (by simp); omega) hx.t0 hx.t1

structure Duo (w wr : World) (c r : Nat) (fp : List Nat) (m val e : Int) (L : List Wr) (d s : Nat) (fq : List Nat) (m' val' e' : Int) (M : List Wr) : Prop where
  one : Pair wr c r fp m val e L
  two : Pair wr d s fq m' val' e' M
  cd : c ≠ d
  cq : c ∉ fq
  dp : d ∉ fp
  pq : ∀ k ∈ fp, k ∉ fq
  cn : w.heap.size ≤ c
  dn : w.heap.size ≤ d
  pn : ∀ k ∈ fp, w.heap.size ≤ k
  qn : ∀ k ∈ fq, w.heap.size ≤ k
  up : Upd [] w wr

theorem Duo.swap {w wr : World} {c r : Nat} {fp : List Nat} {m val e : Int} {L : List Wr} {d s : Nat} {fq : List Nat} {m' val' e' : Int} {M : List Wr} (h : Duo w wr c r fp m val e L d s fq m' val' e' M) :
    Duo w wr d s fq m' val' e' M c r fp m val e L :=
  ⟨h.two, h.one, h.cd.symm, h.dp, h.cq, fun k hk hk' => h.pq k hk' hk, h.dn, h.cn, h.qn, h.pn, h.up⟩

theorem Duo.step {w wr w' : World} {c r : Nat} {fp : List Nat} {m val e : Int} {L L' : List Wr} {d s : Nat} {fq : List Nat} {m' val' e' : Int} {M : List Wr} (h : Duo w wr c r fp m val e L d s fq m' val' e' M)
    (hp : PairStep c r fp m val e L' wr w') : ∃ fp', Duo w w' c r fp' m val e L' d s fq m' val' e' M := by
  obtain ⟨fp', h1, h2, h3⟩ := hp
  have hsz := h.up.size
  refine ⟨fp', h1, ⟨h.two.ch.upd h2 (by simp only [List.mem_cons, not_or]; exact ⟨h.cd.symm, h.dp⟩), h.two.rf.upd h2 ?_, h.two.no⟩, h.cd, h.cq, ?_, ?_, h.cn, h.dn, ?_, h.qn, h.up.trans h2 ?_⟩
  · intro k hk hm
    rcases List.mem_cons.1 hm with rfl | hm
    · exact h.cq hk
    · exact h.pq k hm hk
  · intro hd
    rcases h3 d hd with h' | h'
    · exact h.dp h'
    · have := h.two.ch.lt; omega
  · intro k hk hq
    rcases h3 k hk with h' | h'
    · exact h.pq k h' hq
    · have := h.two.rf.lt k hq; omega
  · intro k hk
    rcases h3 k hk with h' | h'
    · exact h.pn k h'
    · omega
  · intro x hx
    rcases List.mem_cons.1 hx with rfl | hx
    · exact .inr h.cn
    · exact .inr (h.pn x hx)
theorem Duo.upd {w wr w' : World} {c r : Nat} {fp : List Nat} {m val e : Int} {L : List Wr} {d s : Nat} {fq : List Nat} {m' val' e' : Int} {M : List Wr} (h : Duo w wr c r fp m val e L d s fq m' val' e' M)
    (hu : Upd [] wr w') : Duo w w' c r fp m val e L d s fq m' val' e' M :=
  ⟨⟨h.one.ch.upd hu (by simp), h.one.rf.upd hu (by simp), h.one.no⟩, ⟨h.two.ch.upd hu (by simp), h.two.rf.upd hu (by simp), h.two.no⟩, h.cd, h.cq, h.dp, h.pq, h.cn, h.dn, h.pn, h.qn, h.up.trans hu (by simp)⟩

theorem fewB_all {A : List Act18} (h : fewB A = true) : A.length ≤ 50 ∧ ∀ x ∈ A, x.s.size ≤ 100 := by
  unfold fewB at h
  simp only [Bool.and_eq_true, decide_eq_true_eq, List.all_eq_true] at h
  refine ⟨h.2, fun x hx => h.1 x ?_⟩
  rw [List.take_of_length_le (by omega)]; exact hx

/-- Fresh channels, both made just now. -/
theorem Duo.start {w w1 w2 : World} {X : List Value} {T : TypeId} {m val e m' val' e' : Int}
    (hc : IsCh w1 (w.heap.size + 1) ⟨m, val, e, false, ⟨#[]⟩, 0, List.replicate 16 false⟩) (hu1 : Upd [] (w.alloc (.cells X.toArray T)) w1)
    (hd : IsCh w2 w1.heap.size ⟨m', val', e', false, ⟨#[]⟩, 0, List.replicate 16 false⟩) (hu2 : Upd [] w1 w2) :
    Duo w ((w2.alloc (.cells #[.int .i64 m, .int .u32 val, .int .i64 e, .slice none 0 0] 36)).alloc (.cells #[.int .i64 m', .int .u32 val', .int .i64 e', .slice none 0 0] 36))
      (w.heap.size + 1) w2.heap.size [w2.heap.size] m val e [] w1.heap.size (w2.heap.size + 1) [w2.heap.size + 1] m' val' e' [] := by
  have s1 : w.heap.size + 1 < w1.heap.size := hc.lt
  have s2 : w1.heap.size < w2.heap.size := hd.lt
  have hw0 : Upd [] w w1 := ((Upd.refl _ _).alloc _).trans hu1 (by simp)
  have hA : Upd [] w2 (w2.alloc (.cells #[.int .i64 m, .int .u32 val, .int .i64 e, .slice none 0 0] 36)) := (Upd.refl _ _).alloc _
  have hB : Upd [] w2 ((w2.alloc (.cells #[.int .i64 m, .int .u32 val, .int .i64 e, .slice none 0 0] 36)).alloc (.cells #[.int .i64 m', .int .u32 val', .int .i64 e', .slice none 0 0] 36)) := hA.alloc _
  have b1 : Blk ((w2.alloc (.cells #[.int .i64 m, .int .u32 val, .int .i64 e, .slice none 0 0] 36)).alloc (.cells #[.int .i64 m', .int .u32 val', .int .i64 e', .slice none 0 0] 36)) w2.heap.size [.int .i64 m, .int .u32 val, .int .i64 e, .slice none 0 0] 36 := (Blk.new w2 _ _).alloc _
  have b2 := Blk.new (w2.alloc (.cells #[.int .i64 m, .int .u32 val, .int .i64 e, .slice none 0 0] 36)) [.int .i64 m', .int .u32 val', .int .i64 e', .slice none 0 0] 36
  rw [World.size_alloc] at b2
  refine ⟨⟨(hc.upd hu2 (by simp)).upd hB (by simp), ⟨_, [], b1, World.ownsRow_nil _ _ _ _, trivial, by simp [bl, Value.ownBlock], by simp⟩, by simp; omega⟩,
    ⟨hd.upd hB (by simp), ⟨_, [], b2, World.ownsRow_nil _ _ _ _, trivial, by simp [bl, Value.ownBlock], by simp⟩, by simp; omega⟩, by omega, by simp; omega, by simp; omega, by simp, by omega, by omega, by simp; omega, by simp; omega, (hw0.trans hu2 (by simp)).trans hB (by simp)⟩
end Go.Proofs.Ytdfjjhpnhaggjaa
