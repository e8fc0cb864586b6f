/- The walks of the reference's channel: Read. -/
import Derived.Test.YtdfjjhpnhaggjaaD4
namespace Go.Proofs.Ytdfjjhpnhaggjaa
open Go.RowKit Go.Mem

set_option maxHeartbeats 400000 in
theorem rread_arg (w : World) (fp : List Nat) (r : Nat) (m val e : Int) (k t : Int) (L : List Wr) (h : RefIs w fp r m val e L) (hk : k < 0 ∨ e ≤ k) :
    Calls Try.prog 34 #[.pointer (some ⟨r, 0, none⟩), .int .i64 k, .int .u64 t] w fun x w' => x = .returned (.tuple #[.string ⟨#[]⟩, .int .u64 0, .bool false, .int .i64 2]) ∧ w = w' := by
  obtain ⟨v, rvs, hb, -⟩ := h
  have h2 := hb.at 2 rfl
  clear hb
  by_cases h0 : k < 0
  · clear hk
    go_enter Try.func34, Try.ntmps34
    go_wp2
    go_returns
    exact ⟨rfl, rfl⟩
  · have h1 : e ≤ k := by omega
    clear hk
    go_enter Try.func34, Try.ntmps34
    go_wp2
    go_returns
    exact ⟨rfl, rfl⟩

set_option maxHeartbeats 400000 in
theorem rread_empty (w : World) (fp : List Nat) (r : Nat) (m val e : Int) (k t : Int) (h : RefIs w fp r m val e []) (h0 : 0 ≤ k) (h1 : k < e) :
    Calls Try.prog 34 #[.pointer (some ⟨r, 0, none⟩), .int .i64 k, .int .u64 t] w fun x w' => x = .returned (.tuple #[.string ⟨#[]⟩, .int .u64 0, .bool false, .int .i64 10]) ∧ w = w' := by
  obtain ⟨v, rvs, hb, ho, -⟩ := h
  have h2 := hb.at 2 rfl
  have h3 := hb.at 3 rfl
  rcases ho.2 with ⟨rfl, hl⟩ | ⟨g, cap, cur, rfl, -⟩
  · clear hb ho hl
    go_enter Try.func34, Try.ntmps34
    go_wp2
    go_returns
    exact ⟨rfl, rfl⟩
  · clear hb ho
    have hz : ((([] : List Wr).length : Int) == 0) = true := rfl
    go_enter Try.func34, Try.ntmps34
    go_wp2
    go_returns
    exact ⟨rfl, rfl⟩

theorem snoc_of {α : Type} {l : List α} (h : l ≠ []) : ∃ a x, l = a ++ [x] := ⟨l.dropLast, l.getLast h, (List.dropLast_concat_getLast h).symm⟩

theorem RdsOk.last {w : World} {x : Wr} {rv : Value} : ∀ {L rvs}, rvs.length = L.length → RdsOk w (L ++ [x]) (rvs ++ [rv]) → RdsOk w L rvs ∧ w.ownsRow 0 3 1 rv x.reads.length (x.reads.map (.int .i64))
  | [], [], _, h => ⟨trivial, h.1⟩
  | _ :: _, _ :: _, hl, h => ⟨⟨h.1, (RdsOk.last (by simpa using hl) h.2).1⟩, (RdsOk.last (by simpa using hl) h.2).2⟩
  | [], _ :: _, h, _ => by simp at h
  | _ :: _, [], h, _ => by simp at h

/-- The reference's channel that holds a message, laid open. -/
structure RefTop (w : World) (r g cap : Nat) (m val e : Int) (L : List Wr) (x : Wr) (rvs : List Value) (rv : Value) : Prop where
  blk : Blk w r [.int .i64 m, .int .u32 val, .int .i64 e, .slice (some ⟨g, 0, none⟩) (L.length + 1) cap] 36
  own : w.ownsRow 0 136 3 (.slice (some ⟨g, 0, none⟩) (L.length + 1) cap) (L.length + 1) (flat L rvs ++ [.int .u64 x.t, .string x.s, rv])
  len : rvs.length = L.length
  rds : RdsOk w L rvs
  last : w.ownsRow 0 3 1 rv x.reads.length (x.reads.map (.int .i64))
  nd : (r :: (g :: (rvs.flatMap bl ++ bl rv))).Nodup

theorem RefIs.top {w : World} {fp : List Nat} {r : Nat} {m val e : Int} {L : List Wr} {x : Wr} (h : RefIs w fp r m val e (L ++ [x])) :
    ∃ g cap rvs rv, RefTop w r g cap m val e L x rvs rv ∧ fp = r :: (g :: (rvs.flatMap bl ++ bl rv)) := by
  obtain ⟨v, rvs, hb, ho, hr, rfl, hnd⟩ := h
  have hl := hr.len
  obtain ⟨rvs0, rv, rfl⟩ := snoc_of (l := rvs) (by intro h; subst h; simp at hl)
  have hl' : rvs0.length = L.length := by simpa using hl
  obtain ⟨h1, h2⟩ := RdsOk.last hl' hr
  rw [flat_snoc _ _ hl'] at ho
  simp only [List.length_append, List.length_singleton] at ho
  rcases ho.2 with ⟨_, h0⟩ | ⟨g, cap, cur, rfl, -⟩
  · omega
  · have e1 : bl (.slice (some ⟨g, 0, none⟩) (L.length + 1) cap) = [g] := by simp [bl, Value.ownBlock]
    rw [e1] at hnd ⊢
    exact ⟨g, cap, rvs0, rv, ⟨hb, ho, hl', h1, h2, by simpa [List.flatMap_append] using hnd⟩, by simp [List.flatMap_append]⟩
theorem RefTop.is {w : World} {r g cap : Nat} {m val e : Int} {L : List Wr} {x : Wr} {rvs : List Value} {rv : Value} (h : RefTop w r g cap m val e L x rvs rv) :
    RefIs w (r :: (g :: (rvs.flatMap bl ++ bl rv))) r m val e (L ++ [x]) := by
  refine ⟨_, rvs ++ [rv], h.blk, ?_, h.rds.snoc h.last, ?_, h.nd⟩
  · rw [flat_snoc _ _ h.len]; simpa using h.own
  · simp [List.flatMap_append, bl, Value.ownBlock]
theorem RefTop.cells {w : World} {r g cap : Nat} {m val e : Int} {L : List Wr} {x : Wr} {rvs : List Value} {rv : Value} (h : RefTop w r g cap m val e L x rvs rv) :
    w.cell? ⟨g, L.length * 3, none⟩ = some (.int .u64 x.t) ∧ w.cell? ⟨g, L.length * 3 + 1, none⟩ = some (.string x.s) ∧ w.cell? ⟨g, L.length * 3 + 2, none⟩ = some rv ∧ w.frozen? ⟨g, L.length * 3 + 2, none⟩ = false := by
  obtain ⟨junk, hb, -⟩ := own_blk h.own
  have hl := flat_len h.len
  have e0 : ∀ j, (flat L rvs ++ [.int .u64 x.t, .string x.s, rv] ++ junk)[L.length * 3 + j]? = ([.int .u64 x.t, .string x.s, rv] ++ junk)[j]? := by
    intro j
    rw [List.append_assoc, List.getElem?_append_right (by omega)]
    congr 1; omega
  exact ⟨hb.at _ (by have := e0 0; simpa using this), hb.at _ (by rw [e0 1]; rfl), hb.at _ (by rw [e0 2]; rfl), hb.free _⟩

theorem refread_post {w w1 w2 : World} {r g cap g' cap' : Nat} {m val e j : Int} {L : List Wr} {x : Wr} {rvs : List Value} {rv : Value}
    (h : RefTop w r g cap m val e L x rvs rv) (hu : Upd [] w w1)
    (hown2 : w2.ownsRow 0 3 1 (.slice (some ⟨g', 0, none⟩) (x.reads.length + 1) cap') (x.reads.length + 1) (x.reads.map (.int .i64) ++ [.int .i64 j]))
    (hgrow : w1.grownBy w2 rv.ownBlock) (hg : rv.ownBlock = some g' ∨ g' = w.heap.size + 1) :
    RefTop (w2.setCell ⟨g, L.length * 3 + 2, none⟩ (.slice (some ⟨g', 0, none⟩) (x.reads.length + 1) cap')) r g cap m val e L { x with reads := x.reads ++ [j] } rvs (.slice (some ⟨g', 0, none⟩) (x.reads.length + 1) cap') ∧
      Upd (g :: bl rv) w (w2.setCell ⟨g, L.length * 3 + 2, none⟩ (.slice (some ⟨g', 0, none⟩) (x.reads.length + 1) cap')) ∧ (g' ∈ bl rv ∨ w.heap.size ≤ g') := by
  obtain ⟨hb, ho, hl, hr, hla, hnd⟩ := h
  have hu1 : Upd (bl rv) w w2 := (hu.mono (by simp)).grown hgrow (by intro k hk; left; simp [bl, hk])
  have hgb : g' ∈ bl rv ∨ w.heap.size ≤ g' := by rcases hg with h | h; exact .inl (by simp [bl, h]); exact .inr (by omega)
  simp only [List.nodup_cons, List.nodup_append, List.mem_cons, List.mem_append, not_or] at hnd
  obtain ⟨⟨hrg, hrr, hrv⟩, ⟨hgr, hgv⟩, hn1, hn2, hn3⟩ := hnd
  have hglt : g < w.heap.size := own_lt ho g (by simp [bl, Value.ownBlock])
  have hgg : g ≠ g' := by rintro rfl; rcases hgb with h | h; exact hgv h; omega
  have hrg' : r ≠ g' := by rintro rfl; rcases hgb with h | h; exact hrv h; have := hb.lt; omega
  have hg'r : g' ∉ rvs.flatMap bl := by
    intro h
    rcases hgb with h' | h'
    · exact hn3 g' h g' h' rfl
    · have := hr.lt g' h; omega
  have hu3 : Upd [g] w2 (w2.setCell ⟨g, L.length * 3 + 2, none⟩ (.slice (some ⟨g', 0, none⟩) (x.reads.length + 1) cap')) := (Upd.refl _ _).setCell (.inl (by simp)) _
  have hfl := flat_len hl
  refine ⟨⟨(hb.upd hu1 hrv).upd hu3 (by simp [hrg]), ?_, hl, (hr.upd hu1 (fun k hk hk' => hn3 k hk k hk' rfl)).upd hu3 (by intro k hk hk'; simp at hk'; subst hk'; exact hgr hk), ?_, ?_⟩, (hu1.mono (by intro y hy; left; simp [hy])).setCell (.inl (by simp)) _, hgb⟩
  · have h2 := own_set (own_upd ho hu1 (by intro k hk; have : k = g := by simpa [bl, Value.ownBlock] using hk
                                           subst this; exact hgv)) (L.length * 3 + 2) (by simp; omega) (.slice (some ⟨g', 0, none⟩) (x.reads.length + 1) cap')
    rw [List.set_append_right _ _ (by omega)] at h2
    have e3 : L.length * 3 + 2 - (flat L rvs).length = 2 := by omega
    rw [e3] at h2
    exact h2
  · have := own_upd hown2 hu3 (by intro k hk; have : k = g' := by simpa [bl, Value.ownBlock] using hk
                                  subst this; simp; exact fun h => hgg h.symm)
    simpa using this
  · have e1 : bl (.slice (some ⟨g', 0, none⟩) (x.reads.length + 1) cap') = [g'] := by simp [bl, Value.ownBlock]
    rw [e1]
    simp only [List.nodup_cons, List.nodup_append, List.mem_cons, List.mem_append, not_or]
    refine ⟨⟨hrg, hrr, hrg', by simp⟩, ⟨hgr, hgg, by simp⟩, hn1, by simp, ?_⟩
    intro a ha b hb' 
    rcases hb' with rfl | hb'
    · rintro rfl; exact hg'r ha
    · simp at hb'

end Go.Proofs.Ytdfjjhpnhaggjaa
