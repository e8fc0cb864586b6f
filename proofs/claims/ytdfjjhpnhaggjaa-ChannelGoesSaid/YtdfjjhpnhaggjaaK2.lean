/- Package channel's small functions: shape, ends, made, is. -/
import Derived.Test.YtdfjjhpnhaggjaaK1
import Derived.Test.YtdfjjhpnhaggjaaS2
import Derived.Test.YtdfjjhpnhaggjaaD3
namespace Go.Proofs.Ytdfjjhpnhaggjaa
open Go.RowKit Go.Mem

/-- A channel's description, as it comes in: the slice of its destinations, and what it holds. -/
structure Ch where
  kind : Int
  guest : Int
  port : Int
  tv : Value
  to : List (Int × Int)
  most : Int
  depth : Int
  val : Int

def Ch.cells (c : Ch) : List Value := [.int .u8 c.kind, .int .u8 c.guest, .int .u8 c.port, c.tv, .int .u8 c.most, .int .u8 c.depth, .int .u32 c.val]
def Ch.agg (c : Ch) : Value := .agg c.cells.toArray

def EndsAt (w : World) (b off : Nat) (E : List (Int × Int)) : Prop := ∀ (i : Nat) x, E[i]? = some x → w.cell? ⟨b, off + i * 2, none⟩ = some (.int .u8 x.1) ∧ w.cell? ⟨b, off + i * 2 + 1, none⟩ = some (.int .u8 x.2)
/-- v is a slice of ends. -/
def IsEnds (w : World) (v : Value) (E : List (Int × Int)) : Prop :=
  ∃ a cap, v = .slice a E.length cap ∧ (E ≠ [] → ∃ b off, a = some ⟨b, off, none⟩ ∧ EndsAt w b off E ∧ b < w.heap.size)

theorem EndsAt.upd {w w' : World} {b off : Nat} {A : List (Int × Int)} {S : List Nat} (h : EndsAt w b off A) (hu : Upd S w w') (hb : b ∉ S) (h3 : b < w.heap.size) : EndsAt w' b off A := fun i x hx => by
  obtain ⟨c0, c1⟩ := h i x hx
  exact ⟨cell_upd hu hb h3 _ c0, cell_upd hu hb h3 _ c1⟩
theorem IsEnds.upd {w w' : World} {v : Value} {A : List (Int × Int)} {S : List Nat} (h : IsEnds w v A) (hu : Upd S w w') (hS : ∀ k ∈ S, w.heap.size ≤ k) : IsEnds w' v A := by
  obtain ⟨a, cap, rfl, h⟩ := h
  refine ⟨a, cap, rfl, fun hne => ?_⟩
  obtain ⟨b, off, rfl, h2, h3⟩ := h hne
  have hb : b ∉ S := fun hm => by have := hS b hm; omega
  exact ⟨b, off, rfl, h2.upd hu hb h3, by have := hu.size; omega⟩

structure Ch.Ok (c : Ch) : Prop where
  k0 : 0 ≤ c.kind
  k1 : c.kind ≤ 255
  g0 : 0 ≤ c.guest
  g1 : c.guest ≤ 255
  p0 : 0 ≤ c.port
  p1 : c.port ≤ 255
  m0 : 0 ≤ c.most
  m1 : c.most ≤ 255
  d0 : 0 ≤ c.depth
  d1 : c.depth ≤ 255
  v0 : 0 ≤ c.val
  v1 : c.val < 4294967296
  ends : ∀ x ∈ c.to, KOk x

def shapeI (kind n most depth val : Int) : Bool :=
  decide (1 ≤ most) && decide (most ≤ 64) && (if kind = 0 then decide (1 ≤ n) && decide (n ≤ 4) && decide (depth = 0) else if kind = 1 then decide (n = 1) && decide (1 ≤ depth) && decide (depth ≤ 16) && decide (val = 0) else false)

set_option maxHeartbeats 1000000 in
theorem shape_calls (kind guest port most depth val : Int) (a : Option Addr) (n cap : Nat) (w : World) (m0 : 0 ≤ most) (d0 : 0 ≤ depth) :
    Calls Try.prog 53 #[.agg #[.int .u8 kind, .int .u8 guest, .int .u8 port, .slice a n cap, .int .u8 most, .int .u8 depth, .int .u32 val]] w fun e w' => e = .returned (.bool (shapeI kind n most depth val)) ∧ Upd [] w w' := by
  go_enter Try.func53, Try.ntmps53
  go_wp2
  all_goals go_ret
  all_goals refine ⟨ret_bool ?_, (Upd.refl _ _).alloc _⟩
  all_goals simp only [shapeI]
  all_goals first | (simp_all; done) | ((repeat' split) <;> simp_all <;> (first | omega | (rw [Bool.eq_iff_iff]; simp; try omega)))

set_option maxHeartbeats 400000 in
theorem tis_calls (b : Nat) (g : Int) (w : World) (h0 : w.cell? ⟨b, 0, none⟩ = some (.int .i64 g)) (hm : 0 < g) :
    Calls Try.prog 44 #[.pointer (some ⟨b, 0, none⟩)] w fun e w' => e = .returned (.bool true) ∧ w = w' := by
  go_enter Try.func44, Try.ntmps44
  go_wp2
  go_ret
  exact ⟨rfl, rfl⟩

theorem i63 : (Try.prog.info? 63).map (fun i => (i.zero, i.size, i.bytes)) = some (some (.agg #[.int .u8 0, .int .u8 0]), 2, 2) := by kernel_rfl

/-- The cells of ends. -/
def ecs (E : List (Int × Int)) : List Value := E.flatMap (fun x => [.int .u8 x.1, .int .u8 x.2])
theorem ecs_len (E : List (Int × Int)) : (ecs E).length = 2 * E.length := by
  induction E with
  | nil => rfl
  | cons x E ih => simp only [ecs, List.flatMap_cons, List.length_append] at ih ⊢; rw [ih]; simp; omega
theorem ecs_at : ∀ (E : List (Int × Int)) (i : Nat) x, E[i]? = some x → (ecs E)[i * 2]? = some (.int .u8 x.1) ∧ (ecs E)[i * 2 + 1]? = some (.int .u8 x.2)
  | [], i, x, h => by simp at h
  | y :: E, 0, x, h => by simp at h; subst h; exact ⟨rfl, rfl⟩
  | y :: E, i + 1, x, h => by
    have := ecs_at E i x (by simpa using h)
    rw [show (i + 1) * 2 = i * 2 + 1 + 1 by omega]
    simpa [ecs] using this
theorem ecs_news {w : World} {b off : Nat} {E : List (Int × Int)} (h : EndsAt w b off E) : ∀ (j : Nat) u, (ecs E)[j]? = some u → w.cell? ((⟨b, off, none⟩ : Addr).add j) = some u := by
  intro j u hu
  have hj : j < 2 * E.length := by rw [← ecs_len]; exact (List.getElem?_eq_some_iff.1 hu).1
  obtain ⟨x, hx⟩ : ∃ x, E[j / 2]? = some x := ⟨_, List.getElem?_eq_getElem (by omega)⟩
  obtain ⟨h1, h2⟩ := h _ x hx
  obtain ⟨k1, k2⟩ := ecs_at E _ x hx
  rw [Addr.add_mid]
  rcases Nat.mod_two_eq_zero_or_one j with hm | hm
  · have e : j / 2 * 2 = j := by omega
    rw [e] at h1 k1
    rw [hu] at k1
    rw [h1, ← Option.some.inj k1]
  · have e : j / 2 * 2 + 1 = j := by omega
    rw [Nat.add_assoc, e] at h2
    rw [e, hu] at k2
    rw [h2, ← Option.some.inj k2]
theorem ecs_one (E : List (Int × Int)) : ∀ u ∈ ecs E, u.oneCell' = true := by
  intro u hu
  simp only [ecs, List.mem_flatMap] at hu
  obtain ⟨x, -, hx⟩ := hu
  simp at hx
  rcases hx with rfl | rfl <;> rfl
theorem own_ends {w : World} {E : List (Int × Int)} {g cap : Nat} (h : w.ownsRow 0 63 2 (.slice (some ⟨g, 0, none⟩) E.length cap) E.length (ecs E)) : IsEnds w (.slice (some ⟨g, 0, none⟩) E.length cap) E := by
  obtain ⟨junk, hb, hn, hc, hl, hx⟩ := own_blk h
  refine ⟨_, cap, rfl, fun _ => ⟨g, 0, rfl, fun i x hx => ?_, hb.lt⟩⟩
  obtain ⟨k1, k2⟩ := ecs_at E i x hx
  rw [Nat.zero_add]
  exact ⟨hb.at _ (by rw [List.getElem?_append_left (List.getElem?_eq_some_iff.1 k1).1]; exact k1), hb.at _ (by rw [List.getElem?_append_left (List.getElem?_eq_some_iff.1 k2).1]; exact k2)⟩

/-- All ends of a channel, the source first. -/
def Ch.all (c : Ch) : List (Int × Int) := (c.guest, c.port) :: c.to

theorem cells_own {w : World} {b : Nat} {x y : Value} (h : Blk w b [x, y] 63) : w.ownsRow 0 63 2 (.slice (some ⟨b, 0, none⟩) 1 1) 1 [x, y] :=
  own_of_blk (junk := []) h (Nat.le_refl _) (by decide) rfl rfl

theorem new_own (w : World) (o : Obj) (x y : Value) : ((w.alloc o).alloc (.cells #[x, y] 63)).ownsRow 0 63 2 (.slice (some ⟨w.heap.size + 1, 0, none⟩) 1 1) 1 [x, y] := by
  have := cells_own (Blk.new (w.alloc o) [x, y] 63)
  rw [World.size_alloc] at this
  exact this
theorem ends_post {w w1 w2 : World} {b g cap n : Nat} {x : Int × Int} {E : List (Int × Int)} (hu : Upd [] w w1) (hown : w2.ownsRow 0 63 2 (.slice (some ⟨g, 0, none⟩) (1 + n) cap) (1 + n) ([.int .u8 x.1, .int .u8 x.2] ++ ecs E)) (hn : n = E.length)
    (hgrow : w1.grownBy w2 (some b)) (hb : w.heap.size ≤ b) (hg : some b = some g ∨ g = w1.heap.size) : IsEnds w2 (.slice (some ⟨g, 0, none⟩) (1 + n) cap) (x :: E) ∧ Upd [] w w2 ∧ ∀ k ∈ bl (.slice (some ⟨g, 0, none⟩) (1 + n) cap), w.heap.size ≤ k := by
  subst hn
  have e : 1 + E.length = (x :: E).length := by simp; omega
  rw [e] at hown ⊢
  refine ⟨own_ends hown, hu.grown hgrow (by intro k hk; cases hk; exact .inr hb), ?_⟩
  intro k hk
  obtain rfl : k = g := by simpa [bl, Value.ownBlock] using hk
  rcases hg with h | rfl
  · cases h; exact hb
  · exact hu.size

def EndsPost (c : Ch) (w : World) (e : Ending) (w' : World) : Prop := ∃ v, e = .returned v ∧ IsEnds w' v c.all ∧ Upd [] w w' ∧ ∀ k ∈ bl v, w.heap.size ≤ k

set_option maxHeartbeats 1000000 in
theorem ends_calls (c : Ch) (w : World) (h : IsEnds w c.tv c.to) (hne : c.to ≠ []) (hl : c.to.length ≤ 1000) :
    Calls Try.prog 54 #[c.agg] w (EndsPost c w) := by
  obtain ⟨a, cap, hv, h⟩ := h
  obtain ⟨i0, hi, hz0, hz1, hz2⟩ := info_parts i63
  have hza : (Value.agg #[.int .u8 0, .int .u8 0]).cells.size = 2 := rfl
  obtain ⟨kind, guest, port, tv, to, most, depth, val⟩ := c
  simp only at hv h hl
  subst hv
  obtain ⟨b, off, rfl, h2, h3⟩ := h hne
  obtain ⟨n, hn⟩ : ∃ n, n = to.length := ⟨_, rfl⟩
  have h4 : 0 < n := by rw [hn]; exact List.length_pos_iff.2 hne
  have HI : Hid (i0.zero = _ ∧ _ ∧ _ ∧ _ ∧ _) := ⟨hz0, hz1, hz2, hza, hi⟩
  have H2 := Lib.hid h2
  have HN := Lib.hid hn
  rw [← hn] at hl
  simp only [Ch.agg, Ch.cells, ← hn]
  clear hz0 hz1 hz2 hza hi h2 hn hne h
  go_enter Try.func54, Try.ntmps54
  go_wp2_with (at_builtin; go_loud (refine wpList_append_lies _ rfl _ _ 64 rfl 0 63 i0 (.agg #[.int .u8 0, .int .u8 0]) 2 2 Try.underlying64 HI.out.2.2.2.2 HI.out.1 HI.out.2.1 HI.out.2.2.1 HI.out.2.2.2.1 (by decide) _ _ _ rfl (new_own w _ _ _) ⟨b, off, none⟩ n cap (ecs to) rfl (by rw [ecs_len, HN.out, Nat.mul_comm]) (ecs_news ((H2.out.upd (Upd.refl [] _) (by simp) h3).upd (((Upd.refl [] _).alloc _).alloc _) (by simp) h3)) (ecs_one to) h4 (by unfold maxLen; omega) (by omega) (Nat.zero_le _) _ rfl ?_); intro g cp w' hown hgrow hg hlt; clear hlt; have HG := Lib.hid (ends_post (x := (guest, port)) (((Upd.refl [] _).alloc _).alloc _) hown HN.out hgrow (Nat.le_succ _) hg); clear hown hgrow hg)
  go_ret
  exact ⟨_, rfl, HG.out⟩
end Go.Proofs.Ytdfjjhpnhaggjaa
