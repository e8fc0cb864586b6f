/- The law's from and to, walked. -/
import Derived.Test.YtdfjjhpnhaggjaaK18
import Derived.BigQuiet
import Derived.Deep.QuietTactic
namespace Go.Proofs.Ytdfjjhpnhaggjaa
open Go.RowKit Go.Mem

/-- Which channel an end is the source of; which one's destination. -/
def srcI (k : Int × Int) (l : List Ch) : Option Nat := l.findIdx? fun c => (c.guest == k.1) && (c.port == k.2)
def dstI (k : Int × Int) (l : List Ch) : Option Nat := l.findIdx? fun c => c.to.any fun x => (x.1 == k.1) && (x.2 == k.2)
def idxV (o : Option Nat) : Int := match o with | some i => (i : Nat) | none => -1

theorem find_take {α : Type} {f : α → Bool} : ∀ {l : List α} {k : Nat}, (∀ x ∈ l.take k, f x = false) → ∀ {x : α}, l[k]? = some x → f x = true → l.findIdx? f = some k
  | [], k, _, x, hx, _ => by simp at hx
  | y :: l, 0, _, x, hx, hf => by simp at hx; subst hx; simp [List.findIdx?_cons, hf]
  | y :: l, k + 1, h, x, hx, hf => by
    have hy : f y = false := h y (by simp)
    have ih := find_take (f := f) (l := l) (k := k) (fun z hz => h z (by simp [hz])) (by simpa using hx) hf
    rw [List.findIdx?_cons, hy, ih]; rfl
theorem find_none {α : Type} {f : α → Bool} {l : List α} {k : Nat} (h : ∀ x ∈ l.take k, f x = false) (hk : l.length ≤ k) : l.findIdx? f = none := by
  rw [List.findIdx?_eq_none_iff]
  intro x hx
  exact h x (by rw [List.take_of_length_le hk]; exact hx)

/-- The cells of a channel that are read: its guest, its port. -/
theorem chan_gp {w : World} {a : Option Addr} {n cap : Nat} {l : List Ch} (h : IsChans w (.slice a n cap) l) : n = l.length ∧ ∀ (k : Nat) c, l[k]? = some c → ∃ b off, a = some ⟨b, off, none⟩ ∧ b < w.heap.size ∧
    w.cell? ⟨b, off + k * 7 + 1, none⟩ = some (.int .u8 c.guest) ∧ w.cell? ⟨b, off + k * 7 + 2, none⟩ = some (.int .u8 c.port) := by
  obtain ⟨⟨a', cap', hv, h⟩, he⟩ := h
  simp only [Value.slice.injEq] at hv
  obtain ⟨rfl, rfl, rfl⟩ := hv
  refine ⟨rfl, fun k c hc => ?_⟩
  obtain ⟨b, off, rfl, h2, h3⟩ := h (by intro e; subst e; simp at hc)
  obtain ⟨c0, c1, c2, c3, -⟩ := h2 k c hc
  exact ⟨b, off, rfl, h3, c1, c2⟩

set_option maxRecDepth 100000 in
set_option maxHeartbeats 4000000 in
theorem from_calls (v : Value) (l : List Ch) (k0 k1 : Int) (w : World) (h : IsChans w v l) (hl : l.length ≤ 16) :
    Calls Try.prog 21 #[v, .agg #[.int .u8 k0, .int .u8 k1]] w fun e w' => e = .returned (.int .i64 (idxV (srcI (k0, k1) l))) ∧ Upd [] w w' := by
  have HCH := Lib.hid (fun (w' : World) (hu : Upd [] w w') => h.upd hu (by simp))
  obtain ⟨⟨s, cap, rfl, -⟩, -⟩ := h
  obtain ⟨n, hn⟩ : ∃ n, n = l.length := ⟨_, rfl⟩
  rw [← hn] at hl HCH ⊢
  obtain ⟨R, hR⟩ : ∃ R : Nat → Prop, R = fun m => ∀ c ∈ l.take m, ((c.guest == k0) && (c.port == k1)) = false := ⟨_, rfl⟩
  have R0 : Hid (R 0) := by rw [hR]; exact Lib.hid (by simp)
  obtain ⟨q, hq⟩ : ∃ q, q = idxV (srcI (k0, k1) l) := ⟨_, rfl⟩
  rw [← hq]
  have HN := Lib.hid hn
  have HR := Lib.hid hR
  have HQ := Lib.hid hq
  clear hn hR hq
  go_enter Try.func21, Try.ntmps21
  go_wp2
  obtain ⟨W, hW⟩ : ∃ W, W = w.alloc (.cells #[.int .u8 k0, .int .u8 k1] 63) := ⟨_, rfl⟩
  have hb : Blk W w.heap.size [.int .u8 k0, .int .u8 k1] 63 := by rw [hW]; exact Blk.new w [.int .u8 k0, .int .u8 k1] 63
  have hu : Upd [] w W := by rw [hW]; exact (Upd.refl _ _).alloc _
  rw [← hW]
  have HB := Lib.hid hb
  have HU := Lib.hid hu
  clear hW hb hu
  go_loopw [5] (fun i wr => ∃ m : Nat, m ≤ n ∧ i = .int .i64 m ∧ R m ∧ Upd [] W wr) (fun i _ => n - (intOf i).toNat)
  case atStart => exact ⟨0, by omega, rfl, R0.out, Upd.refl _ _⟩
  case round =>
    obtain ⟨m, hm, rfl, hr, hu⟩ := hrel
    by_cases hlt : m < n
    · obtain ⟨c, hc⟩ : ∃ c, l[m]? = some c := ⟨_, List.getElem?_eq_getElem (by rw [← HN.out]; omega)⟩
      obtain ⟨-, hch⟩ := chan_gp (HCH.out wr (HU.out.trans hu (by simp)))
      obtain ⟨b, off, rfl, -, c1, c2⟩ := hch m c hc
      have hbb := HB.out.upd hu (by simp)
      have e0 := hbb.at 0 rfl
      have e1 := hbb.at 1 rfl
      have next : ((c.guest == k0) && (c.port == k1)) = false → R (m + 1) := fun hh => by
        rw [HR.out] at hr ⊢
        exact take_ext hr hc hh
      have hit : ((c.guest == k0) && (c.port == k1)) = true → q = (m : Nat) := fun hh => by
        rw [HR.out] at hr
        have := find_take (f := fun c : Ch => (c.guest == k0) && (c.port == k1)) hr hc hh
        rw [HQ.out]; unfold srcI; simp only; rw [this]; rfl
      have NEXT := Lib.hid next
      have HIT := Lib.hid hit
      have HU1 := Lib.hid (hu)
      obtain ⟨g, hg⟩ : ∃ g, g = c.guest := ⟨_, rfl⟩
      obtain ⟨p, hp⟩ : ∃ p, p = c.port := ⟨_, rfl⟩
      rw [← hg, ← hp] at NEXT HIT
      rw [← hg] at c1
      rw [← hp] at c2
      have hm16 : (m : Int) < 16 := by omega
      clear hc hch hbb next hit hr hu hg hp
      obtain ⟨z1, hz1⟩ : ∃ z, (g == k0) = z := ⟨_, rfl⟩
      obtain ⟨z2, hz2⟩ : ∃ z, (p == k1) = z := ⟨_, rfl⟩
      have Z : Hid (((g == k0) && (p == k1)) = (z1 && z2)) := by rw [hz1, hz2]; exact Lib.hid rfl
      have hmn : (m : Int) < n := by omega
      cases z1
      · clear hz2
        go_wp2
        go_quiet (fail)
        go_wp2
        go_roundw
        case rel => exact ⟨m + 1, by omega, by go_num, NEXT.out (by rw [Z.out]; rfl), HU1.out.drewN _⟩
        case measure => simp [intOf]; omega
      · cases z2
        · go_wp2
          go_quiet (fail)
          go_wp2
          go_roundw
          case rel => exact ⟨m + 1, by omega, by go_num, NEXT.out (by rw [Z.out]; rfl), HU1.out.drewN _⟩
          case measure => simp [intOf]; omega
        · go_wp2
          go_quiet (fail)
          go_wp2
          go_ret
          exact ⟨ret_int (HIT.out (by rw [Z.out]; rfl)).symm, HU.out.trans (HU1.out.drewN _) (by simp)⟩
    · have hno : q = -1 := by
        rw [HR.out] at hr
        have := find_none (f := fun c : Ch => (c.guest == k0) && (c.port == k1)) hr (by have := HN.out; omega)
        rw [HQ.out]; unfold srcI; simp only; rw [this]; rfl
      have HNO := Lib.hid hno
      have HU1 := Lib.hid hu
      clear hr hno hu
      go_wp2
      go_ret
      exact ⟨ret_int HNO.out.symm, HU.out.trans HU1.out (by simp)⟩

theorem any_hit {f : (Int × Int) → Bool} {E : List (Int × Int)} {x : Int × Int} (hx : x ∈ E) (hf : f x = true) : E.any f = true := List.any_eq_true.2 ⟨x, hx, hf⟩

/-- The cells of a channel's destinations. -/
theorem chan_ends {w : World} {a : Option Addr} {n cap : Nat} {l : List Ch} (h : IsChans w (.slice a n cap) l) : n = l.length ∧ ∀ (k : Nat) c, l[k]? = some c → ∃ b off ta tcap, a = some ⟨b, off, none⟩ ∧
    w.cell? ⟨b, off + k * 7 + 3, none⟩ = some (.slice ta c.to.length tcap) ∧
    ∀ (j : Nat) x, c.to[j]? = some x → ∃ tb toff, ta = some ⟨tb, toff, none⟩ ∧ w.cell? ⟨tb, toff + j * 2, none⟩ = some (.int .u8 x.1) ∧ w.cell? ⟨tb, toff + j * 2 + 1, none⟩ = some (.int .u8 x.2) := by
  obtain ⟨⟨a', cap', hv, h⟩, he⟩ := h
  simp only [Value.slice.injEq] at hv
  obtain ⟨rfl, rfl, rfl⟩ := hv
  refine ⟨rfl, fun k c hc => ?_⟩
  obtain ⟨b, off, rfl, h2, h3⟩ := h (by intro e; subst e; simp at hc)
  obtain ⟨ta, tcap, htv, hend⟩ := he c (List.mem_of_getElem? hc)
  obtain ⟨c0, c1, c2, c3, -⟩ := h2 k c hc
  rw [htv] at c3
  refine ⟨b, off, ta, tcap, rfl, c3, fun j x hx => ?_⟩
  obtain ⟨tb, toff, rfl, hea, -⟩ := hend (by intro e; rw [e] at hx; simp at hx)
  exact ⟨tb, toff, rfl, (hea j x hx).1, (hea j x hx).2⟩

set_option maxRecDepth 100000 in
set_option maxHeartbeats 4000000 in
theorem to_calls (v : Value) (l : List Ch) (k0 k1 : Int) (w : World) (h : IsChans w v l) (hl : l.length ≤ 16) (hto : ∀ c ∈ l, c.to.length ≤ 4) :
    Calls Try.prog 22 #[v, .agg #[.int .u8 k0, .int .u8 k1]] w fun e w' => e = .returned (.int .i64 (idxV (dstI (k0, k1) l))) ∧ Upd [] w w' := by
  have HCH := Lib.hid (fun (w' : World) (hu : Upd [] w w') => h.upd hu (by simp))
  obtain ⟨⟨s, cap, rfl, -⟩, -⟩ := h
  obtain ⟨n, hn⟩ : ∃ n, n = l.length := ⟨_, rfl⟩
  rw [← hn] at hl HCH ⊢
  obtain ⟨R, hR⟩ : ∃ R : Nat → Prop, R = fun m => ∀ c ∈ l.take m, (c.to.any fun x => (x.1 == k0) && (x.2 == k1)) = false := ⟨_, rfl⟩
  have R0 : Hid (R 0) := by rw [hR]; exact Lib.hid (by simp)
  obtain ⟨q, hq⟩ : ∃ q, q = idxV (dstI (k0, k1) l) := ⟨_, rfl⟩
  rw [← hq]
  have HN := Lib.hid hn
  have HR := Lib.hid hR
  have HQ := Lib.hid hq
  have HTO := Lib.hid hto
  clear hn hR hq hto
  go_enter Try.func22, Try.ntmps22
  go_wp2
  obtain ⟨W, hW⟩ : ∃ W, W = w.alloc (.cells #[.int .u8 k0, .int .u8 k1] 63) := ⟨_, rfl⟩
  have hb : Blk W w.heap.size [.int .u8 k0, .int .u8 k1] 63 := by rw [hW]; exact Blk.new w [.int .u8 k0, .int .u8 k1] 63
  have hu : Upd [] w W := by rw [hW]; exact (Upd.refl _ _).alloc _
  rw [← hW]
  have HB := Lib.hid hb
  have HU := Lib.hid hu
  clear hW hb hu
  go_loopw [5, 6] (fun i _ wr => ∃ m : Nat, m ≤ n ∧ i = .int .i64 m ∧ R m ∧ Upd [] W wr) (fun i _ _ => n - (intOf i).toNat)
  case atStart => exact ⟨0, by omega, rfl, R0.out, Upd.refl _ _⟩
  case round =>
    obtain ⟨m, hm, rfl, hr, hu⟩ := hrel
    by_cases hlt : m < n
    · obtain ⟨c, hc⟩ : ∃ c, l[m]? = some c := ⟨_, List.getElem?_eq_getElem (by rw [← HN.out]; omega)⟩
      have htn4 := HTO.out c (List.mem_of_getElem? hc)
      obtain ⟨tn, htn⟩ : ∃ tn, tn = c.to.length := ⟨_, rfl⟩
      rw [← htn] at htn4
      have next : (c.to.any fun x => (x.1 == k0) && (x.2 == k1)) = false → R (m + 1) := fun hh => by
        rw [HR.out] at hr ⊢
        exact take_ext hr hc hh
      have hit : (c.to.any fun x => (x.1 == k0) && (x.2 == k1)) = true → q = (m : Nat) := fun hh => by
        rw [HR.out] at hr
        have := find_take (f := fun c : Ch => c.to.any fun x => (x.1 == k0) && (x.2 == k1)) hr hc hh
        rw [HQ.out]; unfold dstI; simp only; rw [this]; rfl
      have NEXT := Lib.hid next
      have HIT := Lib.hid hit
      have HU1 := Lib.hid hu
      have HTN := Lib.hid htn
      have HC := Lib.hid hc
      have hm16 : (m : Int) < 16 := by omega
      have hmn : (m : Int) < n := by omega
      obtain ⟨R2, hR2⟩ : ∃ R2 : Nat → Prop, R2 = fun j => ∀ x ∈ c.to.take j, ((x.1 == k0) && (x.2 == k1)) = false := ⟨_, rfl⟩
      have R20 : Hid (R2 0) := by rw [hR2]; exact Lib.hid (by simp)
      have HR2 := Lib.hid hR2
      clear hc next hit hr hu htn hR2
      go_wp2
      go_loopw [6] (fun j wr => ∃ m2 : Nat, m2 ≤ tn ∧ j = .int .i64 m2 ∧ R2 m2 ∧ Upd [] W wr) (fun j _ => tn - (intOf j).toNat)
      case atStart => exact ⟨0, by omega, rfl, R20.out, HU1.out⟩
      case round =>
        clear HU1
        obtain ⟨j, hj, rfl, hr2, hu⟩ := hrel
        obtain ⟨-, hch⟩ := chan_ends (HCH.out wr (HU.out.trans hu (by simp)))
        obtain ⟨b, off, ta, tcap, rfl, c3, hjx⟩ := hch m c HC.out
        rw [← HTN.out] at c3
        have HU1 := Lib.hid hu
        by_cases hjl : j < tn
        · obtain ⟨x, hx⟩ : ∃ x, c.to[j]? = some x := ⟨_, List.getElem?_eq_getElem (by rw [← HTN.out]; omega)⟩
          obtain ⟨tb, toff, rfl, y0, y1⟩ := hjx j x hx
          have hbb := HB.out.upd hu (by simp)
          have e0 := hbb.at 0 rfl
          have e1 := hbb.at 1 rfl
          obtain ⟨x0, x1⟩ := x
          simp only at y0 y1
          have n2 : ((x0 == k0) && (x1 == k1)) = false → R2 (j + 1) := fun hh => by
            rw [HR2.out] at hr2 ⊢
            exact take_ext hr2 hx hh
          have hi2 : ((x0 == k0) && (x1 == k1)) = true → q = (m : Nat) := fun hh => HIT.out (any_hit (List.mem_of_getElem? hx) hh)
          have N2 := Lib.hid n2
          have HI2 := Lib.hid hi2
          have hj4 : (j : Int) < 4 := by omega
          have hjn : (j : Int) < tn := by omega
          clear hch hjx hx hbb n2 hi2 hr2 hu
          obtain ⟨z1, hz1⟩ : ∃ z, (x0 == k0) = z := ⟨_, rfl⟩
          obtain ⟨z2, hz2⟩ : ∃ z, (x1 == k1) = z := ⟨_, rfl⟩
          have Z : Hid (((x0 == k0) && (x1 == k1)) = (z1 && z2)) := by rw [hz1, hz2]; exact Lib.hid rfl
          cases z1 <;> cases z2
          all_goals
            go_wp2
            go_quiet (fail)
            go_wp2
          all_goals first
            | (go_ret; exact ⟨ret_int (HI2.out (by rw [Z.out]; rfl)).symm, HU.out.trans (HU1.out.drewN _) (by simp)⟩)
            | (go_roundw
               case rel => exact ⟨j + 1, by omega, by go_num, N2.out (by rw [Z.out]; rfl), HU1.out.drewN _⟩
               case measure => simp [intOf]; omega)
        · have hdone : (c.to.any fun x => (x.1 == k0) && (x.2 == k1)) = false := by
            rw [HR2.out] at hr2
            exact any_take_all hr2 (by have := HTN.out; omega)
          have HNX := Lib.hid (NEXT.out hdone)
          clear hdone hr2 hu hch hjx
          go_wp2
          go_roundw
          case rel => exact ⟨m + 1, by omega, by go_num, HNX.out, HU1.out⟩
          case measure => simp [intOf]; omega
    · have hno : q = -1 := by
        rw [HR.out] at hr
        have := find_none (f := fun c : Ch => c.to.any fun x => (x.1 == k0) && (x.2 == k1)) hr (by have := HN.out; omega)
        rw [HQ.out]; unfold dstI; simp only; rw [this]; rfl
      have HNO := Lib.hid hno
      have HU1 := Lib.hid hu
      clear hr hno hu
      go_wp2
      go_ret
      exact ⟨ret_int HNO.out.symm, HU.out.trans HU1.out (by simp)⟩
end Go.Proofs.Ytdfjjhpnhaggjaa
