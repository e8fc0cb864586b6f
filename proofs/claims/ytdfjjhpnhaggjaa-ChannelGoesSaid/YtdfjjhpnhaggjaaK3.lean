/- Package channel: made, Reaches, close. -/
import Derived.Test.YtdfjjhpnhaggjaaK2
import Derived.BigRegion
namespace Go.Proofs.Ytdfjjhpnhaggjaa
open Go.RowKit Go.Mem

/-- A queue's state, in its ring. -/
structure Qu where
  ring : List ByteArray
  first : Int
  many : Int
  depth : Int
  most : Int
def Qu.cells (q : Qu) : List Value := q.ring.map .string ++ [.int .i64 q.first, .int .i64 q.many, .int .i64 q.depth, .int .i64 q.most]
def IsQ (w : World) (b : Nat) (q : Qu) : Prop := Blk w b q.cells 165
structure Qu.Ok (q : Qu) : Prop where
  r : q.ring.length = 16
  f0 : 0 ≤ q.first
  f1 : q.first < q.depth
  n0 : 0 ≤ q.many
  n1 : q.many ≤ q.depth
  d1 : 1 ≤ q.depth
  d2 : q.depth ≤ 16
  m1 : 1 ≤ q.most
  m2 : q.most ≤ 64

set_option maxHeartbeats 400000 in
theorem qnew_calls (depth most : Int) (w : World) (d1 : 1 ≤ depth) (d2 : depth ≤ 16) (m1 : 1 ≤ most) (m2 : most ≤ 64) :
    Calls Try.prog 65 #[.int .u8 depth, .int .u8 most] w fun r w' => r = .returned (.tuple #[.pointer (some ⟨w.heap.size, 0, none⟩), .int .i64 0]) ∧
      IsQ w' w.heap.size ⟨List.replicate 16 ⟨#[]⟩, 0, 0, depth, most⟩ ∧ Upd [] w w' := by
  have hd : (depth == 0) = false := by rw [beq_eq_false_iff_ne]; omega
  have hm : (most == 0) = false := by rw [beq_eq_false_iff_ne]; omega
  go_enter Try.func65, Try.ntmps65
  go_wp2
  go_returns
  exact ⟨rfl, Blk.new _ _ _, (Upd.refl _ _).alloc _⟩

/-- A channel of either kind. -/
inductive Way where
  | smp (c : Chn)
  | que (q : Qu)
def Way.ty : Way → TypeId
  | .smp _ => 147
  | .que _ => 145
def Way.Is (w : World) (b : Nat) : Way → Prop
  | .smp c => IsCh w b c
  | .que q => IsQ w b q
def Way.Ok : Way → Prop
  | .smp c => c.Ok
  | .que q => q.Ok
def mk (kind n most depth val : Int) : Way := if kind = 1 then .que ⟨List.replicate 16 ⟨#[]⟩, 0, 0, depth, most⟩ else .smp ⟨most, val, n, false, ⟨#[]⟩, 0, List.replicate 16 false⟩

theorem Way.Is.lt {w : World} {b : Nat} {y : Way} (h : y.Is w b) : b < w.heap.size := by cases y <;> exact Blk.lt h
theorem Way.Is.upd {w w' : World} {b : Nat} {y : Way} {S : List Nat} (h : y.Is w b) (hu : Upd S w w') (hb : b ∉ S) : y.Is w' b := by cases y <;> exact Blk.upd h hu hb

theorem box_at {w w' : World} {B : Nat} {cs : List Value} {T : TypeId} (hB : B = w.heap.size) (hu : Upd [] (w.alloc (.cells cs.toArray T)) w') (i : Nat) {v : Value} (hv : cs[i]? = some v) : w'.cell? ⟨B, i, none⟩ = some v := by
  subst hB; exact ((Blk.new w cs T).upd hu (by simp)).at i hv

set_option maxHeartbeats 1000000 in
theorem made_que (guest port most depth val : Int) (a : Option Addr) (n cap : Nat) (w : World) (d1 : 1 ≤ depth) (d2 : depth ≤ 16) (m1 : 1 ≤ most) (m2 : most ≤ 64) :
    Calls Try.prog 37 #[.agg #[.int .u8 1, .int .u8 guest, .int .u8 port, .slice a n cap, .int .u8 most, .int .u8 depth, .int .u32 val]] w fun e w' => e = .returned (.iface 145 (.agg #[.pointer (some ⟨w.heap.size + 1, 0, none⟩)])) ∧ (mk 1 n most depth val).Is w' (w.heap.size + 1) ∧ Upd [] w w' := by
  obtain ⟨y, hy⟩ : ∃ y, y = mk 1 n most depth val := ⟨_, rfl⟩
  have HY : Hid (y = .que ⟨List.replicate 16 ⟨#[]⟩, 0, 0, depth, most⟩) := hy
  rw [← hy]
  clear hy
  go_enter Try.func37, Try.ntmps37
  go_wp2_with (go_at_call 65; refine (qnew_calls _ _ _ (by omega) (by omega) (by omega) (by omega)).mono ?_; rintro e w' ⟨rfl, hq, hu⟩; have HQ := Lib.hid hq; have HU := Lib.hid hu; clear hq hu)
  go_ret
  rw [HY.out]
  refine ⟨by simp, ?_, ((Upd.refl [] w).alloc _).trans HU.out (by simp)⟩
  have := HQ.out
  rw [World.size_alloc] at this
  exact this
set_option maxHeartbeats 1000000 in
theorem made_smp (guest port most depth val : Int) (a : Option Addr) (n cap : Nat) (w : World) (m1 : 1 ≤ most) (m2 : most ≤ 64) (n1 : 1 ≤ n) (n2 : n ≤ 16) :
    Calls Try.prog 37 #[.agg #[.int .u8 0, .int .u8 guest, .int .u8 port, .slice a n cap, .int .u8 most, .int .u8 depth, .int .u32 val]] w fun e w' => e = .returned (.iface 147 (.agg #[.pointer (some ⟨w.heap.size + 1, 0, none⟩)])) ∧ (mk 0 n most depth val).Is w' (w.heap.size + 1) ∧ Upd [] w w' := by
  obtain ⟨y, hy⟩ : ∃ y, y = mk 0 n most depth val := ⟨_, rfl⟩
  have HY : Hid (y = .smp ⟨most, val, n, false, ⟨#[]⟩, 0, List.replicate 16 false⟩) := hy
  rw [← hy]
  clear hy
  go_enter Try.func37, Try.ntmps37
  go_wp2_with (go_at_call 8; refine (new_ok _ _ _ _ (by omega) (by omega) (by omega) (by omega)).mono ?_; rintro e w' ⟨rfl, hq, hu⟩; have HQ := Lib.hid hq; have HU := Lib.hid hu; clear hq hu)
  go_ret
  rw [HY.out]
  refine ⟨by simp, ?_, ((Upd.refl [] w).alloc _).trans HU.out (by simp)⟩
  have := HQ.out
  rw [World.size_alloc] at this
  exact this

/-- A table's block. -/
structure Tb where
  guests : Int
  now : Int
  ways : Value
  bo : Nat
  bi : Nat
  m : List Bool
def Tb.cells (t : Tb) : List Value := .int .i64 t.guests :: .int .u64 t.now :: t.ways :: .map (some t.bo) :: .map (some t.bi) :: t.m.map .bool
def IsTb (w : World) (b : Nat) (t : Tb) : Prop := Blk w b t.cells 95

theorem Tb.at5 (t : Tb) (k : Nat) (h : k < t.m.length) : t.cells[5 + k]? = some (.bool (t.m.getD k false)) := by
  have : 5 + k = k + 1 + 1 + 1 + 1 + 1 := by omega
  rw [this]
  simp [Tb.cells, h]
def reachB (t : Tb) (x y : Int) : Bool := decide (x < t.guests) && decide (y < t.guests) && t.m.getD (x.toNat * 16 + y.toNat) false

set_option maxHeartbeats 1000000 in
theorem reaches_calls (b : Nat) (t : Tb) (x y : Int) (w : World) (h : IsTb w b t) (g1 : 1 ≤ t.guests) (g2 : t.guests ≤ 16) (hm : t.m.length = 256) (x0 : 0 ≤ x) (y0 : 0 ≤ y) (x1 : x ≤ 255) (y1 : y ≤ 255) :
    Calls Try.prog 18 #[.pointer (some ⟨b, 0, none⟩), .int .u8 x, .int .u8 y] w fun r w' => r = .returned (.bool (reachB t x y)) ∧ w = w' := by
  have h0 := h.at 0 rfl
  by_cases hx : x < t.guests
  · by_cases hy : y < t.guests
    · obtain ⟨i, rfl⟩ := Int.eq_ofNat_of_zero_le x0
      obtain ⟨j, rfl⟩ := Int.eq_ofNat_of_zero_le y0
      have hr := h.at (5 + i * 16 + j) (by rw [Nat.add_assoc]; exact t.at5 _ (by omega))
      have e : reachB t i j = t.m.getD (i * 16 + j) false := by simp [reachB, hx, hy]
      rw [e]
      have hi : i < 16 := by omega
      have hj : j < 16 := by omega
      clear e h hm
      go_enter Try.func18, Try.ntmps18
      go_wp2_with (go_at_call 44; refine (tis_calls _ _ _ h0 (by omega)).mono ?_; rintro e w' ⟨rfl, rfl⟩)
      go_ret
      exact ⟨rfl, rfl⟩
    · have e : reachB t x y = false := by simp [reachB, hy]
      rw [e]
      clear e h hm
      go_enter Try.func18, Try.ntmps18
      go_wp2_with (go_at_call 44; refine (tis_calls _ _ _ h0 (by omega)).mono ?_; rintro e w' ⟨rfl, rfl⟩)
      go_ret
      exact ⟨rfl, rfl⟩
  · have e : reachB t x y = false := by simp [reachB, hx]
    rw [e]
    clear e h hm
    go_enter Try.func18, Try.ntmps18
    go_wp2_with (go_at_call 44; refine (tis_calls _ _ _ h0 (by omega)).mono ?_; rintro e w' ⟨rfl, rfl⟩)
    go_ret
    exact ⟨rfl, rfl⟩

/-- close, step by step. -/
def at2 (m : List Bool) (i j : Nat) : Bool := m.getD (i * 16 + j) false
def clo1 (k i : Nat) (m : List Bool) (j : Nat) : List Bool := m.set (i * 16 + j) (at2 m i j || at2 m i k && at2 m k j)
def clo2 (n k : Nat) (m : List Bool) (i : Nat) : List Bool := (List.range n).foldl (clo1 k i) m
def clo3 (n : Nat) (m : List Bool) (k : Nat) : List Bool := (List.range n).foldl (clo2 n k) (m.set (k * 16 + k) true)
def clo (n : Nat) (m : List Bool) : List Bool := (List.range n).foldl (clo3 n) m

theorem clo1_len (k i : Nat) (m : List Bool) (j : Nat) : (clo1 k i m j).length = m.length := by simp [clo1]
theorem fold_len {f : List Bool → Nat → List Bool} (hf : ∀ m j, (f m j).length = m.length) : ∀ (l : List Nat) (m : List Bool), (l.foldl f m).length = m.length
  | [], _ => rfl
  | x :: l, m => by rw [List.foldl_cons, fold_len hf l, hf]
theorem clo2_len (n k : Nat) (m : List Bool) (i : Nat) : (clo2 n k m i).length = m.length := fold_len (clo1_len k i) _ _
theorem clo3_len (n : Nat) (m : List Bool) (k : Nat) : (clo3 n m k).length = m.length := by unfold clo3; rw [fold_len (clo2_len n k)]; simp
theorem clo_len (n : Nat) (m : List Bool) : (clo n m).length = m.length := fold_len (clo3_len n) _ _
theorem fold_next {α : Type} (f : α → Nat → α) (a : α) (k : Nat) : (List.range (k + 1)).foldl f a = f ((List.range k).foldl f a) k := by rw [List.range_succ, List.foldl_append]; rfl

def Tb.with (t : Tb) (m : List Bool) : Tb := { t with m := m }
theorem tb_set {w : World} {b : Nat} {t : Tb} {m : List Bool} (h : IsTb w b (t.with m)) (i j : Nat) (v : Bool) : IsTb (w.setCell ⟨b, 5 + i * 16 + j, none⟩ (.bool v)) b (t.with (m.set (i * 16 + j) v)) := by
  have := h.setCell (5 + i * 16 + j) (.bool v)
  unfold IsTb
  have e : (t.with m).cells.set (5 + i * 16 + j) (.bool v) = (t.with (m.set (i * 16 + j) v)).cells := by
    have : 5 + i * 16 + j = i * 16 + j + 1 + 1 + 1 + 1 + 1 := by omega
    rw [this]
    simp [Tb.cells, Tb.with, List.map_set]
  rw [← e]; exact this
theorem tb_at {w : World} {b : Nat} {t : Tb} {m : List Bool} (h : IsTb w b (t.with m)) (hm : m.length = 256) {i j : Nat} (hi : i < 16) (hj : j < 16) : w.cell? ⟨b, 5 + i * 16 + j, none⟩ = some (.bool (at2 m i j)) ∧ w.frozen? ⟨b, 5 + i * 16 + j, none⟩ = false :=
  ⟨h.at _ (by rw [Nat.add_assoc]; exact (t.with m).at5 _ (by show i * 16 + j < m.length; omega)), h.free _⟩

theorem tb_guests {w : World} {b n : Nat} {t : Tb} {m : List Bool} (h : IsTb w b (t.with m)) (g : t.guests = n) : w.cell? ⟨b, 0, none⟩ = some (.int .i64 n) := by rw [← g]; exact h.at 0 rfl

set_option maxHeartbeats 4000000 in
theorem close_calls (b n : Nat) (t : Tb) (w : World) (h : IsTb w b t) (g : t.guests = n) (g2 : n ≤ 16) (hm : t.m.length = 256) :
    Calls Try.prog 38 #[.pointer (some ⟨b, 0, none⟩)] w fun r w' => r = .returned (.tuple #[]) ∧ IsTb w' b (t.with (clo n t.m)) ∧ Upd [b] w w' := by
  have h0 := h.at 0 rfl
  rw [g] at h0
  have H := Lib.hid h
  have HM := Lib.hid hm
  have HG := Lib.hid g
  clear h g hm
  go_enter Try.func38, Try.ntmps38
  go_wp2
  clear h0
  go_loopw [9] (fun i wr => ∃ k : Nat, k ≤ n ∧ i = .int .i64 k ∧ IsTb wr b (t.with ((List.range k).foldl (clo3 n) t.m)) ∧ Upd [b] w wr) (fun i _ => n - (intOf i).toNat)
  case atStart => exact ⟨0, by omega, rfl, H.out, Upd.refl _ _⟩
  case round =>
    obtain ⟨k, hk, rfl, hch, hu⟩ := hrel
    obtain ⟨M, hM⟩ : ∃ M, M = (List.range k).foldl (clo3 n) t.m := ⟨_, rfl⟩
    rw [← hM] at hch
    have hML : M.length = 256 := by rw [hM, fold_len (clo3_len n)]; exact HM.out
    have HMM := Lib.hid hM
    have HML := Lib.hid hML
    clear hM hML
    by_cases hlt : k < n
    · have hk16 : k < 16 := by omega
      have q0 := tb_guests hch HG.out
      obtain ⟨q1, q2⟩ := tb_at hch HML.out hk16 hk16
      have q3 := tb_guests (tb_set hch k k true) HG.out
      have HC := Lib.hid hch
      have HU := Lib.hid hu
      clear hch hu
      go_wp2
      clear q0 q1 q2 q3
      go_loopw [23] (fun i wr => ∃ p : Nat, p ≤ n ∧ i = .int .i64 p ∧ IsTb wr b (t.with ((List.range p).foldl (clo2 n k) (M.set (k * 16 + k) true))) ∧ Upd [b] w wr) (fun i _ => n - (intOf i).toNat)
      case atStart => exact ⟨0, by omega, rfl, tb_set HC.out k k true, HU.out.setCell (.inl (by simp)) _⟩
      case round =>
        obtain ⟨p, hp, rfl, hch, hu⟩ := hrel
        obtain ⟨N, hN⟩ : ∃ N, N = (List.range p).foldl (clo2 n k) (M.set (k * 16 + k) true) := ⟨_, rfl⟩
        rw [← hN] at hch
        have hNL : N.length = 256 := by rw [hN, fold_len (clo2_len n k), List.length_set]; exact HML.out
        have HNN := Lib.hid hN
        have HNL := Lib.hid hNL
        clear hN hNL
        by_cases hlp : p < n
        · have hp16 : p < 16 := by omega
          have q0 := tb_guests hch HG.out
          have HC := Lib.hid hch
          have HU := Lib.hid hu
          clear hch hu
          go_wp2
          clear q0
          go_loopw [30] (fun i wr => ∃ q : Nat, q ≤ n ∧ i = .int .i64 q ∧ IsTb wr b (t.with ((List.range q).foldl (clo1 k p) N)) ∧ Upd [b] w wr) (fun i _ => n - (intOf i).toNat)
          case atStart => exact ⟨0, by omega, rfl, HC.out, HU.out⟩
          case round =>
            obtain ⟨q, hq, rfl, hch, hu⟩ := hrel
            obtain ⟨O, hO⟩ : ∃ O, O = (List.range q).foldl (clo1 k p) N := ⟨_, rfl⟩
            rw [← hO] at hch
            have hOL : O.length = 256 := by rw [hO, fold_len (clo1_len k p)]; exact HNL.out
            have HOO := Lib.hid hO
            have HOL := Lib.hid hOL
            clear hO hOL
            by_cases hlq : q < n
            · have hq16 : q < 16 := by omega
              obtain ⟨a1, a2⟩ := tb_at hch HOL.out hp16 hq16
              obtain ⟨b1, b2⟩ := tb_at hch HOL.out hp16 hk16
              obtain ⟨c1, c2⟩ := tb_at hch HOL.out hk16 hq16
              have hfin : ∀ v, (at2 O p q || at2 O p k && at2 O k q) = v → IsTb (wr.drew.setCell ⟨b, 5 + p * 16 + q, none⟩ (.bool v)) b (t.with ((List.range (q + 1)).foldl (clo1 k p) N)) := by
                intro v hv
                rw [fold_next, ← HOO.out]
                unfold clo1
                rw [hv]
                exact tb_set (w := wr.drew) hch p q v
              have HF := Lib.hid hfin
              have HC := Lib.hid hch
              have HU := Lib.hid hu
              obtain ⟨x1, hx1⟩ : ∃ x, x = at2 O p q := ⟨_, rfl⟩
              obtain ⟨x2, hx2⟩ : ∃ x, x = at2 O p k := ⟨_, rfl⟩
              obtain ⟨x3, hx3⟩ : ∃ x, x = at2 O k q := ⟨_, rfl⟩
              rw [← hx1] at a1
              rw [← hx2] at b1
              rw [← hx3] at c1
              have HX1 := Lib.hid hx1
              have HX2 := Lib.hid hx2
              have HX3 := Lib.hid hx3
              clear hch hu hfin hx1 hx2 hx3
              cases x1
              · cases x2
                · go_wp2
                  go_region
                  go_wp2
                  go_roundw
                  case rel => exact ⟨q + 1, by omega, by go_num, HF.out _ (by rw [← HX1.out, ← HX2.out]; rfl), HU.out.drew.setCell (.inl (by simp)) _⟩
                  case measure => simp [intOf]; omega
                · cases x3
                  · go_wp2
                    go_region
                    go_wp2
                    go_roundw
                    case rel => exact ⟨q + 1, by omega, by go_num, HF.out _ (by rw [← HX1.out, ← HX2.out, ← HX3.out]; rfl), HU.out.drew.setCell (.inl (by simp)) _⟩
                    case measure => simp [intOf]; omega
                  · go_wp2
                    go_region
                    go_wp2
                    go_roundw
                    case rel => exact ⟨q + 1, by omega, by go_num, HF.out _ (by rw [← HX1.out, ← HX2.out, ← HX3.out]; rfl), HU.out.drew.setCell (.inl (by simp)) _⟩
                    case measure => simp [intOf]; omega
              · go_wp2
                go_region
                go_wp2
                go_roundw
                case rel => exact ⟨q + 1, by omega, by go_num, HF.out _ (by rw [← HX1.out]; rfl), HU.out.drew.setCell (.inl (by simp)) _⟩
                case measure => simp [intOf]; omega
            · have hqn : q = n := by omega
              have HC : Hid (IsTb wr b (t.with ((List.range (p + 1)).foldl (clo2 n k) (M.set (k * 16 + k) true)))) := by
                rw [fold_next, ← HNN.out]
                unfold clo2
                rw [← hqn, ← HOO.out]
                exact hch
              have HU := Lib.hid hu
              clear hch hu hqn
              go_wp2
              go_roundw
              case rel => exact ⟨p + 1, by omega, by go_num, HC.out, HU.out⟩
              case measure => simp [intOf]; omega
        · have hpn : p = n := by omega
          have HC : Hid (IsTb wr b (t.with ((List.range (k + 1)).foldl (clo3 n) t.m))) := by
            rw [fold_next, ← HMM.out]
            unfold clo3
            have e := HNN.out
            rw [hpn] at e
            rw [← e]
            exact hch
          have HU := Lib.hid hu
          clear hch hu hpn
          go_wp2
          go_roundw
          case rel => exact ⟨k + 1, by omega, by go_num, HC.out, HU.out⟩
          case measure => simp [intOf]; omega
    · have hkn : k = n := by omega
      have HC : Hid (IsTb wr b (t.with (clo n t.m))) := by
        unfold clo
        have e := HMM.out
        rw [hkn] at e
        rw [← e]
        exact hch
      have HU := Lib.hid hu
      clear hch hu hkn
      go_wp2
      go_end0
      exact ⟨rfl, HC.out, HU.out⟩
end Go.Proofs.Ytdfjjhpnhaggjaa
