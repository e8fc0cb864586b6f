/- The walks of package sample over one channel's block: is, why, Write, Read, Fresh, Copy, Same, New. -/
import Derived.Test.YtdfjjhpnhaggjaaRows
import Derived.Test.YtdfjjhpnhaggjaaMem
import Derived.BigQuiet
import Derived.Deep.QuietTactic
namespace Go.Proofs.Ytdfjjhpnhaggjaa
open Go.RowKit Go.Mem

/-- A sampling channel's state. -/
structure Chn where
  most : Int
  val : Int
  ends : Int
  has : Bool
  s : ByteArray
  t : Int
  fresh : List Bool

def Chn.cells (c : Chn) : List Value := .int .i64 c.most :: .int .u32 c.val :: .int .i64 c.ends :: .bool c.has :: .string c.s :: .int .u64 c.t :: c.fresh.map .bool

def IsCh (w : World) (b : Nat) (c : Chn) : Prop := Blk w b c.cells 78

structure Chn.Ok (c : Chn) : Prop where
  m1 : 1 ≤ c.most
  m2 : c.most ≤ 64
  e1 : 1 ≤ c.ends
  e2 : c.ends ≤ 16
  f : c.fresh.length = 16
  v0 : 0 ≤ c.val
  v1 : c.val < 4294967296
  t0 : 0 ≤ c.t
  t1 : c.t < 18446744073709551616

set_option maxHeartbeats 400000 in
theorem is_calls (b : Nat) (most : Int) (w : World) (h0 : w.cell? ⟨b, 0, none⟩ = some (.int .i64 most)) (hm : 0 < most) :
    Calls Try.prog 35 #[.pointer (some ⟨b, 0, none⟩)] w fun e w' => e = .returned (.bool true) ∧ w = w' := by
  go_enter Try.func35, Try.ntmps35
  go_wp2
  go_ret
  exact ⟨rfl, rfl⟩

def whyI (c : Chn) (e : Int) : Int := if e < 0 then 2 else if c.ends ≤ e then 2 else if c.has then 0 else 10


set_option maxHeartbeats 400000 in
theorem why_calls (b : Nat) (c : Chn) (e : Int) (w : World) (h : IsCh w b c) (ho : c.Ok) :
    Calls Try.prog 61 #[.pointer (some ⟨b, 0, none⟩), .int .i64 e] w fun r w' => r = .returned (.int .i64 (whyI c e)) ∧ w = w' := by
  have h0 := h.at 0 rfl
  have h2 := h.at 2 rfl
  have h3 := h.at 3 rfl
  have m1 := ho.m1
  clear ho h
  go_enter Try.func61, Try.ntmps61
  go_wp2_with (go_at_call 35; refine (is_calls _ _ _ (by assumption) (by omega)).mono ?_; rintro e w' ⟨rfl, rfl⟩)
  all_goals go_ret
  all_goals refine ⟨?_, rfl⟩
  all_goals simp only [whyI]
  all_goals repeat' split
  all_goals first | rfl | omega | simp_all

/-- What Write answers, and what it makes of the channel. -/
def wrE (c : Chn) (s : ByteArray) : Int := if c.most < (s.size : Int) then 5 else 0
def Chn.put (c : Chn) (t : Int) (s : ByteArray) : Chn := { c with has := true, s := s, t := t, fresh := List.replicate c.ends.toNat true ++ c.fresh.drop c.ends.toNat }
def Chn.fill (c : Chn) (t : Int) (s : ByteArray) (k : Nat) : Chn := { c with has := true, s := s, t := t, fresh := List.replicate k true ++ c.fresh.drop k }

theorem fill_start {w : World} {b : Nat} {c : Chn} (h : IsCh w b c) (t : Int) (s : ByteArray) :
    IsCh (((w.setCell ⟨b, 3, none⟩ (.bool true)).setCell ⟨b, 4, none⟩ (.string s)).setCell ⟨b, 5, none⟩ (.int .u64 t)) b (c.fill t s 0) :=
  ((h.setCell 3 _).setCell 4 _).setCell 5 _
theorem fill_at (c : Chn) (t : Int) (s : ByteArray) (k : Nat) (h : k < c.fresh.length) : (c.fill t s k).cells[6 + k]? = some (.bool (c.fresh.getD k false)) := by
  have : 6 + k = k + 1 + 1 + 1 + 1 + 1 + 1 := by omega
  rw [this]
  simp [Chn.cells, Chn.fill]
  rw [List.getElem?_append_right (by simp)]
  simp [List.getElem?_drop, List.getElem?_eq_getElem h]
theorem fill_next {w : World} {b : Nat} {c : Chn} {t : Int} {s : ByteArray} {k : Nat} (h : IsCh w b (c.fill t s k)) (hk : k < c.fresh.length) :
    IsCh (w.setCell ⟨b, 6 + k, none⟩ (.bool true)) b (c.fill t s (k + 1)) := by
  have := h.setCell (6 + k) (.bool true)
  unfold IsCh
  have e : (c.fill t s k).cells.set (6 + k) (.bool true) = (c.fill t s (k + 1)).cells := by
    have : 6 + k = k + 1 + 1 + 1 + 1 + 1 + 1 := by omega
    rw [this]
    simp only [Chn.cells, Chn.fill, List.set_cons_succ]
    congr 6
    rw [show (Value.bool true) = Value.bool true from rfl, ← List.map_set]
    congr 1
    rw [List.set_append_right _ _ (by simp)]
    simp [List.replicate_succ', List.append_assoc]
    rw [List.drop_eq_getElem_cons hk, List.set_cons_zero]
  rw [← e]; exact this

set_option maxHeartbeats 400000 in
theorem write_long (b : Nat) (c : Chn) (t : Int) (s : ByteArray) (w : World) (h : IsCh w b c) (ho : c.Ok) (hs : c.most < (s.size : Int)) :
    Calls Try.prog 30 #[.pointer (some ⟨b, 0, none⟩), .int .u64 t, .string s] w fun r w' => r = .returned (.int .i64 5) ∧ w = w' := by
  have h0 := h.at 0 rfl
  have m1 := ho.m1
  clear ho h
  go_enter Try.func30, Try.ntmps30
  go_wp2_with (go_at_call 35; refine (is_calls _ _ _ (by assumption) (by omega)).mono ?_; rintro e w' ⟨rfl, rfl⟩)
  go_ret
  exact ⟨rfl, rfl⟩

set_option maxHeartbeats 1000000 in
theorem write_ok (b : Nat) (c : Chn) (t : Int) (s : ByteArray) (w : World) (h : IsCh w b c) (ho : c.Ok) (hs : (s.size : Int) ≤ c.most) :
    Calls Try.prog 30 #[.pointer (some ⟨b, 0, none⟩), .int .u64 t, .string s] w fun r w' => r = .returned (.int .i64 0) ∧ IsCh w' b (c.put t s) ∧ Upd [b] w w' := by
  have h0 := h.at 0 rfl
  have h2 := h.at 2 rfl
  have h3 := h.at 3 rfl
  have h4 := h.at 4 rfl
  have h5 := h.at 5 rfl
  have f3 := h.free 3
  have f4 := h.free 4
  have f5 := h.free 5
  have m1 := ho.m1
  have H := Lib.hid h
  have HO := Lib.hid ho
  clear ho h
  go_enter Try.func30, Try.ntmps30
  go_wp2_with (go_at_call 35; refine (is_calls _ _ _ (by assumption) (by omega)).mono ?_; rintro e w' ⟨rfl, rfl⟩)
  clear h0 h2 h3 h4 h5 f3 f4 f5
  go_loopw [35] (fun i wr => ∃ k : Nat, (k : Int) ≤ c.ends ∧ i = .int .i64 k ∧ IsCh wr b (c.fill t s k) ∧ Upd [b] w wr) (fun i _ => c.ends.toNat - (intOf i).toNat)
  case atStart => exact ⟨0, by have := HO.out.e1; omega, rfl, fill_start H.out t s, (((Upd.refl _ _).setCell (.inl (by simp)) _).setCell (.inl (by simp)) _).setCell (.inl (by simp)) _⟩
  case round =>
    obtain ⟨k, hk, rfl, hch, hu⟩ := hrel
    have e1 := HO.out.e1
    have e2 := HO.out.e2
    have hl := HO.out.f
    by_cases hlt : (k : Int) < c.ends
    · have hx := hch.at (6 + k) (fill_at c t s k (by omega))
      have hf := hch.free (6 + k)
      have HC := Lib.hid hch
      have HU := Lib.hid hu
      have HL := Lib.hid hl
      clear hch hu hl
      go_wp2
      go_roundw
      case rel => exact ⟨k + 1, by omega, by go_num, fill_next HC.out (by have := HL.out; omega), HU.out.setCell (.inl (by simp)) _⟩
      case measure => simp [intOf]; omega
    · have hk2 : k = c.ends.toNat := by omega
      have hc2 : IsCh wr b (c.put t s) := by rw [Chn.put, ← hk2]; exact hch
      have HC := Lib.hid hc2
      have HU := Lib.hid hu
      clear hch hu hk2 hc2
      go_wp2
      go_ret
      exact ⟨rfl, HC.out, HU.out⟩
end Go.Proofs.Ytdfjjhpnhaggjaa
