/- A table's Send. -/
import Derived.Test.YtdfjjhpnhaggjaaK9
import Derived.RegionTactic
import Derived.Deep.RegionWith
namespace Go.Proofs.Ytdfjjhpnhaggjaa
open Go.RowKit Go.Mem

theorem zero100 (w : World) : (zeroValue 100).run Try.prog w = .ok (.agg #[.nilIface]) w := by kernel_rfl
theorem zero102 (w : World) : (zeroValue 102).run Try.prog w = .ok (.agg #[.nilIface, .int .i64 0]) w := by kernel_rfl

set_option maxHeartbeats 1000000 in
theorem tsend_none (T : Nat) (g now : Int) (m : List Bool) (P : List Item) (fp : List Nat) (gu po : Int) (s : ByteArray) (w : World) (h : Tab w fp T g now m P) (hg : 0 < g) (hk : KOk (gu, po)) (hn : srcOf P (gu, po) = none) :
    Calls Try.prog 41 #[.pointer (some ⟨T, 0, none⟩), .int .u8 gu, .int .u8 po, .string s] w fun e w' => e = .returned (.int .u8 2) ∧ Upd [] w w' := by
  obtain ⟨ways, bo, bi, h1, ⟨⟨es, ck, h2⟩, h2u⟩, h3, rfl⟩ := h.ex
  have c0 := h1.at 0 rfl
  have c3 := h1.at 3 rfl
  have hl : (Instr.lookup 90 (.map (some bo)) (.agg #[.int .u8 gu, .int .u8 po]) true).run Try.prog w = .ok (.tuple #[.agg #[.nilIface], .bool false]) w := by
    have := h2.run_look_ok h2u hk Try.underlying90 zero100
    rw [look_outs, hn] at this
    exact this
  clear h1 h2 h3 h h2u hk hn
  go_enter Try.func41, Try.ntmps41
  go_wp2_with (go_at_call 44; refine (tis_calls _ _ _ c0 (by assumption)).mono ?_; rintro e w' ⟨rfl, rfl⟩)
  go_ret
  exact ⟨rfl, (Upd.refl _ _).alloc _⟩

set_option maxHeartbeats 1000000 in
theorem tsend_smp (T : Nat) (g now : Int) (m : List Bool) (P : List Item) (fp : List Nat) (gu po : Int) (s : ByteArray) (w : World) (h : Tab w fp T g now m P) (hg : 0 < g) (hk : KOk (gu, po)) (p : Item) (c : Chn) (hc : c.Ok) (hy : p.y = .smp c) (hp : p ∈ P) (hn : srcOf P (gu, po) = some p) :
    Calls Try.prog 41 #[.pointer (some ⟨T, 0, none⟩), .int .u8 gu, .int .u8 po, .string s] w fun e w' => e = .returned (.int .u8 (p.y.sendS s)) ∧ (p.y.sendW now s).Is w' p.b ∧ Upd [p.b] w w' := by
  obtain ⟨ways, bo, bi, h1, ⟨⟨es, ck, h2⟩, h2u⟩, h3, rfl⟩ := h.ex
  have c0 := h1.at 0 rfl
  have c1 := h1.at 1 rfl
  have c3 := h1.at 3 rfl
  have hl : (Instr.lookup 90 (.map (some bo)) (.agg #[.int .u8 gu, .int .u8 po]) true).run Try.prog w = .ok (.tuple #[.agg #[.iface 147 (.agg #[.pointer (some ⟨p.b, 0, none⟩)])], .bool true]) w := by
    have := h2.run_look_ok h2u hk Try.underlying90 zero100
    rw [look_outs, hn] at this
    rw [show Value.iface 147 (.agg #[.pointer (some ⟨p.b, 0, none⟩)]) = p.v by simp [Item.v, hy, Way.ty]]
    exact this
  have hi := h.is p hp
  rw [hy] at hi ⊢
  have HI := Lib.hid hi
  have HC := Lib.hid hc
  clear h2 h3 h h2u hk hn hi hy hp hc
  go_enter Try.func41, Try.ntmps41
  go_wp2_with (go_at_call 44; refine (tis_calls _ _ _ c0 (by assumption)).mono ?_; rintro e w' ⟨rfl, rfl⟩)
  obtain ⟨w2, hw2⟩ : ∃ w2, w2 = w.alloc (.cells #[.iface 147 (.agg #[.pointer (some ⟨p.b, 0, none⟩)])] 100) := ⟨_, rfl⟩
  have hu2 : Upd [] w w2 := by rw [hw2]; exact (Upd.refl _ _).alloc _
  have hb2 : Blk w2 w.heap.size [.iface 147 (.agg #[.pointer (some ⟨p.b, 0, none⟩)])] 100 := by rw [hw2]; exact Blk.new w [.iface 147 (.agg #[.pointer (some ⟨p.b, 0, none⟩)])] 100
  rw [← hw2]
  have d0 := hb2.at 0 rfl
  have d1 := (h1.upd hu2 (by simp)).at 1 rfl
  have HI2 : Hid (IsCh w2.drew p.b c) := (HI.out.upd hu2.drew (by simp))
  have HU2 := Lib.hid hu2
  clear hw2 hu2 hb2 c0 c1 c3 hl h1
  go_region_with (go_at_call 104; refine (ssend_calls _ c _ _ _ HI2.out HC.out).mono ?_; rintro e w1 ⟨rfl, hcc, hu⟩; have HCC := Lib.hid hcc; have HU := Lib.hid (((HU2.out.mono (T := [p.b]) (by simp)).drew).trans hu (fun _ h => .inl h)); clear hcc hu)
  all_goals go_wp2
  all_goals go_ret
  all_goals exact ⟨rfl, HCC.out, HU.out⟩
set_option maxHeartbeats 1000000 in
theorem tsend_que (T : Nat) (g now : Int) (m : List Bool) (P : List Item) (fp : List Nat) (gu po : Int) (s : ByteArray) (w : World) (h : Tab w fp T g now m P) (hg : 0 < g) (hk : KOk (gu, po)) (p : Item) (c : Qu) (hc : c.Ok) (hy : p.y = .que c) (hp : p ∈ P) (hn : srcOf P (gu, po) = some p) :
    Calls Try.prog 41 #[.pointer (some ⟨T, 0, none⟩), .int .u8 gu, .int .u8 po, .string s] w fun e w' => e = .returned (.int .u8 (p.y.sendS s)) ∧ (p.y.sendW now s).Is w' p.b ∧ Upd [p.b] w w' := by
  obtain ⟨ways, bo, bi, h1, ⟨⟨es, ck, h2⟩, h2u⟩, h3, rfl⟩ := h.ex
  have c0 := h1.at 0 rfl
  have c1 := h1.at 1 rfl
  have c3 := h1.at 3 rfl
  have hl : (Instr.lookup 90 (.map (some bo)) (.agg #[.int .u8 gu, .int .u8 po]) true).run Try.prog w = .ok (.tuple #[.agg #[.iface 145 (.agg #[.pointer (some ⟨p.b, 0, none⟩)])], .bool true]) w := by
    have := h2.run_look_ok h2u hk Try.underlying90 zero100
    rw [look_outs, hn] at this
    rw [show Value.iface 145 (.agg #[.pointer (some ⟨p.b, 0, none⟩)]) = p.v by simp [Item.v, hy, Way.ty]]
    exact this
  have hi := h.is p hp
  rw [hy] at hi ⊢
  have HI := Lib.hid hi
  have HC := Lib.hid hc
  clear h2 h3 h h2u hk hn hi hy hp hc
  go_enter Try.func41, Try.ntmps41
  go_wp2_with (go_at_call 44; refine (tis_calls _ _ _ c0 (by assumption)).mono ?_; rintro e w' ⟨rfl, rfl⟩)
  obtain ⟨w2, hw2⟩ : ∃ w2, w2 = w.alloc (.cells #[.iface 145 (.agg #[.pointer (some ⟨p.b, 0, none⟩)])] 100) := ⟨_, rfl⟩
  have hu2 : Upd [] w w2 := by rw [hw2]; exact (Upd.refl _ _).alloc _
  have hb2 : Blk w2 w.heap.size [.iface 145 (.agg #[.pointer (some ⟨p.b, 0, none⟩)])] 100 := by rw [hw2]; exact Blk.new w [.iface 145 (.agg #[.pointer (some ⟨p.b, 0, none⟩)])] 100
  rw [← hw2]
  have d0 := hb2.at 0 rfl
  have d1 := (h1.upd hu2 (by simp)).at 1 rfl
  have HI2 : Hid (IsQ w2.drew p.b c) := (HI.out.upd hu2.drew (by simp))
  have HU2 := Lib.hid hu2
  clear hw2 hu2 hb2 c0 c1 c3 hl h1
  go_region_with (go_at_call 94; refine (lsend_calls _ c _ _ _ HI2.out HC.out).mono ?_; rintro e w1 ⟨rfl, hcc, hu⟩; have HCC := Lib.hid hcc; have HU := Lib.hid (((HU2.out.mono (T := [p.b]) (by simp)).drew).trans hu (fun _ h => .inl h)); clear hcc hu)
  all_goals go_wp2
  all_goals go_ret
  all_goals exact ⟨rfl, HCC.out, HU.out⟩
end Go.Proofs.Ytdfjjhpnhaggjaa
