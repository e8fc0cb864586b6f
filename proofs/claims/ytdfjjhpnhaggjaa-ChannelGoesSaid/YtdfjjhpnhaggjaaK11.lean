/- A table's Waiting and At. -/
import Derived.Test.YtdfjjhpnhaggjaaK10
namespace Go.Proofs.Ytdfjjhpnhaggjaa
open Go.RowKit Go.Mem

set_option maxHeartbeats 1000000 in
theorem twaits_none (T : Nat) (g now : Int) (m : List Bool) (P : List Item) (fp : List Nat) (gu po : Int) (w : World) (h : Tab w fp T g now m P) (hg : 0 < g) (hk : KOk (gu, po)) (hn : dstOf P (gu, po) = none) :
    Calls Try.prog 42 #[.pointer (some ⟨T, 0, none⟩), .int .u8 gu, .int .u8 po] w fun e w' => e = .returned (.int .i64 0) ∧ Upd [] w w' := by
  obtain ⟨ways, bo, bi, h1, h2, ⟨⟨es, ck, h3⟩, h3u⟩, rfl⟩ := h.ex
  have c0 := h1.at 0 rfl
  have c3 := h1.at 4 rfl
  have hl : (Instr.lookup 91 (.map (some bi)) (.agg #[.int .u8 gu, .int .u8 po]) true).run Try.prog w = .ok (.tuple #[.agg #[.nilIface, .int .i64 0], .bool false]) w := by
    have := h3.run_look_ok h3u hk Try.underlying91 zero102
    rw [look_ins, hn] at this
    exact this
  clear h1 h2 h3 h h3u hk hn
  go_enter Try.func42, Try.ntmps42
  go_wp2_with (go_at_call 44; refine (tis_calls _ _ _ c0 (by assumption)).mono ?_; rintro e w' ⟨rfl, rfl⟩)
  go_ret
  exact ⟨rfl, (Upd.refl _ _).alloc _⟩

set_option maxHeartbeats 1000000 in
theorem twaits_smp (T : Nat) (g now : Int) (m : List Bool) (P : List Item) (fp : List Nat) (gu po : Int) (w : World) (h : Tab w fp T g now m P) (hg : 0 < g) (hk : KOk (gu, po)) (p : Item) (i : Nat) (c : Chn) (hc : c.Ok) (hy : p.y = .smp c) (hp : p ∈ P) (hn : dstOf P (gu, po) = some (p, i)) :
    Calls Try.prog 42 #[.pointer (some ⟨T, 0, none⟩), .int .u8 gu, .int .u8 po] w fun e w' => e = .returned (.int .i64 (p.y.waits i)) ∧ Upd [] w w' := by
  obtain ⟨ways, bo, bi, h1, h2, ⟨⟨es, ck, h3⟩, h3u⟩, rfl⟩ := h.ex
  have c0 := h1.at 0 rfl
  have c3 := h1.at 4 rfl
  have hl : (Instr.lookup 91 (.map (some bi)) (.agg #[.int .u8 gu, .int .u8 po]) true).run Try.prog w = .ok (.tuple #[.agg #[.iface 147 (.agg #[.pointer (some ⟨p.b, 0, none⟩)]), .int .i64 i], .bool true]) w := by
    have := h3.run_look_ok h3u hk Try.underlying91 zero102
    rw [look_ins, hn] at this
    rw [show Value.iface 147 (.agg #[.pointer (some ⟨p.b, 0, none⟩)]) = p.v by simp [Item.v, hy, Way.ty]]
    exact this
  have hi := h.is p hp
  rw [hy] at hi ⊢
  have HIS : ∀ o, IsCh (w.alloc o) p.b c := fun o => Way.Is.upd (y := .smp c) hi ((Upd.refl [] _).alloc o) (by simp)
  have HIS := Lib.hid HIS
  have HC := Lib.hid hc
  clear h1 h2 h3 h h3u hk hn hi hy hp hc
  go_enter Try.func42, Try.ntmps42
  go_wp2_with (first | (go_at_call 44; refine (tis_calls _ _ _ c0 (by assumption)).mono ?_; rintro e w' ⟨rfl, rfl⟩) | (go_at_call 105; refine (swaits_calls _ c _ _ (HIS.out _) HC.out).mono ?_; rintro e w1 ⟨rfl, hu⟩; have HU := Lib.hid (((Upd.refl [] w).alloc _).trans hu (by simp)); clear hu))
  go_ret
  exact ⟨rfl, HU.out⟩

set_option maxHeartbeats 1000000 in
theorem twaits_que (T : Nat) (g now : Int) (m : List Bool) (P : List Item) (fp : List Nat) (gu po : Int) (w : World) (h : Tab w fp T g now m P) (hg : 0 < g) (hk : KOk (gu, po)) (p : Item) (i : Nat) (c : Qu) (hc : c.Ok) (hy : p.y = .que c) (hp : p ∈ P) (hn : dstOf P (gu, po) = some (p, i)) :
    Calls Try.prog 42 #[.pointer (some ⟨T, 0, none⟩), .int .u8 gu, .int .u8 po] w fun e w' => e = .returned (.int .i64 (p.y.waits i)) ∧ Upd [] w w' := by
  obtain ⟨ways, bo, bi, h1, h2, ⟨⟨es, ck, h3⟩, h3u⟩, rfl⟩ := h.ex
  have c0 := h1.at 0 rfl
  have c3 := h1.at 4 rfl
  have hl : (Instr.lookup 91 (.map (some bi)) (.agg #[.int .u8 gu, .int .u8 po]) true).run Try.prog w = .ok (.tuple #[.agg #[.iface 145 (.agg #[.pointer (some ⟨p.b, 0, none⟩)]), .int .i64 i], .bool true]) w := by
    have := h3.run_look_ok h3u hk Try.underlying91 zero102
    rw [look_ins, hn] at this
    rw [show Value.iface 145 (.agg #[.pointer (some ⟨p.b, 0, none⟩)]) = p.v by simp [Item.v, hy, Way.ty]]
    exact this
  have hi := h.is p hp
  rw [hy] at hi ⊢
  have HIQ : ∀ o, IsQ (w.alloc o) p.b c := fun o => Way.Is.upd (y := .que c) hi ((Upd.refl [] _).alloc o) (by simp)
  have HIQ := Lib.hid HIQ
  have HC := Lib.hid hc
  clear h1 h2 h3 h h3u hk hn hi hy hp hc
  go_enter Try.func42, Try.ntmps42
  go_wp2_with (first | (go_at_call 44; refine (tis_calls _ _ _ c0 (by assumption)).mono ?_; rintro e w' ⟨rfl, rfl⟩) | (go_at_call 95; refine (lwaits_calls _ c _ _ (HIQ.out _) HC.out).mono ?_; rintro e w1 ⟨rfl, hu⟩; have HU := Lib.hid (((Upd.refl [] w).alloc _).trans hu (by simp)); clear hu))
  go_ret
  exact ⟨rfl, HU.out⟩

set_option maxHeartbeats 400000 in
theorem tat_calls (T : Nat) (g now x : Int) (m : List Bool) (P : List Item) (fp : List Nat) (w : World) (h : Tab w fp T g now m P) (hg : 0 < g) :
    Calls Try.prog 40 #[.pointer (some ⟨T, 0, none⟩), .int .u64 x] w fun e w' => e = .returned (.tuple #[]) ∧ Tab w' fp T g x m P ∧ Upd [T] w w' := by
  have H := Lib.hid h
  obtain ⟨ways, bo, bi, h1, h2, h3, hfp⟩ := h.ex
  have c0 := h1.at 0 rfl
  have c1 := h1.at 1 rfl
  have f1 := h1.free 1
  have HF : Hid (Tab (w.setCell ⟨T, 1, none⟩ (.int .u64 x)) fp T g x m P) := by
    have hu : Upd [T] w (w.setCell ⟨T, 1, none⟩ (.int .u64 x)) := (Upd.refl _ _).setCell (.inl (by simp)) _
    exact ⟨⟨ways, bo, bi, Blk.setCell h1 1 (.int .u64 x), h2.upd hu (by simpa using (h2.ne h1).symm), h3.upd hu (by simpa using (h3.ne h1).symm), hfp⟩, fun p hp => (h.is p hp).upd hu (by simpa using (h.is p hp).ne h1 (by decide) (by decide)), h.nd⟩
  clear h h1 h2 h3 hfp
  go_enter Try.func40, Try.ntmps40
  go_wp2_with (go_at_call 44; refine (tis_calls _ _ _ c0 (by assumption)).mono ?_; rintro e w' ⟨rfl, rfl⟩)
  go_end0
  exact ⟨rfl, HF.out, (Upd.refl _ _).setCell (.inl (by simp)) _⟩

end Go.Proofs.Ytdfjjhpnhaggjaa
