/- A table's Receive. -/
import Derived.Test.YtdfjjhpnhaggjaaK11
import Derived.StillTailTactics
namespace Go.Proofs.Ytdfjjhpnhaggjaa
open Go.RowKit Go.Mem

set_option maxHeartbeats 1000000 in
theorem trecv_none (T : Nat) (g now : Int) (m : List Bool) (P : List Item) (fp : List Nat) (gu po : Int) (w : World) (h : Tab w fp T g now m P) (hg : 0 < g) (hk : KOk (gu, po)) (hn : dstOf P (gu, po) = none) :
    Calls Try.prog 48 #[.pointer (some ⟨T, 0, none⟩), .int .u8 gu, .int .u8 po] w fun e w' => e = .returned (.tuple #[.string ⟨#[]⟩, .int .u64 0, .int .u8 2]) ∧ Upd [] w w' := by
  obtain ⟨ways, bo, bi, h1, h2, ⟨⟨es, ck, h3⟩, h3u⟩, rfl⟩ := h.ex
  have c0 := h1.at 0 rfl
  have c3 := h1.at 4 rfl
  have hl : (Instr.lookup 91 (.map (some bi)) (.agg #[.int .u8 gu, .int .u8 po]) true).run Try.prog w = .ok (.tuple #[.agg #[.nilIface, .int .i64 0], .bool false]) w := by
    have := h3.run_look_ok h3u hk Try.underlying91 zero102
    rw [look_ins, hn] at this
    exact this
  clear h1 h2 h3 h h3u hk hn
  go_enter Try.func48, Try.ntmps48
  go_wp2_with (go_at_call 44; refine (tis_calls _ _ _ c0 (by assumption)).mono ?_; rintro e w' ⟨rfl, rfl⟩)
  go_returns
  exact ⟨rfl, (Upd.refl _ _).alloc _⟩

set_option maxRecDepth 100000 in
set_option maxHeartbeats 2000000 in
theorem trecv_smp (T : Nat) (g now : Int) (m : List Bool) (P : List Item) (fp : List Nat) (gu po : Int) (w : World) (h : Tab w fp T g now m P) (hg : 0 < g) (t0 : 0 ≤ now) (t1 : now < 18446744073709551616) (hk : KOk (gu, po)) (p : Item) (i : Nat) (c : Chn) (hc : c.Ok) (hy : p.y = .smp c) (hp : p ∈ P) (hn : dstOf P (gu, po) = some (p, i)) :
    Calls Try.prog 48 #[.pointer (some ⟨T, 0, none⟩), .int .u8 gu, .int .u8 po] w fun e w' => e = .returned (.tuple #[.string (p.y.recvS i now).s, .int .u64 (p.y.recvS i now).age, .int .u8 (p.y.recvS i now).st]) ∧ (p.y.recvW i).Is w' p.b ∧ Upd [p.b] w w' := by
  obtain ⟨ways, bo, bi, h1, h2, ⟨⟨es, ck, h3⟩, h3u⟩, rfl⟩ := h.ex
  have c0 := h1.at 0 rfl
  have c3 := h1.at 4 rfl
  have hl : (Instr.lookup 91 (.map (some bi)) (.agg #[.int .u8 gu, .int .u8 po]) true).run Try.prog w = .ok (.tuple #[.agg #[.iface 147 (.agg #[.pointer (some ⟨p.b, 0, none⟩)]), .int .i64 i], .bool true]) w := by
    have := h3.run_look_ok h3u hk Try.underlying91 zero102
    rw [look_ins, hn] at this
    rw [show Value.iface 147 (.agg #[.pointer (some ⟨p.b, 0, none⟩)]) = p.v by simp [Item.v, hy, Way.ty]]
    exact this
  have hi := h.is p hp
  rw [hy] at hi ⊢
  have HI := Lib.hid hi
  have HC := Lib.hid hc
  have T0 := Lib.hid t0
  have T1 := Lib.hid t1
  obtain ⟨r, hr⟩ : ∃ r, r = (Way.smp c).recvS i now := ⟨_, rfl⟩
  rw [← hr]
  have HR := Lib.hid hr
  clear h2 h3 h h3u hk hn hi hy hp hc t0 t1 hr
  go_enter Try.func48, Try.ntmps48
  go_wp2_with (go_at_call 44; refine (tis_calls _ _ _ c0 (by assumption)).mono ?_; rintro e w' ⟨rfl, rfl⟩)
  obtain ⟨w2, hw2⟩ : ∃ w2, w2 = w.alloc (.cells #[.iface 147 (.agg #[.pointer (some ⟨p.b, 0, none⟩)]), .int .i64 i] 102) := ⟨_, rfl⟩
  have hu2 : Upd [] w w2 := by rw [hw2]; exact (Upd.refl _ _).alloc _
  have hb2 : Blk w2 w.heap.size [.iface 147 (.agg #[.pointer (some ⟨p.b, 0, none⟩)]), .int .i64 i] 102 := by rw [hw2]; exact Blk.new w [.iface 147 (.agg #[.pointer (some ⟨p.b, 0, none⟩)]), .int .i64 i] 102
  rw [← hw2]
  have d0 := hb2.at 0 rfl
  have d2 := hb2.at 1 rfl
  have d1 := (h1.upd hu2 (by simp)).at 1 rfl
  have HI2 : Hid (IsCh w2.drew p.b c) := (HI.out.upd hu2.drew (by simp))
  have HCT := Lib.hid (srecv_calls p.b c i now w2.drew HI2.out HC.out T0.out T1.out)
  rw [← HR.out] at HCT
  have HU2 := Lib.hid hu2
  clear hw2 hu2 hb2 c0 c3 hl h1
  go_region_with (go_at_call 103; refine HCT.out.mono ?_; rintro e w1 ⟨rfl, hcc, hu⟩; have HCC := Lib.hid hcc; have HU := Lib.hid (((HU2.out.mono (T := [p.b]) (by simp)).drew).trans hu (fun _ h => .inl h)); clear hcc hu)
  all_goals dsimp only [Act.put, List.getElem_toArray, List.getElem_cons_succ, List.getElem_cons_zero]
  all_goals simp only [List.setIfInBounds_toArray, List.set_cons_succ, List.set_cons_zero]
  all_goals go_wp2
  all_goals go_returns
  all_goals exact ⟨rfl, HCC.out, HU.out⟩

set_option maxRecDepth 100000 in
set_option maxHeartbeats 2000000 in
theorem trecv_que (T : Nat) (g now : Int) (m : List Bool) (P : List Item) (fp : List Nat) (gu po : Int) (w : World) (h : Tab w fp T g now m P) (hg : 0 < g) (hk : KOk (gu, po)) (p : Item) (i : Nat) (c : Qu) (hc : c.Ok) (hy : p.y = .que c) (hp : p ∈ P) (hn : dstOf P (gu, po) = some (p, i)) :
    Calls Try.prog 48 #[.pointer (some ⟨T, 0, none⟩), .int .u8 gu, .int .u8 po] w fun e w' => e = .returned (.tuple #[.string (p.y.recvS i now).s, .int .u64 (p.y.recvS i now).age, .int .u8 (p.y.recvS i now).st]) ∧ (p.y.recvW i).Is w' p.b ∧ Upd [p.b] w w' := by
  obtain ⟨ways, bo, bi, h1, h2, ⟨⟨es, ck, h3⟩, h3u⟩, rfl⟩ := h.ex
  have c0 := h1.at 0 rfl
  have c3 := h1.at 4 rfl
  have hl : (Instr.lookup 91 (.map (some bi)) (.agg #[.int .u8 gu, .int .u8 po]) true).run Try.prog w = .ok (.tuple #[.agg #[.iface 145 (.agg #[.pointer (some ⟨p.b, 0, none⟩)]), .int .i64 i], .bool true]) w := by
    have := h3.run_look_ok h3u hk Try.underlying91 zero102
    rw [look_ins, hn] at this
    rw [show Value.iface 145 (.agg #[.pointer (some ⟨p.b, 0, none⟩)]) = p.v by simp [Item.v, hy, Way.ty]]
    exact this
  have hi := h.is p hp
  rw [hy] at hi ⊢
  have HI := Lib.hid hi
  have HC := Lib.hid hc
  obtain ⟨r, hr⟩ : ∃ r, r = (Way.que c).recvS i now := ⟨_, rfl⟩
  rw [← hr]
  have HR := Lib.hid hr
  clear h2 h3 h h3u hk hn hi hy hp hc hr
  go_enter Try.func48, Try.ntmps48
  go_wp2_with (go_at_call 44; refine (tis_calls _ _ _ c0 (by assumption)).mono ?_; rintro e w' ⟨rfl, rfl⟩)
  obtain ⟨w2, hw2⟩ : ∃ w2, w2 = w.alloc (.cells #[.iface 145 (.agg #[.pointer (some ⟨p.b, 0, none⟩)]), .int .i64 i] 102) := ⟨_, rfl⟩
  have hu2 : Upd [] w w2 := by rw [hw2]; exact (Upd.refl _ _).alloc _
  have hb2 : Blk w2 w.heap.size [.iface 145 (.agg #[.pointer (some ⟨p.b, 0, none⟩)]), .int .i64 i] 102 := by rw [hw2]; exact Blk.new w [.iface 145 (.agg #[.pointer (some ⟨p.b, 0, none⟩)]), .int .i64 i] 102
  rw [← hw2]
  have d0 := hb2.at 0 rfl
  have d2 := hb2.at 1 rfl
  have d1 := (h1.upd hu2 (by simp)).at 1 rfl
  have HI2 : Hid (IsQ w2.drew p.b c) := (HI.out.upd hu2.drew (by simp))
  have HCT := Lib.hid (lrecv_calls p.b c i now w2.drew HI2.out HC.out)
  rw [← HR.out] at HCT
  have HU2 := Lib.hid hu2
  clear hw2 hu2 hb2 c0 c3 hl h1
  go_region_with (go_at_call 93; refine HCT.out.mono ?_; rintro e w1 ⟨rfl, hcc, hu⟩; have HCC := Lib.hid hcc; have HU := Lib.hid (((HU2.out.mono (T := [p.b]) (by simp)).drew).trans hu (fun _ h => .inl h)); clear hcc hu)
  all_goals dsimp only [Act.put, List.getElem_toArray, List.getElem_cons_succ, List.getElem_cons_zero]
  all_goals simp only [List.setIfInBounds_toArray, List.set_cons_succ, List.set_cons_zero]
  all_goals go_wp2
  all_goals go_returns
  all_goals exact ⟨rfl, HCC.out, HU.out⟩

end Go.Proofs.Ytdfjjhpnhaggjaa
