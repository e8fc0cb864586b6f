/- The walks of package sample over one channel's block: Copy, Same. -/
import Derived.Test.YtdfjjhpnhaggjaaS2
namespace Go.Proofs.Ytdfjjhpnhaggjaa
open Go.RowKit Go.Mem

theorem list16 {α : Type} (l : List α) (h : l.length = 16) : ∃ a b c d e f g i j k m n o p q r, l = [a, b, c, d, e, f, g, i, j, k, m, n, o, p, q, r] := by
  match l, h with
  | [a, b, c, d, e, f, g, i, j, k, m, n, o, p, q, r], _ => exact ⟨_, _, _, _, _, _, _, _, _, _, _, _, _, _, _, _, rfl⟩

theorem Try.size78 : (Try.prog.info? 78).map (·.size) = some 22 := by kernel_rfl


theorem Chn.len {c : Chn} (h : c.Ok) : c.cells.length = 22 := by have := h.f; simp [Chn.cells]; omega
theorem Chn.one (c : Chn) : ∀ v ∈ c.cells, v.oneCell' = true := by
  intro v hv
  simp only [Chn.cells, List.mem_cons, List.mem_map] at hv
  rcases hv with rfl | rfl | rfl | rfl | rfl | rfl | ⟨_, _, rfl⟩ <;> rfl

set_option maxHeartbeats 400000 in
theorem copy_calls (b : Nat) (c : Chn) (w : World) (h : IsCh w b c) (ho : c.Ok) :
    Calls Try.prog 14 #[.pointer (some ⟨b, 0, none⟩)] w fun r w' => r = .returned (.pointer (some ⟨w.heap.size, 0, none⟩)) ∧ IsCh w' w.heap.size c ∧ Upd [] w w' := by
  have h0 := h.at 0 rfl
  have m1 := ho.m1
  have hl := Chn.len ho
  obtain ⟨l, hl2⟩ : ∃ l, l = c.cells := ⟨_, rfl⟩
  have H : Hid (Blk w b l 78) := by rw [hl2]; exact h
  have HO := Lib.hid ho
  have hz : (Try.prog.info? 78).map (·.size) = some l.toArray.size := by rw [hl2, List.size_toArray, hl]; exact Try.size78
  have HZ := Lib.hid hz
  have HL : Hid (l = c.cells ∧ l.length = 22) := ⟨hl2, by rw [hl2]; exact hl⟩
  clear ho h hl hl2 hz
  go_enter Try.func14, Try.ntmps14
  go_wp2_with (first | (go_at_call 35; refine (is_calls _ _ _ h0 (by omega)).mono ?_; rintro e w' ⟨rfl, rfl⟩) | (refine wpList_load_row rfl 78 _ rfl b rfl 78 _ _ _ H.out Try.underlying78 rfl HZ.out ?_) | (refine wpList_store_mid rfl 78 _ _ rfl w.heap.size 0 l.toArray rfl rfl ?c1 ?c2 ?c3 ?_))
  case c1 => exact (Blk.new _ _ _).there (by simp [HL.out.2])
  case c2 => exact HZ.out
  case c3 => exact all_oneCell_toArray (by rw [HL.out.1]; exact c.one)
  go_returns
  have e := (Blk.new w [.int .i64 0, .int .u32 0, .int .i64 0, .bool false, .string ⟨#[]⟩, .int .u64 0, .bool false, .bool false, .bool false, .bool false, .bool false, .bool false, .bool false, .bool false, .bool false, .bool false, .bool false, .bool false, .bool false, .bool false, .bool false, .bool false] 78).setCells l 0 (by simp [HL.out.2])
  refine ⟨rfl, ?_, Upd.setCells (.inr (Nat.le_refl _)) _ _ ((Upd.refl _ _).alloc _)⟩
  have e2 : ([] : List Value) ++ l ++ [] = c.cells := by simp [HL.out.1]
  unfold IsCh
  rw [← e2]
  simpa [HL.out.2] using e



theorem u76 : Try.prog.underlying 76 = some (.array 16 4) := by kernel_rfl
theorem c4 : Try.prog.cellsOf 4 = 1 := by kernel_rfl
theorem f78 : (Try.prog.fieldsOf 78).toList.map (fun f => (f.name, f.type, f.offset)) = [("most", 3, 0), ("validity", 22, 1), ("ends", 3, 2), ("has", 4, 3), ("s", 9, 4), ("at", 37, 5), ("fresh", 76, 6)] := by kernel_rfl

/-- The fields' equality off their names, types and places alone. -/
def eqT (d : Nat) (xs ys : Array Value) : List (String × TypeId × Nat) → Sem Bool
  | [] => pure true
  | f :: fs =>
    if f.1 ≠ "_" then do
      let a ← part f.2.1 xs f.2.2
      let b ← part f.2.1 ys f.2.2
      let r ← Op.equalIn d f.2.1 a b
      if (!r) = true then pure false else eqT d xs ys fs
    else eqT d xs ys fs
theorem eqFields_eq (d : Nat) (xs ys : Array Value) : ∀ fs : List Field, Op.eqFields d xs ys fs = eqT d xs ys (fs.map (fun f => (f.name, f.type, f.offset)))
  | [] => rfl
  | f :: fs => by simp only [Op.eqFields, eqT, List.map_cons, eqFields_eq d xs ys fs]

theorem eqT_step {P : Program} {w : World} {d : Nat} {xs ys : Array Value} {t : TypeId} {o : Nat} {fs : List (String × TypeId × Nat)} {a b : Value} {r r' : Bool} (nm : String) (hn : nm ≠ "_")
    (pa : (part t xs o).run P w = .ok a w) (pb : (part t ys o).run P w = .ok b w) (he : (Op.equalIn d t a b).run P w = .ok r w) (hr : (eqT d xs ys fs).run P w = .ok r' w) :
    (eqT d xs ys ((nm, t, o) :: fs)).run P w = .ok (r && r') w := by
  simp only [eqT, hn, ne_eq, not_false_eq_true, if_true, Sem.run_bind, pa, pb, he, Result.andThen_ok]
  cases r <;> simp [hr]

theorem run_part_one (P : Program) (w : World) (t : TypeId) (d : TypeDesc) (hd : P.underlying t = some d) (hk : d.isRow = false) (xs : Array Value) (o : Nat) (v : Value) (h : xs[o]? = some v) :
    (part t xs o).run P w = .ok v w := by
  cases d <;> simp [TypeDesc.isRow] at hk <;> simp [part, isAgg, run_underlying hd, h]
theorem run_part_agg (P : Program) (w : World) (t : TypeId) (d : TypeDesc) (hd : P.underlying t = some d) (hk : d.isRow = true) (i : TypeInfo) (hi : P.info? t = some i) (xs : Array Value) (o : Nat) :
    (part t xs o).run P w = .ok (.agg (xs.extract o (o + P.cellsOf t))) w := by
  cases d <;> simp [TypeDesc.isRow] at hk <;> simp [part, isAgg, run_underlying hd, run_sizeOf w hi]

theorem eqItems_bool (w : World) (dd : Nat) (a b : List Bool) : ∀ (is : List Nat), (∀ i ∈ is, i < a.length ∧ i < b.length) →
    (Op.eqItems (dd + 1) 4 1 (a.map Value.bool).toArray (b.map Value.bool).toArray is).run Try.prog w = .ok (is.all fun i => a[i]? == b[i]?) w
  | [], _ => by simp [Op.eqItems]
  | i :: is, h => by
    have hi := h i (by simp)
    have ih := eqItems_bool w dd a b is (fun j hj => h j (by simp [hj]))
    have p1 := run_part_one Try.prog w 4 _ Try.underlying4 rfl (a.map Value.bool).toArray (i * 1) (.bool a[i]) (by simp [hi.1])
    have p2 := run_part_one Try.prog w 4 _ Try.underlying4 rfl (b.map Value.bool).toArray (i * 1) (.bool b[i]) (by simp [hi.2])
    simp only [Op.eqItems, Sem.run_bind, p1, p2, Result.andThen_ok, run_equalIn_bool w dd 4 _ _ Try.underlying4, List.all_cons, List.getElem?_eq_getElem hi.1, List.getElem?_eq_getElem hi.2]
    by_cases e : a[i] = b[i] <;> simp [e, ih]
theorem all_range_eq (a b : List Bool) (n : Nat) (ha : a.length = n) (hb : b.length = n) : ((List.range n).all fun i => a[i]? == b[i]?) = (a == b) := by
  rw [Bool.eq_iff_iff]
  simp only [List.all_eq_true, List.mem_range, beq_iff_eq]
  constructor
  · intro h
    apply List.ext_getElem?
    intro i
    by_cases hi : i < n
    · exact h i hi
    · rw [List.getElem?_eq_none (by omega), List.getElem?_eq_none (by omega)]
  · rintro rfl i _; rfl

def chEq (c d : Chn) : Bool := c.most == d.most && c.val == d.val && c.ends == d.ends && c.has == d.has && c.s.toList == d.s.toList && c.t == d.t && c.fresh == d.fresh

theorem held78 : Try.prog.stoodInHeld 78 = false := by kernel_rfl
theorem und78 : Try.prog.underlying 78 = some (.struct (Try.prog.fieldsOf 78)) := by kernel_rfl
theorem i4 : (Try.prog.info? 4).isSome = true := by kernel_rfl
theorem i76 : (Try.prog.info? 76).isSome = true := by kernel_rfl
theorem c76 : Try.prog.cellsOf 76 = 16 := by kernel_rfl

theorem eql_chn (w : World) (n : Nat) (c d : Chn) (hc : c.Ok) (hd : d.Ok) :
    (Op.equalIn (n + 3) 78 (.agg c.cells.toArray) (.agg d.cells.toArray)).run Try.prog w = .ok (chEq c d) w := by
  rw [run_equalIn_struct w (n + 2) 78 _ _ und78 held78, eqFields_eq, f78]
  obtain ⟨ti, hti⟩ := Option.isSome_iff_exists.1 i76
  obtain ⟨ti4, hti4⟩ := Option.isSome_iff_exists.1 i4
  have e1 : c.cells.toArray.extract 6 (6 + 16) = (c.fresh.map Value.bool).toArray := by
    apply Array.ext'; simp [Chn.cells]; exact List.take_of_length_le (by simp [hc.f])
  have e2 : d.cells.toArray.extract 6 (6 + 16) = (d.fresh.map Value.bool).toArray := by
    apply Array.ext'; simp [Chn.cells]; exact List.take_of_length_le (by simp [hd.f])
  have hfr : (Op.equalIn (n + 2) 76 (.agg (c.fresh.map Value.bool).toArray) (.agg (d.fresh.map Value.bool).toArray)).run Try.prog w = .ok (c.fresh == d.fresh) w := by
    rw [run_equalIn_array w (n + 1) _ _ u76 hti4, c4, eqItems_bool w n c.fresh d.fresh _ (by intro i hi; simp at hi; have := hc.f; have := hd.f; omega), all_range_eq _ _ 16 hc.f hd.f]
  have q76 : (Op.equalIn (n + 2) 76 (.agg (c.cells.toArray.extract 6 (6 + Try.prog.cellsOf 76))) (.agg (d.cells.toArray.extract 6 (6 + Try.prog.cellsOf 76)))).run Try.prog w = .ok (c.fresh == d.fresh) w := by
    rw [c76, e1, e2]; exact hfr
  have one : ∀ t d' (hu : Try.prog.underlying t = some d') (hk : d'.isRow = false) o v v' r (h1 : c.cells.toArray[o]? = some v) (h2 : d.cells.toArray[o]? = some v') (h3 : (Op.equalIn (n + 2) t v v').run Try.prog w = .ok r w) (nm : String) (hn : nm ≠ "_") fs r' (hr : (eqT (n + 2) c.cells.toArray d.cells.toArray fs).run Try.prog w = .ok r' w),
      (eqT (n + 2) c.cells.toArray d.cells.toArray ((nm, t, o) :: fs)).run Try.prog w = .ok (r && r') w :=
    fun t d' hu hk o v v' r h1 h2 h3 nm hn fs r' hr =>
      eqT_step nm hn (run_part_one _ w t d' hu hk _ o v h1) (run_part_one _ w t d' hu hk _ o v' h2) h3 hr
  have last := eqT_step (P := Try.prog) (w := w) (d := n + 2) (xs := c.cells.toArray) (ys := d.cells.toArray) (fs := []) (r' := true) "fresh" (by decide) (run_part_agg _ w 76 _ u76 rfl ti hti _ 6) (run_part_agg _ w 76 _ u76 rfl ti hti _ 6) q76 rfl
  have := one 3 _ Try.underlying3 rfl 0 _ _ _ rfl rfl (run_equalIn_int w _ 3 _ _ _ _ Try.underlying3) "most" (by decide) _ _ <|
    one 22 _ Try.underlying22 rfl 1 _ _ _ rfl rfl (run_equalIn_int w _ 22 _ _ _ _ Try.underlying22) "validity" (by decide) _ _ <|
    one 3 _ Try.underlying3 rfl 2 _ _ _ rfl rfl (run_equalIn_int w _ 3 _ _ _ _ Try.underlying3) "ends" (by decide) _ _ <|
    one 4 _ Try.underlying4 rfl 3 _ _ _ rfl rfl (run_equalIn_bool w _ 4 _ _ Try.underlying4) "has" (by decide) _ _ <|
    one 9 _ Try.underlying9 rfl 4 _ _ _ rfl rfl (run_equalIn_string w _ 9 _ _ Try.underlying9) "s" (by decide) _ _ <|
    one 37 _ Try.underlying37 rfl 5 _ _ _ rfl rfl (run_equalIn_int w _ 37 _ _ _ _ Try.underlying37) "at" (by decide) _ _ last
  rw [this]
  simp [chEq, Bool.and_assoc]

set_option maxHeartbeats 1000000 in
theorem same_calls (b b' : Nat) (c d : Chn) (w : World) (h : IsCh w b c) (h' : IsCh w b' d) (hc : c.Ok) (hd : d.Ok) :
    Calls Try.prog 12 #[.pointer (some ⟨b, 0, none⟩), .pointer (some ⟨b', 0, none⟩)] w fun r w' => r = .returned (.bool (chEq c d)) ∧ ∃ n, w' = w.drewN n := by
  have h0 := h.at 0 rfl
  have h1 := h'.at 0 rfl
  have m1 := hc.m1
  have m2 := hd.m1
  have he := fun w => eql_chn w 9997 c d hc hd
  obtain ⟨r, hr⟩ : ∃ r, r = chEq c d := ⟨_, rfl⟩
  rw [← hr] at he ⊢
  obtain ⟨l, hl⟩ : ∃ l, l = c.cells := ⟨_, rfl⟩
  obtain ⟨l', hl'⟩ : ∃ l, l = d.cells := ⟨_, rfl⟩
  rw [← hl, ← hl'] at he
  have H : Hid (Blk w b l 78) := by rw [hl]; exact h
  have H' : Hid (Blk w b' l' 78) := by rw [hl']; exact h'
  have r1 : rowOf w b = l.toArray := H.out.row
  have r2 : rowOf w b' = l'.toArray := H'.out.row
  have z1 : l.length = 22 := by rw [hl]; exact Chn.len hc
  have z2 : l'.length = 22 := by rw [hl']; exact Chn.len hd
  clear h h' hc hd hl hl' hr
  go_enter Try.func12, Try.ntmps12
  go_wp2_with (go_at_call 35; refine (is_calls _ _ _ (by first | with_reducible exact h0 | with_reducible exact h1) (by omega)).mono ?_; rintro e w' ⟨rfl, rfl⟩)
  refine wp_region_quiet_lit (by kernel_rfl) (by kernel_rfl) ?_
  repeat (first | (refine wpQuiet_load_row rfl 78 _ rfl b rfl l (by rintro _ ⟨n, rfl⟩; rw [rowOf_drewN, r1]) _ und78 rfl 22 Try.size78 z1 (by decide) ?_) | (refine wpQuiet_load_row rfl 78 _ rfl b' rfl l' (by rintro _ ⟨n, rfl⟩; rw [rowOf_drewN, r2]) _ und78 rfl 22 Try.size78 z2 (by decide) ?_) | go_big_quiet_step (fail) | quiet_step (fail))
  refine wpQuiet_nil ?_
  rintro _ ⟨nq, rfl⟩
  go_wp2
  go_returns
  exact ⟨rfl, nq, rfl⟩
end Go.Proofs.Ytdfjjhpnhaggjaa
