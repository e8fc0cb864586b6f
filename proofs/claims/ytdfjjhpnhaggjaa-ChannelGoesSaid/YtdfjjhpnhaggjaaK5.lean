/- Package channel: New. -/
import Derived.Test.YtdfjjhpnhaggjaaK4
namespace Go.Proofs.Ytdfjjhpnhaggjaa
open Go.RowKit Go.Mem

theorem check_calls (v : Value) (l : List Ch) (guests : Int) (w : World) (h : IsChans w v l) (hok : ∀ c ∈ l, c.Ok) (_hl : l.length ≤ maxLen) :
    Calls Try.prog 24 #[v, .int .i64 guests] w fun r w' => r = .returned (.int .i64 (check l guests)) ∧ Upd [] w w' := by
  unfold check
  by_cases hg : guests < 1 ∨ 16 < guests
  · rw [if_pos hg]
    exact (check_arg v guests w hg).mono fun _ _ ⟨h1, h2⟩ => ⟨h1, h2 ▸ Upd.refl _ _⟩
  rw [if_neg hg]
  obtain ⟨⟨a, cap, rfl, h⟩, he⟩ := h
  by_cases h16 : 16 < l.length
  · rw [if_pos h16]
    exact (check_long a l.length cap guests w (by omega) (by omega) h16).mono fun _ _ ⟨h1, h2⟩ => ⟨h1, h2 ▸ Upd.refl _ _⟩
  rw [if_neg h16]
  by_cases hne : l = []
  · subst hne
    exact check_nil a cap guests w (by omega) (by omega)
  · obtain ⟨b, off, rfl, h2, h3⟩ := h hne
    exact check_main b off cap l.length l guests w (by omega) (by omega) rfl (by omega) h2 h3 he hok

theorem made_calls (kind guest port most depth val : Int) (a : Option Addr) (n cap : Nat) (w : World) (h : shapeI kind n most depth val = true) :
    Calls Try.prog 37 #[.agg #[.int .u8 kind, .int .u8 guest, .int .u8 port, .slice a n cap, .int .u8 most, .int .u8 depth, .int .u32 val]] w fun e w' =>
      e = .returned (.iface (mk kind n most depth val).ty (.agg #[.pointer (some ⟨w.heap.size + 1, 0, none⟩)])) ∧ (mk kind n most depth val).Is w' (w.heap.size + 1) ∧ Upd [] w w' := by
  unfold shapeI at h
  simp only [Bool.and_eq_true, decide_eq_true_eq] at h
  obtain ⟨⟨m1, m2⟩, h⟩ := h
  by_cases h0 : kind = 0
  · subst h0
    simp at h
    exact made_smp guest port most depth val a n cap w m1 m2 (by omega) (by omega)
  · rw [if_neg h0] at h
    by_cases h1 : kind = 1
    · subst h1
      simp at h
      exact made_que guest port most depth val a n cap w (by omega) (by omega) m1 m2
    · rw [if_neg h1] at h; cases h

/-- A channel that was made: its description, its block, its state. -/
structure Item where
  c : Ch
  b : Nat
  y : Way
def Item.v (p : Item) : Value := .iface p.y.ty (.agg #[.pointer (some ⟨p.b, 0, none⟩)])
def outs (P : List Item) : List ((Int × Int) × Value) := P.map fun p => ((p.c.guest, p.c.port), .agg #[p.v])
def insTo (v : Value) (E : List (Int × Int)) : List ((Int × Int) × Value) := E.zipIdx.map fun q => (q.1, .agg #[v, .int .i64 (q.2 : Nat)])
def ins (P : List Item) : List ((Int × Int) × Value) := P.flatMap fun p => insTo p.v p.c.to
def mstep (kb : Bool) (g : Nat) (m : List Bool) (x : Int × Int) : List Bool :=
  (m.set (g * 16 + x.1.toNat) true).set (x.1.toNat * 16 + g) (at2 (m.set (g * 16 + x.1.toNat) true) x.1.toNat g || kb)
def mch (m : List Bool) (c : Ch) : List Bool := c.to.foldl (mstep (c.kind == 1) c.guest.toNat) m
def m0 : List Bool := List.replicate 256 false

def Mpx (w : World) (b : Nat) (l : List ((Int × Int) × Value)) : Prop := (∃ es ck, Mp w b es ck l) ∧ Uniq l
theorem Mpx.upd {S : List Nat} {w w' : World} {b : Nat} {l} (h : Mpx w b l) (hu : Upd S w w') (hb : b ∉ S) : Mpx w' b l := by
  obtain ⟨⟨es, ck, h1⟩, h2⟩ := h
  exact ⟨⟨es, ck, h1.upd hu hb⟩, h2⟩
theorem Mpx.lt {w : World} {b : Nat} {l} (h : Mpx w b l) : b < w.heap.size := by obtain ⟨⟨es, ck, h1⟩, h2⟩ := h; exact h1.lt
theorem Mpx.ne {w : World} {b c : Nat} {l} {cs : List Value} {T : TypeId} (h : Mpx w b l) (hc : Blk w c cs T) : c ≠ b := by
  obtain ⟨⟨es, ck, h1⟩, h2⟩ := h
  rintro rfl
  unfold Blk at hc
  rw [h1.blk] at hc
  cases hc
theorem blk_ne {w : World} {b c : Nat} {ds cs : List Value} {T U : TypeId} (h : Blk w b ds T) (hc : Blk w c cs U) (ht : T ≠ U) : b ≠ c := by
  rintro rfl
  unfold Blk at h hc
  rw [h] at hc
  simp at hc
  exact ht hc.2
theorem Mpx.put {w : World} {b : Nat} {l} (h : Mpx w b l) {k : Int × Int} (hk : KOk k) (hn : look l k = none) {T e : TypeId} (ht : Try.prog.underlying T = some (.map 63 e)) (v : Value) :
    ∃ w', (Instr.mapUpdate T (.map (some b)) (ky k) v).run Try.prog w = .ok () w' ∧ Mpx w' b (l ++ [(k, v)]) ∧ Upd [b] w w' := by
  obtain ⟨⟨es, ck, h1⟩, h2⟩ := h
  exact ⟨_, h1.run_update h2 hk hn ht v, ⟨⟨_, _, h1.more hk v⟩, h2.more hn v⟩, putMore_upd (Upd.refl _ _) (.inl (by simp)) h1.blk _ _⟩

/-- What the rounds of New keep. -/
structure Nw (w wr : World) (T bo bi : Nat) (guests : Int) (ways : Value) (O I : List ((Int × Int) × Value)) (m : List Bool) (P : List Item) : Prop where
  tb : IsTb wr T ⟨guests, 0, ways, bo, bi, m⟩
  own : wr.ownsRow 0 97 1 ways P.length (P.map Item.v)
  mo : Mpx wr bo O
  mi : Mpx wr bi I
  is : ∀ p ∈ P, p.y.Is wr p.b ∧ w.heap.size ≤ p.b
  nd : (P.map Item.b).Nodup
  oi : bo ≠ bi
  ml : m.length = 256
  up : Upd [] w wr
  nT : w.heap.size ≤ T
  no : w.heap.size ≤ bo
  ni : w.heap.size ≤ bi
  nw : ∀ k ∈ bl ways, w.heap.size ≤ k

theorem own_ne {w : World} {e sz n : Nat} {v : Value} {xs : List Value} (h : w.ownsRow 0 e sz v n xs) {b : Nat} {cs : List Value} {T : TypeId} (hb : Blk w b cs T) (ht : T ≠ e) : b ∉ bl v := by
  obtain ⟨h1, h2⟩ := h
  rcases h2 with ⟨rfl, _⟩ | ⟨g, cap, cur, rfl, hb', hg, r⟩
  · simp [bl, Value.ownBlock]
  · intro hk
    obtain rfl : b = g := by simpa [bl, Value.ownBlock] using hk
    unfold Blk at hb
    rw [hb] at hg
    simp at hg
    exact ht hg.2
theorem own_ne_map {w : World} {e sz n : Nat} {v : Value} {xs : List Value} (h : w.ownsRow 0 e sz v n xs) {b : Nat} {l} (hb : Mpx w b l) : b ∉ bl v := by
  obtain ⟨h1, h2⟩ := h
  rcases h2 with ⟨rfl, _⟩ | ⟨g, cap, cur, rfl, hb', hg, r⟩
  · simp [bl, Value.ownBlock]
  · intro hk
    obtain rfl : b = g := by simpa [bl, Value.ownBlock] using hk
    obtain ⟨⟨es, ck, h1⟩, h2⟩ := hb
    rw [h1.blk] at hg
    cases hg
theorem Way.Is.blk {w : World} {b : Nat} {y : Way} (h : y.Is w b) : ∃ cs T, Blk w b cs T ∧ (T = 78 ∨ T = 165) := by
  cases y
  · exact ⟨_, 78, h, .inl rfl⟩
  · exact ⟨_, 165, h, .inr rfl⟩
theorem Way.Is.ne {w : World} {b c : Nat} {y : Way} {cs : List Value} {T : TypeId} (h : y.Is w b) (hc : Blk w c cs T) (h1 : T ≠ 78) (h2 : T ≠ 165) : b ≠ c := by
  obtain ⟨ds, U, hb, rfl | rfl⟩ := h.blk
  · exact blk_ne hb hc h1.symm
  · exact blk_ne hb hc h2.symm
theorem Way.Is.ne_map {w : World} {b c : Nat} {y : Way} {l} (h : y.Is w b) (hc : Mpx w c l) : b ≠ c := by
  obtain ⟨ds, U, hb, -⟩ := h.blk
  exact hc.ne hb
theorem Way.Is.ne_own {w : World} {b : Nat} {y : Way} {sz n : Nat} {v : Value} {xs : List Value} (h : y.Is w b) (ho : w.ownsRow 0 97 sz v n xs) : b ∉ bl v := by
  obtain ⟨ds, U, hb, rfl | rfl⟩ := h.blk
  · exact own_ne ho hb (by decide)
  · exact own_ne ho hb (by decide)

section
variable {w wr w' : World} {T bo bi : Nat} {guests : Int} {ways : Value} {O I : List ((Int × Int) × Value)} {m : List Bool} {P : List Item}
theorem Nw.upd (h : Nw w wr T bo bi guests ways O I m P) (hu : Upd [] wr w') : Nw w w' T bo bi guests ways O I m P :=
  ⟨h.tb.upd hu (by simp), own_upd h.own hu (by simp), h.mo.upd hu (by simp), h.mi.upd hu (by simp), fun p hp => ⟨(h.is p hp).1.upd hu (by simp), (h.is p hp).2⟩, h.nd, h.oi, h.ml, h.up.trans hu (by simp), h.nT, h.no, h.ni, h.nw⟩
theorem Nw.putO (h : Nw w wr T bo bi guests ways O I m P) {k : Int × Int} (hk : KOk k) (hn : look O k = none) (v : Value) :
    ∃ w', (Instr.mapUpdate 90 (.map (some bo)) (.agg #[.int .u8 k.1, .int .u8 k.2]) v).run Try.prog wr = .ok () w' ∧ Nw w w' T bo bi guests ways (O ++ [(k, v)]) I m P ∧ Upd [bo] wr w' := by
  obtain ⟨w', hr, hm, hu⟩ := h.mo.put hk hn Try.underlying90 v
  refine ⟨w', hr, ⟨h.tb.upd hu (by simpa using h.mo.ne h.tb), own_upd h.own hu (by intro k hk hk'; simp at hk'; subst hk'; exact own_ne_map h.own h.mo hk), hm, h.mi.upd hu (by simpa using h.oi.symm), fun p hp => ⟨(h.is p hp).1.upd hu (by simpa using (h.is p hp).1.ne_map h.mo), (h.is p hp).2⟩, h.nd, h.oi, h.ml, h.up.trans hu (by intro x hx; simp at hx; subst hx; exact .inr h.no), h.nT, h.no, h.ni, h.nw⟩, hu⟩
theorem Nw.putI (h : Nw w wr T bo bi guests ways O I m P) {k : Int × Int} (hk : KOk k) (hn : look I k = none) (v : Value) :
    ∃ w', (Instr.mapUpdate 91 (.map (some bi)) (.agg #[.int .u8 k.1, .int .u8 k.2]) v).run Try.prog wr = .ok () w' ∧ Nw w w' T bo bi guests ways O (I ++ [(k, v)]) m P ∧ Upd [bi] wr w' := by
  obtain ⟨w', hr, hm, hu⟩ := h.mi.put hk hn Try.underlying91 v
  refine ⟨w', hr, ⟨h.tb.upd hu (by simpa using h.mi.ne h.tb), own_upd h.own hu (by intro k hk hk'; simp at hk'; subst hk'; exact own_ne_map h.own h.mi hk), h.mo.upd hu (by simpa using h.oi), hm, fun p hp => ⟨(h.is p hp).1.upd hu (by simpa using (h.is p hp).1.ne_map h.mi), (h.is p hp).2⟩, h.nd, h.oi, h.ml, h.up.trans hu (by intro x hx; simp at hx; subst hx; exact .inr h.ni), h.nT, h.no, h.ni, h.nw⟩, hu⟩
theorem Nw.setM (h : Nw w wr T bo bi guests ways O I m P) (i j : Nat) (v : Bool) :
    Nw w (wr.setCell ⟨T, 5 + i * 16 + j, none⟩ (.bool v)) T bo bi guests ways O I (m.set (i * 16 + j) v) P := by
  have hu : Upd [T] wr (wr.setCell ⟨T, 5 + i * 16 + j, none⟩ (.bool v)) := (Upd.refl _ _).setCell (.inl (by simp)) _
  exact ⟨tb_set (t := ⟨guests, 0, ways, bo, bi, m⟩) h.tb i j v, own_upd h.own hu (by intro k hk hk'; simp at hk'; subst hk'; exact own_ne h.own h.tb (by decide) hk), h.mo.upd hu (by simpa using (h.mo.ne h.tb).symm), h.mi.upd hu (by simpa using (h.mi.ne h.tb).symm),
    fun p hp => ⟨(h.is p hp).1.upd hu (by simpa using (h.is p hp).1.ne h.tb (by decide) (by decide)), (h.is p hp).2⟩, h.nd, h.oi, by simpa using h.ml, h.up.trans hu (by intro x hx; simp at hx; subst hx; exact .inr h.nT), h.nT, h.no, h.ni, h.nw⟩
theorem Nw.addW (h : Nw w wr T bo bi guests ways O I m P) {p : Item} (hy : p.y.Is wr p.b) (hB : w.heap.size ≤ p.b) (hnew : p.b ∉ P.map Item.b) {w2 : World} {v : Value} (hown : w2.ownsRow 0 97 1 v (P.length + 1) (P.map Item.v ++ [p.v]))
    (hu : Upd (bl ways) wr w2) (hbl : ∀ k ∈ bl v, w.heap.size ≤ k) : Nw w (w2.setCell ⟨T, 2, none⟩ v) T bo bi guests v O I m (P ++ [p]) := by
  have tb2 : IsTb w2 T ⟨guests, 0, ways, bo, bi, m⟩ := h.tb.upd hu (own_ne h.own h.tb (by decide))
  have hu2 : Upd [T] w2 (w2.setCell ⟨T, 2, none⟩ v) := (Upd.refl _ _).setCell (.inl (by simp)) _
  have mo2 := h.mo.upd hu (own_ne_map h.own h.mo)
  have mi2 := h.mi.upd hu (own_ne_map h.own h.mi)
  have is2 : ∀ q ∈ P ++ [p], q.y.Is w2 q.b ∧ w.heap.size ≤ q.b := by
    intro q hq
    simp only [List.mem_append, List.mem_singleton] at hq
    rcases hq with hq | rfl
    · exact ⟨(h.is q hq).1.upd hu ((h.is q hq).1.ne_own h.own), (h.is q hq).2⟩
    · exact ⟨hy.upd hu (hy.ne_own h.own), hB⟩
  exact ⟨tb2.setCell 2 v, own_upd (by simpa using hown) hu2 (by intro k hk hk'; simp at hk'; subst hk'; exact own_ne hown tb2 (by decide) hk), mo2.upd hu2 (by simpa using (mo2.ne tb2).symm), mi2.upd hu2 (by simpa using (mi2.ne tb2).symm),
    fun q hq => ⟨(is2 q hq).1.upd hu2 (by simpa using (is2 q hq).1.ne tb2 (by decide) (by decide)), (is2 q hq).2⟩,
    by rw [List.map_append, List.nodup_append]; exact ⟨h.nd, by simp, by intro a ha b hb; simp at hb; subst hb; intro e; subst e; exact hnew ha⟩,
    h.oi, h.ml, (h.up.trans hu (fun x hx => .inr (h.nw x hx))).trans hu2 (by intro x hx; simp at hx; subst hx; exact .inr h.nT), h.nT, h.no, h.ni, hbl⟩
end
theorem z95 : Try.zeroCells95 = (.int .i64 0 :: .int .u64 0 :: .slice none 0 0 :: .map none :: .map none :: List.replicate 256 (.bool false)).toArray := by kernel_rfl
theorem tb0 (guests : Int) (bo bi : Nat) : (((Try.zeroCells95.setIfInBounds 0 (.int .i64 guests)).setIfInBounds 3 (.map (some bo))).setIfInBounds 4 (.map (some bi))) = (Tb.cells ⟨guests, 0, .slice none 0 0, bo, bi, m0⟩).toArray := by
  rw [z95]
  simp only [List.setIfInBounds_toArray, List.set_cons_zero, List.set_cons_succ, Tb.cells, m0, List.map_replicate]
theorem Nw.start {w w1 : World} (hu : Upd [] w w1) (guests : Int) :
    Nw w (((w1.alloc (.map #[] 0)).alloc (.map #[] 0)).alloc (.cells (((Try.zeroCells95.setIfInBounds 0 (.int .i64 guests)).setIfInBounds 3 (.map (some w1.heap.size))).setIfInBounds 4 (.map (some (w1.heap.size + 1)))) 95))
      (w1.heap.size + 1 + 1) w1.heap.size (w1.heap.size + 1) guests (.slice none 0 0) [] [] m0 [] := by
  rw [tb0]
  have hs := hu.size
  have u1 : Upd [] w1 (((w1.alloc (.map #[] 0)).alloc (.map #[] 0)).alloc (.cells (Tb.cells ⟨guests, 0, .slice none 0 0, w1.heap.size, w1.heap.size + 1, m0⟩).toArray 95)) := (((Upd.refl _ _).alloc _).alloc _).alloc _
  have n1 := Mp.new w1
  have n2 := Mp.new (w1.alloc (.map #[] 0))
  have n3 := Blk.new ((w1.alloc (.map #[] 0)).alloc (.map #[] 0)) (Tb.cells ⟨guests, 0, .slice none 0 0, w1.heap.size, w1.heap.size + 1, m0⟩) 95
  simp only [World.size_alloc] at n2 n3
  exact ⟨n3, World.ownsRow_nil _ _ _ _, ⟨⟨_, _, n1.upd (((Upd.refl [] _).alloc _).alloc _) (by simp)⟩, List.Pairwise.nil⟩, ⟨⟨_, _, n2.upd ((Upd.refl [] _).alloc _) (by simp)⟩, List.Pairwise.nil⟩, by simp, by simp, by omega, List.length_replicate, hu.trans u1 (by simp), by omega, by omega, by omega, by simp [bl, Value.ownBlock]⟩

theorem meet_some (guests : Int) : ∀ (r met : List (Int × Int)), met.Nodup → ∀ {met'}, meet met r = some met' → met' = met ++ r ∧ met'.Nodup
  | [], met, hm, met', h => by simp only [meet, Option.some.injEq] at h; subst h; simpa using hm
  | x :: r, met, hm, met', h => by
    unfold meet at h
    split at h
    · cases h
    · rename_i hx
      have hn : (met ++ [x]).Nodup := by
        rw [List.nodup_append]
        exact ⟨hm, by simp, by intro a ha b hb; simp at hb; subst hb; intro e; subst e; exact hx ha⟩
      have := meet_some guests r (met ++ [x]) hn h
      simpa using this
theorem chk_zero (guests : Int) : ∀ (l : List Ch) (met : List (Int × Int)), met.Nodup → chk guests l met = 0 → (∀ c ∈ l, c.shapeB = true ∧ ∀ x ∈ c.all, outB guests x = false) ∧ (met ++ l.flatMap Ch.all).Nodup
  | [], met, hm, _ => by simpa using hm
  | c :: l, met, hm, h => by
    unfold chk at h
    split at h
    · rename_i hs
      split at h
      · cases h
      · rename_i ha
        split at h
        · cases h
        · rename_i met' hmt
          obtain ⟨h1, h2⟩ := meet_some guests _ met hm hmt
          obtain ⟨h3, h4⟩ := chk_zero guests l met' h2 h
          refine ⟨?_, by rw [h1] at h4; simpa using h4⟩
          intro d hd
          rcases List.mem_cons.1 hd with rfl | hd
          · refine ⟨hs, fun x hx => ?_⟩
            cases hb : outB guests x
            · rfl
            · exact absurd (List.any_eq_true.2 ⟨x, hx, hb⟩) ha
          · exact h3 d hd
    · cases h

theorem fresh_out {P : List Item} {c : Ch} (h : (P.flatMap (fun p => p.c.all) ++ c.all).Nodup) : look (outs P) (c.guest, c.port) = none := by
  rw [look_none]
  intro q hq e
  simp only [outs, List.mem_map] at hq
  obtain ⟨p, hp, rfl⟩ := hq
  rw [List.nodup_append] at h
  exact h.2.2 (p.c.guest, p.c.port) (List.mem_flatMap.2 ⟨p, hp, by simp [Ch.all]⟩) (c.guest, c.port) (by simp [Ch.all]) e
theorem insTo_keys {v : Value} {E : List (Int × Int)} {q : (Int × Int) × Value} (h : q ∈ insTo v E) : q.1 ∈ E := by
  simp only [insTo, List.mem_map] at h
  obtain ⟨⟨x, i⟩, hx, rfl⟩ := h
  exact (List.mem_zipIdx hx).2.2 ▸ List.getElem_mem _
theorem fresh_in {P : List Item} {c : Ch} (h : (P.flatMap (fun p => p.c.all) ++ c.all).Nodup) {j : Nat} {x : Int × Int} (hx : c.to[j]? = some x) (v : Value) : look (ins P ++ insTo v (c.to.take j)) x = none := by
  rw [look_none]
  intro q hq e
  rw [List.nodup_append] at h
  have hxc : x ∈ c.to := List.mem_of_getElem? hx
  rcases List.mem_append.1 hq with hq | hq
  · simp only [ins, List.mem_flatMap] at hq
    obtain ⟨p, hp, hq⟩ := hq
    exact h.2.2 q.1 (List.mem_flatMap.2 ⟨p, hp, List.mem_cons_of_mem _ (insTo_keys hq)⟩) x (List.mem_cons_of_mem _ hxc) e
  · have hk := insTo_keys hq
    rw [e] at hk
    have hnd : c.to.Nodup := (List.nodup_cons.1 h.2.1).2
    obtain ⟨hj, hxx⟩ := List.getElem?_eq_some_iff.1 hx
    rw [← List.take_append_drop j c.to, List.nodup_append] at hnd
    exact hnd.2.2 x hk x (by rw [List.drop_eq_getElem_cons hj, hxx]; simp) rfl
theorem insTo_snoc (v : Value) {E : List (Int × Int)} {j : Nat} {x : Int × Int} (hx : E[j]? = some x) : insTo v (E.take (j + 1)) = insTo v (E.take j) ++ [(x, .agg #[v, .int .i64 (j : Nat)])] := by
  have hj := (List.getElem?_eq_some_iff.1 hx).1
  unfold insTo
  rw [List.take_add_one, hx, Option.toList_some, List.zipIdx_append, List.map_append]
  simp [List.length_take, Nat.min_eq_left (Nat.le_of_lt hj)]
theorem fold_take_next {α β : Type} (f : α → β → α) (a : α) {E : List β} {j : Nat} {x : β} (hx : E[j]? = some x) : (E.take (j + 1)).foldl f a = f ((E.take j).foldl f a) x := by
  rw [List.take_add_one, hx, Option.toList_some, List.foldl_append]; rfl

/-- A table in memory: what it holds, and where. -/
structure Tab (w : World) (fp : List Nat) (T : Nat) (guests now : Int) (m : List Bool) (P : List Item) : Prop where
  ex : ∃ ways bo bi, IsTb w T ⟨guests, now, ways, bo, bi, m⟩ ∧ Mpx w bo (outs P) ∧ Mpx w bi (ins P) ∧ fp = T :: bo :: bi :: P.map Item.b
  is : ∀ p ∈ P, p.y.Is w p.b
  nd : (P.map Item.b).Nodup
def mkc (c : Ch) : Way := mk c.kind c.to.length c.most c.depth c.val
def NewPost (guests : Int) (l : List Ch) (w : World) (e : Ending) (w' : World) : Prop :=
  ∃ fp T P, e = .returned (.tuple #[.pointer (some ⟨T, 0, none⟩), .int .i64 0]) ∧ Tab w' fp T guests 0 (clo guests.toNat (l.foldl mch m0)) P ∧ P.map Item.c = l ∧ (∀ p ∈ P, p.y = mkc p.c) ∧ Upd [] w w' ∧ ∀ k ∈ fp, w.heap.size ≤ k
theorem i97 : (Try.prog.info? 97).map (fun i => (i.zero, i.size, i.bytes)) = some (some .nilIface, 1, 16) := by kernel_rfl
end Go.Proofs.Ytdfjjhpnhaggjaa
