/- does: one act of a table, walked. -/
import Derived.Test.YtdfjjhpnhaggjaaK30
import Derived.Test.YtdfjjhpnhaggjaaK17
namespace Go.Proofs.Ytdfjjhpnhaggjaa
open Go.RowKit Go.Mem

/-- What a call told. -/
structure Told where
  s : ByteArray
  age : Int
  st : Int
  n : Int
def Told.cells (t : Told) : List Value := [.string t.s, .int .u64 t.age, .int .u8 t.st, .int .i64 t.n]
def tell (a : Act) (now : Int) (P : List Item) : Told :=
  if a.what % 8 = 3 ∨ a.what % 8 = 4 ∨ a.what % 8 = 5 then ⟨(stRecv (a.guest, a.port) now P).s, (stRecv (a.guest, a.port) now P).age, (stRecv (a.guest, a.port) now P).st, 0⟩
  else if a.what % 8 = 6 then ⟨⟨#[]⟩, 0, 0, stWait (a.guest, a.port) P⟩
  else if a.what % 8 = 7 then ⟨⟨#[]⟩, 0, 0, 0⟩ else ⟨⟨#[]⟩, 0, stSend (a.guest, a.port) a.s P, 0⟩
def nowA (a : Act) (now : Int) : Int := if a.what % 8 = 7 then a.step else now
def itemsA (a : Act) (now : Int) (P : List Item) : List Item :=
  if a.what % 8 = 3 ∨ a.what % 8 = 4 ∨ a.what % 8 = 5 then precv (a.guest, a.port) P
  else if a.what % 8 = 6 then P else if a.what % 8 = 7 then P else psend (a.guest, a.port) now a.s P

theorem Tab.lt {w : World} {fp : List Nat} {T : Nat} {g now : Int} {m : List Bool} {P : List Item} (h : Tab w fp T g now m P) : ∀ k ∈ fp, k < w.heap.size := by
  obtain ⟨ways, bo, bi, h1, h2, h3, rfl⟩ := h.ex
  intro k hk
  simp only [List.mem_cons, List.mem_map] at hk
  rcases hk with rfl | rfl | rfl | ⟨p, hp, rfl⟩
  · exact h1.lt
  · exact h2.lt
  · exact h3.lt
  · exact (h.is p hp).lt

/-- All ends of all channels are guests'. -/
def InG (g : Int) (P : List Item) : Prop := ∀ p ∈ P, ∀ x ∈ p.c.all, x.1 < g
theorem ing_src {g : Int} {P : List Item} (h : InG g P) {k : Int × Int} (hk : g ≤ k.1) : srcOf P k = none := by
  unfold srcOf
  rw [List.find?_eq_none]
  intro p hp he
  have := h p hp (p.c.guest, p.c.port) (by simp [Ch.all])
  simp only [beq_iff_eq] at he
  rw [← he] at hk
  simp only at hk this
  omega
theorem inAt_none {k : Int × Int} : ∀ {E : List (Int × Int)} {n : Nat}, k ∉ E → inAt k E n = none
  | [], _, _ => rfl
  | x :: E, n, h => by
    unfold inAt
    rw [if_neg (by simp only [beq_iff_eq]; intro e; subst e; simp at h)]
    exact inAt_none (fun hm => h (by simp [hm]))
theorem ing_dst {g : Int} {k : Int × Int} (hk : g ≤ k.1) : ∀ {P : List Item}, InG g P → dstOf P k = none
  | [], _ => rfl
  | p :: P, h => by
    have hn : k ∉ p.c.to := fun hm => by
      have := h p (by simp) k (by simp [Ch.all, hm])
      omega
    unfold dstOf
    rw [inAt_none hn]
    exact ing_dst hk (fun q hq => h q (by simp [hq]))

def LinkV (w : World) (v : Value) (T : Nat) (gu g : Int) : Prop := (gu < g ∧ ∃ L, v = .pointer (some ⟨L, 0, none⟩) ∧ Blk w L [.pointer (some ⟨T, 0, none⟩), .int .u8 gu] 153) ∨ (g ≤ gu ∧ v = .pointer none)
theorem LinkV.upd {w w' : World} {v : Value} {T : Nat} {gu g : Int} (h : LinkV w v T gu g) (hu : Upd [] w w') : LinkV w' v T gu g := by
  rcases h with ⟨h1, L, h2, h3⟩ | h
  · exact .inl ⟨h1, L, h2, h3.upd hu (by simp)⟩
  · exact .inr h

section
variable {T : Nat} {g now : Int} {m : List Bool} {P : List Item} {fp : List Nat} {gu po : Int} {w : World}
theorem link_any (h : Tab w fp T g now m P) (hg : 0 < g) (h0 : 0 ≤ gu) (h2 : gu ≤ 255) :
    Calls Try.prog 46 #[.pointer (some ⟨T, 0, none⟩), .int .u8 gu] w fun e w' => ∃ v, e = .returned v ∧ LinkV w' v T gu g ∧ Upd [] w w' := by
  by_cases hl : gu < g
  · refine (link_in T g now gu m P fp w h hg h0 h2 hl).mono ?_
    rintro e w' ⟨rfl, h1, h2⟩
    exact ⟨_, rfl, .inl ⟨hl, _, rfl, h1⟩, h2⟩
  · refine (link_out T g now gu m P fp w h hg h0 h2 (by omega)).mono ?_
    rintro e w' ⟨rfl, rfl⟩
    exact ⟨_, rfl, .inr ⟨by omega, rfl⟩, Upd.refl _ _⟩
theorem lkrecv_any {v : Value} (hv : LinkV w v T gu g) (hI : InG g P) (h : Tab w fp T g now m P) (hg : 0 < g) (t0 : 0 ≤ now) (t1 : now < 18446744073709551616) (hk : KOk (gu, po)) (hP : Good P) :
    Calls Try.prog 47 #[v, .int .u8 po] w fun e w' => e = .returned (.tuple #[.string (stRecv (gu, po) now P).s, .int .u64 (stRecv (gu, po) now P).age, .int .u8 (stRecv (gu, po) now P).st]) ∧ Tab w' fp T g now m (precv (gu, po) P) ∧ Upd fp w w' := by
  rcases hv with ⟨h1, L, rfl, h3⟩ | ⟨h1, rfl⟩
  · exact lkrecv_in L T g now m P fp gu po w h3 h hg t0 t1 hk hP
  · refine (lkrecv_nil po w).mono ?_
    rintro e w' ⟨rfl, rfl⟩
    have hd := ing_dst (k := (gu, po)) h1 hI
    refine ⟨by rw [stRecv, hd], ?_, Upd.refl _ _⟩
    rw [precv_none _ _ hd]; exact h
theorem lkwait_any {v : Value} (hv : LinkV w v T gu g) (hI : InG g P) (h : Tab w fp T g now m P) (hg : 0 < g) (hk : KOk (gu, po)) (hP : Good P) :
    Calls Try.prog 49 #[v, .int .u8 po] w fun e w' => e = .returned (.int .i64 (stWait (gu, po) P)) ∧ Upd [] w w' := by
  rcases hv with ⟨h1, L, rfl, h3⟩ | ⟨h1, rfl⟩
  · exact lkwait_in L T g now m P fp gu po w h3 h hg hk hP
  · refine (lkwait_nil po w).mono ?_
    rintro e w' ⟨rfl, rfl⟩
    have hd := ing_dst (k := (gu, po)) h1 hI
    exact ⟨by rw [stWait, hd], Upd.refl _ _⟩
theorem lksend_any {v : Value} {s : ByteArray} (hv : LinkV w v T gu g) (hI : InG g P) (h : Tab w fp T g now m P) (hg : 0 < g) (hk : KOk (gu, po)) (hP : Good P) :
    Calls Try.prog 50 #[v, .int .u8 po, .string s] w fun e w' => e = .returned (.int .u8 (stSend (gu, po) s P)) ∧ Tab w' fp T g now m (psend (gu, po) now s P) ∧ Upd fp w w' := by
  rcases hv with ⟨h1, L, rfl, h3⟩ | ⟨h1, rfl⟩
  · exact lksend_in L T g now m P fp gu po s w h3 h hg hk hP
  · refine (lksend_nil po s w).mono ?_
    rintro e w' ⟨rfl, rfl⟩
    have hd := ing_src (k := (gu, po)) hI h1
    refine ⟨by rw [stSend, hd], ?_, Upd.refl _ _⟩
    rw [psend_none _ _ _ _ hd]; exact h
end

/-- The blocks that does makes. -/
def zeros : List Value := [.string ⟨#[]⟩, .int .u64 0, .int .u8 0, .int .i64 0]
theorem does_boxes {w w1 : World} {cs : List Value} (hu : Upd [] ((w.alloc (.cells cs.toArray 57)).alloc (.cells zeros.toArray 59)) w1) :
    Blk w1 w.heap.size cs 57 ∧ Blk w1 (w.heap.size + 1) zeros 59 ∧ w.heap.size + 1 < w1.heap.size ∧ Upd [] w w1 := by
  have e0 := (Blk.new w cs 57).alloc (.cells zeros.toArray 59)
  have e1 := Blk.new (w.alloc (.cells cs.toArray 57)) zeros 59
  rw [World.size_alloc] at e1
  have h2 := e1.upd hu (by simp)
  exact ⟨e0.upd hu (by simp), h2, h2.lt, (((Upd.refl [] w).alloc _).alloc _).trans hu (by simp)⟩
theorem does_mid {w w1 w2 : World} {fp : List Nat} (hlt : ∀ k ∈ fp, k < w.heap.size) (hR : Blk w1 (w.heap.size + 1) zeros 59) (hs : w.heap.size + 1 < w1.heap.size) (hu : Upd fp (w1.alloc (.cells zeros.toArray 59)) w2) :
    Blk w2 w1.heap.size zeros 59 ∧ Blk w2 (w.heap.size + 1) zeros 59 := by
  have e0 := Blk.new w1 zeros 59
  have e1 := hR.alloc (.cells zeros.toArray 59)
  exact ⟨e0.upd hu (fun hm => by have := hlt _ hm; omega), e1.upd hu (fun hm => by have := hlt _ hm; omega)⟩
theorem does_end {w w1 w2 w3 : World} {fp : List Nat} {T : Nat} {g now : Int} {m : List Bool} {P : List Item} (hlt : ∀ k ∈ fp, k < w.heap.size) (hu1 : Upd [] w w1) (hs : w.heap.size + 1 < w1.heap.size) (hu2 : Upd fp (w1.alloc (.cells zeros.toArray 59)) w2)
    (hT : Tab w2 fp T g now m P) (hu3 : Upd [w1.heap.size, w.heap.size + 1] w2 w3) : Tab w3 fp T g now m P ∧ Upd fp w w3 := by
  refine ⟨hT.upd hu3 ?_, (((hu1.mono (T := fp) (by simp)).alloc _).trans hu2 (fun x hx => .inl hx)).trans hu3 ?_⟩
  · intro k hk hm
    have := hlt k hk
    simp at hm
    omega
  · intro x hx
    simp at hx
    right; omega

theorem fin3 {w2 : World} {X R : Nat} (h : Blk w2 R zeros 59) (hne : X ≠ R) (a0 a1 a2 b0 b1 b2 b3 : Value) :
    Blk (((((((w2.setCell ⟨X, 0, none⟩ a0).setCell ⟨X, 1, none⟩ a1).setCell ⟨X, 2, none⟩ a2).setCell ⟨R, 0, none⟩ b0).setCell ⟨R, 1, none⟩ b1).setCell ⟨R, 2, none⟩ b2).setCell ⟨R, 3, none⟩ b3) R [b0, b1, b2, b3] 59 := by
  have e := ((((((h.setCell_ne hne 0 a0).setCell_ne hne 1 a1).setCell_ne hne 2 a2).setCell 0 b0).setCell 1 b1).setCell 2 b2).setCell 3 b3
  exact e
theorem fin1 {w2 : World} {X R : Nat} (h : Blk w2 R zeros 59) (hne : X ≠ R) (i : Nat) (a b0 b1 b2 b3 : Value) :
    Blk (((((w2.setCell ⟨X, i, none⟩ a).setCell ⟨R, 0, none⟩ b0).setCell ⟨R, 1, none⟩ b1).setCell ⟨R, 2, none⟩ b2).setCell ⟨R, 3, none⟩ b3) R [b0, b1, b2, b3] 59 := by
  have e := ((((h.setCell_ne hne i a).setCell 0 b0).setCell 1 b1).setCell 2 b2).setCell 3 b3
  exact e
theorem fin0 {w2 : World} {R : Nat} (h : Blk w2 R zeros 59) (b0 b1 b2 b3 : Value) :
    Blk ((((w2.setCell ⟨R, 0, none⟩ b0).setCell ⟨R, 1, none⟩ b1).setCell ⟨R, 2, none⟩ b2).setCell ⟨R, 3, none⟩ b3) R [b0, b1, b2, b3] 59 := by
  have e := (((h.setCell 0 b0).setCell 1 b1).setCell 2 b2).setCell 3 b3
  exact e
theorem upd3 {w2 : World} {X R : Nat} (a0 a1 a2 b0 b1 b2 b3 : Value) : Upd [X, R] w2 (((((((w2.setCell ⟨X, 0, none⟩ a0).setCell ⟨X, 1, none⟩ a1).setCell ⟨X, 2, none⟩ a2).setCell ⟨R, 0, none⟩ b0).setCell ⟨R, 1, none⟩ b1).setCell ⟨R, 2, none⟩ b2).setCell ⟨R, 3, none⟩ b3) :=
  (((((((Upd.refl [X, R] w2).setCell (.inl (by simp)) _).setCell (.inl (by simp)) _).setCell (.inl (by simp)) _).setCell (.inl (by simp)) _).setCell (.inl (by simp)) _).setCell (.inl (by simp)) _).setCell (.inl (by simp)) _
theorem upd1 {w2 : World} {X R : Nat} (i : Nat) (a b0 b1 b2 b3 : Value) : Upd [X, R] w2 (((((w2.setCell ⟨X, i, none⟩ a).setCell ⟨R, 0, none⟩ b0).setCell ⟨R, 1, none⟩ b1).setCell ⟨R, 2, none⟩ b2).setCell ⟨R, 3, none⟩ b3) :=
  (((((Upd.refl [X, R] w2).setCell (.inl (by simp)) _).setCell (.inl (by simp)) _).setCell (.inl (by simp)) _).setCell (.inl (by simp)) _).setCell (.inl (by simp)) _
theorem upd0 {w2 : World} {X R : Nat} (b0 b1 b2 b3 : Value) : Upd [X, R] w2 ((((w2.setCell ⟨R, 0, none⟩ b0).setCell ⟨R, 1, none⟩ b1).setCell ⟨R, 2, none⟩ b2).setCell ⟨R, 3, none⟩ b3) :=
  ((((Upd.refl [X, R] w2).setCell (.inl (by simp)) _).setCell (.inl (by simp)) _).setCell (.inl (by simp)) _).setCell (.inl (by simp)) _

set_option maxRecDepth 100000 in
set_option maxHeartbeats 20000000 in
theorem does_recv (T : Nat) (g now : Int) (m : List Bool) (P : List Item) (fp : List Nat) (a : Act) (w : World) (h : Tab w fp T g now m P) (hg : 0 < g) (t0 : 0 ≤ now) (t1 : now < 18446744073709551616) (ha : a.Ok) (hP : Good P) (hI : InG g P)
    (hw : a.what % 8 = 3 ∨ a.what % 8 = 4 ∨ a.what % 8 = 5) :
    Calls Try.prog 20 #[.pointer (some ⟨T, 0, none⟩), .agg a.cells.toArray] w fun e w' => e = .returned (.agg (tell a now P).cells.toArray) ∧ Tab w' fp T g (nowA a now) m (itemsA a now P) ∧ Upd fp w w' := by
  have hlt := h.lt
  have htell : tell a now P = ⟨(stRecv (a.guest, a.port) now P).s, (stRecv (a.guest, a.port) now P).age, (stRecv (a.guest, a.port) now P).st, 0⟩ := by unfold tell; rw [if_pos hw]
  have hnow : nowA a now = now := by unfold nowA; rw [if_neg (by omega)]
  have hit : itemsA a now P = precv (a.guest, a.port) P := by unfold itemsA; rw [if_pos hw]
  rw [htell, hnow, hit]
  clear htell hnow hit
  obtain ⟨what, gu, po, s, step, by'⟩ := a
  simp only at hw
  simp only [Act.cells]
  have w0 := ha.w0
  simp only at w0
  have HL := Lib.hid (fun (w' : World) (hu : Upd [] w w') => link_any (gu := gu) (h.upd hu (by simp)) hg ha.g0 ha.g1)
  have HC := Lib.hid (fun (w' : World) (hu : Upd [] w w') => trecv_calls T g now m P fp gu po w' (h.upd hu (by simp)) hg t0 t1 ⟨ha.g0, ha.g1, ha.p0, ha.p1⟩ hP)
  have HD := Lib.hid (fun (w' : World) (v : Value) (hu : Upd [] w w') (hv : LinkV w' v T gu g) => lkrecv_any (po := po) hv hI (h.upd hu (by simp)) hg t0 t1 ⟨ha.g0, ha.g1, ha.p0, ha.p1⟩ hP)
  obtain ⟨r, hr⟩ : ∃ r, r = stRecv (gu, po) now P := ⟨_, rfl⟩
  rw [← hr] at HC HD ⊢
  have HLT := Lib.hid hlt
  clear h hg t0 t1 ha hP hr hlt hI
  rcases hw with hw | hw | hw
  all_goals
    have z3 : (what % 8 == 3) = _ := congrArg (· == (3 : Int)) hw
    have z4 : (what % 8 == 4) = _ := congrArg (· == (4 : Int)) hw
    have z5 : (what % 8 == 5) = _ := congrArg (· == (5 : Int)) hw
    simp only [Int.reduceBEq] at z3 z4 z5
    clear hw
    cases by'
    all_goals
      go_enter Try.func20, Try.ntmps20
      go_wp2_with fail
      refine (HL.out _ (((Upd.refl _ _).alloc _).alloc _)).mono ?_
      rintro e w1 ⟨v, rfl, hv, hu⟩
      obtain ⟨hb0, hb1, hlt, hu1⟩ := does_boxes hu
      have x0 := hb0.at 0 rfl
      have x1 := hb0.at 1 rfl
      have x2 := hb0.at 2 rfl
      have x3 := hb0.at 5 rfl
      have hlt2 : w.heap.size < w1.heap.size := by omega
      have HV := Lib.hid hv
      have HB1 := Lib.hid hb1
      have HU1 := Lib.hid hu1
      clear hu hb0 hb1 hu1 hv
      go_wp2_with fail
      first
        | refine (HC.out _ (HU1.out.alloc _)).mono ?_
        | refine (HD.out _ _ (HU1.out.alloc _) (HV.out.upd ((Upd.refl _ _).alloc _))).mono ?_
      rintro e w2 ⟨rfl, h1, h2⟩
      obtain ⟨hy, hv⟩ := does_mid HLT.out HB1.out hlt h2
      clear x0 x1 x2 x3 hlt2
      have y0 := hy.at 0 rfl
      have y1 := hy.at 1 rfl
      have y2 := hy.at 2 rfl
      have y3 := hy.at 3 rfl
      have f0 := hy.free 0
      have f1 := hy.free 1
      have f2 := hy.free 2
      have v0 := hv.at 0 rfl
      have v1 := hv.at 1 rfl
      have v2 := hv.at 2 rfl
      have v3 := hv.at 3 rfl
      have g0 := hv.free 0
      have g1 := hv.free 1
      have g2 := hv.free 2
      have g3 := hv.free 3
      have H1 := Lib.hid h1
      have H2 := Lib.hid h2
      have HVV := Lib.hid hv
      clear hy hv h1 h2
      go_wp2_with fail
      generalize hw3 : World.setCell _ _ _ = w3
      have hr3 : Blk w3 (w.heap.size + 1) [.string r.s, .int .u64 r.age, .int .u8 r.st, .int .i64 0] 59 := by
        rw [← hw3]
        exact fin3 HVV.out (by omega) _ _ _ _ _ _ _
      have hu3 : Upd [w1.heap.size, w.heap.size + 1] w2 w3 := by
        rw [← hw3]
        exact upd3 _ _ _ _ _ _ _
      have HE := Lib.hid (does_end HLT.out HU1.out hlt H2.out H1.out hu3)
      have r0 := hr3.at 0 rfl
      have r1 := hr3.at 1 rfl
      have r2 := hr3.at 2 rfl
      have r3 := hr3.at 3 rfl
      clear hw3 hr3 hu3 y0 y1 y2 y3 f0 f1 f2 v0 v1 v2 v3 g0 g1 g2 g3
      exact bodyPost_ret (v := .agg #[.string r.s, .int .u64 r.age, .int .u8 r.st, .int .i64 0]) (by simp [results, Try.results20, go_sem, r0, r1, r2, r3]) rfl ⟨rfl, HE.out⟩
end Go.Proofs.Ytdfjjhpnhaggjaa
