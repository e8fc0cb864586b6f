/- Package channel: Check. -/
import Derived.Test.YtdfjjhpnhaggjaaK3
namespace Go.Proofs.Ytdfjjhpnhaggjaa
open Go.RowKit Go.Mem

def outB (guests : Int) (x : Int × Int) : Bool := decide (guests ≤ x.1) || decide (16 ≤ x.2)
def meet : List (Int × Int) → List (Int × Int) → Option (List (Int × Int))
  | met, [] => some met
  | met, x :: r => if x ∈ met then none else meet (met ++ [x]) r
def Ch.shapeB (c : Ch) : Bool := shapeI c.kind c.to.length c.most c.depth c.val
def chk (guests : Int) : List Ch → List (Int × Int) → Int
  | [], _ => 0
  | c :: l, met => if c.shapeB = true then (if c.all.any (outB guests) = true then 6 else match meet met c.all with | none => 12 | some met' => chk guests l met') else 3
def check (l : List Ch) (guests : Int) : Int := if guests < 1 ∨ 16 < guests then 2 else if 16 < l.length then 5 else chk guests l []

def ChanAt (w : World) (b off : Nat) (c : Ch) : Prop :=
  w.cell? ⟨b, off, none⟩ = some (.int .u8 c.kind) ∧ w.cell? ⟨b, off + 1, none⟩ = some (.int .u8 c.guest) ∧ w.cell? ⟨b, off + 2, none⟩ = some (.int .u8 c.port) ∧ w.cell? ⟨b, off + 3, none⟩ = some c.tv ∧
  w.cell? ⟨b, off + 4, none⟩ = some (.int .u8 c.most) ∧ w.cell? ⟨b, off + 5, none⟩ = some (.int .u8 c.depth) ∧ w.cell? ⟨b, off + 6, none⟩ = some (.int .u32 c.val)
def IsChans (w : World) (v : Value) (l : List Ch) : Prop :=
  (∃ a cap, v = .slice a l.length cap ∧ (l ≠ [] → ∃ b off, a = some ⟨b, off, none⟩ ∧ (∀ i c, l[i]? = some c → ChanAt w b (off + i * 7) c) ∧ b < w.heap.size)) ∧ ∀ c ∈ l, IsEnds w c.tv c.to

theorem ChanAt.upd {w w' : World} {b off : Nat} {c : Ch} {S : List Nat} (h : ChanAt w b off c) (hu : Upd S w w') (hb : b ∉ S) (h3 : b < w.heap.size) : ChanAt w' b off c := by
  obtain ⟨c0, c1, c2, c3, c4, c5, c6⟩ := h
  exact ⟨cell_upd hu hb h3 _ c0, cell_upd hu hb h3 _ c1, cell_upd hu hb h3 _ c2, cell_upd hu hb h3 _ c3, cell_upd hu hb h3 _ c4, cell_upd hu hb h3 _ c5, cell_upd hu hb h3 _ c6⟩
theorem IsChans.upd {w w' : World} {v : Value} {A : List Ch} {S : List Nat} (h : IsChans w v A) (hu : Upd S w w') (hS : ∀ k ∈ S, w.heap.size ≤ k) : IsChans w' v A := by
  obtain ⟨⟨a, cap, rfl, h⟩, he⟩ := h
  refine ⟨⟨a, cap, rfl, fun hne => ?_⟩, fun c hc => (he c hc).upd hu hS⟩
  obtain ⟨b, off, rfl, h2, h3⟩ := h hne
  have hb : b ∉ S := fun hm => by have := hS b hm; omega
  exact ⟨b, off, rfl, fun i c hc => (h2 i c hc).upd hu hb h3, by have := hu.size; omega⟩

def mv (met : List (Int × Int)) : List ((Int × Int) × Value) := met.map (fun x => (x, .int .i64 1))
theorem mv_look (met : List (Int × Int)) (k : Int × Int) : look (mv met) k = if k ∈ met then some (.int .i64 1) else none := by
  induction met with
  | nil => rfl
  | cons x met ih =>
    unfold look mv at ih ⊢
    rw [List.map_cons, List.find?_cons]
    by_cases hx : x = k
    · subst hx; simp
    · have : (x == k) = false := by simpa using hx
      simp only [this]
      rw [ih]
      simp only [List.mem_cons]
      have : k ≠ x := fun h => hx h.symm
      simp [this]
theorem mv_uniq {met : List (Int × Int)} (h : met.Nodup) : Uniq (mv met) := by
  unfold Uniq mv
  rw [List.pairwise_map]
  exact h

theorem zero3 (w : World) : (zeroValue 3).run Try.prog w = .ok (.int .i64 0) w := by kernel_rfl

/-- What the rounds of Check keep of the map of the ends met. -/
def Met (w : World) (bm : Nat) (met : List (Int × Int)) : Prop := ∃ es clock, Mp w bm es clock (mv met) ∧ met.Nodup
theorem Met.upd {w w' : World} {bm : Nat} {met : List (Int × Int)} {S : List Nat} (h : Met w bm met) (hu : Upd S w w') (hb : bm ∉ S) : Met w' bm met := by
  obtain ⟨es, clock, h1, h2⟩ := h
  exact ⟨es, clock, h1.upd hu hb, h2⟩
theorem Met.lt {w : World} {bm : Nat} {met : List (Int × Int)} (h : Met w bm met) : bm < w.heap.size := by obtain ⟨es, clock, h1, h2⟩ := h; exact h1.lt
theorem Met.look {w : World} {bm : Nat} {met : List (Int × Int)} (h : Met w bm met) {k : Int × Int} (hk : KOk k) :
    (Instr.lookup 126 (.map (some bm)) (.agg #[.int .u8 k.1, .int .u8 k.2]) false).run Try.prog w = .ok (.int .i64 (if k ∈ met then 1 else 0)) w := by
  obtain ⟨es, clock, h1, h2⟩ := h
  have := h1.run_look (mv_uniq h2) hk Try.underlying126 zero3
  rw [mv_look] at this
  by_cases hm : k ∈ met
  · rw [if_pos hm] at this ⊢; exact this
  · rw [if_neg hm] at this ⊢; exact this
/-- A first entry for a key. -/
def Entry (w : World) (bm : Nat) (met : List (Int × Int)) (k : Int × Int) : Prop :=
  ∃ w1 w2 clock, (Instr.mapEntry 126 (.map (some bm)) (.agg #[.int .u8 k.1, .int .u8 k.2])).run Try.prog w = .ok (.tuple #[.int .i64 0, .int .i64 (clock : Nat)]) w1 ∧
    (Instr.lookup 126 (.map (some bm)) (.agg #[.int .u8 k.1, .int .u8 k.2]) false).run Try.prog w1 = .ok (.int .i64 0) w1 ∧
    (Instr.entryStore 126 (.map (some bm)) (.int .i64 (clock : Nat)) (.int .i64 1)).run Try.prog w1 = .ok () w2 ∧ Met w2 bm (met ++ [k]) ∧ Upd [bm] w w2
theorem Met.entry {w : World} {bm : Nat} {met : List (Int × Int)} (h : Met w bm met) {k : Int × Int} (hk : KOk k) (hm : k ∉ met) : Entry w bm met k := by
  obtain ⟨es, clock, h1, h2⟩ := h
  have hn : Ytdfjjhpnhaggjaa.look (mv met) k = none := by rw [mv_look, if_neg hm]
  have hmore := h1.more hk (.int .i64 1)
  have e : mv met ++ [(k, Value.int .i64 1)] = mv (met ++ [k]) := by simp [mv]
  rw [e] at hmore
  have hnd : (met ++ [k]).Nodup := by
    rw [List.nodup_append]
    exact ⟨h2, by simp, by intro a ha b hb; simp at hb; subst hb; intro e; subst e; exact hm ha⟩
  have hz := h1.more hk (.int .i64 0)
  have hl := hz.run_look ((mv_uniq h2).more hn _) hk Try.underlying126 zero3
  rw [look_mem ((mv_uniq h2).more hn _) (v := .int .i64 0) (by simp)] at hl
  exact ⟨_, _, clock, h1.run_entry (mv_uniq h2) hk hn Try.underlying126 zero3, hl, h1.run_store _ (.int .i64 1) 126, ⟨_, _, hmore, hnd⟩, putMore_upd (Upd.refl _ _) (.inl (by simp)) h1.blk _ _⟩

theorem box7 {w w' : World} {B : Nat} {a0 a1 a2 a3 a4 a5 a6 : Value} (h : Blk w B [a0, a1, a2, a3, a4, a5, a6] 66) (hu : Upd [] w w') :
    w'.cell? ⟨B, 0, none⟩ = some a0 ∧ w'.cell? ⟨B, 1, none⟩ = some a1 ∧ w'.cell? ⟨B, 2, none⟩ = some a2 ∧ w'.cell? ⟨B, 3, none⟩ = some a3 ∧ w'.cell? ⟨B, 4, none⟩ = some a4 ∧ w'.cell? ⟨B, 5, none⟩ = some a5 ∧ w'.cell? ⟨B, 6, none⟩ = some a6 := by
  have k := h.upd hu (by simp)
  exact ⟨k.at 0 rfl, k.at 1 rfl, k.at 2 rfl, k.at 3 rfl, k.at 4 rfl, k.at 5 rfl, k.at 6 rfl⟩

structure Ch.Fit (c : Ch) : Prop where
  ok : c.Ok
  n : c.to.length ≤ maxLen

set_option maxHeartbeats 400000 in
theorem check_arg (v : Value) (guests : Int) (w : World) (h : guests < 1 ∨ 16 < guests) :
    Calls Try.prog 24 #[v, .int .i64 guests] w fun r w' => r = .returned (.int .i64 2) ∧ w = w' := by
  rcases h with h | h
  · go_enter Try.func24, Try.ntmps24
    go_wp2
    go_ret
    exact ⟨rfl, rfl⟩
  · go_enter Try.func24, Try.ntmps24
    go_wp2
    go_ret
    exact ⟨rfl, rfl⟩
set_option maxHeartbeats 400000 in
theorem check_long (a : Option Addr) (n cap : Nat) (guests : Int) (w : World) (h1 : 1 ≤ guests) (h2 : guests ≤ 16) (hn : 16 < n) :
    Calls Try.prog 24 #[.slice a n cap, .int .i64 guests] w fun r w' => r = .returned (.int .i64 5) ∧ w = w' := by
  go_enter Try.func24, Try.ntmps24
  go_wp2
  go_ret
  exact ⟨rfl, rfl⟩

theorem chk_drop (guests : Int) (l : List Ch) (k : Nat) (c : Ch) (h : l[k]? = some c) (met : List (Int × Int)) :
    chk guests (l.drop k) met = if c.shapeB = true then (if c.all.any (outB guests) = true then 6 else match meet met c.all with | none => 12 | some met' => chk guests (l.drop (k + 1)) met') else 3 := by
  obtain ⟨hk, rfl⟩ := List.getElem?_eq_some_iff.1 h
  rw [List.drop_eq_getElem_cons hk, chk]

set_option maxHeartbeats 4000000 in
theorem check_nil (a : Option Addr) (cap : Nat) (guests : Int) (w : World) (h1 : 1 ≤ guests) (h2 : guests ≤ 16) :
    Calls Try.prog 24 #[.slice a 0 cap, .int .i64 guests] w fun r w' => r = .returned (.int .i64 0) ∧ Upd [] w w' := by
  have hmm := @run_makeMap Try.prog
  go_enter Try.func24, Try.ntmps24
  go_wp2
  go_rounds 1
  go_ret
  exact ⟨rfl, (Upd.refl _ _).alloc _⟩

theorem shape_n {kind n most depth val : Int} (h : shapeI kind n most depth val = true) : 1 ≤ n ∧ n ≤ 4 := by
  unfold shapeI at h
  simp only [Bool.and_eq_true] at h
  obtain ⟨-, h⟩ := h
  split at h
  · simp at h; omega
  · split at h
    · simp at h; omega
    · cases h

/-- What stands while the ends of one channel are gone through. -/
structure Kp (w wr : World) (bm : Nat) (met : List (Int × Int)) (B : Nat) (cs : List Value) : Prop where
  met : Met wr bm met
  box : Blk wr B cs 66
  up : Upd [] w wr
  nb : bm ≠ B
  wb : w.heap.size ≤ bm
theorem Kp.upd {w wr w' : World} {bm : Nat} {met : List (Int × Int)} {B : Nat} {cs : List Value} (h : Kp w wr bm met B cs) (hu : Upd [] wr w') : Kp w w' bm met B cs :=
  ⟨h.met.upd hu (by simp), h.box.upd hu (by simp), h.up.trans hu (by simp), h.nb, h.wb⟩
theorem Kp.step {w wr w' : World} {bm : Nat} {met met' : List (Int × Int)} {B : Nat} {cs : List Value} (h : Kp w wr bm met B cs) (hu : Upd [bm] wr w') (hm : Met w' bm met') : Kp w w' bm met' B cs :=
  ⟨hm, h.box.upd hu (by simpa using h.nb.symm), h.up.trans hu (by intro x hx; simp at hx; subst hx; exact .inr h.wb), h.nb, h.wb⟩

theorem ends_agg (kind guest port most depth val : Int) (ta : Option Addr) (tn tcap : Nat) (to : List (Int × Int)) (w : World) (h : IsEnds w (.slice ta tn tcap) to) (h1 : 1 ≤ tn) (h2 : tn ≤ 4) :
    Calls Try.prog 54 #[.agg #[.int .u8 kind, .int .u8 guest, .int .u8 port, .slice ta tn tcap, .int .u8 most, .int .u8 depth, .int .u32 val]] w fun e w' =>
      ∃ eb eoff cap, e = .returned (.slice (some ⟨eb, eoff, none⟩) (tn + 1) cap) ∧ EndsAt w' eb eoff ((guest, port) :: to) ∧ eb < w'.heap.size ∧ Upd [] w w' ∧ w.heap.size ≤ eb := by
  have htn : tn = to.length := by obtain ⟨a, cap, h, -⟩ := h; cases h; rfl
  refine (ends_calls ⟨kind, guest, port, .slice ta tn tcap, to, most, depth, val⟩ w h (by intro e; simp only at e; rw [e] at htn; simp at htn; omega) (by show to.length ≤ 1000; omega)).mono ?_
  rintro e w' ⟨v, rfl, ⟨a, cap, rfl, h'⟩, hu, hnew⟩
  obtain ⟨eb, eoff, rfl, h3, h4⟩ := h' (by simp [Ch.all])
  refine ⟨eb, eoff, cap, ?_, h3, h4, hu, hnew eb (by simp [bl, Value.ownBlock])⟩
  simp [Ch.all, htn]

theorem any_take {f : (Int × Int) → Bool} {A : List (Int × Int)} {j : Nat} (h : ∀ x ∈ A.take j, f x = false) {x : Int × Int} (hx : A[j]? = some x) (hf : f x = false) : ∀ y ∈ A.take (j + 1), f y = false := by
  intro y hy
  rw [List.take_add_one, hx] at hy
  simp only [Option.toList_some, List.mem_append, List.mem_singleton] at hy
  rcases hy with hy | rfl
  · exact h y hy
  · exact hf

set_option maxRecDepth 100000 in
set_option maxHeartbeats 4000000 in
theorem check_main (b off cap n : Nat) (l : List Ch) (guests : Int) (w : World) (h1 : 1 ≤ guests) (h2 : guests ≤ 16) (hn : n = l.length) (hn16 : n ≤ 16) (hch : ∀ i c, l[i]? = some c → ChanAt w b (off + i * 7) c) (hb : b < w.heap.size)
    (hto : ∀ c ∈ l, IsEnds w c.tv c.to) (hok : ∀ c ∈ l, c.Ok) :
    Calls Try.prog 24 #[.slice (some ⟨b, off, none⟩) n cap, .int .i64 guests] w fun r w' => r = .returned (.int .i64 (chk guests l [])) ∧ Upd [] w w' := by
  have hmm := @run_makeMap Try.prog
  obtain ⟨R, hR⟩ : ∃ R, R = chk guests l [] := ⟨_, rfl⟩
  rw [← hR]
  have HN := Lib.hid hn
  have HCH := Lib.hid hch
  have HTO := Lib.hid hto
  have HOK := Lib.hid hok
  have HR := Lib.hid hR
  clear hn hch hto hok hR
  go_enter Try.func24, Try.ntmps24
  go_wp2
  have start : Met (w.alloc (.map #[] 0)) w.heap.size [] := ⟨_, _, Mp.new w, List.nodup_nil⟩
  have hbm : w.heap.size < (w.alloc (.map #[] 0)).heap.size := by rw [World.size_alloc]; omega
  have start2 : Upd [] w (w.alloc (.map #[] 0)) := (Upd.refl [] w).alloc _
  clear hmm
  go_loopw [26] (fun i wr => ∃ (k : Nat) (met : List (Int × Int)), k ≤ n ∧ i = .int .i64 k ∧ Met wr w.heap.size met ∧ R = chk guests (l.drop k) met ∧ Upd [] w wr) (fun i _ => n - (intOf i).toNat)
  case atStart => exact ⟨0, [], by omega, rfl, start, HR.out, start2⟩
  case round =>
    obtain ⟨k, met, hk, rfl, hmet, hRR, hu⟩ := hrel
    by_cases hlt : k < n
    · obtain ⟨w0, hw0⟩ : ∃ w0, w0 = wr := ⟨_, rfl⟩
      subst hw0
      obtain ⟨c, hc⟩ : ∃ c, l[k]? = some c := ⟨_, List.getElem?_eq_getElem (by rw [← HN.out]; omega)⟩
      rw [chk_drop guests l k c hc] at hRR
      have hcm : c ∈ l := List.mem_of_getElem? hc
      have hend := HTO.out c hcm
      have hcok := HOK.out c hcm
      have hat := (HCH.out k c hc).upd hu (by simp) hb
      obtain ⟨ta, tcap, htv, hend2⟩ := id hend
      obtain ⟨tn, htn⟩ : ∃ tn, tn = c.to.length := ⟨_, rfl⟩
      obtain ⟨kind, guest, port, tv, to, most, depth, val⟩ := c
      simp only at htv htn hend2
      rw [← htn] at htv
      subst htv
      obtain ⟨x0, x1, x2, x3, x4, x5, x6⟩ := hat
      have m0 := hcok.m0
      have d0 := hcok.d0
      have HE := Lib.hid hend
      have HC := Lib.hid hcok
      have HTN := Lib.hid htn
      have HM := Lib.hid hmet
      have HU := Lib.hid hu
      have HRR := Lib.hid hRR
      have HCC := Lib.hid hc
      simp only at x0 x1 x2 x3 x4 x5 x6 m0 d0
      clear hend2 hend hcok htn hmet hu hRR hcm start start2 hc
      obtain ⟨q, hq⟩ : ∃ q, q = shapeI kind tn most depth val := ⟨_, rfl⟩
      have HQ := Lib.hid hq
      clear hq
      cases q
      · go_wp2_with (go_at_call 53; refine (shape_calls _ _ _ _ _ _ _ _ _ _ (by omega) (by omega)).mono ?_; rintro e w' ⟨rfl, hu2⟩; rw [← HQ.out]; have HU2 := Lib.hid hu2; clear hu2)
        go_ret
        refine ⟨?_, (HU.out.alloc _).trans HU2.out (by simp)⟩
        rw [HRR.out, if_neg]
        · rfl
        · show ¬ shapeI kind to.length most depth val = true
          rw [← HTN.out, ← HQ.out]; simp
      · obtain ⟨n1, n4⟩ := shape_n HQ.out.symm
        have HEND := Lib.hid (fun (w' : World) (hu : Upd [] w w') => ends_agg kind guest port most depth val ta tn tcap to w' (HE.out.upd hu (by simp)) (by omega) (by omega))
        have HBN := Lib.hid (Blk.new w0 [.int .u8 kind, .int .u8 guest, .int .u8 port, .slice ta tn tcap, .int .u8 most, .int .u8 depth, .int .u32 val] 66)
        have HKP : Hid (Kp w (w0.alloc (.cells #[.int .u8 kind, .int .u8 guest, .int .u8 port, .slice ta tn tcap, .int .u8 most, .int .u8 depth, .int .u32 val] 66)) w.heap.size met w0.heap.size [.int .u8 kind, .int .u8 guest, .int .u8 port, .slice ta tn tcap, .int .u8 most, .int .u8 depth, .int .u32 val]) :=
          ⟨HM.out.upd ((Upd.refl [] w0).alloc _) (by simp), HBN.out, HU.out.alloc _, by have := HM.out.lt; omega, Nat.le_refl _⟩
        go_wp2_with (first | (go_at_call 53; refine (shape_calls _ _ _ _ _ _ _ _ _ _ (by omega) (by omega)).mono ?_; rintro e w1 ⟨rfl, hu2⟩; rw [← HQ.out]; obtain ⟨y0, y1, y2, y3, y4, y5, y6⟩ := box7 HBN.out hu2; have HK1 := Lib.hid (HKP.out.upd hu2); clear hu2) | (go_at_call 54; refine (HEND.out _ HK1.out.up).mono ?_; rintro e w2 ⟨eb, eoff, ecap, rfl, hea, heb, hu3, -⟩; have HK2 := Lib.hid (HK1.out.upd hu3); have HEA := Lib.hid hea; have HEB := Lib.hid heb; clear hea heb hu3))
        obtain ⟨A, hA⟩ : ∃ A, A = (guest, port) :: to := ⟨_, rfl⟩
        have hAl : A.length = tn + 1 := by rw [hA, List.length_cons, HTN.out]
        have hRA : R = if A.any (outB guests) = true then 6 else match meet met A with | none => 12 | some met' => chk guests (l.drop (k + 1)) met' := by
          have hs : (⟨kind, guest, port, .slice ta tn tcap, to, most, depth, val⟩ : Ch).shapeB = true := by
            show shapeI kind to.length most depth val = true
            rw [← HTN.out, ← HQ.out]
          rw [HRR.out, if_pos hs, hA]; rfl
        have hAk : ∀ x ∈ A, KOk x := by
          intro x hx
          rw [hA] at hx
          rcases List.mem_cons.1 hx with rfl | hx
          · exact ⟨HC.out.g0, HC.out.g1, HC.out.p0, HC.out.p1⟩
          · exact HC.out.ends x hx
        have HEA2 : Hid (EndsAt w2 eb eoff A) := by rw [hA]; exact HEA.out
        have HEND2 : Hid (∀ (w' : World), Upd [] w w' → Calls Try.prog 54 #[.agg #[.int .u8 kind, .int .u8 guest, .int .u8 port, .slice ta tn tcap, .int .u8 most, .int .u8 depth, .int .u32 val]] w' fun e w'' =>
            ∃ eb eoff cap, e = .returned (.slice (some ⟨eb, eoff, none⟩) (tn + 1) cap) ∧ EndsAt w'' eb eoff A ∧ eb < w''.heap.size ∧ Upd [] w' w'' ∧ w'.heap.size ≤ eb) := by rw [hA]; exact HEND.out
        have HAL := Lib.hid hAl
        have HRA := Lib.hid hRA
        have HAK := Lib.hid hAk
        clear hA hAl hRA hAk HEA HRR HC HE HEND y0 y1 y2 y3 y4 y5 y6 x0 x1 x2 x3 x4 x5 x6
        go_loopw [36] (fun i wr' => ∃ j : Nat, j ≤ tn + 1 ∧ i = .int .i64 j ∧ (∀ x ∈ A.take j, outB guests x = false) ∧ EndsAt wr' eb eoff A ∧ eb < wr'.heap.size ∧
          Kp w wr' w.heap.size met w0.heap.size [.int .u8 kind, .int .u8 guest, .int .u8 port, .slice ta tn tcap, .int .u8 most, .int .u8 depth, .int .u32 val]) (fun i _ => tn + 1 - (intOf i).toNat)
        case atStart => exact ⟨0, by omega, rfl, by simp, HEA2.out, HEB.out, HK2.out⟩
        case round =>
          obtain ⟨j, hj, rfl, hin, hea, heb, hkp⟩ := hrel
          clear HEA2 HEB HK2 HK1 HKP HBN
          by_cases hjl : j < tn + 1
          · obtain ⟨x, hx⟩ : ∃ x, A[j]? = some x := ⟨_, List.getElem?_eq_getElem (by rw [HAL.out]; omega)⟩
            obtain ⟨y0, y1⟩ := hea j x hx
            have hxk := HAK.out x (List.mem_of_getElem? hx)
            obtain ⟨k0, k1, k2, k3⟩ := id hxk
            have HIN := Lib.hid hin
            have HEA := Lib.hid hea
            have HKP := Lib.hid hkp
            have HX := Lib.hid hx
            clear hin hea hkp hx hxk
            by_cases ho : outB guests x = true
            · have hR6 : R = 6 := by rw [HRA.out, if_pos (List.any_eq_true.2 ⟨x, List.mem_of_getElem? HX.out, ho⟩)]
              have HR6 := Lib.hid hR6
              have hoo : guests ≤ x.1 ∨ 16 ≤ x.2 := by simpa [outB] using ho
              clear hR6 ho
              rcases hoo with hg | hg
              · go_wp2
                go_ret
                exact ⟨by rw [HR6.out]; rfl, HKP.out.up.alloc _⟩
              · by_cases hg2 : guests ≤ x.1
                · go_wp2
                  go_ret
                  exact ⟨by rw [HR6.out]; rfl, HKP.out.up.alloc _⟩
                · go_wp2
                  go_ret
                  exact ⟨by rw [HR6.out]; rfl, HKP.out.up.alloc _⟩
            · have hof : outB guests x = false := by simpa using ho
              have hoo : x.1 < guests ∧ x.2 < 16 := by simp [outB] at hof; omega
              obtain ⟨hg, hp⟩ := hoo
              have HO := Lib.hid hof
              clear ho hof
              go_wp2
              go_roundw
              case rel => exact ⟨j + 1, by omega, by go_num, any_take HIN.out HX.out HO.out, HEA.out.upd ((Upd.refl [] _).alloc _) (by simp) heb, by rw [World.size_alloc]; omega, HKP.out.upd ((Upd.refl [] _).alloc _)⟩
              case measure => simp [intOf]; omega
          · have hRB : R = match meet met A with | none => 12 | some met' => chk guests (l.drop (k + 1)) met' := by
              rw [HRA.out, if_neg]
              intro h
              obtain ⟨x, hx, hx2⟩ := List.any_eq_true.1 h
              rw [hin x (by rw [List.take_of_length_le (by rw [HAL.out]; omega)]; exact hx)] at hx2
              cases hx2
            have HRB := Lib.hid hRB
            have HKP := Lib.hid hkp
            obtain ⟨y0, y1, y2, y3, y4, y5, y6⟩ := box7 hkp.box (Upd.refl [] _)
            clear hin hea hkp hRB heb
            go_wp2_with (go_at_call 54; refine (HEND2.out _ HKP.out.up).mono ?_; rintro e w3 ⟨fb, foff, fcap, rfl, hea, heb, hu3, hfb⟩; have HFB := Lib.hid (Nat.ne_of_lt (Nat.lt_of_lt_of_le HKP.out.met.lt hfb)); clear hfb; have HK3 := Lib.hid (HKP.out.upd hu3); have HEA := Lib.hid hea; have HEB := Lib.hid heb; clear hea heb hu3)
            go_loopw [54] (fun i wr' => ∃ (j : Nat) (met' : List (Int × Int)), j ≤ tn + 1 ∧ i = .int .i64 j ∧ meet met A = meet met' (A.drop j) ∧ EndsAt wr' fb foff A ∧ fb < wr'.heap.size ∧
              Kp w wr' w.heap.size met' w0.heap.size [.int .u8 kind, .int .u8 guest, .int .u8 port, .slice ta tn tcap, .int .u8 most, .int .u8 depth, .int .u32 val]) (fun i _ => tn + 1 - (intOf i).toNat)
            case atStart => exact ⟨0, met, by omega, rfl, rfl, HEA.out, HEB.out, HK3.out⟩
            case round =>
              clear HK3 HEA HEB HKP y0 y1 y2 y3 y4 y5 y6
              obtain ⟨j, met', hj, rfl, hmt, hea, heb, hkp⟩ := hrel
              by_cases hjl : j < tn + 1
              · obtain ⟨x, hx⟩ : ∃ x, A[j]? = some x := ⟨_, List.getElem?_eq_getElem (by rw [HAL.out]; omega)⟩
                obtain ⟨y0, y1⟩ := hea j x hx
                have hxk := HAK.out x (List.mem_of_getElem? hx)
                have hdr : A.drop j = x :: A.drop (j + 1) := by
                  obtain ⟨hk, rfl⟩ := List.getElem?_eq_some_iff.1 hx
                  exact List.drop_eq_getElem_cons hk
                rw [hdr, meet] at hmt
                have hnk := (hkp.met.upd ((Upd.refl [] _).alloc (.cells #[.int .u8 x.1, .int .u8 x.2] 63)) (by simp))
                have hlk := hnk.look hxk
                by_cases hmm : x ∈ met'
                · rw [if_pos hmm] at hmt hlk
                  have hR12 : R = 12 := by rw [HRB.out, hmt]
                  have HR12 := Lib.hid hR12
                  have HKP := Lib.hid hkp
                  clear hR12 hmt hkp hea hdr hnk hmm hxk hx
                  go_wp2
                  go_ret
                  exact ⟨by rw [HR12.out]; rfl, HKP.out.up.alloc _⟩
                · rw [if_neg hmm] at hmt hlk
                  have hlk2 := (hnk.upd ((Upd.refl [] _).drew) (by simp)).look hxk
                  rw [if_neg hmm] at hlk2
                  obtain ⟨u1, u2, clock, r1, r3, r2, hm3, hu3⟩ := (hnk.upd ((Upd.refl [] _).drew) (by simp)).entry hxk hmm
                  have HM3 := Lib.hid hm3
                  have HU3 := Lib.hid hu3
                  have HMT := Lib.hid hmt
                  have HKP := Lib.hid hkp
                  have HEA := Lib.hid hea
                  clear hm3 hu3 hmt hkp hea hdr hnk hmm hxk hx
                  have hw1 : IntKind.i64.wrap 1 = 1 := rfl
                  go_wp2
                  go_region
                  go_wp2
                  go_roundw
                  case rel => exact ⟨j + 1, met' ++ [x], by omega, by go_num, HMT.out, (HEA.out.upd (((Upd.refl [w.heap.size] _).alloc _).drew.trans HU3.out (fun _ h => .inl h)) (by simpa using HFB.out.symm) heb), Nat.lt_of_lt_of_le heb (((Upd.refl [w.heap.size] _).alloc _).drew.trans HU3.out (fun _ h => .inl h)).size, HKP.out.step (((Upd.refl [w.heap.size] _).alloc _).drew.trans HU3.out (fun _ h => .inl h)) HM3.out⟩
                  case measure => simp [intOf]; omega
              · have hRC : R = chk guests (l.drop (k + 1)) met' := by
                  rw [HRB.out, hmt, List.drop_eq_nil_of_le (by rw [HAL.out]; omega), meet]
                have HRC := Lib.hid hRC
                have HKP := Lib.hid hkp
                clear hRC hkp hmt hea heb
                go_wp2
                go_roundw
                case rel => exact ⟨k + 1, met', by omega, by go_num, HKP.out.met, HRC.out, HKP.out.up⟩
                case measure => simp [intOf]; omega
    · have hkn : k = n := by omega
      have hR0 : R = 0 := by rw [hRR, List.drop_eq_nil_of_le (by rw [← HN.out]; omega)]; rfl
      have HU := Lib.hid hu
      have HRR := Lib.hid hR0
      clear hmet hRR hu start start2 hR0 hkn
      go_wp2
      go_ret
      exact ⟨by rw [HRR.out]; rfl, HU.out⟩
end Go.Proofs.Ytdfjjhpnhaggjaa
