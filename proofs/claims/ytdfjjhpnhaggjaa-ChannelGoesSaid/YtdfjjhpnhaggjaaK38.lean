/- The law ChannelGoes, walked. -/
import Derived.Test.YtdfjjhpnhaggjaaK37
import Derived.Deep.RegionLaw
namespace Go.Proofs.Ytdfjjhpnhaggjaa
open Go.RowKit Go.Mem

theorem i67 : (Try.prog.info? 67).map (fun i => (i.zero, i.size, i.bytes)) = some (some (.slice none 0 0), 1, 24) := by kernel_rfl
theorem i9 : (Try.prog.info? 9).map (fun i => (i.zero, i.size, i.bytes)) = some (some (.string ⟨#[]⟩), 1, 16) := by kernel_rfl

theorem gs_start {w w1 w2 : World} {T : Nat} {fp : List Nat} {g : Int} {m : List Bool} {l : List Ch} {P : List Item} (hz : check l g = 0) (hok : ∀ c ∈ l, c.Ok) (hT : Tab w1 fp T g 0 m P) (hc : P.map Item.c = l) (hy : ∀ p ∈ P, p.y = mkc p.c) (hu : Upd [] w w1) (hfp : ∀ k ∈ fp, w.heap.size ≤ k)
    (hown : w2.ownsRow 0 67 1 (.slice (some ⟨w1.heap.size, 0, none⟩) l.length l.length) l.length (madeCells (Value.slice none 0 0).cells (l.length * 1)).toList) (hg : w1.grownBy w2 none) : Gs w w2 T w1.heap.size fp g 0 m l P (List.replicate l.length (.slice none 0 0)) (List.replicate l.length []) 0 := by
  have hu2 : Upd [] w1 w2 := (Upd.refl _ _).grown hg (by simp)
  have hlt := hT.lt
  have hs := hu.size
  have hb : Blk w2 w1.heap.size (List.replicate l.length (.slice none 0 0)) 67 := by
    obtain ⟨junk, h1, h2, h3, h4, h5⟩ := own_blk hown
    have e : (madeCells (Value.slice none 0 0).cells (l.length * 1)).toList = List.replicate l.length (.slice none 0 0) := by
      rw [Nat.mul_one]
      exact toList_madeCells_one _ _
    rw [e] at h1 h4
    have : junk = [] := by
      simpa using h4
    rw [this, List.append_nil] at h1
    exact h1
  refine ⟨hT.upd hu2 (by simp), good_mkc hz hok hc hy, Int.le_refl _, by decide, hc, hu.trans hu2 (by simp), hfp, Sent.start hb (fun hm => by have := hlt _ hm; omega) hs, ?_, ?_⟩
  · refine ⟨by rw [List.length_replicate, ← hc, List.length_map], ?_⟩
    intro i p ss hp hss
    rw [List.getElem?_replicate] at hss
    split at hss
    · cases hss
      have hpm := List.mem_of_getElem? hp
      have hpl : p.c ∈ l := by rw [← hc]; exact List.mem_map_of_mem hpm
      unfold check at hz
      split at hz
      · cases hz
      split at hz
      · cases hz
      have hsh := ((chk_zero g l [] List.nodup_nil hz).1 p.c hpl).1
      unfold Ch.shapeB shapeI at hsh
      unfold Rel1
      rw [hy p hpm]
      unfold mkc mk
      by_cases h1 : p.c.kind = 1
      · rw [if_pos h1]
        exact ⟨rfl, h1, rfl⟩
      · rw [if_neg h1]
        have h0 : p.c.kind = 0 := by
          by_cases h0 : p.c.kind = 0
          · exact h0
          · rw [if_neg h0, if_neg h1] at hsh; simp at hsh
        exact ⟨by simp, by simp, h0, rfl, rfl⟩
    · cases hss
  · intro i ss hss
    rw [List.getElem?_replicate] at hss
    split at hss
    · cases hss; exact Nat.le_refl _
    · cases hss

/-- The cells of a channel that are read: its kind, its greatest length. -/
theorem chan_km {w : World} {a : Option Addr} {n cap : Nat} {l : List Ch} (h : IsChans w (.slice a n cap) l) : n = l.length ∧ ∀ (k : Nat) c, l[k]? = some c → ∃ b off, a = some ⟨b, off, none⟩ ∧
    w.cell? ⟨b, off + k * 7, none⟩ = some (.int .u8 c.kind) ∧ w.cell? ⟨b, off + k * 7 + 4, none⟩ = some (.int .u8 c.most) := by
  obtain ⟨⟨a', cap', hv, h⟩, he⟩ := h
  simp only [Value.slice.injEq] at hv
  obtain ⟨rfl, rfl, rfl⟩ := hv
  refine ⟨rfl, fun k c hc => ?_⟩
  obtain ⟨b, off, rfl, h2, h3⟩ := h (by intro e; subst e; simp at hc)
  obtain ⟨c0, c1, c2, c3, c4, -⟩ := h2 k c hc
  exact ⟨b, off, rfl, c0, c4⟩

theorem pop_put {w w4 : World} {S i sb so n cap so' n' cap' : Nat} {vs : List Value} {v5 : Value} {L : List (List ByteArray)} {r : List ByteArray} {fp : List Nat} (h : Sent w4 S vs L fp w.heap.size) (hv : vs[i]? = some v5) (hs : v5 = .slice (some ⟨sb, so, none⟩) n cap)
    (ho : OwnAt w4 9 (.slice (some ⟨sb, so', none⟩) n' cap') (r.map Value.string)) (hfp : ∀ k ∈ fp, k < w4.heap.size) (hlo : w.heap.size ≤ w4.heap.size) (nq : Nat) : Sent ((w4.drewN nq).setCell ⟨S, i, none⟩ (.slice (some ⟨sb, so', none⟩) n' cap')) S (vs.set i (.slice (some ⟨sb, so', none⟩) n' cap')) (L.set i r) fp w.heap.size :=
  Sent.put (h.upd ((Upd.refl [] _).drewN _) (by simp)) hv (ho.upd ((Upd.refl [] _).drewN _) (by simp)) (Upd.refl _ _) (fun k hk => .inl (by rw [hs]; exact hk)) (by simpa using hfp) (by simpa using hlo)


def firstLoop : Code → Option Code
  | .loop c => some c
  | .seq a b => match firstLoop a with
    | some c => some c
    | none => firstLoop b
  | .block _ c => firstLoop c
  | .scope c => firstLoop c
  | .cond _ a b => match firstLoop a with
    | some c => some c
    | none => firstLoop b
  | _ => none
noncomputable def body5 : Code := ((Try.f5.body.bind firstLoop).getD .skip)

set_option maxRecDepth 1000000 in
/-- The frame at the loop's head: what is written in it is a letter. -/
def FR (va : Option Addr) (vcap n : Nat) (ua : Option Addr) (ucap n2 T S : Nat) (c U : Nat → Value) (j : Nat) : Go.Act := ⟨#[.slice va n vcap, c 1, .slice ua n2 ucap, c 3, c 4, c 5, U 6, .pointer (some ⟨T, 0, none⟩), c 8, .slice (some ⟨S, 0, none⟩) n n, .int .i64 (j : Nat), U 11, U 12, U 13, U 14, U 15, c 16, c 17, c 18, c 19, c 20, c 21, c 22, c 23, c 24, c 25, c 26, c 27, c 28, c 29, c 30, c 31, c 32, c 33, U 34, U 35, U 36, U 37, U 38, U 39, U 40, U 41, U 42, U 43, U 44, U 45, U 46, U 47, U 48, U 49, U 50, U 51, U 52, U 53, U 54, U 55, U 56, U 57, U 58, U 59, U 60, U 61, U 62, U 63, U 64, U 65, U 66, U 67, U 68, U 69, U 70, U 71, U 72, U 73, U 74, U 75, U 76, U 77, U 78, U 79, U 80, U 81, U 82, U 83, U 84, U 85, U 86, U 87, U 88, U 89, U 90, U 91, U 92, U 93, U 94, U 95, U 96, U 97, U 98, U 99, U 100, U 101, U 102, U 103, U 104, U 105, U 106, U 107, U 108, U 109, U 110, U 111, U 112, U 113, U 114, U 115, U 116, U 117, U 118, U 119, U 120, U 121, U 122, U 123, U 124, U 125, U 126, U 127, U 128, U 129, U 130, U 131, U 132, U 133, U 134, U 135, U 136, U 137, U 138, U 139, U 140, U 141, U 142, U 143, U 144, U 145, U 146, U 147, U 148, U 149, U 150, U 151, U 152, U 153, U 154, U 155, U 156, U 157, U 158, U 159, U 160, U 161, U 162, U 163, U 164, U 165, U 166, U 167, U 168, U 169, U 170, U 171, U 172, U 173, U 174, U 175, U 176, U 177, U 178, U 179, U 180, U 181, U 182, U 183, U 184, U 185, U 186, U 187, U 188, U 189, U 190, U 191, U 192, U 193, U 194, U 195, U 196, U 197, U 198, U 199, U 200, U 201, U 202, U 203, U 204, U 205, U 206, U 207, U 208, U 209, U 210, U 211, U 212, U 213, U 214, U 215, U 216, U 217, U 218, U 219, U 220, c 221], []⟩
/-- What holds of it. -/
def WI (w : World) (va : Option Addr) (vcap n : Nat) (ua : Option Addr) (ucap n2 : Nat) (l : List Ch) (gn T S : Nat) (fp : List Nat) (mm : List Bool) (c : Nat → Value) (a : Go.Act) (w' : World) : Prop :=
  ∃ (U : Nat → Value) (j : Nat) (now : Int) (P : List Item) (vs : List Value) (L : List (List ByteArray)), a = FR va vcap n ua ucap n2 T S c U j ∧ j ≤ n2 ∧ Gs w w' T S fp gn now mm l P vs L j
def Wmu (n2 : Nat) (a : Go.Act) (_ : World) : Nat := n2 - (intOf (a.tmps.getD 10 undef)).toNat
theorem wi_mk {w : World} {va : Option Addr} {vcap n : Nat} {ua : Option Addr} {ucap n2 : Nat} {l : List Ch} {gn T S : Nat} {fp : List Nat} {mm : List Bool} {c : Nat → Value} {arr : Array Value} {w' : World} (j : Nat) (now : Int) (P : List Item) (vs : List Value) (L : List (List ByteArray)) (h : arr = (FR va vcap n ua ucap n2 T S c (fun k => arr.getD k undef) j).tmps) (hj : j ≤ n2) (hG : Gs w w' T S fp gn now mm l P vs L j) : WI w va vcap n ua ucap n2 l gn T S fp mm c ⟨arr, []⟩ w' :=
  ⟨fun k => arr.getD k undef, j, now, P, vs, L, by
    show (⟨arr, []⟩ : Go.Act) = ⟨(FR va vcap n ua ucap n2 T S c (fun k => arr.getD k undef) j).tmps, []⟩
    rw [← h], hj, hG⟩

/-- What is known ahead of the loop. -/
structure Cx (w : World) (va : Option Addr) (vcap n : Nat) (ua : Option Addr) (ucap n2 : Nat) (l : List Ch) (A : List Act) (gn : Nat) : Prop where
  hl : n ≤ 16
  hA80 : n2 ≤ 80
  h1 : 1 ≤ gn
  h2 : gn ≤ 16
  HL : n = l.length
  HL2 : n2 = A.length
  HAR : A ≠ [] → ∃ b off, ua = some ⟨b, off, none⟩ ∧ RowsAt w b off 6 Act.cells A ∧ b < w.heap.size
  HAO : ∀ x ∈ A, x.Ok
  HZ : chk gn l [] = 0
  HOK : ∀ c ∈ l, c.Ok
  HFR : ∀ (w' : World), Upd [] w w' → ∀ (k0 k1 : Int), Calls Try.prog 21 #[.slice va n vcap, .agg #[.int .u8 k0, .int .u8 k1]] w' fun e w'' => e = .returned (.int .i64 (idxV (srcI (k0, k1) l))) ∧ Upd [] w' w''
  HTO : ∀ (w' : World), Upd [] w w' → ∀ (k0 k1 : Int), Calls Try.prog 22 #[.slice va n vcap, .agg #[.int .u8 k0, .int .u8 k1]] w' fun e w'' => e = .returned (.int .i64 (idxV (dstI (k0, k1) l))) ∧ Upd [] w' w''
  HCH : ∀ (w' : World), Upd [] w w' → IsChans w' (.slice va n vcap) l

set_option maxRecDepth 1000000 in
set_option maxHeartbeats 20000000 in
theorem goes_other (w : World) (va : Option Addr) (vcap n : Nat) (ua : Option Addr) (ucap n2 : Nat) (l : List Ch) (A : List Act) (gn T S : Nat) (fp : List Nat) (mm : List Bool) (c : Nat → Value) (cx : Cx w va vcap n ua ucap n2 l A gn) (Q0 : Exit → Go.Act → World → Prop) (U : Nat → Value) (j : Nat) (now : Int) (P : List Item) (vs : List Value) (L : List (List ByteArray)) (wr : World) (hgs : Gs w wr T S fp gn now mm l P vs L j) (hlt : j < n2) (a : Act) (ha : A[j]? = some a) (c1 : ¬ a.what % 8 < 3) (c2 : 5 < a.what % 8) :
    Code.wp Try.prog body5 (Exit.then (fun a' w'' => WI w va vcap n ua ucap n2 l gn T S fp mm c a' w'' ∧ Wmu n2 a' w'' < Wmu n2 (FR va vcap n ua ucap n2 T S c U j) wr) Q0) (FR va vcap n ua ucap n2 T S c U j) wr := by
  obtain ⟨hl, hA80, h1, h2, HL, HL2, HAR, HAO, HZ, HOK, HFR, HTO, HCH⟩ := cx
  replace HL := Lib.hid HL
  replace HL2 := Lib.hid HL2
  replace HAR := Lib.hid HAR
  replace HAO := Lib.hid HAO
  replace HZ := Lib.hid HZ
  replace HOK := Lib.hid HOK
  replace HFR := Lib.hid HFR
  replace HTO := Lib.hid HTO
  replace HCH := Lib.hid HCH
  have hao := HAO.out a (List.mem_of_getElem? ha)
  obtain ⟨b2, off2, rfl, hrow, hb2⟩ := HAR.out (by intro e; subst e; simp at ha)
  have hrw : ∀ (i : Nat) v, a.cells[i]? = some v → wr.cell? ⟨b2, off2 + j * 6 + i, none⟩ = some v := fun i v hv => cell_upd hgs.up (by simp) hb2 _ (hrow j a ha i v hv)
  have hD := does_calls T gn now mm P fp a (wr.alloc (.cells a.cells.toArray 57)) (hgs.tab.upd ((Upd.refl [] _).alloc _) (by simp)) (by omega) hgs.t0 hgs.t1 hao hgs.good (ing_of HZ.out hgs.pc)
  have hTO := fun (w1 : World) (L' : List (List ByteArray)) hT hu => goes_told (w1 := w1) (L' := L') hgs hao hT hu
  obtain ⟨q, hq⟩ : ∃ q, q = tell a now P := ⟨_, rfl⟩
  rw [← hq] at hD
  obtain ⟨now', hnow'⟩ : ∃ x, x = nowA a now := ⟨_, rfl⟩
  obtain ⟨P', hP'⟩ : ∃ x, x = itemsA a now P := ⟨_, rfl⟩
  rw [← hnow', ← hP'] at hD
  simp only [← hnow', ← hP'] at hTO
  obtain ⟨what, gu, po, s, step, by'⟩ := a
  have x0 := hrw 0 _ rfl
  have x1 := hrw 1 _ rfl
  have x2 := hrw 2 _ rfl
  have x3 := hrw 3 _ rfl
  have x4 := hrw 4 _ rfl
  have x5 := hrw 5 _ rfl
  simp only [Nat.add_zero] at x0 x1 x2 x3 x4 x5
  have w0 : 0 ≤ what := hao.w0
  have HD := Lib.hid hD
  simp only [Act.cells, Told.cells] at HD
  have HTD := Lib.hid hTO
  have HQ := Lib.hid hq
  have HP := Lib.hid hP'
  have HGS := Lib.hid hgs
  clear ha hao hrow hrw hD hTO hq hnow' hP' hgs
  conv => arg 2; whnf
  unfold FR
  simp only at c1 c2
  have z1 : decide (what % 8 < 3) = false := by simp; omega
  have z2 : decide (5 < what % 8) = true := by simp; omega
  go_wp2_with fail
  refine HD.out.mono ?_
  rintro e w3 ⟨rfl, hT, hu⟩
  obtain ⟨hb, hlt3, hu3, hs3, hend⟩ := HTD.out w3 L hT hu
  have y0 := hb.at 0 rfl
  have hrel' : Rel P' L := by
    rw [HP.out]; unfold itemsA
    simp only
    rw [if_neg (by omega)]
    split
    · exact HGS.out.rel
    · rw [if_pos (by omega)]; exact HGS.out.rel
  have HEND := Lib.hid (hend (w3.alloc (.cells #[.string q.s, .int .u64 q.age, .int .u8 q.st, .int .i64 q.n] 59)) ((Upd.refl _ _).alloc _) hrel' (fun i ss hss => by have := HGS.out.bd i ss hss; omega) _ vs [] (Upd.refl _ _) (by simp) (hs3.upd ((Upd.refl [] _).alloc _) (by simp)))
  clear hT hu hb hu3 hs3 hend hrel' x0 x1 x2 x3 x4 x5
  go_wp2_with fail
  exact ⟨wi_mk (j + 1) now' P' vs L rfl (by omega) HEND.out, by simp [Wmu, intOf]; omega⟩

end Go.Proofs.Ytdfjjhpnhaggjaa
