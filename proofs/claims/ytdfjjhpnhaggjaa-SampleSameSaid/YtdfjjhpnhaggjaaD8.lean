/- The reference's channel, whatever it holds: Text, Read, Same. -/
import Derived.Test.YtdfjjhpnhaggjaaD7
namespace Go.Proofs.Ytdfjjhpnhaggjaa
open Go.RowKit Go.Mem

/-- The bounds of what was written. -/
structure LOk (L : List Wr) : Prop where
  len : L.length ≤ 1000
  reads : ∀ x ∈ L, x.reads.length ≤ 1000
  size : ∀ x ∈ L, x.s.size ≤ 1000
  t0 : ∀ x ∈ L, 0 ≤ x.t
  t1 : ∀ x ∈ L, x.t < 18446744073709551616

def rtxt (L : List Wr) (e : Int) : List UInt8 := match L.getLast? with
  | none => [45]
  | some x => refText x e

theorem nil_or_snoc {α : Type} (l : List α) : l = [] ∨ ∃ a x, l = a ++ [x] := by
  by_cases h : l = []
  · exact .inl h
  · exact .inr (snoc_of h)

theorem rtext_calls (w : World) (fp : List Nat) (r : Nat) (m val e : Int) (L : List Wr) (h : RefIs w fp r m val e L) (ho : LOk L) (he0 : 0 ≤ e) (he1 : e ≤ 16) :
    Calls Try.prog 36 #[.pointer (some ⟨r, 0, none⟩)] w fun y w' => y = .returned (.string ⟨(rtxt L e).toArray⟩) ∧ Upd [] w w' := by
  rcases nil_or_snoc L with rfl | ⟨L0, x, rfl⟩
  · exact rtext_none w fp r m val e h
  · obtain ⟨g, cap, rvs, rv, ht, -⟩ := h.top
    have hx : x ∈ L0 ++ [x] := by simp
    have := rtext_top w r g cap m val e L0 x rvs rv ht he0 he1 (by have := ho.len; simp at this; omega) (ho.reads x hx) (ho.size x hx) (ho.t0 x hx) (ho.t1 x hx)
    simpa [rtxt] using this

/-- What the reference's Read answers, and what it makes of what was written. -/
def rdOut (val e : Int) (L : List Wr) (j t : Int) : ByteArray × Int × Bool × Int :=
  if j < 0 ∨ e ≤ j then (⟨#[]⟩, 0, false, 2) else match L.getLast? with
    | none => (⟨#[]⟩, 0, false, 10)
    | some x => (x.s, rage x.t t, decide (val < rage x.t t), 0)
def rdNext (e : Int) (L : List Wr) (j : Int) : List Wr :=
  if j < 0 ∨ e ≤ j then L else match L.getLast? with
    | none => L
    | some x => L.dropLast ++ [{ x with reads := x.reads ++ [j] }]

theorem steps_same {w : World} {P : World → List Nat → Prop} {fp : List Nat} (h : P w fp) : Steps1 P fp w w := ⟨fp, h, Upd.refl _ _, fun _ hk => .inl hk⟩

theorem rread_calls (w : World) (fp : List Nat) (r : Nat) (m val e j t : Int) (L : List Wr) (h : RefIs w fp r m val e L) (ho : LOk L)
    (hv0 : 0 ≤ val) (hv1 : val < 4294967296) (ht0 : 0 ≤ t) (ht1 : t < 18446744073709551616) :
    Calls Try.prog 34 #[.pointer (some ⟨r, 0, none⟩), .int .i64 j, .int .u64 t] w fun y w' => y = .returned (.tuple #[.string (rdOut val e L j t).1, .int .u64 (rdOut val e L j t).2.1, .bool (rdOut val e L j t).2.2.1, .int .i64 (rdOut val e L j t).2.2.2]) ∧
      Steps1 (fun w' fp' => RefIs w' fp' r m val e (rdNext e L j)) fp w w' := by
  by_cases hj : j < 0 ∨ e ≤ j
  · refine (rread_arg w fp r m val e j t L h hj).mono ?_
    rintro y w' ⟨rfl, rfl⟩
    simp only [rdOut, rdNext, if_pos hj]
    exact ⟨trivial, steps_same h⟩
  · rcases nil_or_snoc L with rfl | ⟨L0, x, rfl⟩
    · refine (rread_empty w fp r m val e j t h (by omega) (by omega)).mono ?_
      rintro y w' ⟨rfl, rfl⟩
      simp only [rdOut, rdNext, if_neg hj, List.getLast?_nil]
      exact ⟨trivial, steps_same h⟩
    · obtain ⟨g, cap, rvs, rv, ht, rfl⟩ := h.top
      have hx : x ∈ L0 ++ [x] := by simp
      refine (rread_top w r g cap m val e j t L0 x rvs rv ht (by omega) (by omega) (by have := ho.len; simp at this; omega) (ho.reads x hx) hv0 hv1 ht0 ht1 (ho.t0 x hx)).mono ?_
      rintro y w' ⟨rfl, hs⟩
      simp only [rdOut, rdNext, if_neg hj, List.getLast?_append, List.getLast?_singleton, List.dropLast_concat]
      exact ⟨rfl, hs⟩

def rsame (m val e : Int) (L : List Wr) (m' val' e' : Int) (M : List Wr) : Bool := m == m' && val == val' && e == e' && rtxt L e == rtxt M e'

set_option maxRecDepth 10000 in
set_option maxHeartbeats 1000000 in
theorem rsame_calls (w : World) (fp fp' : List Nat) (r r' : Nat) (m val e m' val' e' : Int) (L M : List Wr) (h : RefIs w fp r m val e L) (h' : RefIs w fp' r' m' val' e' M) (ho : LOk L) (ho' : LOk M)
    (he0 : 0 ≤ e) (he1 : e ≤ 16) (he0' : 0 ≤ e') (he1' : e' ≤ 16) :
    Calls Try.prog 13 #[.pointer (some ⟨r, 0, none⟩), .pointer (some ⟨r', 0, none⟩)] w fun y w' => y = .returned (.bool (rsame m val e L m' val' e' M)) ∧ Upd [] w w' := by
  have hb := h.choose_spec.choose_spec.1
  have hb' := h'.choose_spec.choose_spec.1
  have a0 := hb.at 0 rfl
  have a1 := hb.at 1 rfl
  have a2 := hb.at 2 rfl
  have b0 := hb'.at 0 rfl
  have b1 := hb'.at 1 rfl
  have b2 := hb'.at 2 rfl
  clear hb hb'
  by_cases q1 : m = m'
  · by_cases q2 : val = val'
    · by_cases q3 : e = e'
      · subst q1 q2 q3
        obtain ⟨A, hA⟩ : ∃ A : ByteArray, A = ⟨(rtxt L e).toArray⟩ := ⟨_, rfl⟩
        obtain ⟨B, hB⟩ : ∃ B : ByteArray, B = ⟨(rtxt M e).toArray⟩ := ⟨_, rfl⟩
        have hcA : ∀ w', Upd [] w w' → Calls Try.prog 36 #[.pointer (some ⟨r, 0, none⟩)] w' fun y w'' => y = .returned (.string A) ∧ Upd [] w' w'' := fun w' hu => by
          rw [hA]; exact rtext_calls w' fp r m val e L (h.upd hu (by simp)) ho he0 he1
        have hcB : ∀ w', Upd [] w w' → Calls Try.prog 36 #[.pointer (some ⟨r', 0, none⟩)] w' fun y w'' => y = .returned (.string B) ∧ Upd [] w' w'' := fun w' hu => by
          rw [hB]; exact rtext_calls w' fp' r' m val e M (h'.upd hu (by simp)) ho' he0 he1
        have HR : Hid (rsame m val e L m val e M = (A.toList == B.toList)) := by
          rw [hA, hB]; simp [rsame, Hid, ByteArray.toList_eq]
        have HcA := Lib.hid hcA
        have HcB := Lib.hid hcB
        have hrl := h.lt r (by obtain ⟨_, _, _, _, _, rfl, _⟩ := h; simp)
        have hrl' := h'.lt r' (by obtain ⟨_, _, _, _, _, rfl, _⟩ := h'; simp)
        have HF := Lib.hid (fun (w' : World) (hu : Upd [] w w') => (⟨cell_upd hu (by simp) hrl 0 a0, cell_upd hu (by simp) hrl 1 a1, cell_upd hu (by simp) hrl 2 a2, cell_upd hu (by simp) hrl' 0 b0, cell_upd hu (by simp) hrl' 1 b1, cell_upd hu (by simp) hrl' 2 b2, hu⟩ : w'.cell? ⟨r, 0, none⟩ = some (.int .i64 m) ∧ w'.cell? ⟨r, 1, none⟩ = some (.int .u32 val) ∧ w'.cell? ⟨r, 2, none⟩ = some (.int .i64 e) ∧ w'.cell? ⟨r', 0, none⟩ = some (.int .i64 m) ∧ w'.cell? ⟨r', 1, none⟩ = some (.int .u32 val) ∧ w'.cell? ⟨r', 2, none⟩ = some (.int .i64 e) ∧ Upd [] w w'))
        clear h h' ho ho' hcA hcB hA hB
        go_enter Try.func13, Try.ntmps13
        go_wp2
        go_region_held3 (fun w' => w'.cell? ⟨r, 0, none⟩ = some (.int .i64 m) ∧ w'.cell? ⟨r, 1, none⟩ = some (.int .u32 val) ∧ w'.cell? ⟨r, 2, none⟩ = some (.int .i64 e) ∧ w'.cell? ⟨r', 0, none⟩ = some (.int .i64 m) ∧ w'.cell? ⟨r', 1, none⟩ = some (.int .u32 val) ∧ w'.cell? ⟨r', 2, none⟩ = some (.int .i64 e) ∧ Upd [] w w')
          (first | (refine HF.out _ ?_; exact (Upd.refl _ _).drew) | (go_split_ands; refine HF.out _ ?_; exact Upd.trans (by assumption) hu (by simp)))
          ((go_at_call 36; go_split_ands; first | ((with_reducible refine (HcA.out _ (by assumption)).mono ?_); rintro e w1 ⟨rfl, hu⟩) | ((with_reducible refine (HcB.out _ (by assumption)).mono ?_); rintro e w1 ⟨rfl, hu⟩)))
        rename_i hheld
        have HU := Lib.hid hheld.2.2.2.2.2.2
        clear hheld
        go_wp2
        go_ret
        exact ⟨ret_bool HR.out.symm, HU.out⟩
      · have HR : Hid (rsame m val e L m' val' e' M = false) := by simp [rsame, q3, Hid]
        have z1 : (m == m') = true := by simpa using q1
        have z2 : (val == val') = true := by simpa using q2
        have z3 : (e == e') = false := by simpa using q3
        clear q1 q2 q3 h h' ho ho'
        go_enter Try.func13, Try.ntmps13
        go_wp2
        go_quiet (fail)
        go_wp2
        go_ret
        exact ⟨ret_bool HR.out.symm, (Upd.refl _ _).drewN _⟩
    · have HR : Hid (rsame m val e L m' val' e' M = false) := by simp [rsame, q2, Hid]
      have z1 : (m == m') = true := by simpa using q1
      have z2 : (val == val') = false := by simpa using q2
      clear q1 q2 h h' ho ho'
      go_enter Try.func13, Try.ntmps13
      go_wp2
      go_quiet (fail)
      go_wp2
      go_ret
      exact ⟨ret_bool HR.out.symm, (Upd.refl _ _).drewN _⟩
  · have HR : Hid (rsame m val e L m' val' e' M = false) := by simp [rsame, q1, Hid]
    have z1 : (m == m') = false := by simpa using q1
    clear q1 h h' ho ho'
    go_enter Try.func13, Try.ntmps13
    go_wp2
    go_quiet (fail)
    go_wp2
    go_ret
    exact ⟨ret_bool HR.out.symm, (Upd.refl _ _).drewN _⟩
end Go.Proofs.Ytdfjjhpnhaggjaa
