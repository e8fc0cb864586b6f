/- The plain law of a sampling channel: what was written and read, and the state that it comes to. No walk. -/
import Derived.Test.YtdfjjhpnhaggjaaS2
import Derived.Test.YtdfjjhpnhaggjaaD8
namespace Go.Proofs.Ytdfjjhpnhaggjaa
open Go.RowKit Go.Mem

/-- The state that a list of writings comes to. -/
def absL (m val e : Int) (L : List Wr) : Chn := match L.getLast? with
  | none => ⟨m, val, e, false, ⟨#[]⟩, 0, List.replicate 16 false⟩
  | some x => ⟨m, val, e, true, x.s, x.t, (List.range 16).map fun i : Nat => decide ((i : Int) < e) && !inB x.reads (i : Int)⟩

theorem absL_nil (m val e : Int) : absL m val e [] = ⟨m, val, e, false, ⟨#[]⟩, 0, List.replicate 16 false⟩ := rfl
theorem absL_snoc (m val e : Int) (L : List Wr) (x : Wr) : absL m val e (L ++ [x]) = ⟨m, val, e, true, x.s, x.t, (List.range 16).map fun i : Nat => decide ((i : Int) < e) && !inB x.reads (i : Int)⟩ := by
  simp [absL]

theorem absL_most (m val e : Int) (L : List Wr) : (absL m val e L).most = m := by rcases nil_or_snoc L with rfl | ⟨L0, x, rfl⟩; rfl; rw [absL_snoc]
theorem absL_ends (m val e : Int) (L : List Wr) : (absL m val e L).ends = e := by rcases nil_or_snoc L with rfl | ⟨L0, x, rfl⟩; rfl; rw [absL_snoc]

structure Shp (m val e : Int) : Prop where
  m1 : 1 ≤ m
  m2 : m ≤ 64
  e1 : 1 ≤ e
  e2 : e ≤ 16
  v0 : 0 ≤ val
  v1 : val < 4294967296

theorem absL_ok {m val e : Int} {L : List Wr} (hs : Shp m val e) (ho : LOk L) : (absL m val e L).Ok := by
  rcases nil_or_snoc L with rfl | ⟨L0, x, rfl⟩
  · exact ⟨hs.m1, hs.m2, hs.e1, hs.e2, by simp [absL_nil], hs.v0, hs.v1, by simp [absL_nil], by simp [absL_nil]⟩
  · rw [absL_snoc]
    exact ⟨hs.m1, hs.m2, hs.e1, hs.e2, by simp, hs.v0, hs.v1, ho.t0 x (by simp), ho.t1 x (by simp)⟩

theorem absL_write {m val e : Int} {L : List Wr} (hs : Shp m val e) (t : Int) (s : ByteArray) : (absL m val e L).put t s = absL m val e (L ++ [⟨t, s, []⟩]) := by
  rw [absL_snoc]
  have e1 := hs.e1
  have e2 := hs.e2
  have hf : ∀ f : List Bool, f.length = 16 → (∀ i, e.toNat ≤ i → f.getD i false = false) → List.replicate e.toNat true ++ f.drop e.toNat = (List.range 16).map fun i : Nat => decide ((i : Int) < e) && !inB [] (i : Int) := by
    intro f hl hz
    apply List.ext_getElem?
    intro i
    by_cases hi : i < 16
    · rw [List.getElem?_map, List.getElem?_range hi]
      by_cases hie : i < e.toNat
      · rw [List.getElem?_append_left (by simpa using hie)]
        have : (i : Int) < e := by omega
        simp [hie, this, inB]
      · rw [List.getElem?_append_right (by simp; omega)]
        have : ¬ (i : Int) < e := by omega
        have hz' := hz i (by omega)
        rw [List.getD_eq_getElem?_getD, List.getElem?_eq_getElem (by omega)] at hz'
        simp only [Option.getD_some] at hz'
        simp only [List.length_replicate, List.getElem?_drop, show e.toNat + (i - e.toNat) = i by omega]
        rw [List.getElem?_eq_getElem (by omega), hz']
        simp [this]
    · rw [List.getElem?_eq_none (by simp; omega), List.getElem?_eq_none (by simp; omega)]
  rcases nil_or_snoc L with rfl | ⟨L0, x, rfl⟩
  · simp only [absL_nil, Chn.put]
    rw [hf _ (by simp) (by intro i hi; rw [List.getD_eq_getElem?_getD, List.getElem?_replicate]; split <;> rfl)]
  · simp only [absL_snoc, Chn.put]
    rw [hf _ (by simp) (by
      intro i hi
      rw [List.getD_eq_getElem?_getD, List.getElem?_map]
      by_cases h : i < 16
      · rw [List.getElem?_range h]
        have : ¬ (i : Int) < e := by omega
        simp [this]
      · rw [List.getElem?_eq_none (by simp; omega)]; rfl)]

theorem inB_snoc (l : List Int) (j i : Int) : inB (l ++ [j]) i = (inB l i || i == j) := by rw [Bool.eq_iff_iff]; simp [inB]

theorem absL_read {m val e : Int} {L : List Wr} {x : Wr} (k : Nat) (hk : k < 16) :
    (absL m val e (L ++ [x])).seen k = absL m val e (L ++ [{ x with reads := x.reads ++ [(k : Int)] }]) := by
  rw [absL_snoc, absL_snoc]
  simp only [Chn.seen, Chn.mk.injEq, true_and]
  apply List.ext_getElem?
  intro i
  rw [List.getElem?_set]
  by_cases hi : i < 16
  · rw [List.getElem?_map, List.getElem?_range hi]
    by_cases hki : k = i
    · subst hki
      simp [inB_snoc, hk]
    · rw [if_neg hki, List.getElem?_map, List.getElem?_range hi]
      have : ((i : Int) == (k : Int)) = false := by simp; omega
      simp [inB_snoc, this]
  · rw [if_neg (by omega), List.getElem?_eq_none (by simp; omega), List.getElem?_eq_none (by simp; omega)]

theorem rdNext_abs {m val e j : Int} {L : List Wr} (hs : Shp m val e) (ho : LOk L) :
    (whyI (absL m val e L) j = 0 → 0 ≤ j ∧ j < e ∧ (absL m val e L).seen j.toNat = absL m val e (rdNext e L j)) ∧ (whyI (absL m val e L) j ≠ 0 → rdNext e L j = L) := by
  have e2 := hs.e2
  have hen : (absL m val e L).ends = e := by
    rcases nil_or_snoc L with rfl | ⟨L0, x, rfl⟩
    · rfl
    · rw [absL_snoc]
  unfold whyI
  rw [hen]
  by_cases h : j < 0 ∨ e ≤ j
  · have : rdNext e L j = L := by simp [rdNext, h]
    rw [this]
    refine ⟨?_, fun _ => rfl⟩
    rcases h with h | h
    · rw [if_pos h]; intro h'; omega
    · rw [if_pos h]
      split <;> (intro h'; omega)
  · rw [if_neg (by omega), if_neg (by omega)]
    rcases nil_or_snoc L with rfl | ⟨L0, x, rfl⟩
    · simp [absL_nil, rdNext]
    · refine ⟨fun _ => ⟨by omega, by omega, ?_⟩, fun hh => absurd (by simp [absL_snoc]) hh⟩
      obtain ⟨k, rfl⟩ := Int.eq_ofNat_of_zero_le (show 0 ≤ j by omega)
      have : rdNext e (L0 ++ [x]) k = L0 ++ [{ x with reads := x.reads ++ [(k : Int)] }] := by simp [rdNext, h]
      rw [this, Int.toNat_natCast]
      exact absL_read k (by omega)
end Go.Proofs.Ytdfjjhpnhaggjaa
