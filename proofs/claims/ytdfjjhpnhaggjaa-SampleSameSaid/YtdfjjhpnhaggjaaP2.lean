/- The plain law: equal texts are equal states. No walk. -/
import Derived.Test.YtdfjjhpnhaggjaaP1
import Derived.Test.YtdfjjhpnhaggjaaS3
namespace Go.Proofs.Ytdfjjhpnhaggjaa
open Go.RowKit Go.Mem

theorem split32 {a a' b b' : List UInt8} (ha : (32 : UInt8) ∉ a) (ha' : (32 : UInt8) ∉ a') (h : a ++ 32 :: b = a' ++ 32 :: b') : a = a' ∧ b = b' := by
  induction a generalizing a' with
  | nil =>
    cases a' with
    | nil => simpa using h
    | cons c a' => simp at h; exact absurd h.1 (by intro h; exact ha' (by simp [← h]))
  | cons c a ih =>
    cases a' with
    | nil => simp at h; exact absurd h.1 (by intro h; exact ha (by simp [h]))
    | cons c' a' =>
      simp only [List.cons_append, List.cons.injEq] at h
      obtain ⟨h1, h2⟩ := ih (fun hm => ha (by simp [hm])) (fun hm => ha' (by simp [hm])) h.2
      exact ⟨by rw [h.1, h1], h2⟩

def undg (l : List UInt8) : Nat := l.foldl (fun a c => a * 10 + (c.toNat - 48)) 0
theorem undg_snoc (l : List UInt8) (c : UInt8) : undg (l ++ [c]) = undg l * 10 + (c.toNat - 48) := by simp [undg]
theorem digit_nat {n : Nat} (h : n < 10) : (UInt8.ofNat (48 + n)).toNat - 48 = n := by
  rw [UInt8.toNat_ofNat']; omega
theorem undg_dg (n : Nat) : undg (dg n) = n := by
  induction n using Nat.strongRecOn with
  | ind n ih =>
    by_cases h : n < 10
    · rw [dg_small h]
      have := undg_snoc [] (UInt8.ofNat (48 + n))
      rw [List.nil_append] at this
      rw [this, digit_nat h]; simp [undg]
    · rw [dg_big h, undg_snoc, ih _ (by omega), digit_nat (by omega)]; omega
theorem dg_inj {n m : Nat} (h : dg n = dg m) : n = m := by rw [← undg_dg n, h, undg_dg m]
theorem dg_mem (n : Nat) : ∀ c ∈ dg n, 48 ≤ c.toNat ∧ c.toNat ≤ 57 := by
  induction n using Nat.strongRecOn with
  | ind n ih =>
    intro c hc
    by_cases h : n < 10
    · rw [dg_small h] at hc
      simp only [List.mem_singleton] at hc; subst hc
      rw [UInt8.toNat_ofNat']; omega
    · rw [dg_big h] at hc
      rcases List.mem_append.1 hc with hc | hc
      · exact ih _ (by omega) c hc
      · simp only [List.mem_singleton] at hc; subst hc
        rw [UInt8.toNat_ofNat']; omega
theorem dg_no (n : Nat) (k : UInt8) (hk : k.toNat < 48) : k ∉ dg n := fun h => by have := dg_mem n k h; omega
theorem dg_ne (n : Nat) : dg n ≠ [] := by
  by_cases h : n < 10
  · rw [dg_small h]; simp
  · rw [dg_big h]; simp

theorem hexTab_inj : ∀ i, i < 16 → ∀ j, j < 16 → hexTab.data.toList.getD i 0 = hexTab.data.toList.getD j 0 → i = j := by decide
theorem hexTab_no : ∀ i, i < 16 → hexTab.data.toList.getD i 0 ≠ 32 ∧ hexTab.data.toList.getD i 0 ≠ 45 := by decide
theorem hx_inj {c d : UInt8} (h : hx c = hx d) : c = d := by
  have hc := c.toNat_lt
  have hd := d.toNat_lt
  simp only [hx, List.cons.injEq, and_true] at h
  have h1 := hexTab_inj _ (by omega) _ (by omega) h.1
  have h2 := hexTab_inj _ (by omega) _ (by omega) h.2
  exact UInt8.toNat.inj (by omega)
theorem hexs_inj : ∀ {l k : List UInt8}, hexs l = hexs k → l = k
  | [], [], _ => rfl
  | [], c :: k, h => by have := congrArg List.length h; rw [hexs_len, hexs_len] at this; simp at this
  | c :: l, [], h => by have := congrArg List.length h; rw [hexs_len, hexs_len] at this; simp at this
  | c :: l, d :: k, h => by
    have h' : hx c ++ hexs l = hx d ++ hexs k := h
    have := List.append_inj h' (by simp [hx])
    rw [hx_inj this.1, hexs_inj this.2]
theorem hexs_no (l : List UInt8) : (32 : UInt8) ∉ hexs l ∧ (45 : UInt8) ∉ hexs l := by
  induction l with
  | nil => simp [hexs]
  | cons c l ih =>
    have hc := c.toNat_lt
    have e : hexs (c :: l) = hx c ++ hexs l := rfl
    rw [e]
    have a := hexTab_no (c.toNat / 16) (by omega)
    have b := hexTab_no (c.toNat % 16) (by omega)
    simp only [hx, List.mem_append, List.mem_cons, List.not_mem_nil, or_false, not_or]
    exact ⟨⟨⟨a.1.symm, b.1.symm⟩, ih.1⟩, ⟨⟨a.2.symm, b.2.symm⟩, ih.2⟩⟩
theorem hexOr_inj {s s' : ByteArray} (h : hexOr s = hexOr s') : s.data.toList = s'.data.toList := by
  unfold hexOr at h
  split at h <;> split at h
  · simp [*]
  · exact absurd (by rw [← h]; simp) (hexs_no s'.data.toList).2
  · exact absurd (by rw [h]; simp) (hexs_no s.data.toList).2
  · exact hexs_inj h
theorem hexOr_no (s : ByteArray) : (32 : UInt8) ∉ hexOr s := by
  unfold hexOr
  split
  · simp
  · exact (hexs_no _).1

theorem flag_eq {a b : List Int} {i : Nat} : flag a i = flag b i ↔ inB a i = inB b i := by
  unfold flag
  cases inB a i <;> cases inB b i <;> simp

theorem refText_eq {x y : Wr} {e : Int} (hx : 0 ≤ x.t) (hy : 0 ≤ y.t) :
    refText x e = refText y e ↔ x.t = y.t ∧ x.s.data.toList = y.s.data.toList ∧ ∀ i : Nat, (i : Int) < e → inB x.reads i = inB y.reads i := by
  constructor
  · intro h
    unfold refText at h
    simp only [List.append_assoc, List.singleton_append] at h
    obtain ⟨h1, h2⟩ := split32 (dg_no _ 32 (by decide)) (dg_no _ 32 (by decide)) h
    obtain ⟨h3, h4⟩ := split32 (hexOr_no _) (hexOr_no _) h2
    refine ⟨by have := dg_inj h1; omega, hexOr_inj h3, fun i hi => ?_⟩
    have := congrArg (fun l => l[i]?) h4
    simp only [List.getElem?_map, List.getElem?_range (show i < e.toNat by omega), Option.map_some, Option.some.injEq] at this
    exact flag_eq.1 this
  · rintro ⟨h1, h2, h3⟩
    unfold refText
    have : hexOr x.s = hexOr y.s := by unfold hexOr; rw [h2]
    rw [h1, this]
    congr 1
    apply List.map_congr_left
    intro i hi
    exact flag_eq.2 (h3 i (by simp at hi; omega))

theorem fresh_eq {a b : List Int} {e : Int} (he : e ≤ 16) : ((List.range 16).map fun i : Nat => decide ((i : Int) < e) && !inB a (i : Int)) = ((List.range 16).map fun i : Nat => decide ((i : Int) < e) && !inB b (i : Int)) ↔
    ∀ i : Nat, (i : Int) < e → inB a i = inB b i := by
  constructor
  · intro h i hi
    have := congrArg (fun l => l[i]?) h
    simp only [List.getElem?_map, List.getElem?_range (show i < 16 by omega), Option.map_some, Option.some.injEq, hi, decide_true, Bool.true_and] at this
    cases h1 : inB a i <;> cases h2 : inB b i <;> simp [h1, h2] at this ⊢
  · intro h
    apply List.map_congr_left
    intro i _
    by_cases hi : (i : Int) < e
    · rw [h i hi]
    · simp [hi]

theorem same_law {m val e m' val' e' : Int} {L M : List Wr} (hs : Shp m val e) (hL : LOk L) (hM : LOk M) :
    chEq (absL m val e L) (absL m' val' e' M) = rsame m val e L m' val' e' M := by
  rw [Bool.eq_iff_iff]
  unfold chEq rsame
  simp only [Bool.and_eq_true, beq_iff_eq]
  rw [absL_most, absL_most, absL_ends, absL_ends]
  have hv : ∀ m val e L, (absL m val e L).val = val := by
    intro m val e L; rcases nil_or_snoc L with rfl | ⟨L0, x, rfl⟩; rfl; rw [absL_snoc]
  rw [hv, hv]
  constructor
  · rintro ⟨⟨⟨⟨⟨⟨rfl, rfl⟩, rfl⟩, h4⟩, h5⟩, h6⟩, h7⟩
    refine ⟨⟨⟨rfl, rfl⟩, rfl⟩, ?_⟩
    rcases nil_or_snoc L with rfl | ⟨L0, x, rfl⟩ <;> rcases nil_or_snoc M with rfl | ⟨M0, y, rfl⟩
    · rfl
    · simp [absL_nil, absL_snoc] at h4
    · simp [absL_nil, absL_snoc] at h4
    · simp only [absL_snoc] at h5 h6 h7
      have := (refText_eq (e := e) (hL.t0 x (by simp)) (hM.t0 y (by simp))).2 ⟨h6, by simpa [ByteArray.toList_eq] using h5, (fresh_eq hs.e2).1 h7⟩
      simpa [rtxt] using this
  · rintro ⟨⟨⟨rfl, rfl⟩, rfl⟩, h⟩
    rcases nil_or_snoc L with rfl | ⟨L0, x, rfl⟩ <;> rcases nil_or_snoc M with rfl | ⟨M0, y, rfl⟩
    · simp
    · exfalso
      simp only [rtxt, List.getLast?_nil, List.getLast?_append, List.getLast?_singleton, Option.some_or] at h
      cases hd : dg y.t.toNat with
      | nil => exact dg_ne _ hd
      | cons c l =>
        unfold refText at h
        rw [hd] at h
        simp at h
    · exfalso
      simp only [rtxt, List.getLast?_nil, List.getLast?_append, List.getLast?_singleton, Option.some_or] at h
      cases hd : dg x.t.toNat with
      | nil => exact dg_ne _ hd
      | cons c l =>
        unfold refText at h
        rw [hd] at h
        simp at h
    · simp only [rtxt, List.getLast?_append, List.getLast?_singleton, Option.some_or] at h
      obtain ⟨h1, h2, h3⟩ := (refText_eq (e := e) (hL.t0 x (by simp)) (hM.t0 y (by simp))).1 h
      rw [absL_snoc, absL_snoc]
      exact ⟨⟨⟨⟨⟨⟨rfl, rfl⟩, rfl⟩, rfl⟩, by simpa [ByteArray.toList_eq] using h2⟩, h1⟩, (fresh_eq hs.e2).2 h3⟩
theorem chEq_self (c : Chn) : chEq c c = true := by simp [chEq]
end Go.Proofs.Ytdfjjhpnhaggjaa
