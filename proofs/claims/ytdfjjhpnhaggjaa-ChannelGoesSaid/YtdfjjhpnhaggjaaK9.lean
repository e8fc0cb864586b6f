/- A table's own methods: At, Send, Receive, Waiting. -/
import Derived.Test.YtdfjjhpnhaggjaaK8
import Derived.RegionCalls
import Derived.StillTactics
namespace Go.Proofs.Ytdfjjhpnhaggjaa
open Go.RowKit Go.Mem

/-- Which channel an end is the source of; which one it reads, and as which reader. -/
def srcOf (P : List Item) (k : Int × Int) : Option Item := P.find? fun p => (p.c.guest, p.c.port) == k
theorem look_outs (P : List Item) (k : Int × Int) : look (outs P) k = (srcOf P k).map fun p => .agg #[p.v] := by
  induction P with
  | nil => rfl
  | cons p P ih =>
    unfold look outs srcOf at *
    rw [List.map_cons, List.find?_cons, List.find?_cons]
    cases (p.c.guest, p.c.port) == k
    · simp only; exact ih
    · simp only; rfl
def inAt (k : Int × Int) : List (Int × Int) → Nat → Option Nat
  | [], _ => none
  | x :: E, n => if x == k then some n else inAt k E (n + 1)
def dstOf : List Item → (Int × Int) → Option (Item × Nat)
  | [], _ => none
  | p :: P, k => match inAt k p.c.to 0 with | some i => some (p, i) | none => dstOf P k
theorem look_append (a b : List ((Int × Int) × Value)) (k : Int × Int) : look (a ++ b) k = (look a k).or (look b k) := by
  unfold look
  rw [List.find?_append]
  cases a.find? (fun p => p.1 == k) <;> rfl
theorem look_insTo (v : Value) (k : Int × Int) : ∀ (E : List (Int × Int)) (n : Nat), look ((E.zipIdx n).map fun q => (q.1, Value.agg #[v, .int .i64 (q.2 : Nat)])) k = (inAt k E n).map fun i => .agg #[v, .int .i64 (i : Nat)]
  | [], n => by simp [look, inAt]
  | x :: E, n => by
    have ih := look_insTo v k E (n + 1)
    unfold look at *
    rw [List.zipIdx_cons, List.map_cons, List.find?_cons, inAt]
    cases x == k
    · simp only [Bool.false_eq_true, if_false]
      exact ih
    · simp
theorem look_ins (k : Int × Int) : ∀ P : List Item, look (ins P) k = (dstOf P k).map fun r => .agg #[r.1.v, .int .i64 (r.2 : Nat)]
  | [] => rfl
  | p :: P => by
    have h1 := look_ins k P
    have h2 := look_insTo p.v k p.c.to 0
    unfold ins at h1 ⊢
    rw [List.flatMap_cons, look_append, h1]
    unfold insTo
    rw [h2, dstOf]
    cases inAt k p.c.to 0 <;> rfl

theorem Tab.upd {w w' : World} {fp : List Nat} {T : Nat} {g now : Int} {m : List Bool} {P : List Item} {S : List Nat} (h : Tab w fp T g now m P) (hu : Upd S w w') (hS : ∀ k ∈ fp, k ∉ S) : Tab w' fp T g now m P := by
  obtain ⟨ways, bo, bi, h1, h2, h3, rfl⟩ := h.ex
  exact ⟨⟨ways, bo, bi, h1.upd hu (hS _ (by simp)), h2.upd hu (hS _ (by simp)), h3.upd hu (hS _ (by simp)), rfl⟩, fun p hp => (h.is p hp).upd hu (hS _ (by simp; exact .inr (.inr (.inr ⟨p, hp, rfl⟩)))), h.nd⟩
def Item.put (p : Item) (y : Way) : Item := { p with y := y }
theorem map_set_same {α β : Type} (f : α → β) {P : List α} {i : Nat} {p q : α} (hi : P[i]? = some p) (hf : f q = f p) : (P.set i q).map f = P.map f := by
  obtain ⟨h, rfl⟩ := List.getElem?_eq_some_iff.1 hi
  rw [List.map_set, hf]
  apply List.ext_getElem?
  intro j
  rw [List.getElem?_set]
  split
  · rename_i e; subst e
    simp [h]
  · rfl
theorem Tab.step {w w' : World} {fp : List Nat} {T : Nat} {g now : Int} {m : List Bool} {P : List Item} (h : Tab w fp T g now m P) {i : Nat} {p : Item} (hi : P[i]? = some p) {y : Way} (hu : Upd [p.b] w w') (hy : y.Is w' p.b) (ht : y.ty = p.y.ty) :
    Tab w' fp T g now m (P.set i (p.put y)) := by
  obtain ⟨ways, bo, bi, h1, h2, h3, rfl⟩ := h.ex
  have hp := h.is p (List.mem_of_getElem? hi)
  have ho : outs (P.set i (p.put y)) = outs P := map_set_same _ hi (by simp [Item.put, Item.v, ht])
  have hn : ins (P.set i (p.put y)) = ins P := by
    unfold ins
    rw [List.flatMap_def, List.flatMap_def, map_set_same _ hi (by simp [Item.put, Item.v, ht])]
  have hb : (P.set i (p.put y)).map Item.b = P.map Item.b := map_set_same _ hi rfl
  refine ⟨⟨ways, bo, bi, h1.upd hu (by simpa using (hp.ne h1 (by decide) (by decide)).symm), by rw [ho]; exact h2.upd hu (by simpa using (hp.ne_map h2).symm), by rw [hn]; exact h3.upd hu (by simpa using (hp.ne_map h3).symm), by rw [hb]⟩, ?_, by rw [hb]; exact h.nd⟩
  intro q hq
  obtain ⟨j, hj⟩ := List.mem_iff_getElem?.1 hq
  rw [List.getElem?_set] at hj
  split at hj
  · split at hj
    · cases hj; exact hy
    · cases hj
  · rename_i hne
    have hqm := h.is q (List.mem_of_getElem? hj)
    refine hqm.upd hu ?_
    have hnd := h.nd
    intro hm
    simp only [List.mem_singleton] at hm
    have e1 : (P.map Item.b)[j]? = some q.b := by rw [List.getElem?_map, hj]; rfl
    have e2 : (P.map Item.b)[i]? = some p.b := by rw [List.getElem?_map, hi]; rfl
    have hil : i < (P.map Item.b).length := (List.getElem?_eq_some_iff.1 e2).1
    exact hne ((List.getElem?_inj hil hnd).1 (by rw [e1, e2, hm]))
end Go.Proofs.Ytdfjjhpnhaggjaa
