/- The plain law of messages: what is received was sent, of a queue in order, of a sampling channel the last. -/
import Derived.Test.YtdfjjhpnhaggjaaK33
import Derived.Test.YtdfjjhpnhaggjaaK34
namespace Go.Proofs.Ytdfjjhpnhaggjaa
open Go.RowKit Go.Mem

/-- A queue's messages, in order. -/
def qat (q : Qu) (j : Nat) : ByteArray := q.ring.getD ((q.first + (j : Nat)) % q.depth).toNat ⟨#[]⟩
def qlist (q : Qu) : List ByteArray := (List.range q.many.toNat).map (qat q)

theorem wrapI {a d : Int} (h0 : 0 ≤ a) (h1 : a < 2 * d) : a % d = if a < d then a else a - d := by
  split
  · rename_i h; exact Int.emod_eq_of_lt h0 h
  · rename_i h
    rw [← Int.sub_emod_right, Int.emod_eq_of_lt (by omega) (by omega)]
theorem getD_set_ne {l : List ByteArray} {i j : Nat} {x d : ByteArray} (h : i ≠ j) : (l.set i x).getD j d = l.getD j d := by
  rw [List.getD_eq_getElem?_getD, List.getD_eq_getElem?_getD, List.getElem?_set, if_neg h]
theorem getD_set_eq {l : List ByteArray} {i : Nat} {x d : ByteArray} (h : i < l.length) : (l.set i x).getD i d = x := by
  rw [List.getD_eq_getElem?_getD, List.getElem?_set, if_pos rfl, if_pos h]; rfl

theorem qlist_send {q : Qu} (h : q.Ok) (s : ByteArray) (hm : q.many ≠ q.depth) : qlist { q with ring := q.ring.set ((q.first + q.many) % q.depth).toNat s, many := q.many + 1 } = qlist q ++ [s] := by
  have f0 := h.f0; have f1 := h.f1; have n0 := h.n0; have n1 := h.n1; have d1 := h.d1; have d2 := h.d2; have r := h.r
  unfold qlist
  simp only
  rw [show (q.many + 1).toNat = q.many.toNat + 1 by omega, List.range_succ, List.map_append]
  have hw : (q.first + q.many) % q.depth = if q.first + q.many < q.depth then q.first + q.many else q.first + q.many - q.depth := wrapI (by omega) (by omega)
  congr 1
  · apply List.map_congr_left
    intro j hj
    simp at hj
    unfold qat
    simp only
    rw [getD_set_ne]
    have hw2 : (q.first + (j : Nat)) % q.depth = if q.first + (j : Nat) < q.depth then q.first + (j : Nat) else q.first + (j : Nat) - q.depth := wrapI (by omega) (by omega)
    rw [hw, hw2]
    split <;> split <;> omega
  · simp only [List.map_cons, List.map_nil]
    unfold qat
    simp only
    have e : ((q.first + (q.many.toNat : Nat)) % q.depth).toNat = ((q.first + q.many) % q.depth).toNat := by
      rw [Int.toNat_of_nonneg n0]
    rw [e, getD_set_eq]
    rw [hw, r]
    split <;> omega
theorem qlist_recv {q : Qu} (h : q.Ok) (hm : q.many ≠ 0) : qlist q = q.ring.getD q.first.toNat ⟨#[]⟩ :: qlist { q with ring := q.ring.set q.first.toNat ⟨#[]⟩, first := (q.first + 1) % q.depth, many := q.many - 1 } := by
  have f0 := h.f0; have f1 := h.f1; have n0 := h.n0; have n1 := h.n1; have d1 := h.d1; have d2 := h.d2; have r := h.r
  unfold qlist
  simp only
  obtain ⟨n, hn⟩ : ∃ n : Nat, q.many.toNat = n + 1 := ⟨q.many.toNat - 1, by omega⟩
  rw [hn, show (q.many - 1).toNat = n by omega, List.range_succ_eq_map, List.map_cons, List.map_map]
  congr 1
  · unfold qat
    rw [show q.first + ((0 : Nat) : Int) = q.first by simp, Int.emod_eq_of_lt f0 f1]
  · apply List.map_congr_left
    intro j hj
    simp at hj
    unfold qat
    simp only [Function.comp]
    have hw : (q.first + 1) % q.depth = if q.first + 1 < q.depth then q.first + 1 else q.first + 1 - q.depth := wrapI (by omega) (by omega)
    have hw2 : (q.first + ((j.succ : Nat) : Int)) % q.depth = if q.first + ((j.succ : Nat) : Int) < q.depth then q.first + ((j.succ : Nat) : Int) else q.first + ((j.succ : Nat) : Int) - q.depth := wrapI (by omega) (by omega)
    have hw3 : ((q.first + 1) % q.depth + (j : Nat)) % q.depth = (q.first + ((j.succ : Nat) : Int)) % q.depth := by
      rw [Int.add_emod, Int.emod_emod_of_dvd _ (Int.dvd_refl _), ← Int.add_emod]
      congr 1
      omega
    rw [hw3, getD_set_ne]
    rw [hw2]
    split <;> omega

/-- A channel and the messages that were sent by it and are not gone. -/
def Rel1 (p : Item) (ss : List ByteArray) : Prop := match p.y with
  | .smp c => (c.has = true ↔ ss ≠ []) ∧ (∀ s, ss.getLast? = some s → c.s = s) ∧ p.c.kind = 0 ∧ c.most = p.c.most ∧ c.ends = p.c.to.length
  | .que q => qlist q = ss ∧ p.c.kind = 1 ∧ q.most = p.c.most
def Rel (P : List Item) (L : List (List ByteArray)) : Prop := P.length = L.length ∧ ∀ (i : Nat) p ss, P[i]? = some p → L[i]? = some ss → Rel1 p ss

theorem pair_beq (a b : Int) (k : Int × Int) : ((a, b) == k) = ((a == k.1) && (b == k.2)) := rfl
theorem src_none {k : Int × Int} : ∀ {P : List Item}, srcI k (P.map Item.c) = none → srcOf P k = none
  | [], _ => rfl
  | p :: P, h => by
    unfold srcI at h
    rw [List.map_cons, List.findIdx?_cons] at h
    unfold srcOf
    rw [List.find?_cons, pair_beq]
    split at h
    · cases h
    · rename_i hk
      have hk' : ((p.c.guest == k.1) && (p.c.port == k.2)) = false := by simpa using hk
      rw [hk']
      simp only
      exact src_none (P := P) (by unfold srcI; cases hf : (P.map Item.c).findIdx? _ with | none => rfl | some i => rw [hf] at h; cases h)
theorem src_some {k : Int × Int} (now : Int) (s : ByteArray) : ∀ {P : List Item} {i : Nat}, srcI k (P.map Item.c) = some i → ∃ p, P[i]? = some p ∧ srcOf P k = some p ∧ psend k now s P = P.set i (p.put (p.y.sendW now s))
  | [], i, h => by simp [srcI] at h
  | p :: P, i, h => by
    unfold srcI at h
    rw [List.map_cons, List.findIdx?_cons] at h
    unfold srcOf psend
    rw [List.find?_cons, pair_beq]
    split at h
    · rename_i hk
      cases h
      rw [hk]
      exact ⟨p, rfl, rfl, by rw [if_pos rfl]; rfl⟩
    · rename_i hk
      have hk' : ((p.c.guest == k.1) && (p.c.port == k.2)) = false := by simpa using hk
      rw [hk', if_neg (by decide)]
      simp only
      cases hf : (P.map Item.c).findIdx? (fun c => (c.guest == k.1) && (c.port == k.2)) with
      | none => rw [hf] at h; cases h
      | some j =>
        rw [hf] at h
        simp at h
        subst h
        obtain ⟨q, h1, h2, h3⟩ := src_some now s (P := P) (i := j) hf
        refine ⟨q, h1, h2, ?_⟩
        rw [h3]; rfl
theorem inAt_any {k : Int × Int} : ∀ (E : List (Int × Int)) (n : Nat), if (E.any fun x => (x.1 == k.1) && (x.2 == k.2)) = true then ∃ j, inAt k E n = some j ∧ n ≤ j ∧ j < n + E.length else inAt k E n = none
  | [], n => by simp [inAt]
  | x :: E, n => by
    have ih := inAt_any (k := k) E (n + 1)
    rw [List.any_cons]
    unfold inAt
    rw [show (x == k) = ((x.1 == k.1) && (x.2 == k.2)) from rfl]
    cases hx : (x.1 == k.1) && (x.2 == k.2)
    · rw [Bool.false_or, if_neg (by decide : ¬ (false = true))]
      split at ih
      · rename_i h
        obtain ⟨j, h1, h2, h3⟩ := ih
        rw [if_pos h]
        exact ⟨j, h1, by omega, by simp; omega⟩
      · rename_i h
        rw [if_neg h]; exact ih
    · rw [Bool.true_or, if_pos rfl, if_pos rfl]
      exact ⟨n, rfl, Nat.le_refl _, by simp⟩
theorem dst_none {k : Int × Int} : ∀ {P : List Item}, dstI k (P.map Item.c) = none → dstOf P k = none
  | [], _ => rfl
  | p :: P, h => by
    unfold dstI at h
    rw [List.map_cons, List.findIdx?_cons] at h
    have hi := inAt_any (k := k) p.c.to 0
    unfold dstOf
    split at h
    · cases h
    · rename_i hk
      rw [if_neg hk] at hi
      rw [hi]
      simp only
      exact dst_none (P := P) (by unfold dstI; cases hf : (P.map Item.c).findIdx? _ with | none => rfl | some i => rw [hf] at h; cases h)
theorem dst_some {k : Int × Int} : ∀ {P : List Item} {i : Nat}, dstI k (P.map Item.c) = some i → ∃ p n, P[i]? = some p ∧ dstOf P k = some (p, n) ∧ n < p.c.to.length ∧ precv k P = P.set i (p.put (p.y.recvW n))
  | [], i, h => by simp [dstI] at h
  | p :: P, i, h => by
    unfold dstI at h
    rw [List.map_cons, List.findIdx?_cons] at h
    have hi := inAt_any (k := k) p.c.to 0
    unfold dstOf precv
    split at h
    · rename_i hk
      cases h
      rw [if_pos hk] at hi
      obtain ⟨j, h1, h2, h3⟩ := hi
      rw [h1]
      exact ⟨p, j, rfl, rfl, by omega, rfl⟩
    · rename_i hk
      rw [if_neg hk] at hi
      rw [hi]
      simp only
      cases hf : (P.map Item.c).findIdx? (fun c => c.to.any fun x => (x.1 == k.1) && (x.2 == k.2)) with
      | none => rw [hf] at h; cases h
      | some j =>
        rw [hf] at h
        simp at h
        subst h
        obtain ⟨q, n, h1, h2, h3, h4⟩ := dst_some (P := P) (i := j) hf
        refine ⟨q, n, h1, h2, h3, ?_⟩
        rw [h4]; rfl

theorem Rel.set {P : List Item} {L : List (List ByteArray)} (h : Rel P L) (i : Nat) {p : Item} {ss : List ByteArray} (h1 : Rel1 p ss) : Rel (P.set i p) (L.set i ss) := by
  refine ⟨by simpa using h.1, fun j q tt hq ht => ?_⟩
  rw [List.getElem?_set] at hq ht
  by_cases e : i = j
  · subst e
    rw [if_pos rfl] at hq ht
    split at hq
    · split at ht
      · cases hq; cases ht; exact h1
      · cases ht
    · cases hq
  · rw [if_neg e] at hq ht
    exact h.2 j q tt hq ht
theorem set_self {α : Type} {L : List α} {i : Nat} {x : α} (h : L[i]? = some x) : L.set i x = L := by
  obtain ⟨hi, rfl⟩ := List.getElem?_eq_some_iff.1 h
  exact List.set_getElem_self hi
theorem Rel.get {P : List Item} {L : List (List ByteArray)} (h : Rel P L) {i : Nat} {p : Item} (hp : P[i]? = some p) : ∃ ss, L[i]? = some ss ∧ Rel1 p ss := by
  obtain ⟨ss, hs⟩ : ∃ ss, L[i]? = some ss := ⟨_, List.getElem?_eq_getElem (by have := (List.getElem?_eq_some_iff.1 hp).1; rw [← h.1]; exact this)⟩
  exact ⟨ss, hs, h.2 i p ss hp hs⟩

/-- A Send at a channel's source. -/
theorem rel_send {P : List Item} {L : List (List ByteArray)} (h : Rel P L) (hG : Good P) {k : Int × Int} {i : Nat} (hi : srcI k (P.map Item.c) = some i) (now : Int) (s : ByteArray) :
    ∃ p ss, P[i]? = some p ∧ L[i]? = some ss ∧ ((stSend k s P = 0 ∧ (s.size : Int) ≤ p.c.most ∧ Rel (psend k now s P) (L.set i (ss ++ [s]))) ∨ ((stSend k s P = 1 ∨ stSend k s P = 3) ∧ Rel (psend k now s P) L)) := by
  obtain ⟨p, hp, hs, hps⟩ := src_some now s hi
  obtain ⟨ss, hL, hr⟩ := h.get hp
  have hok := hG p (List.mem_of_getElem? hp)
  refine ⟨p, ss, hp, hL, ?_⟩
  have hst : stSend k s P = p.y.sendS s := by unfold stSend; rw [hs]
  rw [hst, hps]
  unfold Rel1 at hr
  cases hy : p.y with
  | smp c =>
    rw [hy] at hr
    simp only at hr
    obtain ⟨h1, h2, h3, h4, h5⟩ := hr
    unfold Way.sendS Way.sendW
    simp only
    split
    · right
      refine ⟨.inr rfl, ?_⟩
      have := h.set i (p := p.put (.smp c)) (ss := ss) (by unfold Rel1 Item.put; exact ⟨h1, h2, h3, h4, h5⟩)
      rwa [set_self hL] at this
    · rename_i hsz
      left
      refine ⟨rfl, by omega, h.set i ?_⟩
      unfold Rel1 Item.put
      exact ⟨by simp [Chn.put], by intro t ht; simp at ht; exact ht, h3, h4, h5⟩
  | que q =>
    rw [hy] at hr hok
    simp only at hr
    obtain ⟨h1, h2, h3⟩ := hr
    unfold Way.sendS Way.sendW
    simp only
    split
    · right
      refine ⟨.inr rfl, ?_⟩
      have := h.set i (p := p.put (.que q)) (ss := ss) (by unfold Rel1 Item.put; exact ⟨h1, h2, h3⟩)
      rwa [set_self hL] at this
    · split
      · right
        refine ⟨.inl rfl, ?_⟩
        have := h.set i (p := p.put (.que q)) (ss := ss) (by unfold Rel1 Item.put; exact ⟨h1, h2, h3⟩)
        rwa [set_self hL] at this
      · rename_i hsz hm
        left
        refine ⟨rfl, by omega, h.set i ?_⟩
        unfold Rel1 Item.put
        exact ⟨by rw [qlist_send hok s hm, h1], h2, h3⟩

/-- A Receive at a channel's destination. -/
theorem rel_recv {P : List Item} {L : List (List ByteArray)} (h : Rel P L) (hG : Good P) {k : Int × Int} {i : Nat} (hi : dstI k (P.map Item.c) = some i) (now : Int) :
    ∃ p ss, P[i]? = some p ∧ L[i]? = some ss ∧ ((ss = [] ∧ (stRecv k now P).st = 4 ∧ Rel (precv k P) L) ∨
      (ss ≠ [] ∧ p.c.kind = 0 ∧ ((stRecv k now P).st = 0 ∨ (stRecv k now P).st = 5) ∧ ss.getLast? = some (stRecv k now P).s ∧ Rel (precv k P) L) ∨
      (p.c.kind = 1 ∧ (stRecv k now P).st = 0 ∧ ∃ r, ss = (stRecv k now P).s :: r ∧ Rel (precv k P) (L.set i r))) := by
  obtain ⟨p, n, hp, hs, hn, hps⟩ := dst_some hi
  obtain ⟨ss, hL, hr⟩ := h.get hp
  have hok := hG p (List.mem_of_getElem? hp)
  refine ⟨p, ss, hp, hL, ?_⟩
  have hst : stRecv k now P = p.y.recvS n now := by unfold stRecv; rw [hs]
  rw [hst, hps]
  unfold Rel1 at hr
  cases hy : p.y with
  | smp c =>
    rw [hy] at hr
    simp only at hr
    obtain ⟨h1, h2, h3, h4, h5⟩ := hr
    unfold Way.recvS Way.recvW
    simp only
    have hw : whyI c n = if c.has then 0 else 10 := by unfold whyI; rw [if_neg (by omega), if_neg (by omega)]
    rw [hw]
    have hrel : ∀ c' : Chn, c'.has = c.has → c'.s = c.s → c'.most = c.most → c'.ends = c.ends → Rel (P.set i (p.put (.smp c'))) L := by
      intro c' e1 e2 e3 e4
      have := h.set i (p := p.put (.smp c')) (ss := ss) (by unfold Rel1 Item.put; simp only; rw [e1, e2, e3, e4]; exact ⟨h1, h2, h3, h4, h5⟩)
      rwa [set_self hL] at this
    cases hh : c.has
    · left
      have : ss = [] := by
        by_cases e : ss = []
        · exact e
        · rw [hh] at h1; exact absurd (h1.2 e) (by decide)
      refine ⟨this, rfl, ?_⟩
      simp only [Bool.false_eq_true, if_false]
      rw [if_neg (by decide)]
      exact hrel c rfl rfl rfl rfl
    · right; left
      simp only [if_true]
      have hne := h1.1 hh
      refine ⟨hne, h3, ?_, ?_, hrel _ rfl rfl rfl rfl⟩
      · split
        · exact .inr rfl
        · exact .inl rfl
      · obtain ⟨s, hs⟩ : ∃ s, ss.getLast? = some s := by
          cases hl : ss.getLast? with
          | none => rw [List.getLast?_eq_none_iff] at hl; exact absurd hl hne
          | some s => exact ⟨s, rfl⟩
        rw [hs, h2 s hs]
  | que q =>
    rw [hy] at hr hok
    simp only at hr
    obtain ⟨h1, h2, h3⟩ := hr
    unfold Way.recvS Way.recvW
    simp only
    split
    · rename_i hm
      left
      have hnil : ss = [] := by rw [← h1]; unfold qlist; rw [hm]; rfl
      refine ⟨hnil, rfl, ?_⟩
      have := h.set i (p := p.put (.que q)) (ss := ss) (by unfold Rel1 Item.put; exact ⟨h1, h2, h3⟩)
      rwa [set_self hL] at this
    · rename_i hm
      right; right
      refine ⟨h2, rfl, _, by rw [← h1]; exact qlist_recv hok hm, h.set i ?_⟩
      unfold Rel1 Item.put
      exact ⟨rfl, h2, h3⟩
end Go.Proofs.Ytdfjjhpnhaggjaa
