/- A slice that is appended to and resliced from its head; a slice of such slices. No program in sight. -/
import Derived.Test.YtdfjjhpnhaggjaaD3
import Derived.ArgAppend
namespace Go.Proofs.Ytdfjjhpnhaggjaa
open Go.RowKit Go.Mem

/-- A slice whose elements are one cell each, in a block of the call's own, from some place on. -/
def OwnAt (w : World) (e : TypeId) (v : Value) (xs : List Value) : Prop :=
  (v = .slice none 0 0 ∧ xs = []) ∨ ∃ b pre junk cap, v = .slice (some ⟨b, pre.length, none⟩) xs.length cap ∧ Blk w b (pre ++ xs ++ junk) e ∧ xs.length ≤ cap ∧ cap ≤ (xs ++ junk).length ∧ cap ≤ maxLen

theorem OwnAt.lt {w : World} {e : TypeId} {v : Value} {xs : List Value} (h : OwnAt w e v xs) : ∀ k ∈ bl v, k < w.heap.size := by
  rcases h with ⟨rfl, -⟩ | ⟨b, pre, junk, cap, rfl, hb, -⟩
  · simp [bl, Value.ownBlock]
  · intro k hk
    obtain rfl : k = b := by simpa [bl, Value.ownBlock] using hk
    exact hb.lt
theorem OwnAt.upd {w w' : World} {e : TypeId} {v : Value} {xs : List Value} {S : List Nat} (h : OwnAt w e v xs) (hu : Upd S w w') (hn : ∀ k ∈ bl v, k ∉ S) : OwnAt w' e v xs := by
  rcases h with h | ⟨b, pre, junk, cap, rfl, hb, r⟩
  · exact .inl h
  · exact .inr ⟨b, pre, junk, cap, rfl, hb.upd hu (hn b (by simp [bl, Value.ownBlock])), r⟩
theorem OwnAt.cell {w : World} {e : TypeId} {b off n cap : Nat} {xs : List Value} (h : OwnAt w e (.slice (some ⟨b, off, none⟩) n cap) xs) {i : Nat} {u : Value} (hu : xs[i]? = some u) : w.cell? ⟨b, off + i, none⟩ = some u := by
  rcases h with ⟨h, -⟩ | ⟨b', pre, junk, cap', hv, hb, r⟩
  · cases h
  · cases hv
    refine hb.at _ ?_
    have hi := (List.getElem?_eq_some_iff.1 hu).1
    rw [List.append_assoc, List.getElem?_append_right (by omega), List.getElem?_append_left (by omega)]
    simpa using hu
theorem OwnAt.form {w : World} {e : TypeId} {v : Value} {xs : List Value} (h : OwnAt w e v xs) : ∃ a cap, v = .slice a xs.length cap ∧ xs.length ≤ cap ∧ (xs ≠ [] → ∃ b off, a = some ⟨b, off, none⟩) := by
  rcases h with ⟨rfl, rfl⟩ | ⟨b, pre, junk, cap, rfl, hb, h1, h2, h3⟩
  · exact ⟨none, 0, rfl, Nat.le_refl _, fun h => absurd rfl h⟩
  · exact ⟨_, cap, rfl, h1, fun _ => ⟨_, _, rfl⟩⟩
/-- Without its first element. -/
theorem OwnAt.tail {w : World} {e : TypeId} {b off n cap : Nat} {x : Value} {xs : List Value} (h : OwnAt w e (.slice (some ⟨b, off, none⟩) n cap) (x :: xs)) :
    n = xs.length + 1 ∧ n ≤ cap ∧ cap ≤ maxLen ∧ (cap = 1 → OwnAt w e (.slice (some ⟨b, off, none⟩) (n - 1) (cap - 1)) xs) ∧ OwnAt w e (.slice (some ⟨b, off + 1, none⟩) (n - 1) (cap - 1)) xs := by
  rcases h with ⟨h, -⟩ | ⟨b', pre, junk, cap', hv, hb, h1, h2, h3⟩
  · cases h
  · cases hv
    refine ⟨rfl, h1, h3, fun hc => ?_, ?_⟩
    · simp only [List.length_cons] at h1
      obtain rfl : xs = [] := List.eq_nil_of_length_eq_zero (by omega)
      exact .inr ⟨b, pre, [x] ++ junk, cap - 1, by simp, by simpa using hb, by simp, by omega, by omega⟩
    · simp only [List.length_cons] at h1
      simp only [List.length_append, List.length_cons] at h2
      exact .inr ⟨b, pre ++ [x], junk, cap - 1, by simp, by simpa using hb, by omega, by simp; omega, by omega⟩

theorem own_blk2 {w : World} {base : Nat} {e : TypeId} {n : Nat} {v : Value} {xs : List Value} (h : w.ownsRow base e 1 v n xs) : OwnAt w e v xs ∧ ∀ k ∈ bl v, base ≤ k := by
  obtain ⟨h1, ⟨rfl, h2⟩ | ⟨g, cap, cur, rfl, hb, hg, hn, hc, hs, ht⟩⟩ := h
  · refine ⟨.inl ⟨rfl, ?_⟩, by simp [bl, Value.ownBlock]⟩
    subst h2
    exact List.eq_nil_of_length_eq_zero (by simpa using h1)
  · refine ⟨.inr ⟨g, [], cur.toList.drop n, cap, ?_, ?_, ?_, ?_, hc⟩, ?_⟩
    · simp at h1; rw [h1]; rfl
    · unfold Blk
      rw [Nat.mul_one] at ht
      rw [List.nil_append, ← ht, List.take_append_drop]
      simpa using hg
    · simp at h1; omega
    · rw [Nat.mul_one] at ht
      rw [← ht, List.take_append_drop]
      simp at hs
      simp [hs]
    · intro k hk
      obtain rfl : k = g := by simpa [bl, Value.ownBlock] using hk
      exact hb

/-- APPEND OF ONE. -/
theorem run_append_at {P : Program} {w : World} (t ty e : TypeId) {i : TypeInfo} {z : Value} {bytes : Nat} (ht : P.underlying t = some (.slice e)) (hi : P.info? e = some i) (hz : i.zero = some z) (hsize : i.size = 1) (hby : i.bytes = bytes) (hzs : z.cells.size = 1)
    {v : Value} {xs : List Value} (h : OwnAt w e v xs) (ad : Addr) (u : Value) (hu : w.cell? ad = some u) (h1 : u.oneCell' = true) (h63 : xs.length + 1 ≤ maxLen) (hbytes : (xs.length + 1) * bytes ≤ 140737488355328) :
    ∃ v' w', (Builtin.append_ #[t, t] ty #[v, .slice (some ad) 1 1]).run P w = .ok v' w' ∧ OwnAt w' e v' (xs ++ [u]) ∧ Upd (bl v) w w' ∧ (∀ k ∈ bl v', k ∈ bl v ∨ w.heap.size ≤ k) ∧ v'.oneCell' = true := by
  have one : ∀ {v' : Value} {w' : World}, OwnAt w' e v' (xs ++ [u]) → v'.oneCell' = true := by
    intro v' w' h
    obtain ⟨a, cap, rfl, -⟩ := h.form
    rfl
  have hnews : ∀ j x, [u][j]? = some x → w.cell? (ad.add j) = some x := by
    intro j x hx
    match j, hx with
    | 0, hx => simp at hx; subst hx; simpa [Addr.add] using hu
    | j + 1, hx => simp at hx
  rcases h with ⟨rfl, rfl⟩ | ⟨b, pre, junk, cap, rfl, hb, h2, h3, h4⟩
  · obtain ⟨g, cp, w', hr, ho, hg, hgg, hlt⟩ := run_append_lies (P := P) w t ty w.heap.size e i z 1 bytes ht hi hz hsize hby hzs (by decide) (.slice none 0 0) 0 [] (World.ownsRow_nil w _ e 1) ad 1 1 [u] rfl hnews (by intro x hx; simp at hx; subst hx; exact h1) (by decide) (by simpa using h63) (by simpa using hbytes) (Nat.le_refl _) _ rfl
    obtain ⟨k1, k2⟩ := own_blk2 ho
    exact ⟨_, w', hr, k1, (Upd.refl _ _).grown hg (by simp [Value.ownBlock]), fun k hk => .inr (k2 k hk), one k1⟩
  · by_cases hroom : xs.length + 1 ≤ cap
    · have hr := run_append_room_cells (P := P) w t ty e i ht hi b pre.length xs.length cap ad 1 1 [u] (by simp [hsize]) hnews (by intro x hx; simp at hx; subst hx; exact h1) hroom
        (by intro j hj; simp at hj; subst hj; rw [hsize, hb.at (pre.length + xs.length * 1 + 0) (List.getElem?_eq_getElem (by simp at h3 ⊢; omega))]; rfl) (by intro j hj; exact hb.free _)
      refine ⟨_, _, hr, ?_, ?_, fun k hk => .inl hk, rfl⟩
      · cases junk with
        | nil => simp at h3; omega
        | cons j junk =>
          refine .inr ⟨b, pre, junk, cap, by simp, ?_, by simpa using hroom, by simpa using h3, h4⟩
          have := Blk.setCells (T := e) [u] (pre.length + xs.length * i.size) hb (by simp [hsize]; omega)
          rw [hsize, Nat.mul_one] at this ⊢
          have e1 : (pre ++ xs ++ j :: junk).take (pre.length + xs.length) = pre ++ xs := by
            rw [← List.length_append]; exact List.take_left
          have e2 : (pre ++ xs ++ j :: junk).drop (pre.length + xs.length + [u].length) = junk := by
            rw [← List.length_append, List.drop_append]; simp
          rw [e1, e2] at this
          simpa using this
      · exact Upd.setCells (.inl (by simp [bl, Value.ownBlock])) _ _ (Upd.refl _ _)
    · obtain ⟨v', w', hr, ho, hg⟩ := run_append_arg_grows (P := P) w t ty e i z 1 bytes ht hi hz hsize hby hzs (by decide) ⟨b, pre.length, none⟩ xs.length cap xs (by simp) (by
          intro j x hx
          have hj := (List.getElem?_eq_some_iff.1 hx).1
          rw [Addr.add_mid]
          refine hb.at _ ?_
          rw [List.append_assoc, List.getElem?_append_right (by omega), List.getElem?_append_left (by omega)]
          simpa using hx) ad 1 1 [u] rfl hnews (by omega) h63 hbytes
      obtain ⟨k1, k2⟩ := own_blk2 ho
      exact ⟨v', w', hr, k1, (Upd.refl _ _).grown hg (by simp), fun k hk => .inr (k2 k hk), one k1⟩

/-- At an append whose run is known: at a step of a region that draws its order. -/
theorem step_append_run {P : Program} {w : World} {ops : Array Oper} {o : Oper} {a : Act} {K : Act → World → Prop} {Q : Exit → Act → World → Prop} {E : Prop} (hgd : o.guard = none) (s x : Operand) (t : TypeId)
    (ho : o.op = .call { callee := .builtin .append, args := #[s, x], argTypes := #[t, t] }) (v u v' : Value) (w' : World) (hs : a.eval s = v) (hx : a.eval x = u)
    (hr : (Builtin.append_ #[t, t] o.type #[v, u]).run P w = .ok v' w') (h : K (a.put o.dst v') w') : if Region.wanted o (yielded ops a.tmps) = true then Oper.wp P o a w K Q else E := by
  have hw : Region.wanted o (yielded ops a.tmps) = true := by simp [Region.wanted, hgd]
  rw [if_pos hw]
  unfold Oper.wp execOp
  simp only [ho, resolve, invoke, builtin, Sem.run_bind, Sem.run_pure, Result.andThen_ok, List.map_toArray, List.map_cons, List.map_nil, hs, hx, hr]
  exact h

/-- A slice of such slices of strings, apart from all else. -/
structure Sent (w : World) (S : Nat) (vs : List Value) (L : List (List ByteArray)) (fp : List Nat) (lo : Nat) : Prop where
  blk : Blk w S vs 67
  len : vs.length = L.length
  own : ∀ (i : Nat) v ss, vs[i]? = some v → L[i]? = some ss → OwnAt w 9 v (ss.map .string)
  ne : ∀ (i j : Nat) u v, i ≠ j → vs[i]? = some u → vs[j]? = some v → ∀ x ∈ bl u, x ∉ bl v
  far : ∀ (i : Nat) v, vs[i]? = some v → ∀ x ∈ bl v, x ≠ S ∧ x ∉ fp ∧ lo ≤ x
  sfp : S ∉ fp
  slo : lo ≤ S

theorem Sent.upd {w w' : World} {S lo : Nat} {vs : List Value} {L : List (List ByteArray)} {fp U : List Nat} (h : Sent w S vs L fp lo) (hu : Upd U w w') (hU : ∀ x ∈ U, x ∈ fp ∨ w.heap.size ≤ x) : Sent w' S vs L fp lo := by
  have key : ∀ x, x ∉ fp → x < w.heap.size → x ∉ U := fun x h1 h2 hm => by rcases hU x hm with h | h; exact h1 h; omega
  refine ⟨h.blk.upd hu (key S h.sfp h.blk.lt), h.len, fun i v ss hv hs => ?_, h.ne, h.far, h.sfp, h.slo⟩
  have ho := h.own i v ss hv hs
  exact ho.upd hu (fun x hx => key x (h.far i v hv x hx).2.1 (ho.lt x hx))
/-- The slice at one place is another one now. -/
theorem Sent.put {w w' : World} {S lo : Nat} {vs : List Value} {L : List (List ByteArray)} {fp : List Nat} (h : Sent w S vs L fp lo) {i : Nat} {v v' : Value} (hv : vs[i]? = some v) {ss' : List ByteArray} (ho : OwnAt w' 9 v' (ss'.map .string))
    (hu : Upd (bl v) w w') (hb : ∀ k ∈ bl v', k ∈ bl v ∨ w.heap.size ≤ k) (hfp : ∀ k ∈ fp, k < w.heap.size) (hlo : lo ≤ w.heap.size) : Sent (w'.setCell ⟨S, i, none⟩ v') S (vs.set i v') (L.set i ss') fp lo := by
  have hf := h.far i v hv
  have hS : S ∉ bl v := fun hm => (hf S hm).1 rfl
  have hbS := h.blk.upd hu hS
  have hi := (List.getElem?_eq_some_iff.1 hv).1
  have hSl := h.blk.lt
  have hvS : ∀ k ∈ bl v', k ≠ S := fun k hk e => by
    subst e
    rcases hb _ hk with h1 | h1
    · exact hS h1
    · omega
  have hu2 : Upd [S] w' (w'.setCell ⟨S, i, none⟩ v') := (Upd.refl _ _).setCell (.inl (by simp)) _
  have old : ∀ (j : Nat) u, j ≠ i → vs[j]? = some u → ∀ x ∈ bl u, x ∉ bl v' := by
    intro j u hj hu' x hx hm
    obtain ⟨ss, hss⟩ : ∃ ss, L[j]? = some ss := ⟨_, List.getElem?_eq_getElem (by have := (List.getElem?_eq_some_iff.1 hu').1; rw [← h.len]; exact this)⟩
    rcases hb x hm with h1 | h1
    · exact h.ne j i u v hj hu' hv x hx h1
    · have := (h.own j u ss hu' hss).lt x hx
      omega
  refine ⟨hbS.setCell i v', by simpa using h.len, ?_, ?_, ?_, h.sfp, h.slo⟩
  · intro j u ss hj hs
    rw [List.getElem?_set] at hj hs
    by_cases e : i = j
    · subst e
      rw [if_pos rfl, if_pos hi] at hj
      rw [if_pos rfl, if_pos (by rw [← h.len]; exact hi)] at hs
      cases hj; cases hs
      exact ho.upd hu2 (fun x hx hm => by simp at hm; exact hvS x hx hm)
    · rw [if_neg e] at hj hs
      have h1 := h.own j u ss hj hs
      refine (h1.upd hu (fun x hx => ?_)).upd hu2 (fun x hx hm => ?_)
      · exact h.ne j i u v (fun e' => e e'.symm) hj hv x hx
      · simp at hm; exact (h.far j u hj x hx).1 hm
  · intro j k a b hjk ha hb' x hx
    rw [List.getElem?_set] at ha hb'
    by_cases e : i = j
    · subst e
      rw [if_pos rfl, if_pos hi] at ha
      rw [if_neg hjk] at hb'
      cases ha
      intro hm
      exact old k b (fun e' => hjk e'.symm) hb' x hm hx
    · rw [if_neg e] at ha
      by_cases e2 : i = k
      · subst e2
        rw [if_pos rfl, if_pos hi] at hb'
        cases hb'
        exact old j a (fun e' => e e'.symm) ha x hx
      · rw [if_neg e2] at hb'
        exact h.ne j k a b hjk ha hb' x hx
  · intro j u hj x hx
    rw [List.getElem?_set] at hj
    by_cases e : i = j
    · subst e
      rw [if_pos rfl, if_pos hi] at hj
      cases hj
      refine ⟨hvS x hx, ?_, ?_⟩
      · rcases hb x hx with h1 | h1
        · exact (hf x h1).2.1
        · intro hm; have := hfp x hm; omega
      · rcases hb x hx with h1 | h1
        · exact (hf x h1).2.2
        · omega
    · rw [if_neg e] at hj
      exact h.far j u hj x hx
theorem Sent.start {w : World} {S n : Nat} {fp : List Nat} {lo : Nat} (h : Blk w S (List.replicate n (.slice none 0 0)) 67) (hS : S ∉ fp) (hlo : lo ≤ S) : Sent w S (List.replicate n (.slice none 0 0)) (List.replicate n []) fp lo := by
  have hn : ∀ (i : Nat) v, (List.replicate n (Value.slice none 0 0))[i]? = some v → v = .slice none 0 0 := fun i v hv => by
    rw [List.getElem?_replicate] at hv
    split at hv
    · cases hv; rfl
    · cases hv
  refine ⟨h, by simp, ?_, ?_, ?_, hS, hlo⟩
  · intro i v ss hv hs
    rw [hn i v hv]
    rw [List.getElem?_replicate] at hs
    split at hs
    · cases hs; exact .inl ⟨rfl, rfl⟩
    · cases hs
  · intro i j u v _ hu _ x hx
    rw [hn i u hu] at hx
    simp [bl, Value.ownBlock] at hx
  · intro i v hv x hx
    rw [hn i v hv] at hx
    simp [bl, Value.ownBlock] at hx
end Go.Proofs.Ytdfjjhpnhaggjaa
