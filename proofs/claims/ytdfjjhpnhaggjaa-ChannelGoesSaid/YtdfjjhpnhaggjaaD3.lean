/- The reference's channel in memory; its Write. -/
import Derived.Test.YtdfjjhpnhaggjaaD2
import Derived.Deep.AppendLies
import Derived.Deep.DeepMust
namespace Go.Proofs.Ytdfjjhpnhaggjaa
open Go.RowKit Go.Mem

theorem cell_upd {S : List Nat} {w w' : World} (hu : Upd S w w') {b : Nat} (hb : b ∉ S) (hlt : b < w.heap.size) (i : Nat) {v : Value} (h : w.cell? ⟨b, i, none⟩ = some v) : w'.cell? ⟨b, i, none⟩ = some v := by
  rw [World.cell?_of_block (w := w) (hu.block b hlt hb)]; exact h
theorem free_upd {S : List Nat} {w w' : World} (hu : Upd S w w') {b : Nat} (hb : b ∉ S) (hlt : b < w.heap.size) (i : Nat) (h : w.frozen? ⟨b, i, none⟩ = false) : w'.frozen? ⟨b, i, none⟩ = false := by
  rw [World.frozen?_of_block (w := w) (hu.block b hlt hb)]; exact h

/-- The block that a slice owns. -/
def bl (v : Value) : List Nat := v.ownBlock.toList

theorem own_upd {w w' : World} {S : List Nat} {e sz n : Nat} {v : Value} {xs : List Value} (h : w.ownsRow 0 e sz v n xs) (hu : Upd S w w') (hn : ∀ k ∈ bl v, k ∉ S) : w'.ownsRow 0 e sz v n xs := by
  obtain ⟨h1, h2⟩ := h
  refine ⟨h1, ?_⟩
  rcases h2 with h2 | ⟨g, cap, cur, rfl, hb, hg, r⟩
  · exact .inl h2
  · refine .inr ⟨g, cap, cur, rfl, hb, ?_, r⟩
    have hlt : g < w.heap.size := (Array.getElem?_eq_some_iff.1 hg).1
    rw [hu.block g hlt (hn g (by simp [bl, Value.ownBlock]))]
    exact hg
theorem own_lt {w : World} {e sz n : Nat} {v : Value} {xs : List Value} (h : w.ownsRow 0 e sz v n xs) : ∀ k ∈ bl v, k < w.heap.size := by
  obtain ⟨h1, h2⟩ := h
  rcases h2 with ⟨rfl, _⟩ | ⟨g, cap, cur, rfl, hb, hg, r⟩
  · simp [bl, Value.ownBlock]
  · intro k hk
    obtain rfl : k = g := by simpa [bl, Value.ownBlock] using hk
    exact (Array.getElem?_eq_some_iff.1 hg).1
/-- An owned row, block and all. -/
theorem own_blk {w : World} {e sz n g cap : Nat} {xs : List Value} (h : w.ownsRow 0 e sz (.slice (some ⟨g, 0, none⟩) n cap) n xs) :
    ∃ junk, Blk w g (xs ++ junk) e ∧ n ≤ cap ∧ cap ≤ maxLen ∧ (xs ++ junk).length = cap * sz ∧ xs.length = n * sz := by
  obtain ⟨h1, ⟨h2, _⟩ | ⟨g', cap', cur, hv, _, hg, hn, hc, hs, ht⟩⟩ := h
  · cases h2
  · cases hv
    refine ⟨cur.toList.drop (n * sz), ?_, hn, hc, ?_, h1⟩
    · unfold Blk; rw [← ht, List.take_append_drop]; simpa using hg
    · rw [← ht, List.take_append_drop]; simpa using hs
theorem own_of_blk {w : World} {e sz n g cap : Nat} {xs junk : List Value} (h : Blk w g (xs ++ junk) e) (hn : n ≤ cap) (hc : cap ≤ maxLen) (hl : (xs ++ junk).length = cap * sz) (hx : xs.length = n * sz) :
    w.ownsRow 0 e sz (.slice (some ⟨g, 0, none⟩) n cap) n xs :=
  ⟨hx, .inr ⟨g, cap, (xs ++ junk).toArray, rfl, Nat.zero_le _, h, hn, hc, by simpa using hl, by simp [← hx]⟩⟩
theorem own_set {w : World} {e sz n g cap : Nat} {xs : List Value} (h : w.ownsRow 0 e sz (.slice (some ⟨g, 0, none⟩) n cap) n xs) (j : Nat) (hj : j < xs.length) (u : Value) :
    (w.setCell ⟨g, j, none⟩ u).ownsRow 0 e sz (.slice (some ⟨g, 0, none⟩) n cap) n (xs.set j u) := by
  obtain ⟨junk, hb, hn, hc, hl, hx⟩ := own_blk h
  have := hb.setCell j u
  rw [List.set_append_left _ _ hj] at this
  exact own_of_blk this hn hc (by simpa using hl) (by simpa using hx)

/-- A message that was written, and who read it since. -/
structure Wr where
  t : Int
  s : ByteArray
  reads : List Int

def flat : List Wr → List Value → List Value
  | x :: L, rv :: rvs => .int .u64 x.t :: .string x.s :: rv :: flat L rvs
  | _, _ => []
def RdsOk (w : World) : List Wr → List Value → Prop
  | [], [] => True
  | x :: L, rv :: rvs => w.ownsRow 0 3 1 rv x.reads.length (x.reads.map (.int .i64)) ∧ RdsOk w L rvs
  | _, _ => False
def RefIs (w : World) (fp : List Nat) (r : Nat) (m val e : Int) (L : List Wr) : Prop :=
  ∃ v rvs, Blk w r [.int .i64 m, .int .u32 val, .int .i64 e, v] 36 ∧ w.ownsRow 0 136 3 v L.length (flat L rvs) ∧ RdsOk w L rvs ∧ fp = r :: (bl v ++ rvs.flatMap bl) ∧ fp.Nodup

theorem RdsOk.upd {w w' : World} {S : List Nat} (hu : Upd S w w') : ∀ {L rvs}, RdsOk w L rvs → (∀ k ∈ rvs.flatMap bl, k ∉ S) → RdsOk w' L rvs
  | [], [], _, _ => trivial
  | x :: L, rv :: rvs, h, hn => ⟨own_upd h.1 hu (fun k hk => hn k (by simp [hk])), RdsOk.upd hu h.2 (fun k hk => hn k (by simp at hk ⊢; exact .inr hk))⟩
  | [], _ :: _, h, _ => h.elim
  | _ :: _, [], h, _ => h.elim
theorem RdsOk.lt {w : World} : ∀ {L rvs}, RdsOk w L rvs → ∀ k ∈ rvs.flatMap bl, k < w.heap.size
  | [], [], _, k, hk => by simp at hk
  | x :: L, rv :: rvs, h, k, hk => by
    rw [List.flatMap_cons] at hk
    rcases List.mem_append.1 hk with hk | hk
    · exact own_lt h.1 k hk
    · exact RdsOk.lt h.2 k hk
  | [], _ :: _, h, _, _ => h.elim
  | _ :: _, [], h, _, _ => h.elim
theorem RdsOk.len {w : World} : ∀ {L rvs}, RdsOk w L rvs → rvs.length = L.length
  | [], [], _ => rfl
  | x :: L, rv :: rvs, h => by simp [RdsOk.len h.2]
  | [], _ :: _, h => h.elim
  | _ :: _, [], h => h.elim
theorem RdsOk.snoc {w : World} {x : Wr} {rv : Value} (hx : w.ownsRow 0 3 1 rv x.reads.length (x.reads.map (.int .i64))) : ∀ {L rvs}, RdsOk w L rvs → RdsOk w (L ++ [x]) (rvs ++ [rv])
  | [], [], _ => ⟨hx, trivial⟩
  | _ :: _, _ :: _, h => ⟨h.1, RdsOk.snoc hx h.2⟩
  | [], _ :: _, h => h.elim
  | _ :: _, [], h => h.elim
theorem flat_snoc (x : Wr) (rv : Value) : ∀ {L rvs}, rvs.length = L.length → flat (L ++ [x]) (rvs ++ [rv]) = flat L rvs ++ [.int .u64 x.t, .string x.s, rv]
  | [], [], _ => rfl
  | _ :: L, _ :: rvs, h => by simp only [List.cons_append, flat, flat_snoc x rv (L := L) (rvs := rvs) (by simpa using h)]
  | [], _ :: _, h => by simp at h
  | _ :: _, [], h => by simp at h
theorem flat_len : ∀ {L rvs}, rvs.length = L.length → (flat L rvs).length = 3 * L.length
  | [], [], _ => rfl
  | _ :: L, _ :: rvs, h => by simp only [flat, List.length_cons, flat_len (L := L) (rvs := rvs) (by simpa using h)]; omega
  | [], _ :: _, h => by simp at h
  | _ :: _, [], h => by simp at h

theorem RefIs.lt {w : World} {fp : List Nat} {r : Nat} {m val e : Int} {L : List Wr} (h : RefIs w fp r m val e L) : ∀ k ∈ fp, k < w.heap.size := by
  obtain ⟨v, rvs, hb, ho, hr, rfl, hnd⟩ := h
  intro k hk
  simp only [List.mem_cons, List.mem_append] at hk
  rcases hk with rfl | hk | hk
  · exact hb.lt
  · exact own_lt ho k hk
  · exact hr.lt k hk
theorem RefIs.upd {w w' : World} {S fp : List Nat} {r : Nat} {m val e : Int} {L : List Wr} (h : RefIs w fp r m val e L) (hu : Upd S w w') (hn : ∀ k ∈ fp, k ∉ S) : RefIs w' fp r m val e L := by
  obtain ⟨v, rvs, hb, ho, hr, rfl, hnd⟩ := h
  exact ⟨v, rvs, hb.upd hu (hn r (by simp)), own_upd ho hu (fun k hk => hn k (by simp [hk])), hr.upd hu (fun k hk => hn k (by simp only [List.mem_cons, List.mem_append]; exact .inr (.inr hk))), rfl, hnd⟩

/-- What a step leaves of a structure: its new place, and what may have changed. -/
def Steps1 (P : World → List Nat → Prop) (fp : List Nat) (w w' : World) : Prop := ∃ fp', P w' fp' ∧ Upd fp w w' ∧ ∀ k ∈ fp', k ∈ fp ∨ w.heap.size ≤ k

theorem i136 : (Try.prog.info? 136).map (fun i => (i.zero, i.size, i.bytes)) = some (some (.agg #[.int .u64 0, .string ⟨#[]⟩, .slice none 0 0]), 3, 48) := by kernel_rfl
theorem i3 : (Try.prog.info? 3).map (fun i => (i.zero, i.size, i.bytes)) = some (some (.int .i64 0), 1, 8) := by kernel_rfl

theorem refwrite_post {w w2 : World} {r : Nat} {m val e t : Int} {s : ByteArray} {L : List Wr} {v : Value} {rvs : List Value} {g cap : Nat}
    (hb : Blk w r [.int .i64 m, .int .u32 val, .int .i64 e, v] 36) (hr : RdsOk w L rvs) (hnd : (r :: (bl v ++ rvs.flatMap bl)).Nodup)
    (hown2 : w2.ownsRow 0 136 3 (.slice (some ⟨g, 0, none⟩) (L.length + 1) cap) (L.length + 1) (flat L rvs ++ [.int .u64 t, .string s, .slice none 0 0]))
    (hgrow : (w.alloc (.cells #[.int .u64 t, .string s, .slice none 0 0] 136)).grownBy w2 v.ownBlock) (hg : v.ownBlock = some g ∨ g = w.heap.size + 1) :
    Steps1 (fun w' fp' => RefIs w' fp' r m val e (L ++ [⟨t, s, []⟩])) (r :: (bl v ++ rvs.flatMap bl)) w (w2.setCell ⟨r, 3, none⟩ (.slice (some ⟨g, 0, none⟩) (L.length + 1) cap)) := by
  have hu1 : Upd (bl v) w w2 := ((Upd.refl (bl v) w).alloc _).grown hgrow (by intro k hk; left; simp [bl, hk])
  have hrv : r ∉ bl v := by intro h; simp [h] at hnd
  have hrr : r ∉ rvs.flatMap bl := by intro h; rw [List.nodup_cons] at hnd; exact hnd.1 (List.mem_append.2 (.inr h))
  have hgb : g ∈ bl v ∨ w.heap.size ≤ g := by rcases hg with h | h; exact .inl (by simp [bl, h]); exact .inr (by omega)
  have hrg : r ≠ g := by rintro rfl; rcases hgb with h | h; exact hrv h; have := hb.lt; omega
  have hgr : g ∉ rvs.flatMap bl := by
    intro h
    rcases hgb with h' | h'
    · rw [List.nodup_cons, List.nodup_append] at hnd
      exact hnd.2.2.2 g h' g h rfl
    · have := hr.lt g h; omega
  have hb2 := (hb.upd hu1 hrv).setCell 3 (.slice (some ⟨g, 0, none⟩) (L.length + 1) cap)
  have hu2 : Upd (r :: bl v) w (w2.setCell ⟨r, 3, none⟩ (.slice (some ⟨g, 0, none⟩) (L.length + 1) cap)) := (hu1.mono (by intro x hx; left; simp [hx])).setCell (.inl (by simp)) _
  have hu3 : Upd [r] w2 (w2.setCell ⟨r, 3, none⟩ (.slice (some ⟨g, 0, none⟩) (L.length + 1) cap)) := (Upd.refl _ _).setCell (.inl (by simp)) _
  have hdisj : ∀ k ∈ rvs.flatMap bl, k ∉ bl v := by
    intro k hk hk'
    rw [List.nodup_cons, List.nodup_append] at hnd
    exact hnd.2.2.2 k hk' k hk rfl
  have e1 : (rvs ++ [Value.slice none 0 0]).flatMap bl = rvs.flatMap bl := by simp [bl, Value.ownBlock]
  refine ⟨r :: (bl (.slice (some ⟨g, 0, none⟩) (L.length + 1) cap) ++ (rvs ++ [Value.slice none 0 0]).flatMap bl), ⟨.slice (some ⟨g, 0, none⟩) (L.length + 1) cap, rvs ++ [.slice none 0 0], hb2, ?_, ?_, rfl, ?_⟩, hu2.mono ?_, ?_⟩
  · have := own_upd hown2 hu3 (by intro k hk; have : k = g := by simpa [bl, Value.ownBlock] using hk
                                  subst this; simp; exact fun h => hrg h.symm)
    rw [flat_snoc _ _ hr.len]
    simpa using this
  · refine RdsOk.snoc (x := ⟨t, s, []⟩) (rv := .slice none 0 0) (by simpa using World.ownsRow_nil _ 0 3 1) ((hr.upd hu1 hdisj).upd hu3 ?_)
    intro k hk hk'
    simp at hk'; subst hk'; exact hrr hk
  · rw [e1]
    have : bl (.slice (some ⟨g, 0, none⟩) (L.length + 1) cap) = [g] := by simp [bl, Value.ownBlock]
    rw [this]
    rw [List.nodup_cons, List.nodup_append] at hnd
    simp only [List.singleton_append, List.nodup_cons, List.mem_cons, not_or]
    exact ⟨⟨hrg, hrr⟩, hgr, hnd.2.2.1⟩
  · intro x hx
    left
    simp only [List.mem_cons, List.mem_append] at hx ⊢
    rcases hx with h | h
    · exact .inl h
    · exact .inr (.inl h)
  · rw [e1]
    intro k hk
    simp only [List.mem_cons, List.mem_append] at hk ⊢
    rcases hk with h | h | h
    · exact .inl (.inl h)
    · have : k = g := by simpa [bl, Value.ownBlock] using h
      subst this
      rcases hgb with h' | h'
      · exact .inl (.inr (.inl h'))
      · exact .inr h'
    · exact .inl (.inr (.inr h))
end Go.Proofs.Ytdfjjhpnhaggjaa
