/- A map that the call itself has made, keyed by two bytes (an end): what it holds, entry by entry; its look-ups, and a store at a key that is not there yet. -/
import Derived.Test.YtdfjjhpnhaggjaaS1
import Derived.Maps.Keyed
import Derived.DeepKeys4
import Derived.Carry
namespace Go.Proofs.Ytdfjjhpnhaggjaa
open Go.RowKit Go.Mem
open Go.ChangeMaps (setBlock heap_setBlock_same heap_setBlock_other)
open Go.WideMaps (KeyLaw)

/-- A key: two bytes. -/
def ky (k : Int × Int) : Value := .agg #[.int .u8 k.1, .int .u8 k.2]
def KOk (k : Int × Int) : Prop := 0 ≤ k.1 ∧ k.1 ≤ 255 ∧ 0 ≤ k.2 ∧ k.2 ≤ 255

theorem und63 : Try.prog.underlying 63 = some (.struct (Try.prog.fieldsOf 63)) := by kernel_rfl
theorem f63 : (Try.prog.fieldsOf 63).toList.map (fun f => (f.type, f.offset)) = [(5, 0), (5, 1)] := by kernel_rfl
theorem n63 : (Try.prog.fieldsOf 63).all (·.name != "_") = true := by kernel_rfl
theorem kt63 : Try.prog.keyType 63 = true := by kernel_rfl
theorem c63 : Try.prog.cellsOf 63 = 2 := by kernel_rfl
theorem c5 : Try.prog.cellsOf 5 = 1 := by kernel_rfl
theorem lo63 : laidOutB Try.prog = true := by kernel_rfl
theorem row63 : (63 : TypeId) < Try.prog.types.size := of_decide_eq_true (by kernel_rfl)
theorem law63 : KeyLaw Try.prog 63 := deep_law_laid lo63 (m := 2) (by omega) row63 (by kernel_rfl) (by rw [und63])

theorem wf8 {n : Int} (h0 : 0 ≤ n) (h1 : n ≤ 255) : (Lit.int .u8 n).wf = true := by simp [Lit.wf, IntKind.min, IntKind.max, IntKind.signed, IntKind.bits]; omega
theorem mapM_pairs {α : Type} (g : TypeId → Nat → Option α) (fs : List Field) : (fs.mapM fun f => g f.type f.offset) = (fs.map (fun f => (f.type, f.offset))).mapM (fun p => g p.1 p.2) := by
  rw [List.mapM_map]; rfl
theorem keyOf_ky {k : Int × Int} (h : KOk k) : ∃ l, keyOf Try.prog 63 (ky k) = some l := by
  obtain ⟨h0, h1, h2, h3⟩ := h
  have w1 := wf8 h0 h1
  have w2 := wf8 h2 h3
  obtain ⟨m, hm⟩ : ∃ m, Try.prog.types.size = m + 1 := Nat.exists_eq_add_of_lt (Nat.lt_of_le_of_lt (Nat.zero_le _) row63) |>.imp fun m h => by omega
  have e : Try.prog.keyLits (Try.prog.types.size + 1) 63 [.int .u8 k.1, .int .u8 k.2] = some [.int .u8 k.1, .int .u8 k.2] := by
    rw [hm]
    unfold Program.keyLits
    rw [und63]
    simp only []
    rw [if_pos ⟨by rw [c63]; rfl, n63⟩, mapM_pairs (fun t o => Program.keyLits Try.prog (m + 1) t (List.take (Try.prog.cellsOf t) (List.drop o [Value.int .u8 k.1, Value.int .u8 k.2]))), f63]
    simp [Program.keyLits, Try.underlying5, c5, w1, w2]
  unfold keyOf
  rw [und63]
  simp only []
  rw [if_pos (by rw [kt63]; simp [Value.formed, ky, c63])]
  show ∃ l, ((Try.prog.keyLits (Try.prog.types.size + 1) 63 [.int .u8 k.1, .int .u8 k.2]).map _) = some l
  rw [e]; exact ⟨_, rfl⟩

theorem ky_inj {a b : Int × Int} (h : ky a = ky b) : a = b := by
  obtain ⟨a1, a2⟩ := a; obtain ⟨b1, b2⟩ := b
  simp [ky] at h
  rw [h.1, h.2]

/-- Block b of w is a map that holds l, in the order of making. -/
structure Mp (w : World) (b : Nat) (es : Array MapEntry) (clock : Nat) (l : List ((Int × Int) × Value)) : Prop where
  blk : w.heap[b]? = some (.map es clock)
  is : es.toList.map (fun e => (e.key, e.val)) = l.map (fun p => (ky p.1, p.2))
  born : ∀ e ∈ es.toList, e.born < clock
  ok : ∀ p ∈ l, KOk p.1

def look (l : List ((Int × Int) × Value)) (k : Int × Int) : Option Value := (l.find? (fun p => p.1 == k)).map (·.2)

theorem Mp.new (w : World) : Mp (w.alloc (.map #[] 0)) w.heap.size #[] 0 [] := ⟨(MapKept.heap_alloc w _).1, rfl, by simp, by simp⟩
theorem Mp.lt {w : World} {b : Nat} {es clock l} (h : Mp w b es clock l) : b < w.heap.size := (Array.getElem?_eq_some_iff.1 h.blk).1
theorem Mp.upd {S : List Nat} {w w' : World} {b : Nat} {es clock l} (h : Mp w b es clock l) (hu : Upd S w w') (hb : b ∉ S) : Mp w' b es clock l := ⟨by rw [hu.block b h.lt hb]; exact h.blk, h.is, h.born, h.ok⟩

theorem Mp.keys {w : World} {b : Nat} {es clock l} (h : Mp w b es clock l) : ∀ e ∈ es.toList, ∃ x, keyOf Try.prog 63 e.key = some x := by
  intro e he
  have : (e.key, e.val) ∈ l.map (fun p => (ky p.1, p.2)) := by rw [← h.is]; exact List.mem_map.2 ⟨e, he, rfl⟩
  obtain ⟨p, hp, hq⟩ := List.mem_map.1 this
  simp only [Prod.mk.injEq] at hq
  rw [← hq.1]
  exact keyOf_ky (h.ok p hp)

theorem look_none {l : List ((Int × Int) × Value)} {k : Int × Int} : look l k = none ↔ ∀ p ∈ l, p.1 ≠ k := by
  unfold look
  simp only [Option.map_eq_none_iff, List.find?_eq_none, beq_iff_eq]

/-- No two entries with one key. -/
def Uniq (l : List ((Int × Int) × Value)) : Prop := l.Pairwise (fun p q => p.1 ≠ q.1)

theorem look_mem {l : List ((Int × Int) × Value)} (hu : Uniq l) {k : Int × Int} {v : Value} (h : (k, v) ∈ l) : look l k = some v := by
  induction l with
  | nil => cases h
  | cons p l ih =>
    obtain ⟨h1, h2⟩ := List.pairwise_cons.1 hu
    rcases List.mem_cons.1 h with rfl | h
    · simp [look]
    · have := h1 _ h
      have hh := ih h2 h
      unfold look at hh ⊢
      rw [List.find?_cons_of_neg (by simpa using this)]
      exact hh

theorem Mp.find {w : World} {b : Nat} {es clock l} (h : Mp w b es clock l) (hu : Uniq l) {k : Int × Int} (hk : KOk k) (w' : World) :
    (look l k = none ∧ (Instr.findKey 63 (ky k) es.toList).run Try.prog w' = .ok none w') ∨ ∃ j v, look l k = some v ∧ (Instr.findKey 63 (ky k) es.toList).run Try.prog w' = .ok (some (j, v)) w' := by
  obtain ⟨x, hx⟩ := keyOf_ky hk
  rcases law63.find w' hx es.toList h.keys with ⟨h1, h2⟩ | ⟨j, e, h1, h2, h3⟩
  · refine .inl ⟨look_none.2 fun p hp hpk => ?_, h1⟩
    have : (ky p.1, p.2) ∈ es.toList.map (fun e => (e.key, e.val)) := by rw [h.is]; exact List.mem_map.2 ⟨p, hp, rfl⟩
    obtain ⟨e, he, hq⟩ := List.mem_map.1 this
    simp only [Prod.mk.injEq] at hq
    exact h2 e he (by rw [hq.1, hpk])
  · refine .inr ⟨j, e.val, look_mem hu ?_, h1⟩
    have : (e.key, e.val) ∈ l.map (fun p => (ky p.1, p.2)) := by rw [← h.is]; exact List.mem_map.2 ⟨e, List.mem_of_getElem? h2, rfl⟩
    obtain ⟨p, hp, hq⟩ := List.mem_map.1 this
    simp only [Prod.mk.injEq] at hq
    have := ky_inj (hq.1.trans h3)
    rw [← this, ← hq.2]
    exact hp

theorem Mp.run_look {w : World} {b : Nat} {es clock l} (h : Mp w b es clock l) (hu : Uniq l) {k : Int × Int} (hk : KOk k) {T e : TypeId} (ht : Try.prog.underlying T = some (.map 63 e)) {z : Value} (hz : ∀ w, (zeroValue e).run Try.prog w = .ok z w) :
    (Instr.lookup T (.map (some b)) (ky k) false).run Try.prog w = .ok ((look l k).getD z) w := by
  obtain ⟨x, hx⟩ := keyOf_ky hk
  rcases h.find hu hk w with ⟨h1, h2⟩ | ⟨j, v, h1, h2⟩
  · simp [Instr.lookup, run_underlying ht, MapKept.run_getObj_map h.blk, law63.check w _ hx, h2, hz, h1, Result.andThen]
  · simp [Instr.lookup, run_underlying ht, MapKept.run_getObj_map h.blk, law63.check w _ hx, h2, h1, Result.andThen]
theorem Mp.run_look_ok {w : World} {b : Nat} {es clock l} (h : Mp w b es clock l) (hu : Uniq l) {k : Int × Int} (hk : KOk k) {T e : TypeId} (ht : Try.prog.underlying T = some (.map 63 e)) {z : Value} (hz : ∀ w, (zeroValue e).run Try.prog w = .ok z w) :
    (Instr.lookup T (.map (some b)) (ky k) true).run Try.prog w = .ok (.tuple #[(look l k).getD z, .bool (look l k).isSome]) w := by
  obtain ⟨x, hx⟩ := keyOf_ky hk
  rcases h.find hu hk w with ⟨h1, h2⟩ | ⟨j, v, h1, h2⟩
  · simp [Instr.lookup, run_underlying ht, MapKept.run_getObj_map h.blk, law63.check w _ hx, h2, hz, h1, Result.andThen]
  · simp [Instr.lookup, run_underlying ht, MapKept.run_getObj_map h.blk, law63.check w _ hx, h2, h1, Result.andThen]

/-- The block behind a store at a key that was not there. -/
def putMore (w : World) (b : Nat) (es : Array MapEntry) (clock : Nat) (k : Value) (v : Value) : World := setBlock w b (.map (es.push { key := k, val := v, born := clock }) (clock + 1))

theorem putMore_upd {S : List Nat} {a w : World} (h : Upd S a w) {b : Nat} (hb : b ∈ S ∨ a.heap.size ≤ b) {es clock} (hw : w.heap[b]? = some (.map es clock)) (k v : Value) : Upd S a (putMore w b es clock k v) :=
  ⟨h.os, h.tape, h.output, by have := h.size; simpa [putMore, setBlock] using this, fun i hi hn => by
    unfold putMore
    rw [heap_setBlock_other hw _ (fun e => by subst e; rcases hb with h' | h'; exact hn h'; omega)]
    exact h.block i hi hn⟩
theorem Blk.more {w : World} {b c : Nat} {es clock} {k v : Value} {cs : List Value} {T : TypeId} (h : Blk w c cs T) (hw : w.heap[b]? = some (.map es clock)) : Blk (putMore w b es clock k v) c cs T := by
  have hne : c ≠ b := by rintro rfl; unfold Blk at h; rw [h] at hw; cases hw
  unfold Blk putMore at *
  rw [heap_setBlock_other hw _ hne, h]
theorem Mp.more {w : World} {b : Nat} {es clock l} (h : Mp w b es clock l) {k : Int × Int} (hk : KOk k) (v : Value) : Mp (putMore w b es clock (ky k) v) b (es.push { key := ky k, val := v, born := clock }) (clock + 1) (l ++ [(k, v)]) := by
  refine ⟨heap_setBlock_same h.blk _, ?_, ?_, ?_⟩
  · simp [h.is]
  · intro e he
    simp only [Array.toList_push, List.mem_append, List.mem_singleton] at he
    rcases he with he | rfl
    · have := h.born e he; omega
    · simp
  · intro p hp
    simp only [List.mem_append, List.mem_singleton] at hp
    rcases hp with hp | rfl
    · exact h.ok p hp
    · exact hk
theorem Uniq.more {l : List ((Int × Int) × Value)} (h : Uniq l) {k : Int × Int} (hk : look l k = none) (v : Value) : Uniq (l ++ [(k, v)]) := by
  unfold Uniq
  rw [List.pairwise_append]
  refine ⟨h, by simp, fun a ha b hb => ?_⟩
  simp only [List.mem_singleton] at hb
  subst hb
  exact look_none.1 hk a ha

theorem Mp.run_update {w : World} {b : Nat} {es clock l} (h : Mp w b es clock l) (hu : Uniq l) {k : Int × Int} (hk : KOk k) (hn : look l k = none) {T e : TypeId} (ht : Try.prog.underlying T = some (.map 63 e)) (v : Value) :
    (Instr.mapUpdate T (.map (some b)) (ky k) v).run Try.prog w = .ok () (putMore w b es clock (ky k) v) := by
  obtain ⟨x, hx⟩ := keyOf_ky hk
  rcases h.find hu hk w with ⟨h1, h2⟩ | ⟨j, v, h1, h2⟩
  · simp [Instr.mapUpdate, run_underlying ht, MapKept.run_getObj_map h.blk, law63.check w _ hx, h2, MapKept.run_setObj_map _ h.blk, Result.andThen, putMore, setBlock]
  · rw [hn] at h1; cases h1
theorem Mp.run_entry {w : World} {b : Nat} {es clock l} (h : Mp w b es clock l) (hu : Uniq l) {k : Int × Int} (hk : KOk k) (hn : look l k = none) {T e : TypeId} (ht : Try.prog.underlying T = some (.map 63 e)) {z : Value} (hz : ∀ w, (zeroValue e).run Try.prog w = .ok z w) :
    (Instr.mapEntry T (.map (some b)) (ky k)).run Try.prog w = .ok (.tuple #[z, goInt clock]) (putMore w b es clock (ky k) z) := by
  obtain ⟨x, hx⟩ := keyOf_ky hk
  rcases h.find hu hk w with ⟨h1, h2⟩ | ⟨j, v, h1, h2⟩
  · simp [Instr.mapEntry, run_underlying ht, MapKept.run_getObj_map h.blk, law63.check w _ hx, h2, hz, MapKept.run_setObj_map _ h.blk, Result.andThen, putMore, setBlock]
  · rw [hn] at h1; cases h1
theorem Mp.run_store {w : World} {b : Nat} {es clock l} (h : Mp w b es clock l) {k : Value} (z v : Value) (T : TypeId) :
    (Instr.entryStore T (.map (some b)) (goInt clock) v).run Try.prog (putMore w b es clock k z) = .ok () (putMore w b es clock k v) := by
  have hb : (putMore w b es clock k z).heap[b]? = some (.map (es.push { key := k, val := z, born := clock }) (clock + 1)) := heap_setBlock_same h.blk _
  have hf : (es.push { key := k, val := z, born := clock }).findIdx? (fun e => (e.born : Int) == (clock : Int)) = some es.size := by
    rw [Array.findIdx?_eq_some_iff_getElem]
    refine ⟨by simp, by simp, fun j hj => ?_⟩
    rw [Array.getElem_push_lt hj]
    have := h.born es[j] (by simp)
    simp
    omega
  have hm : (es.push { key := k, val := z, born := clock }).modify es.size (fun e => { e with val := v }) = es.push { key := k, val := v, born := clock } := by
    apply Array.ext
    · simp
    · intro i h1 h2
      simp only [Array.size_modify, Array.size_push] at h1
      rw [Array.getElem_modify]
      by_cases hi : i = es.size
      · subst hi; simp
      · rw [if_neg (Ne.symm hi), Array.getElem_push_lt (by omega), Array.getElem_push_lt (by omega)]
  have hI : ∀ w2, (asInt (goInt clock)).run Try.prog w2 = .ok (clock : Int) w2 := fun w2 => by simp [goInt, asInt, asIntOf]
  simp only [Instr.entryStore, Sem.run_bind, MapKept.run_getObj_map hb, Result.andThen_ok, hI, hf, hm, MapKept.run_setObj_map _ hb]
  simp [putMore, setBlock]
end Go.Proofs.Ytdfjjhpnhaggjaa
