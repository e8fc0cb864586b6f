/- Memory block by block: what a block holds, and what a call may have changed. No program in sight. -/
import Derived.WalkKit
import Derived.ProofKit
import Derived.Handy
import Derived.Lib.Hide
import Derived.Deep.MidRow
import Derived.BigQuiet
import Derived.Deep.QuietTactic
namespace Go.Mem
open Go Go.RowKit

/-- Block b of w is a row of cells, not frozen. -/
def Blk (w : World) (b : Nat) (cs : List Value) (T : TypeId) : Prop := w.heap[b]? = some (.cells cs.toArray T (0, 0))

theorem Blk.at {w : World} {b : Nat} {cs : List Value} {T : TypeId} (h : Blk w b cs T) (i : Nat) {v : Value} (hv : cs[i]? = some v) : w.cell? ⟨b, i, none⟩ = some v := by
  unfold Blk at h
  simp [World.cell?, h, hv]
theorem Blk.free {w : World} {b : Nat} {cs : List Value} {T : TypeId} (h : Blk w b cs T) (i : Nat) : w.frozen? ⟨b, i, none⟩ = false := by
  unfold Blk at h
  simp [World.frozen?, h]
theorem Blk.lt {w : World} {b : Nat} {cs : List Value} {T : TypeId} (h : Blk w b cs T) : b < w.heap.size := by
  unfold Blk at h
  obtain ⟨hb, _⟩ := Array.getElem?_eq_some_iff.1 h
  exact hb
theorem Blk.setCell {w : World} {b : Nat} {cs : List Value} {T : TypeId} (h : Blk w b cs T) (i : Nat) (v : Value) : Blk (w.setCell ⟨b, i, none⟩ v) b (cs.set i v) T := by
  unfold Blk at *
  simp [World.setCell, Array.getElem?_modify, h]
theorem Blk.setCell_ne {w : World} {b c : Nat} {cs : List Value} {T : TypeId} (h : Blk w b cs T) (hne : c ≠ b) (i : Nat) (v : Value) : Blk (w.setCell ⟨c, i, none⟩ v) b cs T := by
  unfold Blk at *
  simp [World.setCell, Array.getElem?_modify, h, hne]
theorem Blk.drew {w : World} {b : Nat} {cs : List Value} {T : TypeId} (h : Blk w b cs T) : Blk w.drew b cs T := h
theorem Blk.alloc {w : World} {b : Nat} {cs : List Value} {T : TypeId} (h : Blk w b cs T) (o : Obj) : Blk (w.alloc o) b cs T := by
  have hb := h.lt
  unfold Blk at *
  rw [Below.heap_alloc _ _ _ hb, h]
theorem Blk.new (w : World) (cs : List Value) (T : TypeId) : Blk (w.alloc (.cells cs.toArray T)) w.heap.size cs T := by
  unfold Blk
  show (w.heap.push _)[w.heap.size]? = _
  simp
theorem Blk.inj {w : World} {b : Nat} {cs ds : List Value} {T U : TypeId} (h : Blk w b cs T) (k : Blk w b ds U) : cs = ds := by
  unfold Blk at *
  rw [h] at k
  have := Option.some.inj k
  simp at this
  exact this.1

/-- w' is w but for the blocks of S, and for new ones. -/
structure Upd (S : List Nat) (w w' : World) : Prop where
  os : w'.os = w.os
  tape : w'.tape = w.tape
  output : w'.output = w.output
  size : w.heap.size ≤ w'.heap.size
  block : ∀ k, k < w.heap.size → k ∉ S → w'.heap[k]? = w.heap[k]?

theorem Upd.refl (S : List Nat) (w : World) : Upd S w w := ⟨rfl, rfl, rfl, Nat.le_refl _, fun _ _ _ => rfl⟩
theorem Upd.trans {S T : List Nat} {a b c : World} (h : Upd S a b) (k : Upd T b c) (hT : ∀ x ∈ T, x ∈ S ∨ a.heap.size ≤ x) : Upd S a c :=
  ⟨k.os.trans h.os, k.tape.trans h.tape, k.output.trans h.output, Nat.le_trans h.size k.size, fun i hi hn =>
    (k.block i (Nat.lt_of_lt_of_le hi h.size) (fun hm => by rcases hT i hm with h' | h'; exact hn h'; omega)).trans (h.block i hi hn)⟩
theorem Upd.mono {S T : List Nat} {a b : World} (h : Upd S a b) (hS : ∀ x ∈ S, x ∈ T ∨ a.heap.size ≤ x) : Upd T a b :=
  ⟨h.os, h.tape, h.output, h.size, fun i hi hn => h.block i hi (fun hm => by rcases hS i hm with h' | h'; exact hn h'; omega)⟩
theorem Upd.drew {S : List Nat} {a w : World} (h : Upd S a w) : Upd S a w.drew := ⟨h.os, h.tape, h.output, h.size, h.block⟩
theorem Upd.alloc {S : List Nat} {a w : World} (h : Upd S a w) (o : Obj) : Upd S a (w.alloc o) :=
  ⟨h.os, h.tape, h.output, by have := h.size; rw [World.size_alloc]; omega, fun k hk hn => (Below.heap_alloc _ _ _ (Nat.lt_of_lt_of_le hk h.size)).trans (h.block k hk hn)⟩
theorem Upd.setCell {S : List Nat} {a w : World} (h : Upd S a w) {b i : Nat} (hb : b ∈ S ∨ a.heap.size ≤ b) (v : Value) : Upd S a (w.setCell ⟨b, i, none⟩ v) :=
  ⟨h.os, h.tape, h.output, by have := h.size; rw [World.size_setCell]; omega, fun k hk hn =>
    (Below.heap_setCell _ _ _ _ (fun e => by subst e; rcases hb with h' | h'; exact hn h'; omega)).trans (h.block k hk hn)⟩
theorem Blk.upd {S : List Nat} {w w' : World} {b : Nat} {cs : List Value} {T : TypeId} (h : Blk w b cs T) (hu : Upd S w w') (hb : b ∉ S) : Blk w' b cs T := by
  have := hu.block b h.lt hb
  unfold Blk at *
  rw [this, h]
theorem Upd.below {w w' : World} (h : Upd [] w w') : Below w.heap.size w w' := ⟨h.os, h.tape, h.output, h.size, fun k hk => h.block k hk (List.not_mem_nil)⟩
theorem Upd.grown {S : List Nat} {a w w' : World} {row : Option Nat} (h : Upd S a w) (hg : w.grownBy w' row) (hr : ∀ k, row = some k → k ∈ S ∨ a.heap.size ≤ k) : Upd S a w' :=
  ⟨hg.os.trans h.os, hg.tape.trans h.tape, hg.output.trans h.output, Nat.le_trans h.size hg.size, fun k hk hn =>
    (hg.block k (Nat.lt_of_lt_of_le hk h.size) (fun e => by rcases hr k e.symm with h' | h'; exact hn h'; omega)).trans (h.block k hk hn)⟩
theorem Upd.below_trans {S : List Nat} {a w w' : World} (h : Upd S a w) (hb : Below w.heap.size w w') : Upd S a w' :=
  ⟨hb.os.trans h.os, hb.tape.trans h.tape, hb.output.trans h.output, Nat.le_trans h.size hb.size, fun k hk hn => (hb.block k (Nat.lt_of_lt_of_le hk h.size)).trans (h.block k hk hn)⟩


theorem Blk.there {w : World} {b : Nat} {cs : List Value} {T : TypeId} (h : Blk w b cs T) {o n : Nat} (hl : o + n ≤ cs.length) : w.there b o n := fun j hj => by
  refine ⟨?_, h.free _⟩
  rw [h.at (o + j) (List.getElem?_eq_getElem (by omega))]; rfl
theorem Blk.range {w : World} {b : Nat} {cs : List Value} {T : TypeId} (h : Blk w b cs T) {o : Nat} {vs : List Value} (hl : (cs.drop o).take vs.length = vs) : w.rangeAt b o vs := fun j v hv => by
  have hj := (List.getElem?_eq_some_iff.1 hv).1
  refine h.at _ ?_
  rw [← hl, List.getElem?_take_of_lt hj, List.getElem?_drop] at hv
  exact hv

theorem Blk.setCells {b : Nat} {T : TypeId} : ∀ (vs : List Value) {cs : List Value} {w : World} (o : Nat), Blk w b cs T → o + vs.length ≤ cs.length → Blk (w.setCells b o vs) b (cs.take o ++ vs ++ cs.drop (o + vs.length)) T
  | [], cs, w, o, h, hl => by simpa [World.setCells] using h
  | v :: vs, cs, w, o, h, hl => by
    simp only [List.length_cons] at hl
    have := Blk.setCells vs (o + 1) (h.setCell o v) (by simp; omega)
    unfold World.setCells
    have e : (cs.set o v).take (o + 1) ++ vs ++ (cs.set o v).drop (o + 1 + vs.length) = cs.take o ++ (v :: vs) ++ cs.drop (o + (v :: vs).length) := by
      rw [List.drop_set_of_lt (by omega), List.take_set, List.set_eq_take_append_cons_drop]
      simp only [List.length_take, List.take_take, List.length_cons, List.append_assoc]
      rw [if_pos (by omega), show o + 1 + vs.length = o + (vs.length + 1) by omega, Nat.min_eq_left (by omega)]
      simp
    rw [← e]; exact this
theorem Upd.setCells {S : List Nat} {a : World} {b : Nat} (hb : b ∈ S ∨ a.heap.size ≤ b) : ∀ (vs : List Value) {w : World} (o : Nat), Upd S a w → Upd S a (w.setCells b o vs)
  | [], _, _, h => h
  | v :: vs, _, o, h => Upd.setCells hb vs (o + 1) (h.setCell hb v)
theorem Blk.setCells_ne {c : Nat} {cs : List Value} {T : TypeId} {b : Nat} (hne : b ≠ c) : ∀ (vs : List Value) {w : World} (o : Nat), Blk w c cs T → Blk (w.setCells b o vs) c cs T
  | [], _, _, h => h
  | v :: vs, _, o, h => Blk.setCells_ne hne vs (o + 1) (h.setCell_ne hne _ v)

/-- What a block of cells holds. -/
def rowOf (w : World) (b : Nat) : Array Value := match w.heap[b]? with | some (.cells c _ _) => c | _ => #[]
theorem Blk.row {w : World} {b : Nat} {cs : List Value} {T : TypeId} (h : Blk w b cs T) : rowOf w b = cs.toArray := by
  unfold Blk at h; simp [rowOf, h]
@[simp] theorem rowOf_drew (w : World) (b : Nat) : rowOf w.drew b = rowOf w b := rfl
@[simp] theorem rowOf_drewN (w : World) (b n : Nat) : rowOf (w.drewN n) b = rowOf w b := by
  simp [rowOf]
theorem run_loadAt_rowOf {P : Program} (w : World) (b : Nat) (ty : TypeId) (d : TypeDesc) (n : Nat) (hu : P.underlying ty = some d) (hd : d.isRow = true) (hi : (P.info? ty).map (·.size) = some n) (hn : n ≠ 0)
    (h : (rowOf w b).size = n) : (Instr.loadAt ty (.pointer (some ⟨b, 0, none⟩))).run P w = .ok (.agg (rowOf w b)) w := by
  unfold rowOf at h ⊢
  split at h
  · rename_i c t fr hw
    simp only [Instr.loadAt, Instr.sureAddr, Sem.run_bind, Sem.run_pure, Result.andThen_ok]
    exact run_loadVar_row w b t ty c fr d hw hu (by cases d <;> simp_all [TypeDesc.isRow]) (by rw [hi, h])
  · exact absurd h.symm (by simpa using hn)

/-- What a pointer's block holds, if it points to its head. -/
def ptrRow (w : World) : Value → Array Value
  | .pointer (some ⟨b, 0, none⟩) => rowOf w b
  | _ => #[]
@[simp] theorem ptrRow_ptr (w : World) (b : Nat) : ptrRow w (.pointer (some ⟨b, 0, none⟩)) = rowOf w b := rfl
theorem exec_load_row {P : Program} (ty : TypeId) (d : TypeDesc) (n : Nat) (hu : P.underlying ty = some d) (hd : d.isRow = true) (hi : (P.info? ty).map (·.size) = some n) (hn : n ≠ 0)
    (ρ : Operand → Value) (dst : Option Tmp) (x : Operand) (t : TypeId) (pos : String) (after : Array Edge) (g : Option (Nat × Bool)) (w : World)
    (h : (ptrRow w (ρ x)).size = n) : (execOp ρ ⟨dst, .load ty x, t, pos, after, g⟩).run P w = .ok (.value (.agg (ptrRow w (ρ x)))) w := by
  unfold execOp
  unfold ptrRow at h ⊢
  split at h
  · rename_i b hv
    simp only [hv, Sem.run_bind, run_loadAt_rowOf w b ty d n hu hd hi hn h, Result.andThen_ok, Sem.run_pure]
  · exact absurd h.symm (by simpa using hn)

/-- A whole struct read in a region that draws its order. -/
theorem wpQuiet_load_row {P : Program} {ops : Array Oper} {C : World → Prop} {Q : Act → Prop} {a : Act} {o : Oper} {rest : List Oper} (hgd : o.guard = none) (ty : TypeId) (x : Operand) (ho : o.op = .load ty x)
    (b : Nat) (hx : a.eval x = .pointer (some ⟨b, 0, none⟩)) (cs : List Value) (hC : ∀ w, C w → rowOf w b = cs.toArray) (d : TypeDesc) (hu : P.underlying ty = some d) (hd : d.isRow = true) (n : Nat) (hi : (P.info? ty).map (·.size) = some n) (hl : cs.length = n) (hn : n ≠ 0)
    (h : wpQuiet P ops C Q rest (a.put o.dst (.agg cs.toArray))) : wpQuiet P ops C Q (o :: rest) a := by
  simp only [wpQuiet, Region.wanted, hgd, if_true]
  refine ⟨.agg cs.toArray, fun w hw => ?_, h⟩
  obtain ⟨dst, op, t, pos, after, g⟩ := o
  simp only at ho
  subst ho
  have hr := hC w hw
  have he := exec_load_row ty d n hu hd hi hn a.eval dst x t pos after g w (by rw [hx, ptrRow_ptr, hr]; simpa using hl)
  unfold Oper.quietAt
  rw [he, hx, ptrRow_ptr, hr]
  exact ⟨rfl, rfl⟩

theorem Blk.drewN {w : World} {b : Nat} {cs : List Value} {T : TypeId} (h : Blk w b cs T) (n : Nat) : Blk (w.drewN n) b cs T := h
theorem Upd.drewN {S : List Nat} {a w : World} (h : Upd S a w) (n : Nat) : Upd S a (w.drewN n) := ⟨h.os, h.tape, h.output, h.size, h.block⟩

theorem ret_bool {a b : Bool} (h : a = b) : Ending.returned (.bool a) = .returned (.bool b) := by rw [h]
theorem ret_int {k : IntKind} {a b : Int} (h : a = b) : Ending.returned (.int k a) = .returned (.int k b) := by rw [h]
theorem ret_str {a b : ByteArray} (h : a = b) : Ending.returned (.string a) = .returned (.string b) := by rw [h]
theorem str_ext {a b : ByteArray} (h : a.data.toList = b.data.toList) : a = b := by
  obtain ⟨⟨x⟩⟩ := a; obtain ⟨⟨y⟩⟩ := b; simp at h; rw [h]
end Go.Mem
