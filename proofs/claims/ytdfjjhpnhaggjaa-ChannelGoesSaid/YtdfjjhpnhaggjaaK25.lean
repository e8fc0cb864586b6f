/- Arguments opened: channels, acts. -/
import Derived.Test.YtdfjjhpnhaggjaaK17
import Derived.Test.YtdfjjhpnhaggjaaOpen
import Derived.ChangeOld
namespace Go.Proofs.Ytdfjjhpnhaggjaa
open Go.ChangeShapes Go.WideShapes Go.ChangeAt Go.RowKit Go.Mem

namespace Args
theorem own : ownKnob Try.prog.godebug = none := by kernel_rfl
theorem laidOut : laidOutB Try.prog = true := by kernel_rfl
theorem c63 : Try.prog.cellsOf 63 = 2 := by kernel_rfl
theorem c66 : Try.prog.cellsOf 66 = 7 := by kernel_rfl
theorem c57 : Try.prog.cellsOf 57 = 6 := by kernel_rfl
theorem c46 : Try.prog.cellsOf 46 = 2 := by kernel_rfl

theorem wf_u8 {n : Int} (h : (Lit.int .u8 n).wf = true) : 0 ≤ n ∧ n ≤ 255 := by simpa [Lit.wf, IntKind.min, IntKind.max, IntKind.signed, IntKind.bits] using h
theorem wf_u32 {n : Int} (h : (Lit.int .u32 n).wf = true) : 0 ≤ n ∧ n < 4294967296 := by
  have : 0 ≤ n ∧ n ≤ 4294967295 := by simpa [Lit.wf, IntKind.min, IntKind.max, IntKind.signed, IntKind.bits] using h
  omega
theorem wf_u64 {n : Int} (h : (Lit.int .u64 n).wf = true) : 0 ≤ n ∧ n < 18446744073709551616 := by
  have : 0 ≤ n ∧ n ≤ 18446744073709551615 := by simpa [Lit.wf, IntKind.min, IntKind.max, IntKind.signed, IntKind.bits] using h
  omega

section
variable {H : Type} {enc : TypeId × Value → H} {W : World} {base : Nat} {spare : Nat → Bool} {held : Bool}

theorem ends_of {v : Value} {m : Nat} {y : DataW H × List MemPlace} (h : DataW.trod enc Try.prog W base spare held m 64 [v] = some y) : ∃ E, IsEnds W v E ∧ ∀ x ∈ E, KOk x := by
  have hv : ∃ a n c, v = .slice a n c := by
    rcases Go.Deep.open_slice Try.underlying64 h with ⟨hc, -⟩ | ⟨a, len, cap, m, n, D, Pl, hc, -⟩
    · simp at hc; exact ⟨_, _, _, hc⟩
    · simp at hc; exact ⟨_, _, _, hc⟩
  obtain ⟨d, p⟩ := y
  have h2 : DataW.Trod enc Try.prog W base spare held 64 v d p := by
    obtain ⟨a, n, c, rfl⟩ := hv
    exact ⟨m, h⟩
  obtain ⟨a, len, cap, rfl, hl, ha, hi⟩ := open_rows Try.underlying64 hv h2
  rcases Nat.eq_zero_or_pos len with rfl | hpos
  · exact ⟨[], ⟨a, cap, rfl, fun h => absurd rfl h⟩, by simp⟩
  obtain ⟨a0, rfl⟩ := ha hpos
  obtain ⟨E, hE, hq⟩ := list_of (fun i (x : Int × Int) => KOk x ∧ W.cell? (a0.add (i * 2)) = some (.int .u8 x.1) ∧ W.cell? (a0.add (i * 2 + 1)) = some (.int .u8 x.2)) len (fun i hil => by
    obtain ⟨cs, m, y, hcl, hc, ht⟩ := hi i hil a0 rfl
    rw [c63] at hcl hc
    obtain ⟨n0, e0, w0⟩ := leaf_int (d := 3) (i := 0) (u := 5) ht (by kernel_rfl) Try.underlying5
    obtain ⟨n1, e1, w1⟩ := leaf_int (d := 3) (i := 1) (u := 5) ht (by kernel_rfl) Try.underlying5
    have b0 := wf_u8 w0
    have b1 := wf_u8 w1
    exact ⟨(n0, n1), ⟨b0.1, b0.2, b1.1, b1.2⟩, by have := hc 0 (by omega); rw [e0] at this; simpa using this, by rw [hc 1 (by omega), e1]⟩)
  obtain ⟨b, off, spot⟩ := a0
  obtain ⟨x, hx⟩ : ∃ x, E[0]? = some x := ⟨_, List.getElem?_eq_getElem (by omega)⟩
  have hc := (hq 0 x hx).2.1
  have hspot : spot = none := by simpa [Addr.add] using World.cell?_spot hc
  subst hspot
  refine ⟨E, ⟨_, cap, by rw [hE], fun _ => ⟨b, off, rfl, fun i x hx => ?_, ?_⟩⟩, fun x hx => ?_⟩
  · obtain ⟨-, k0, k1⟩ := hq i x hx
    rw [Addr.add_mid] at k0 k1
    exact ⟨k0, by rw [Nat.add_assoc]; exact k1⟩
  · have := block_lt_of_cell hc
    simpa [Addr.add] using this
  · obtain ⟨i, hi'⟩ := List.mem_iff_getElem?.1 hx
    exact (hq i x hi').1

theorem chans_of {v : Value} {d : DataW H} {p : List MemPlace} (hv : ∃ a n c, v = .slice a n c) (h : DataW.Trod enc Try.prog W base spare held 45 v d p) :
    ∃ l, IsChans W v l ∧ (∀ c ∈ l, c.Ok) ∧ l.length ≤ maxLen := by
  obtain ⟨a, len, cap, rfl, hl, ha, hi⟩ := open_rows Try.underlying45 hv h
  rcases Nat.eq_zero_or_pos len with rfl | hpos
  · exact ⟨[], ⟨⟨a, cap, rfl, fun h => absurd rfl h⟩, by simp⟩, by simp, by simp⟩
  obtain ⟨a0, rfl⟩ := ha hpos
  obtain ⟨L, hL, hq⟩ := list_of (fun i (c : Ch) => c.Ok ∧ IsEnds W c.tv c.to ∧ W.cell? (a0.add (i * 7)) = some (.int .u8 c.kind) ∧ W.cell? (a0.add (i * 7 + 1)) = some (.int .u8 c.guest) ∧ W.cell? (a0.add (i * 7 + 2)) = some (.int .u8 c.port) ∧ W.cell? (a0.add (i * 7 + 3)) = some c.tv ∧
      W.cell? (a0.add (i * 7 + 4)) = some (.int .u8 c.most) ∧ W.cell? (a0.add (i * 7 + 5)) = some (.int .u8 c.depth) ∧ W.cell? (a0.add (i * 7 + 6)) = some (.int .u32 c.val)) len (fun i hil => by
    obtain ⟨cs, m, y, hcl, hc, ht⟩ := hi i hil a0 rfl
    rw [c66] at hcl hc
    obtain ⟨n0, e0, w0⟩ := leaf_int (d := 3) (i := 0) (u := 5) ht (by kernel_rfl) Try.underlying5
    obtain ⟨n1, e1, w1⟩ := leaf_int (d := 3) (i := 1) (u := 5) ht (by kernel_rfl) Try.underlying5
    obtain ⟨n2, e2, w2⟩ := leaf_int (d := 3) (i := 2) (u := 5) ht (by kernel_rfl) Try.underlying5
    obtain ⟨m3, y3, v3, e3, t3⟩ := trod_leaf 3 (i := 3) (u := 64) ht (by kernel_rfl)
    obtain ⟨n4, e4, w4⟩ := leaf_int (d := 3) (i := 4) (u := 5) ht (by kernel_rfl) Try.underlying5
    obtain ⟨n5, e5, w5⟩ := leaf_int (d := 3) (i := 5) (u := 5) ht (by kernel_rfl) Try.underlying5
    obtain ⟨n6, e6, w6⟩ := leaf_int (d := 3) (i := 6) (u := 22) ht (by kernel_rfl) Try.underlying22
    obtain ⟨E, hE, hEo⟩ := ends_of t3
    have b0 := wf_u8 w0
    have b1 := wf_u8 w1
    have b2 := wf_u8 w2
    have b4 := wf_u8 w4
    have b5 := wf_u8 w5
    have b6 := wf_u32 w6
    exact ⟨⟨n0, n1, n2, v3, E, n4, n5, n6⟩, ⟨b0.1, b0.2, b1.1, b1.2, b2.1, b2.2, b4.1, b4.2, b5.1, b5.2, b6.1, b6.2, hEo⟩, hE, by have := hc 0 (by omega); rw [e0] at this; simpa using this, by rw [hc 1 (by omega), e1], by rw [hc 2 (by omega), e2], by rw [hc 3 (by omega), e3], by rw [hc 4 (by omega), e4], by rw [hc 5 (by omega), e5], by rw [hc 6 (by omega), e6]⟩)
  obtain ⟨b, off, spot⟩ := a0
  obtain ⟨x, hx⟩ : ∃ x, L[0]? = some x := ⟨_, List.getElem?_eq_getElem (by omega)⟩
  have hc := (hq 0 x hx).2.2.1
  have hspot : spot = none := by simpa [Addr.add] using World.cell?_spot hc
  subst hspot
  refine ⟨L, ⟨⟨_, cap, by rw [hL], fun _ => ⟨b, off, rfl, fun i x hx => ?_, ?_⟩⟩, fun x hx => ?_⟩, fun x hx => ?_, by omega⟩
  · obtain ⟨-, -, k0, k1, k2, k3, k4, k5, k6⟩ := hq i x hx
    rw [Addr.add_mid] at k0 k1 k2 k3 k4 k5 k6
    exact ⟨k0, by rw [Nat.add_assoc]; exact k1, by rw [Nat.add_assoc]; exact k2, by rw [Nat.add_assoc]; exact k3, by rw [Nat.add_assoc]; exact k4, by rw [Nat.add_assoc]; exact k5, by rw [Nat.add_assoc]; exact k6⟩
  · have := block_lt_of_cell hc
    simpa [Addr.add] using this
  · obtain ⟨i, hi'⟩ := List.mem_iff_getElem?.1 hx
    exact (hq i x hi').2.1
  · obtain ⟨i, hi'⟩ := List.mem_iff_getElem?.1 hx
    exact (hq i x hi').1

theorem acts_of {v : Value} {d : DataW H} {p : List MemPlace} (hv : ∃ a n c, v = .slice a n c) (h : DataW.Trod enc Try.prog W base spare held 54 v d p) :
    ∃ A, IsAs W v A ∧ (∀ x ∈ A, x.Ok) ∧ A.length ≤ maxLen := by
  obtain ⟨a, len, cap, rfl, hl, ha, hi⟩ := open_rows Try.underlying54 hv h
  rcases Nat.eq_zero_or_pos len with rfl | hpos
  · exact ⟨[], ⟨a, cap, rfl, fun h => absurd rfl h⟩, by simp, by simp⟩
  obtain ⟨a0, rfl⟩ := ha hpos
  obtain ⟨A, hA, hq⟩ := list_of (fun i (x : Act) => x.Ok ∧ ∀ (j : Nat) u, x.cells[j]? = some u → W.cell? (a0.add (i * 6 + j)) = some u) len (fun i hil => by
    obtain ⟨cs, m, y, hcl, hc, ht⟩ := hi i hil a0 rfl
    rw [c57] at hcl hc
    obtain ⟨n0, e0, w0⟩ := leaf_int (d := 3) (i := 0) (u := 5) ht (by kernel_rfl) Try.underlying5
    obtain ⟨n1, e1, w1⟩ := leaf_int (d := 3) (i := 1) (u := 5) ht (by kernel_rfl) Try.underlying5
    obtain ⟨n2, e2, w2⟩ := leaf_int (d := 3) (i := 2) (u := 5) ht (by kernel_rfl) Try.underlying5
    obtain ⟨s3, e3, w3⟩ := leaf_string (d := 3) (i := 3) (u := 9) ht (by kernel_rfl) Try.underlying9
    obtain ⟨n4, e4, w4⟩ := leaf_int (d := 3) (i := 4) (u := 37) ht (by kernel_rfl) Try.underlying37
    obtain ⟨q5, e5⟩ := leaf_bool (d := 3) (i := 5) (u := 4) ht (by kernel_rfl) Try.underlying4
    have b0 := wf_u8 w0
    have b1 := wf_u8 w1
    have b2 := wf_u8 w2
    have b4 := wf_u64 w4
    refine ⟨⟨n0, n1, n2, s3, n4, q5⟩, ⟨b0.1, b0.2, b1.1, b1.2, b2.1, b2.2, b4.1, b4.2⟩, fun j u hu => ?_⟩
    match j, hu with
    | 0, hu => cases hu; rw [hc 0 (by omega), e0]
    | 1, hu => cases hu; rw [hc 1 (by omega), e1]
    | 2, hu => cases hu; rw [hc 2 (by omega), e2]
    | 3, hu => cases hu; rw [hc 3 (by omega), e3]
    | 4, hu => cases hu; rw [hc 4 (by omega), e4]
    | 5, hu => cases hu; rw [hc 5 (by omega), e5]
    | j + 6, hu => simp [Act.cells] at hu)
  obtain ⟨b, off, spot⟩ := a0
  obtain ⟨x, hx⟩ : ∃ x, A[0]? = some x := ⟨_, List.getElem?_eq_getElem (by omega)⟩
  have hc := (hq 0 x hx).2 0 _ rfl
  have hspot : spot = none := by simpa [Addr.add] using World.cell?_spot hc
  subst hspot
  refine ⟨A, ⟨_, cap, by rw [hA], fun _ => ⟨b, off, rfl, fun i x hx j u hu => ?_, ?_⟩⟩, fun x hx => ?_, by omega⟩
  · have := (hq i x hx).2 j u hu
    rw [Addr.add_mid] at this
    rw [Nat.add_assoc]; exact this
  · have := block_lt_of_cell hc
    simpa [Addr.add] using this
  · obtain ⟨i, hi'⟩ := List.mem_iff_getElem?.1 hx
    exact (hq i x hi').1
set_option maxRecDepth 100000 in
theorem pair_of {v : Value} {d : DataW H} {p : List MemPlace} {r : Reach} {b0 : Nat} (ho : Value.okWide Try.prog W r b0 46 v) (h : DataW.Trod enc Try.prog W base spare held 46 v d p) :
    ∃ x0 x1 : Nat, v = .agg #[.int .u8 x0, .int .u8 x1] ∧ x0 ≤ 255 ∧ x1 ≤ 255 := by
  obtain ⟨cs, rfl, hsz⟩ := okWide_array Try.underlying46 ho
  rw [c46] at hsz
  obtain ⟨fuel, hf⟩ := h
  have hf' : DataW.trod enc Try.prog W base spare held fuel 46 cs.toList = some (d, p) := hf
  obtain ⟨n0, e0, w0⟩ := leaf_int (d := 3) (i := 0) (u := 5) hf' (by kernel_rfl) Try.underlying5
  obtain ⟨n1, e1, w1⟩ := leaf_int (d := 3) (i := 1) (u := 5) hf' (by kernel_rfl) Try.underlying5
  have b0 := wf_u8 w0
  have b1 := wf_u8 w1
  obtain ⟨x0, rfl⟩ := Int.eq_ofNat_of_zero_le b0.1
  obtain ⟨x1, rfl⟩ := Int.eq_ofNat_of_zero_le b1.1
  refine ⟨x0, x1, ?_, by omega, by omega⟩
  congr 1
  apply Array.ext'
  apply List.ext_getElem?
  intro i
  have : i = 0 ∨ i = 1 ∨ 2 ≤ i := by omega
  rcases this with rfl | rfl | h
  · rw [e0]; rfl
  · rw [e1]; rfl
  · rw [List.getElem?_eq_none (by simpa [hsz] using h), List.getElem?_eq_none (by simpa using h)]
end
end Args
end Go.Proofs.Ytdfjjhpnhaggjaa
