/- 'SampleSame' returns true whatever it is given, and leaves its arguments as they were: which sampling channels are the same is as the document says. No condition. -/
import Derived.Test.YtdfjjhpnhaggjaaL7
import Derived.Test.YtdfjjhpnhaggjaaOpen
import Derived.ChangeOld
namespace Go.Proofs.Ytdfjjhpnhaggjaa
open Go.ChangeShapes Go.WideShapes Go.ChangeAt Go.RowKit Go.Mem

namespace SampleSame
theorem own : ownKnob Try.prog.godebug = none := by kernel_rfl
theorem laidOut : laidOutB Try.prog = true := by kernel_rfl
theorem c25 : Try.prog.cellsOf 25 = 6 := by kernel_rfl
theorem c39 : Try.prog.cellsOf 39 = 4 := by kernel_rfl

theorem wf_u8 {n : Int} (h : (Lit.int .u8 n).wf = true) : 0 ≤ n ∧ n ≤ 255 := by simpa [Lit.wf, IntKind.min, IntKind.max, IntKind.signed, IntKind.bits] using h
theorem wf_u32 {n : Int} (h : (Lit.int .u32 n).wf = true) : 0 ≤ n ∧ n < 4294967296 := by
  have : 0 ≤ n ∧ n ≤ 4294967295 := by simpa [Lit.wf, IntKind.min, IntKind.max, IntKind.signed, IntKind.bits] using h
  omega
theorem wf_u64 {n : Int} (h : (Lit.int .u64 n).wf = true) : 0 ≤ n ∧ n < 18446744073709551616 := by
  have : 0 ≤ n ∧ n ≤ 18446744073709551615 := by simpa [Lit.wf, IntKind.min, IntKind.max, IntKind.signed, IntKind.bits] using h
  omega

section
variable {H : Type} {enc : TypeId × Value → H} {W : World} {base : Nat} {spare : Nat → Bool} {held : Bool}

theorem acts_of {v : Value} {d : DataW H} {p : List MemPlace} (hv : ∃ a n c, v = .slice a n c) (h : DataW.Trod enc Try.prog W base spare held 26 v d p) :
    ∃ A, IsActs W v A ∧ (∀ x ∈ A, x.Ok) ∧ A.length ≤ maxLen := by
  obtain ⟨a, len, cap, rfl, hl, ha, hi⟩ := open_rows Try.underlying26 hv h
  rcases Nat.eq_zero_or_pos len with rfl | hpos
  · exact ⟨[], ⟨a, cap, rfl, fun h => absurd rfl h⟩, by simp, by simp⟩
  obtain ⟨a0, rfl⟩ := ha hpos
  obtain ⟨A, hA, hq⟩ := list_of (fun i (x : Act18) => x.Ok ∧ W.cell? (a0.add (i * 4)) = some (.int .u8 x.wh) ∧ W.cell? (a0.add (i * 4 + 1)) = some (.int .u64 x.t) ∧ W.cell? (a0.add (i * 4 + 2)) = some (.string x.s) ∧ W.cell? (a0.add (i * 4 + 3)) = some (.int .i64 x.en)) len (fun i hil => by
    obtain ⟨cs, m, y, hcl, hc, ht⟩ := hi i hil a0 rfl
    rw [c39] at hcl hc
    obtain ⟨n0, e0, w0⟩ := leaf_int (d := 3) (i := 0) (u := 5) ht (by kernel_rfl) Try.underlying5
    obtain ⟨n1, e1, w1⟩ := leaf_int (d := 3) (i := 1) (u := 37) ht (by kernel_rfl) Try.underlying37
    obtain ⟨s2, e2, w2⟩ := leaf_string (d := 3) (i := 2) (u := 9) ht (by kernel_rfl) Try.underlying9
    obtain ⟨n3, e3, w3⟩ := leaf_int (d := 3) (i := 3) (u := 3) ht (by kernel_rfl) Try.underlying3
    have b0 := wf_u8 w0
    have b1 := wf_u64 w1
    exact ⟨⟨n0, n1, s2, n3⟩, ⟨b0.1, b0.2, b1.1, b1.2⟩, by have := hc 0 (by omega); rw [e0] at this; simpa using this, by rw [hc 1 (by omega), e1], by rw [hc 2 (by omega), e2], by rw [hc 3 (by omega), e3]⟩)
  obtain ⟨b, off, spot⟩ := a0
  have hne : A ≠ [] := by intro h; subst h; simp at hA; omega
  obtain ⟨x, hx⟩ : ∃ x, A[0]? = some x := ⟨_, List.getElem?_eq_getElem (by omega)⟩
  have hc := (hq 0 x hx).2.1
  have hspot : spot = none := by simpa [Addr.add] using World.cell?_spot hc
  subst hspot
  refine ⟨A, ⟨_, cap, by rw [hA], fun _ => ⟨b, off, rfl, fun i x hx => ?_, ?_⟩⟩, fun x hx => ?_, by omega⟩
  · obtain ⟨-, k0, k1, k2, k3⟩ := hq i x hx
    rw [Addr.add_mid] at k0 k1 k2 k3
    exact ⟨k0, by rw [Nat.add_assoc]; exact k1, by rw [Nat.add_assoc]; exact k2, by rw [Nat.add_assoc]; exact k3⟩
  · have := block_lt_of_cell hc
    simpa [Addr.add] using this
  · obtain ⟨i, hi'⟩ := List.mem_iff_getElem?.1 hx
    exact (hq i x hi').1
end

set_option maxRecDepth 100000 in
theorem lifted (os : Os) (started : os.Started) (H : Type) (enc : TypeId × Value → H) :
    ReturnsInHanded {} Try.checked os 3 .any (Rows.sampleSameSpec.pre6 enc Try.prog Try.f3 Rows.sampleSameRow.domain false) (Rows.sampleSameSpec.post enc Try.prog Try.f3 false true false false) := by
  refine returnsInHanded_of_change (C := Try.checked) own started (by kernel_rfl) Try.func3
    (ChangeSpec.witness6 (enc := enc) (C := Try.checked) false ⟨#[], #[.agg #[.int .i64 0, .int .u32 0, .int .i64 0, .int .i64 0, .int .u32 0, .int .i64 0], .slice none 0 0, .slice none 0 0], []⟩ 8 (by kernel_rfl) (by kernel_rfl) (by kernel_rfl) (by kernel_rfl)) ?_
  intro W base args ds gs before hval0 hW hcnd _
  have hval : ∀ (j : Nat) t v, Try.f3.params[j]? = some t → args[j]? = some v → Value.okWide Try.prog W .any base t v := hval0
  have hW' := hW
  obtain ⟨p, q, hA0, hV, rfl, hfz, hnd⟩ := hW
  have hA : DataW.TrodAll enc Try.prog W 0 (fun _ => true) true Try.f3.params.toList args.toList ds p := hA0
  rw [Try.params3] at hA hval
  obtain ⟨v0, vs0, d0, ds0, p0, q0, hargs, rfl, rfl, h0, r0⟩ := trodAll_cons hA
  obtain ⟨v1, vs1, d1, ds1, p1, q1, rfl, rfl, rfl, h1, r1⟩ := trodAll_cons r0
  obtain ⟨v2, vs2, d2, ds2, p2, q2, rfl, rfl, rfl, h2, r2⟩ := trodAll_cons r1
  obtain ⟨rfl, rfl, rfl⟩ := trodAll_nil r2
  obtain rfl : args = #[v0, v1, v2] := by cases args; simp_all
  obtain ⟨rfl, rfl⟩ := trodVars_none hV
  have lt0 : ∀ x ∈ p0, x.block < W.heap.size := by obtain ⟨m, hm⟩ := h0; exact DataW.trod_lt m _ _ _ hm
  have lt1 : ∀ x ∈ p1, x.block < W.heap.size := by obtain ⟨m, hm⟩ := h1; exact DataW.trod_lt m _ _ _ hm
  have lt2 : ∀ x ∈ p2, x.block < W.heap.size := by obtain ⟨m, hm⟩ := h2; exact DataW.trod_lt m _ _ _ hm
  obtain ⟨cs, rfl, hsz⟩ := okWide_array Try.underlying25 (hval 0 25 v0 rfl rfl)
  have k0 := h0
  obtain ⟨fuel, hf⟩ := k0
  have hf' : DataW.trod enc Try.prog W 0 (fun _ => true) true fuel 25 cs.toList = some (d0, p0) := hf
  obtain ⟨n0, e0, w0⟩ := leaf_int (d := 4) (i := 0) (u := 3) hf' (by kernel_rfl) Try.underlying3
  obtain ⟨n1, e1, w1⟩ := leaf_int (d := 4) (i := 1) (u := 22) hf' (by kernel_rfl) Try.underlying22
  obtain ⟨n2, e2, w2⟩ := leaf_int (d := 4) (i := 2) (u := 3) hf' (by kernel_rfl) Try.underlying3
  obtain ⟨n3, e3, w3⟩ := leaf_int (d := 4) (i := 3) (u := 3) hf' (by kernel_rfl) Try.underlying3
  obtain ⟨n4, e4, w4⟩ := leaf_int (d := 4) (i := 4) (u := 22) hf' (by kernel_rfl) Try.underlying22
  obtain ⟨n5, e5, w5⟩ := leaf_int (d := 4) (i := 5) (u := 3) hf' (by kernel_rfl) Try.underlying3
  have hcs : cs = #[.int .i64 n0, .int .u32 n1, .int .i64 n2, .int .i64 n3, .int .u32 n4, .int .i64 n5] := by
    rw [c25] at hsz
    apply Array.ext'
    apply List.ext_getElem?
    intro i
    have : i = 0 ∨ i = 1 ∨ i = 2 ∨ i = 3 ∨ i = 4 ∨ i = 5 ∨ 6 ≤ i := by omega
    rcases this with rfl | rfl | rfl | rfl | rfl | rfl | h
    · rw [e0]; rfl
    · rw [e1]; rfl
    · rw [e2]; rfl
    · rw [e3]; rfl
    · rw [e4]; rfl
    · rw [e5]; rfl
    · rw [List.getElem?_eq_none (by simpa [hsz] using h), List.getElem?_eq_none (by simpa using h)]
  obtain ⟨A, hAA, hAo, hAl⟩ := acts_of (okWide_slice Try.underlying26 (hval 1 26 v1 rfl rfl)) h1
  obtain ⟨B, hBB, hBo, hBl⟩ := acts_of (okWide_slice Try.underlying26 (hval 2 26 v2 rfl rfl)) h2
  clear hA0 hval0
  have walk := same_all W n0 n1 n2 n3 n4 n5 v1 v2 A B hAA hBB hAo hBo hAl hBl (wf_u32 w1).1 (wf_u32 w1).2 (wf_u32 w4).1 (wf_u32 w4).2
  rw [← hcs] at walk
  refine walk.mono fun e W' ⟨he, hu⟩ => ?_
  subst he
  have bel := hu.below
  exact ⟨_, rfl, _, _, _, [], _, [], hW', trodAll_mk1 (shut_bool Try.underlying4 _), (trodAll_cons_mk (Below.trod laidOut (by kernel_rfl) (of_decide_eq_true (by kernel_rfl)) h0 bel lt0) (trodAll_cons_mk (Below.trod laidOut (by kernel_rfl) (of_decide_eq_true (by kernel_rfl)) h1 bel lt1) (trodAll_cons_mk (Below.trod laidOut (by kernel_rfl) (of_decide_eq_true (by kernel_rfl)) h2 bel lt2) trodAll_mk0))), rfl, bel.frame _, fun h => by cases h⟩

theorem over : Rows.sampleSameRow.holds Try.pinned (OpenSpec.ofChange Rows.sampleSameSpec) :=
  OpenClaim.holds_of_wide 3 Try.f3 rfl rfl rfl rfl rfl rfl rfl ⟨rfl, rfl, rfl, rfl, rfl⟩ rfl rfl rfl rfl rfl (by kernel_rfl) Try.func3 (by kernel_rfl)
    (of_decide_eq_true (by kernel_rfl)) (by unfold Func.isWrapper; first | (rw [if_pos (by decide +kernel)]; kernel_rfl) | (rw [if_neg (by decide +kernel)]; exact ⟨rfl, rfl⟩))
    (fun os started H enc _ => lifted os started H enc)
end SampleSame

/-- ████ THE STATEMENT ████ -/
theorem sampleSame_holds : Rows.SampleSameSaid := SampleSame.over
#print axioms sampleSame_holds
end Go.Proofs.Ytdfjjhpnhaggjaa
