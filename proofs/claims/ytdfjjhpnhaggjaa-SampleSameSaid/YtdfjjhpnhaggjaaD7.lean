/- The walk of the reference's Text. -/
import Derived.Test.YtdfjjhpnhaggjaaD6
import Derived.Deep.RegionHeld3
import Derived.BigRegion
import Derived.StillTactics
import Derived.WalkSpells
namespace Go.Proofs.Ytdfjjhpnhaggjaa
open Go.RowKit Go.Mem

set_option maxHeartbeats 400000 in
theorem rtext_none (w : World) (fp : List Nat) (r : Nat) (m val e : Int) (h : RefIs w fp r m val e []) :
    Calls Try.prog 36 #[.pointer (some ⟨r, 0, none⟩)] w fun x w' => x = .returned (.string ⟨#[45]⟩) ∧ Upd [] w w' := by
  obtain ⟨v, rvs, hb, ho, -⟩ := h
  have h3 := hb.at 3 rfl
  rcases ho.2 with ⟨rfl, hl⟩ | ⟨g, cap, cur, rfl, -⟩
  · clear hb ho hl
    go_enter Try.func36, Try.ntmps36
    go_wp2
    go_ret
    exact ⟨rfl, Upd.refl _ _⟩
  · clear hb ho
    have hz : ((([] : List Wr).length : Int) == 0) = true := rfl
    go_enter Try.func36, Try.ntmps36
    go_wp2
    go_ret
    exact ⟨rfl, Upd.refl _ _⟩

theorem own_slice {w : World} {e sz n : Nat} {v : Value} {xs : List Value} (h : w.ownsRow 0 e sz v n xs) : ∃ a k c, v = .slice a k c := by
  rcases h.2 with ⟨rfl, _⟩ | ⟨g, cap, cur, rfl, -⟩
  · exact ⟨_, _, _, rfl⟩
  · exact ⟨_, _, _, rfl⟩
def hexOr (s : ByteArray) : List UInt8 := if s.data.toList = [] then [45] else hexs s.data.toList
def flag (rd : List Int) (i : Nat) : UInt8 := if inB rd i then 48 else 49
def refText (x : Wr) (e : Int) : List UInt8 := dg x.t.toNat ++ [32] ++ hexOr x.s ++ [32] ++ (List.range e.toNat).map (flag x.reads)

theorem hexOr_len {s : ByteArray} (hs : s.size ≤ 1000) : (hexOr s).toArray.size ≤ 2001 := by
  have h2 : s.data.toList.length = s.size := Array.length_toList
  unfold hexOr
  split
  · simp
  · rw [List.size_toArray, hexs_len]; omega
theorem flag_size {l P : ByteArray} {rd : List Int} {k : Nat} (h : l.data.toList = P.data.toList ++ (List.range k).map (flag rd)) (hP : P.size ≤ 2023) (hk : k ≤ 16) : l.size ≤ 2039 := by
  have h1 : l.data.toList.length = l.size := Array.length_toList
  have h2 : P.data.toList.length = P.size := Array.length_toList
  rw [h] at h1
  rw [List.length_append, List.length_map, List.length_range] at h1
  omega
theorem keepS {W w' : World} {B : Nat} {a b : Value} (hB : B < W.heap.size) (h0 : W.cell? ⟨B, 0, none⟩ = some a) (h1 : W.cell? ⟨B, 1, none⟩ = some b) (hu : Upd [] W w') :
    w'.cell? ⟨B, 0, none⟩ = some a ∧ w'.cell? ⟨B, 1, none⟩ = some b ∧ Upd [] W w' := ⟨cell_upd hu (by simp) hB 0 h0, cell_upd hu (by simp) hB 1 h1, hu⟩

set_option maxRecDepth 10000 in
set_option maxHeartbeats 1000000 in
theorem rtext_top (w : World) (r g cap : Nat) (m val e : Int) (L : List Wr) (x : Wr) (rvs : List Value) (rv : Value) (h : RefTop w r g cap m val e L x rvs rv) (he0 : 0 ≤ e) (he1 : e ≤ 16) (hn : L.length ≤ 1000) (hm : x.reads.length ≤ 1000)
    (hs : x.s.size ≤ 1000) (ht0 : 0 ≤ x.t) (ht1 : x.t < 18446744073709551616) :
    Calls Try.prog 36 #[.pointer (some ⟨r, 0, none⟩)] w fun y w' => y = .returned (.string ⟨(refText x e).toArray⟩) ∧ Upd [] w w' := by
  have hz : (((L.length : Nat) : Int) + 1 == 0) = false := by rw [beq_eq_false_iff_ne]; omega
  have c2 := h.blk.at 2 rfl
  have c3 := h.blk.at 3 rfl
  obtain ⟨d0, d1, d2, df⟩ := h.cells
  obtain ⟨tn, htn⟩ := Int.eq_ofNat_of_zero_le ht0
  rw [htn] at d0
  have ht2 : tn < 18446744073709551616 := by omega
  have hrlt := h.blk.lt
  have hglt : g < w.heap.size := own_lt h.own g (by simp [bl, Value.ownBlock])
  obtain ⟨ra, rn, rc, rfl⟩ := own_slice h.last
  have HL := Lib.hid h.last
  have HT := Lib.hid htn
  have HT1 := Lib.hid ht2
  have HM := Lib.hid hm
  obtain ⟨s, hss⟩ : ∃ s, s = x.s := ⟨_, rfl⟩
  rw [← hss] at d1 hs
  have HS := Lib.hid hss
  obtain ⟨D, hD⟩ : ∃ D : ByteArray, D = ⟨(dg tn).toArray⟩ := ⟨_, rfl⟩
  obtain ⟨X, hX⟩ : ∃ X : ByteArray, X = ⟨(hexOr s).toArray⟩ := ⟨_, rfl⟩
  have hDs : D.size ≤ 20 := by rw [hD]; exact dg_len20 ht2
  have hXs : X.size ≤ 2001 := by rw [hX]; exact hexOr_len hs
  have hcD : ∀ w, Calls Try.prog 62 #[.int .u64 tn] w fun r w' => r = .returned (.string D) ∧ Upd [] w w' := fun w => by rw [hD]; exact digits_calls tn w ht2
  have hcX : ∀ w, Calls Try.prog 63 #[.string s] w fun r w' => r = .returned (.string X) ∧ ∃ n, w' = w.drewN n := fun w => by rw [hX]; exact hex_calls s w hs
  have HcD := Lib.hid hcD
  have HcX := Lib.hid hcX
  have HD := Lib.hid hD
  have HX := Lib.hid hX
  clear h df ht0 ht1 ht2 htn hm hss hD hX hcD hcX
  go_enter Try.func36, Try.ntmps36
  go_wp2
  go_region
  go_wp2
  obtain ⟨W0, hW0⟩ : ∃ W0, W0 = (w.alloc (.cells #[.int .u64 tn, .string s, .slice ra rn rc] 136)).drew := ⟨_, rfl⟩
  rw [← hW0]
  have hB : Blk W0 w.heap.size [.int .u64 tn, .string s, .slice ra rn rc] 136 := by rw [hW0]; exact (Blk.new w _ _).drew
  have hU : Upd [] w W0 := by rw [hW0]; exact ((Upd.refl _ _).alloc _).drew
  obtain ⟨B, hBB⟩ : ∃ B, B = w.heap.size := ⟨_, rfl⟩
  rw [← hBB] at hB ⊢
  have e0 := hB.at 0 rfl
  have e1 := hB.at 1 rfl
  have HBl := Lib.hid hB.lt
  have HU := Lib.hid hU
  have HHB := Lib.hid hB
  have HBB := Lib.hid hBB
  have E := Lib.hid (And.intro e0 e1)
  clear hW0 hB hU hBB
  have q1 : (9223372036854775807 < D.size + 1) = False := eq_false (by omega)
  have q2 : (9223372036854775807 < D.size + 1 + X.size) = False := eq_false (by omega)
  have q3 : (9223372036854775807 < D.size + 1 + X.size + 1) = False := eq_false (by omega)
  go_region_held3 (fun w' => w'.cell? ⟨B, 0, none⟩ = some (.int .u64 tn) ∧ w'.cell? ⟨B, 1, none⟩ = some (.string s) ∧ Upd [] W0 w')
    (first | (go_split_ands; exact ⟨by assumption, by assumption, by assumption⟩) | (refine keepS HBl.out E.out.1 E.out.2 ?_; exact (Upd.refl _ _).drew) | (go_split_ands; refine keepS HBl.out E.out.1 E.out.2 ?_; exact Upd.trans (by assumption) hu (by simp)) | (go_split_ands; refine keepS HBl.out E.out.1 E.out.2 ?_; refine Upd.drewN ?_ _; assumption))
    ((first | (go_at_call 62; refine (HcD.out _).mono ?_; rintro e w1 ⟨rfl, hu⟩) | (go_at_call 63; refine (HcX.out _).mono ?_; rintro e w1 ⟨rfl, n, rfl⟩)))
  rename_i hheld
  obtain ⟨W1, hW1⟩ : ∃ W1, W1 = w1.drewN n := ⟨_, rfl⟩
  rw [← hW1] at hheld ⊢
  have HU1 := Lib.hid (HU.out.trans hheld.2.2 (by simp))
  obtain ⟨P, hP⟩ : ∃ P : ByteArray, P = D ++ ⟨#[32]⟩ ++ X ++ ⟨#[32]⟩ := ⟨_, rfl⟩
  rw [← hP]
  have hPs : P.size ≤ 2023 := by rw [hP]; simp only [ByteArray.size_append', ByteArray.size_mk', List.size_toArray, List.length_cons, List.length_nil]; omega
  have HP := Lib.hid hP
  have HU0 := Lib.hid hheld.2.2
  have C2 := Lib.hid c2
  have D2 := Lib.hid (HHB.out.at 2 rfl)
  clear hheld hP hW1 hu q1 q2 q3 e0 e1 c2 c3 d0 d1 d2 hz hDs hXs hs
  go_wp2
  go_loopw [4, 5] (fun a i wr => ∃ k : Nat, (k : Int) ≤ e ∧ i = .int .i64 k ∧ ∃ l : ByteArray, a = .string l ∧ l.data.toList = P.data.toList ++ (List.range k).map (flag x.reads) ∧ Upd [] W0 wr) (fun _ i _ => e.toNat - (intOf i).toNat)
  case atStart => exact ⟨0, he0, rfl, _, rfl, by simp, HU0.out⟩
  case round =>
    obtain ⟨k, hk, rfl, l, rfl, hl, hu⟩ := hrel
    have hls := flag_size hl hPs (by omega)
    have hu2 := HU.out.trans hu (by simp)
    have c2 := cell_upd hu2 (by simp) hrlt 2 C2.out
    have b2 := cell_upd hu (by simp) HBl.out 2 D2.out
    have HO := Lib.hid (own_upd HL.out hu2 (by simp))
    have HUR := Lib.hid hu
    have HLL := Lib.hid hl
    clear hu hu2 hl
    by_cases hlt : (k : Int) < e
    · by_cases hf : inB x.reads k = true
      · have HF := Lib.hid hf
        have hfl : flag x.reads k = 48 := by simp [flag, hf]
        have HFL := Lib.hid hfl
        clear hf hfl
        go_wp2_with (go_at_call 64; refine (in_calls _ _ _ _ HO.out (by have := HM.out; omega)).mono ?_; rintro e w' ⟨rfl, rfl⟩; rw [HF.out])
        go_roundw
        case rel => exact ⟨k + 1, by omega, by go_num, _, rfl, by rw [List.range_succ, List.map_append, ← List.append_assoc, ← HLL.out]; simp [HFL.out], HUR.out⟩
        case measure => simp [intOf]; omega
      · have hf2 : inB x.reads k = false := by simpa using hf
        have HF := Lib.hid hf2
        have hfl : flag x.reads k = 49 := by simp [flag, hf2]
        have HFL := Lib.hid hfl
        clear hf hf2 hfl
        go_wp2_with (go_at_call 64; refine (in_calls _ _ _ _ HO.out (by have := HM.out; omega)).mono ?_; rintro e w' ⟨rfl, rfl⟩; rw [HF.out])
        go_roundw
        case rel => exact ⟨k + 1, by omega, by go_num, _, rfl, by rw [List.range_succ, List.map_append, ← List.append_assoc, ← HLL.out]; simp [HFL.out], HUR.out⟩
        case measure => simp [intOf]; omega
    · have hk2 : k = e.toNat := by omega
      have HK := Lib.hid hk2
      clear hk2
      go_wp2
      go_ret
      refine ⟨ret_str (str_ext ?_), HU.out.trans HUR.out (by simp)⟩
      rw [HLL.out, HP.out, HK.out, HD.out, HX.out, HS.out]
      simp [refText, HT.out]
end Go.Proofs.Ytdfjjhpnhaggjaa
