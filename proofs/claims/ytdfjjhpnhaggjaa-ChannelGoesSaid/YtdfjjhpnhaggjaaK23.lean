/- The reference's Reaches: what it searches, walked; and that it finds what is reached. -/
import Derived.Test.YtdfjjhpnhaggjaaK18
namespace Go.Proofs.Ytdfjjhpnhaggjaa
open Go.RowKit Go.Mem

/-- One step among the guests. -/
def Eg (l : List Ch) (n : Nat) (a b : Nat) : Prop := a < n ∧ b < n ∧ lead l a b = true
theorem nodup_le : ∀ (n : Nat) (M : List Nat), M.Nodup → (∀ x ∈ M, x < n) → M.length ≤ n
  | 0, M, _, h => by
    cases M with
    | nil => simp
    | cons x M => exact absurd (h x (by simp)) (by omega)
  | n + 1, M, hn, h => by
    by_cases hm : n ∈ M
    · have h1 := nodup_le n (M.erase n) (hn.erase n) (fun x hx => by
        have := (List.Nodup.mem_erase_iff hn).1 hx
        have := h x this.2
        omega)
      rw [List.length_erase_of_mem hm] at h1
      omega
    · have := nodup_le n M hn (fun x hx => by have := h x hx; have : x ≠ n := fun e => hm (e ▸ hx); omega)
      omega
theorem star_closed {E : Nat → Nat → Prop} {S : List Nat} (hs : ∀ x y, x ∈ S → E x y → y ∈ S) {a b : Nat} (h : Star E a b) : a ∈ S → b ∈ S := by
  induction h with
  | refl => exact id
  | step e _ ih => exact fun ha => ih (hs _ _ ha e)

/-- What the search has met. -/
structure Rch (w wr : World) (l : List Ch) (n a g cap m : Nat) (M : List Nat) : Prop where
  own : wr.ownsRow 0 5 1 (.slice (some ⟨g, 0, none⟩) m cap) m (M.map fun x => Value.int .u8 (x : Nat))
  len : m = M.length
  up : Upd [] w wr
  ng : w.heap.size ≤ g
  nd : M.Nodup
  lt : ∀ x ∈ M, x < n
  star : ∀ x ∈ M, Star (Eg l n) a x
  hd : a ∈ M
def Dn (l : List Ch) (n b k : Nat) (M : List Nat) : Prop := ∀ j x, j < k → M[j]? = some x → x ≠ b ∧ ∀ y, y < n → lead l x y = true → y ∈ M
def Pt (l : List Ch) (x k : Nat) (M : List Nat) : Prop := ∀ y, y < k → lead l x y = true → y ∈ M
def Kn (y j : Nat) (M : List Nat) : Bool := decide (y ∈ M.take j)

theorem Rch.le {w wr : World} {l : List Ch} {n a g cap m : Nat} {M : List Nat} (h : Rch w wr l n a g cap m M) : m ≤ n := by rw [h.len]; exact nodup_le n M h.nd h.lt
theorem Rch.cell {w wr : World} {l : List Ch} {n a g cap m : Nat} {M : List Nat} (h : Rch w wr l n a g cap m M) {j x : Nat} (hx : M[j]? = some x) : wr.cell? ⟨g, j, none⟩ = some (.int .u8 (x : Nat)) := by
  obtain ⟨junk, hb, -⟩ := own_blk h.own
  refine hb.at j ?_
  have hj := (List.getElem?_eq_some_iff.1 hx).1
  rw [List.getElem?_append_left (by simpa using hj), List.getElem?_map, hx]; rfl
theorem Rch.upd {w wr w' : World} {l : List Ch} {n a g cap m : Nat} {M : List Nat} (h : Rch w wr l n a g cap m M) (hu : Upd [] wr w') : Rch w w' l n a g cap m M :=
  ⟨own_upd h.own hu (by simp), h.len, h.up.trans hu (by simp), h.ng, h.nd, h.lt, h.star, h.hd⟩
theorem Rch.more {w wr w' : World} {l : List Ch} {n a g cap m g' cap' : Nat} {M : List Nat} (h : Rch w wr l n a g cap m M) {y : Nat} {o : Obj} (hown : w'.ownsRow 0 5 1 (.slice (some ⟨g', 0, none⟩) (m + 1) cap') (m + 1) ((M.map fun x => Value.int .u8 (x : Nat)) ++ [.int .u8 (y : Nat)]))
    (hg : (wr.alloc o).grownBy w' (some g)) (hgg : some g = some g' ∨ g' = (wr.alloc o).heap.size) (hy : y < n) (hn : y ∉ M) {x : Nat} (hx : x ∈ M) (hl : lead l x y = true) : Rch w w' l n a g' cap' (m + 1) (M ++ [y]) := by
  refine ⟨by simpa using hown, by simp [h.len], (h.up.alloc o).grown hg (by intro k hk; cases hk; exact .inr h.ng), ?_, ?_, ?_, ?_, by simp [h.hd]⟩
  · rcases hgg with e | e
    · cases e; exact h.ng
    · have := h.up.size; rw [World.size_alloc] at e; omega
  · rw [List.nodup_append]
    exact ⟨h.nd, by simp, by intro a ha b hb; simp at hb; subst hb; intro e; subst e; exact hn ha⟩
  · intro z hz
    rcases List.mem_append.1 hz with hz | hz
    · exact h.lt z hz
    · simp at hz; subst hz; exact hy
  · intro z hz
    rcases List.mem_append.1 hz with hz | hz
    · exact h.star z hz
    · simp at hz; subst hz; exact (h.star x hx).trans (.step ⟨h.lt x hx, hy, hl⟩ .refl)
theorem Dn.more {l : List Ch} {n b k : Nat} {M : List Nat} (h : Dn l n b k M) (hk : k ≤ M.length) (y : Nat) : Dn l n b k (M ++ [y]) := fun j x hj hx => by
  rw [List.getElem?_append_left (by omega)] at hx
  obtain ⟨h1, h2⟩ := h j x hj hx
  exact ⟨h1, fun z hz hl => List.mem_append_left _ (h2 z hz hl)⟩
theorem Pt.more {l : List Ch} {x k : Nat} {M : List Nat} (h : Pt l x k M) : Pt l x (k + 1) (M ++ [k]) := fun y hy hl => by
  by_cases e : y = k
  · subst e; simp
  · exact List.mem_append_left _ (h y (by omega) hl)
theorem Pt.skip {l : List Ch} {x k : Nat} {M : List Nat} (h : Pt l x k M) (hk : k ∈ M ∨ lead l x k = false) : Pt l x (k + 1) M := fun y hy hl => by
  by_cases e : y = k
  · subst e
    rcases hk with hk | hk
    · exact hk
    · rw [hk] at hl; cases hl
  · exact h y (by omega) hl
theorem Dn.next {l : List Ch} {n b k x : Nat} {M : List Nat} (h : Dn l n b k M) (hx : M[k]? = some x) (hb : x ≠ b) (hp : Pt l x n M) : Dn l n b (k + 1) M := fun j y hj hy => by
  by_cases e : j = k
  · subst e; rw [hx] at hy; cases hy; exact ⟨hb, hp⟩
  · exact h j y (by omega) hy
theorem Kn.next {y j x : Nat} {M : List Nat} (hx : M[j]? = some x) : Kn y (j + 1) M = (Kn y j M || decide (x = y)) := by
  unfold Kn
  rw [List.take_add_one, hx, Option.toList_some, Bool.eq_iff_iff]
  simp only [List.mem_append, List.mem_singleton, decide_eq_true_eq, Bool.or_eq_true]
  constructor
  · rintro (h | h)
    · exact .inl h
    · exact .inr h.symm
  · rintro (h | h)
    · exact .inl h
    · exact .inr h.symm
theorem Rch.no {w wr : World} {l : List Ch} {n a b g cap m : Nat} {M : List Nat} (h : Rch w wr l n a g cap m M) (hd : Dn l n b m M) : ¬ Star (Eg l n) a b := fun hs => by
  have hcl : ∀ x y, x ∈ M → Eg l n x y → y ∈ M := by
    intro x y hx he
    obtain ⟨j, hj⟩ := List.mem_iff_getElem?.1 hx
    exact (hd j x (by rw [h.len]; exact (List.getElem?_eq_some_iff.1 hj).1) hj).2 y he.2.1 he.2.2
  obtain ⟨j, hj⟩ := List.mem_iff_getElem?.1 (star_closed hcl hs h.hd)
  exact (hd j b (by rw [h.len]; exact (List.getElem?_eq_some_iff.1 hj).1) hj).1 rfl

theorem i5 : (Try.prog.info? 5).map (fun i => (i.zero, i.size, i.bytes)) = some (some (.int .u8 0), 1, 1) := by kernel_rfl

set_option maxRecDepth 100000 in
set_option maxHeartbeats 400000 in
theorem rreach_out (v : Value) (n a b : Nat) (w : World) (h : n ≤ a ∨ n ≤ b) (a1 : a ≤ 255) (b1 : b ≤ 255) :
    Calls Try.prog 19 #[v, .int .i64 n, .int .u8 (a : Nat), .int .u8 (b : Nat)] w fun e w' => e = .returned (.bool false) ∧ Upd [] w w' := by
  by_cases ha : n ≤ a
  · have y1 : decide (n ≤ a) = true := by simp; omega
    clear h ha
    go_enter Try.func19, Try.ntmps19
    go_wp2
    go_ret
    exact ⟨rfl, Upd.refl _ _⟩
  · have y1 : decide (n ≤ a) = false := by simp; omega
    have y2 : decide (n ≤ b) = true := by simp; omega
    clear h ha
    go_enter Try.func19, Try.ntmps19
    go_wp2
    go_ret
    exact ⟨rfl, Upd.refl _ _⟩

def RcPost (l : List Ch) (n a b : Nat) (w : World) (e : Ending) (w' : World) : Prop := ∃ q : Bool, e = .returned (.bool q) ∧ (q = true ↔ Star (Eg l n) a b) ∧ Upd [] w w'

set_option maxRecDepth 100000 in
set_option maxHeartbeats 4000000 in
theorem rreach_main (v : Value) (l : List Ch) (n a b : Nat) (w : World) (h : IsChans w v l) (hok : ∀ c ∈ l, c.Ok) (hl : l.length ≤ 16) (hto : ∀ c ∈ l, c.to.length ≤ 4) (hn : n ≤ 16) (ha : a < n) (hb : b < n) :
    Calls Try.prog 19 #[v, .int .i64 n, .int .u8 (a : Nat), .int .u8 (b : Nat)] w (RcPost l n a b w) := by
  have H := Lib.hid h
  have HOK := Lib.hid hok
  have HL := Lib.hid hl
  have HTO := Lib.hid hto
  obtain ⟨i0, hi, hz0, hz1, hz2⟩ := info_parts i5
  have HI : Hid (i0.zero = _ ∧ _ ∧ _ ∧ _) := ⟨hz0, hz1, hz2, hi⟩
  have y1 : decide (n ≤ a) = false := by simp; omega
  have y2 : decide (n ≤ b) = false := by simp; omega
  clear h hok hl hto hi hz0 hz1 hz2
  go_enter Try.func19, Try.ntmps19
  go_wp2
  have hs : Rch w (w.alloc (.cells #[.int .u8 (a : Nat)] 5)) l n a w.heap.size 1 1 [a] := by
    refine ⟨own_of_blk (junk := []) (Blk.new w [.int .u8 (a : Nat)] 5) (Nat.le_refl _) (by decide) rfl rfl, rfl, (Upd.refl _ _).alloc _, Nat.le_refl _, by simp, by simpa using ha, ?_, by simp⟩
    intro x hx; simp at hx; subst hx; exact .refl
  have HS := Lib.hid hs
  clear hs
  go_loopw [9, 10, 11, 12, 13] (fun v i _ _ _ wr => ∃ (g cap m k : Nat) (M : List Nat), v = .slice (some ⟨g, 0, none⟩) m cap ∧ i = .int .i64 k ∧ k ≤ m ∧ Rch w wr l n a g cap m M ∧ Dn l n b k M) (fun _ i _ _ _ _ => n - (intOf i).toNat)
  case atStart => exact ⟨_, _, 1, 0, [a], rfl, rfl, by omega, HS.out, fun j x hj => by omega⟩
  case round =>
    obtain ⟨g, cap, m, k, M, rfl, rfl, hkm, hr, hd⟩ := hrel
    clear HS
    have hmn := hr.le
    by_cases hlt : k < m
    · obtain ⟨x, hx⟩ : ∃ x, M[k]? = some x := ⟨_, List.getElem?_eq_getElem (by rw [← hr.len]; omega)⟩
      have hcx := hr.cell hx
      have hxn := hr.lt x (List.mem_of_getElem? hx)
      have HR := Lib.hid hr
      have HD := Lib.hid hd
      have HX := Lib.hid hx
      clear hr hd hx
      by_cases hxb : x = b
      · have hyes : Hid (Star (Eg l n) a b) := by rw [← hxb]; exact HR.out.star x (List.mem_of_getElem? HX.out)
        have z1 : ((x : Int) == (b : Int)) = true := by rw [beq_iff_eq]; omega
        clear hxb
        go_wp2
        go_ret
        exact ⟨true, rfl, by simp [hyes.out], HR.out.up⟩
      · have z1 : ((x : Int) == (b : Int)) = false := by rw [beq_eq_false_iff_ne]; omega
        have HXB := Lib.hid hxb
        clear hxb
        go_wp2
        go_loopw [9, 11, 12, 13] (fun v y _ _ wr => ∃ (g cap m k2 : Nat) (M : List Nat), v = .slice (some ⟨g, 0, none⟩) m cap ∧ y = .int .i64 k2 ∧ k2 ≤ n ∧ k < m ∧ Rch w wr l n a g cap m M ∧ Dn l n b k M ∧ M[k]? = some x ∧ Pt l x k2 M) (fun _ y _ _ _ => n - (intOf y).toNat)
        case atStart => exact ⟨g, cap, m, 0, M, rfl, rfl, by omega, hlt, HR.out, HD.out, HX.out, fun y hy => by omega⟩
        case round =>
          clear HR HD HX hcx hmn hkm
          obtain ⟨g2, cap2, m2, k2, M2, rfl, rfl, hk2, hkm, hr, hd, hx, hp⟩ := hrel
          have hmn := hr.le
          by_cases hlt2 : k2 < n
          · have HR := Lib.hid hr
            have HD := Lib.hid hd
            have HX := Lib.hid hx
            have HP := Lib.hid hp
            clear hr hd hx hp
            go_wp2
            go_loop [12, 13] (fun kn j => ∃ j' : Nat, j' ≤ m2 ∧ j = .int .i64 j' ∧ kn = .bool (Kn k2 j' M2)) (fun _ j => m2 - (intOf j).toNat)
            case atStart => exact ⟨0, by omega, rfl, rfl⟩
            case round =>
              obtain ⟨j, hj, rfl, rfl⟩ := hrel
              by_cases hjl : j < m2
              · obtain ⟨y, hy⟩ : ∃ y, M2[j]? = some y := ⟨_, List.getElem?_eq_getElem (by rw [← HR.out.len]; omega)⟩
                have hcy := HR.out.cell hy
                have hyn := HR.out.lt y (List.mem_of_getElem? hy)
                have HNX := Lib.hid (Kn.next (y := k2) hy)
                obtain ⟨kn, hkn⟩ : ∃ kn, kn = Kn k2 j M2 := ⟨_, rfl⟩
                rw [← hkn] at HNX ⊢
                clear hy hkn
                cases kn
                · by_cases he : y = k2
                  · have z1 : ((y : Int) == (k2 : Int)) = true := by rw [beq_iff_eq]; omega
                    have HE := Lib.hid he
                    clear he
                    go_wp2
                    go_round
                    case rel => exact ⟨j + 1, by omega, by go_num, by rw [HNX.out]; simp [HE.out]⟩
                    case measure => simp [intOf]; omega
                  · have z1 : ((y : Int) == (k2 : Int)) = false := by rw [beq_eq_false_iff_ne]; omega
                    have HE := Lib.hid he
                    clear he
                    go_wp2
                    go_round
                    case rel => exact ⟨j + 1, by omega, by go_num, by rw [HNX.out]; simp [HE.out]⟩
                    case measure => simp [intOf]; omega
                · go_wp2
                  go_round
                  case rel => exact ⟨j + 1, by omega, by go_num, by rw [HNX.out]; rfl⟩
                  case measure => simp [intOf]; omega
              · have hjm : Kn k2 j M2 = decide (k2 ∈ M2) := by
                  unfold Kn
                  rw [List.take_of_length_le (by have := HR.out.len; omega)]
                obtain ⟨kn, hkn⟩ : ∃ kn, kn = Kn k2 j M2 := ⟨_, rfl⟩
                rw [← hkn] at hjm ⊢
                have HKN := Lib.hid hjm
                clear hkn hjm
                cases kn
                · have hcx := HR.out.cell HX.out
                  have hxn := HR.out.lt x (List.mem_of_getElem? HX.out)
                  have HLD := Lib.hid (leads_calls v l x k2 wr (H.out.upd HR.out.up (by simp)) HL.out HTO.out)
                  rw [leadI_eq HOK.out] at HLD
                  obtain ⟨ld, hld⟩ : ∃ ld, ld = lead l x k2 := ⟨_, rfl⟩
                  rw [← hld] at HLD
                  have HLE := Lib.hid hld
                  clear hld
                  cases ld
                  · go_wp2_with (go_at_call 45; refine HLD.out.mono ?_; rintro e w' ⟨rfl, rfl⟩)
                    go_roundw
                    case rel => exact ⟨g2, cap2, m2, k2 + 1, M2, rfl, by go_num, by omega, hkm, HR.out, HD.out, HX.out, HP.out.skip (.inr HLE.out.symm)⟩
                    case measure => simp [intOf]; omega
                  · go_wp2_with (first | (go_at_call 45; refine HLD.out.mono ?_; rintro e w' ⟨rfl, rfl⟩) | (at_builtin; go_loud (refine wpList_append_lies _ rfl _ _ 108 rfl 0 5 i0 (.int .u8 0) 1 1 Try.underlying108 HI.out.2.2.2 HI.out.1 HI.out.2.1 HI.out.2.2.1 rfl (by decide) (.slice (some ⟨g2, 0, none⟩) m2 cap2) m2 _ rfl (HR.out.upd ((Upd.refl [] _).alloc _)).own ⟨wr.heap.size, 0, none⟩ 1 1 [.int .u8 k2] rfl rfl (cells_nw _ _ _) (by intro u hu; simp at hu; rw [hu]; rfl) (by decide) (by unfold maxLen; omega) (by omega) (Nat.zero_le _) _ rfl ?_); intro gb cp w3 hown hgrow hgb hlt3; have HMORE := Lib.hid (HR.out.more hown hgrow hgb hlt2 (by simpa using HKN.out.symm) (List.mem_of_getElem? HX.out) HLE.out.symm); clear hown hgrow hgb hlt3))
                    go_roundw
                    case rel => exact ⟨gb, cp, m2 + 1, k2 + 1, M2 ++ [k2], rfl, by go_num, by omega, by omega, HMORE.out, HD.out.more (by have := HR.out.len; omega) _, by rw [List.getElem?_append_left (by have := HR.out.len; omega)]; exact HX.out, HP.out.more⟩
                    case measure => simp [intOf]; omega
                · go_wp2
                  go_roundw
                  case rel => exact ⟨g2, cap2, m2, k2 + 1, M2, rfl, by go_num, by omega, hkm, HR.out, HD.out, HX.out, HP.out.skip (.inl (by simpa using HKN.out.symm))⟩
                  case measure => simp [intOf]; omega
          · have hkn : k2 = n := by omega
            rw [hkn] at hp
            have hd' := hd.next hx HXB.out hp
            have HD := Lib.hid hd'
            have HR := Lib.hid hr
            clear hp hd hd' hr hkn hx
            go_wp2
            go_roundw
            case rel => exact ⟨g2, cap2, m2, k + 1, M2, rfl, by go_num, by omega, HR.out, HD.out⟩
            case measure => simp [intOf]; omega
    · have hno : Hid (¬ Star (Eg l n) a b) := by
        have e : k = m := by omega
        rw [e] at hd
        exact hr.no hd
      have HU := Lib.hid hr.up
      clear hr hd
      go_wp2
      go_ret
      exact ⟨false, rfl, by simp [hno.out], HU.out⟩
end Go.Proofs.Ytdfjjhpnhaggjaa
