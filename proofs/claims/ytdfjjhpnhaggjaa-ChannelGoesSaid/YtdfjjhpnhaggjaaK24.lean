/- The law ChannelReaches, walked. -/
import Derived.Test.YtdfjjhpnhaggjaaK16
import Derived.Test.YtdfjjhpnhaggjaaK23
import Derived.Deep.RegionHeld3
namespace Go.Proofs.Ytdfjjhpnhaggjaa
open Go.RowKit Go.Mem

theorem at2_m0 (a b : Nat) : at2 m0 a b = false := by
  unfold at2 m0
  rw [List.getD_eq_getElem?_getD, List.getElem?_replicate]
  split <;> rfl
theorem zero_bd {n : Nat} {l : List Ch} (h : chk n l [] = 0) (hok : ∀ c ∈ l, c.Ok) : ∀ c ∈ l, c.guest.toNat < n ∧ ∀ x ∈ c.to, x.1.toNat < n := by
  intro c hc
  obtain ⟨-, h2⟩ := (chk_zero n l [] List.nodup_nil h).1 c hc
  have ho := hok c hc
  have hall : ∀ x ∈ c.all, x.1 < n := by
    intro x hx
    have := h2 x hx
    simp [outB] at this
    omega
  refine ⟨?_, fun x hx => ?_⟩
  · have := hall (c.guest, c.port) (by simp [Ch.all])
    have := ho.g0
    simp only at *
    omega
  · have := hall x (by simp [Ch.all, hx])
    have := (ho.ends x hx).1
    omega
theorem ed_eg {n : Nat} {l : List Ch} (h : chk n l [] = 0) (hn : n ≤ 16) (hok : ∀ c ∈ l, c.Ok) : Ed n (l.foldl mch m0) = Eg l n := by
  have hb := zero_bd h hok
  funext a b
  apply propext
  unfold Ed Eg
  constructor
  · rintro ⟨h1, h2, h3⟩
    rw [(fold_mch l m0 List.length_replicate (fun c hc => ⟨by have := (hb c hc).1; omega, fun x hx => by have := (hb c hc).2 x hx; omega⟩) (by omega) (by omega)).2, at2_m0] at h3
    exact ⟨h1, h2, by simpa using h3⟩
  · rintro ⟨h1, h2, h3⟩
    refine ⟨h1, h2, ?_⟩
    rw [(fold_mch l m0 List.length_replicate (fun c hc => ⟨by have := (hb c hc).1; omega, fun x hx => by have := (hb c hc).2 x hx; omega⟩) (by omega) (by omega)).2, at2_m0, h3]; rfl
theorem len_mch {n : Nat} {l : List Ch} (h : chk n l [] = 0) (hn : n ≤ 16) (hok : ∀ c ∈ l, c.Ok) : (l.foldl mch m0).length = 256 := by
  have hb := zero_bd h hok
  exact (fold_mch l m0 List.length_replicate (fun c hc => ⟨by have := (hb c hc).1; omega, fun x hx => by have := (hb c hc).2 x hx; omega⟩) (a := 0) (b := 0) (by omega) (by omega)).1

/-- What reaches what. -/
def rchB (l : List Ch) (n a b : Nat) : Bool := decide (a < n) && decide (b < n) && at2 (clo n (l.foldl mch m0)) a b
theorem rchB_star {n : Nat} {l : List Ch} (h : chk n l [] = 0) (hn : n ≤ 16) (hok : ∀ c ∈ l, c.Ok) {a b : Nat} (ha : a < n) (hb : b < n) : rchB l n a b = true ↔ Star (Eg l n) a b := by
  unfold rchB
  rw [← ed_eg h hn hok, ← clo_iff hn (len_mch h hn hok) ha hb]
  simp [ha, hb]

theorem f18_calls {w : World} {fp : List Nat} {T n : Nat} {now : Int} {l : List Ch} {P : List Item} (hT : Tab w fp T n now (clo n (l.foldl mch m0)) P) (h : chk n l [] = 0) (h1 : 1 ≤ n) (hn : n ≤ 16) (hok : ∀ c ∈ l, c.Ok) (a b : Nat) (ha : a ≤ 255) (hb : b ≤ 255) :
    Calls Try.prog 18 #[.pointer (some ⟨T, 0, none⟩), .int .u8 (a : Nat), .int .u8 (b : Nat)] w fun e w' => e = .returned (.bool (rchB l n a b)) ∧ w = w' := by
  obtain ⟨ways, bo, bi, htb, -⟩ := hT.ex
  refine (reaches_calls T _ a b w htb (by show (1 : Int) ≤ (n : Nat); omega) (by show ((n : Nat) : Int) ≤ 16; omega) (by show (clo n _).length = 256; rw [clo_len]; exact len_mch h hn hok) (by omega) (by omega) (by omega) (by omega)).mono ?_
  rintro e w' ⟨rfl, rfl⟩
  refine ⟨ret_bool ?_, rfl⟩
  unfold reachB rchB at2
  simp only [Int.toNat_natCast, Int.ofNat_lt]
theorem f19_calls {w : World} {v : Value} {n : Nat} {l : List Ch} (hI : IsChans w v l) (h : chk n l [] = 0) (hl : l.length ≤ 16) (hn : n ≤ 16) (hok : ∀ c ∈ l, c.Ok) (a b : Nat) (ha : a ≤ 255) (hb : b ≤ 255) :
    Calls Try.prog 19 #[v, .int .i64 n, .int .u8 (a : Nat), .int .u8 (b : Nat)] w fun e w' => e = .returned (.bool (rchB l n a b)) ∧ Upd [] w w' := by
  by_cases hab : a < n ∧ b < n
  · have hto : ∀ c ∈ l, c.to.length ≤ 4 := fun c hc => (shape_n ((chk_zero n l [] List.nodup_nil h).1 c hc).1) |>.2 |> fun h => by omega
    refine (rreach_main v l n a b w hI hok hl hto hn hab.1 hab.2).mono ?_
    rintro e w' ⟨q, rfl, hq, hu⟩
    refine ⟨ret_bool ?_, hu⟩
    rw [← rchB_star h hn hok hab.1 hab.2, ← Bool.eq_iff_iff] at hq
    exact hq
  · refine (rreach_out v n a b w (by omega) ha hb).mono ?_
    rintro e w' ⟨rfl, hu⟩
    refine ⟨ret_bool ?_, hu⟩
    unfold rchB
    by_cases ha : a < n
    · have : ¬ b < n := fun h => hab ⟨ha, h⟩
      simp [this]
    · simp [ha]
theorem fewB_ok {n : Nat} {l : List Ch} (h : chk n l [] = 0) (hl : l.length ≤ 16) : fewB l [] = true := by
  unfold fewB
  have : (l.take 30).all (fun c => decide (c.to.length ≤ 10)) = true := by
    rw [List.all_eq_true]
    intro c hc
    have := (shape_n ((chk_zero n l [] List.nodup_nil h).1 c (List.mem_of_mem_take hc)).1).2
    simp; omega
  rw [this]
  simp; omega
theorem nil_as (w : World) : IsAs w (.slice none 0 0) [] := ⟨none, 0, rfl, fun h => absurd rfl h⟩

theorem newRes_bad {guests : Int} {l : List Ch} {w w' : World} {e : Ending} (hz : check l guests ≠ 0) (h : NewRes guests l w e w') : e = .returned (.tuple #[.pointer none, .int .i64 (check l guests)]) ∧ Upd [] w w' := by
  unfold NewRes at h
  rwa [if_neg hz] at h
theorem newRes_good {guests : Int} {l : List Ch} {w w' : World} {e : Ending} (hz : check l guests = 0) (h : NewRes guests l w e w') : NewPost guests l w e w' := by
  unfold NewRes at h
  rwa [if_pos hz] at h

set_option maxRecDepth 100000 in
set_option maxHeartbeats 2000000 in
theorem creach_bad (w : World) (v : Value) (l : List Ch) (guests x0 x1 : Int) (h : IsChans w v l) (hok : ∀ c ∈ l, c.Ok) (hl : l.length ≤ maxLen) (hz : check l guests ≠ 0) :
    Calls Try.prog 4 #[v, .int .i64 guests, .agg #[.int .u8 x0, .int .u8 x1]] w fun e w' => e = .returned (.bool true) ∧ Upd [] w w' := by
  obtain ⟨W, hW⟩ : ∃ W : World, W = w.alloc (.cells #[.int .u8 x0, .int .u8 x1] 46) := ⟨_, rfl⟩
  have hu0 : Upd [] w W := by rw [hW]; exact (Upd.refl _ _).alloc _
  have HN := Lib.hid ((new_calls v l guests W (h.upd hu0 (by simp)) hok hl).mono fun e w' h => newRes_bad hz h)
  obtain ⟨z, hzz⟩ : ∃ z, z = check l guests := ⟨_, rfl⟩
  rw [← hzz] at HN
  rw [← hzz] at hz
  obtain ⟨bb, hbb⟩ : ∃ b, b = fewB l [] := ⟨_, rfl⟩
  have hF : ∀ w', Upd [] w w' → Calls Try.prog 16 #[v, .slice none 0 0] w' fun e w'' => e = .returned (.bool bb) ∧ w' = w'' := fun w' hu => by
    rw [hbb]; exact few_calls v _ l [] w' (h.upd hu (by simp)) (nil_as w') hl (by simp)
  have HF := Lib.hid hF
  have HU0 := Lib.hid hu0
  have HW := Lib.hid hW
  have z1 : (z != 0) = true := by simpa using hz
  clear h hok hl hzz hz hF hbb hu0 hW
  cases bb
  all_goals
    go_enter Try.func4, Try.ntmps4
    go_wp2_with fail
    rw [← HW.out]
    refine HN.out.mono ?_
    rintro e w1 ⟨rfl, hu⟩
    have HU := Lib.hid (HU0.out.trans hu (by simp))
    clear hu
    go_wp2_with fail
    refine (HF.out _ HU.out).mono ?_
    rintro e w' ⟨rfl, rfl⟩
    go_wp2_with fail
    refine (awake_calls _).mono ?_
    rintro e w2 ⟨rfl, hu⟩
    have HU2 := Lib.hid (HU.out.trans hu (by simp))
    clear hu
    go_wp2_with fail
    go_ret
    exact ⟨rfl, HU2.out⟩

set_option maxRecDepth 100000 in
set_option maxHeartbeats 4000000 in
theorem creach_good (w : World) (v : Value) (l : List Ch) (n x0 x1 : Nat) (h : IsChans w v l) (hok : ∀ c ∈ l, c.Ok) (hz : chk n l [] = 0) (hl : l.length ≤ 16) (h1 : 1 ≤ n) (hn : n ≤ 16) (hx0 : x0 ≤ 255) (hx1 : x1 ≤ 255) :
    Calls Try.prog 4 #[v, .int .i64 n, .agg #[.int .u8 x0, .int .u8 x1]] w fun e w' => e = .returned (.bool true) ∧ Upd [] w w' := by
  have hck : check l n = 0 := by
    unfold check
    rw [if_neg (by omega), if_neg (by omega)]
    exact hz
  obtain ⟨W, hW⟩ : ∃ W : World, W = w.alloc (.cells #[.int .u8 x0, .int .u8 x1] 46) := ⟨_, rfl⟩
  have hu0 : Upd [] w W := by rw [hW]; exact (Upd.refl _ _).alloc _
  have hB : Blk W w.heap.size [.int .u8 x0, .int .u8 x1] 46 := by rw [hW]; exact Blk.new w [.int .u8 x0, .int .u8 x1] 46
  have HN := Lib.hid ((new_calls v l n W (h.upd hu0 (by simp)) hok (by unfold maxLen; omega)).mono fun e w' h => newRes_good hck h)
  have hF : ∀ w', Upd [] w w' → Calls Try.prog 16 #[v, .slice none 0 0] w' fun e w'' => e = .returned (.bool true) ∧ w' = w'' := fun w' hu => by
    have := few_calls v _ l [] w' (h.upd hu (by simp)) (nil_as w') (by unfold maxLen; omega) (by simp)
    rw [fewB_ok hz hl] at this
    exact this
  have hG : ∀ w', Upd [] w w' → ∀ a b : Nat, a ≤ 255 → b ≤ 255 → Calls Try.prog 19 #[v, .int .i64 n, .int .u8 (a : Nat), .int .u8 (b : Nat)] w' fun e w'' => e = .returned (.bool (rchB l n a b)) ∧ Upd [] w' w'' := fun w' hu a b ha hb =>
    f19_calls (h.upd hu (by simp)) hz hl hn hok a b ha hb
  have HF := Lib.hid hF
  have HG := Lib.hid hG
  have HU0 := Lib.hid hu0
  have HW := Lib.hid hW
  have HB := Lib.hid hB
  have HZ := Lib.hid hz
  have HOK := Lib.hid hok
  clear h hok hz hck hF hG hu0 hW hB hl
  go_enter Try.func4, Try.ntmps4
  go_wp2_with fail
  rw [← HW.out]
  refine HN.out.mono ?_
  rintro e w1 ⟨fp, T, P, rfl, hT, -, -, hu, -⟩
  have H18 := Lib.hid (fun (w' : World) (hu' : Upd [] w1 w') (a b : Nat) (ha : a ≤ 255) (hb : b ≤ 255) => f18_calls (hT.upd hu' (by simp)) HZ.out h1 hn HOK.out a b ha hb)
  have HU := Lib.hid (HU0.out.trans hu (by simp))
  have HB1 := Lib.hid (HB.out.upd hu (by simp))
  clear hu hT HN HB HU0
  go_wp2_with fail
  refine (HF.out _ HU.out).mono ?_
  rintro e w' ⟨rfl, rfl⟩
  go_wp2_with fail
  go_loopw [9, 10] (fun i _ wr => ∃ k : Nat, k ≤ 17 ∧ i = .int .i64 k ∧ Upd [] w1 wr) (fun i _ _ => 17 - (intOf i).toNat)
  case atStart => exact ⟨0, by omega, rfl, Upd.refl _ _⟩
  case round =>
    obtain ⟨k, hk, rfl, hu⟩ := hrel
    have HU1 := Lib.hid hu
    clear hu
    by_cases hlt : k < 17
    · have z1 : decide ((k : Int) < 17) = true := by simp; omega
      go_wp2_with fail
      go_loopw [10] (fun i wr => ∃ j : Nat, j ≤ 17 ∧ i = .int .i64 j ∧ Upd [] w1 wr) (fun i _ => 17 - (intOf i).toNat)
      case atStart => exact ⟨0, by omega, rfl, HU1.out⟩
      case round =>
        clear HU1
        obtain ⟨j, hj, rfl, hu⟩ := hrel
        have HU1 := Lib.hid hu
        clear hu
        by_cases hlt2 : j < 17
        · obtain ⟨r, hr⟩ : ∃ r, r = rchB l n k j := ⟨_, rfl⟩
          have c1 := H18.out _ HU1.out k j (by omega) (by omega)
          have c2 := HG.out _ (HU.out.trans HU1.out (by simp)) k j (by omega) (by omega)
          rw [← hr] at c1 c2
          have C1 := Lib.hid c1
          have C2 := Lib.hid c2
          clear c1 c2 hr
          go_wp2_with (first | (go_at_call 18; refine C1.out.mono ?_; rintro e w' ⟨rfl, rfl⟩) | (go_at_call 19; refine C2.out.mono ?_; rintro e w2 ⟨rfl, hu⟩; have HU2 := Lib.hid (HU1.out.trans hu (by simp)); clear hu))
          go_roundw
          case rel => exact ⟨j + 1, by omega, by go_num, HU2.out⟩
          case measure => simp [intOf]; omega
        · go_wp2_with fail
          go_roundw
          case rel => exact ⟨k + 1, by omega, by go_num, HU1.out⟩
          case measure => simp [intOf]; omega
    · obtain ⟨r, hr⟩ : ∃ r, r = rchB l n x0 x1 := ⟨_, rfl⟩
      have hX := HB1.out.upd HU1.out (by simp)
      have c1 : ∀ w', Upd [] wr w' → Calls Try.prog 18 #[.pointer (some ⟨T, 0, none⟩), .int .u8 x0, .int .u8 x1] w' fun e w'' => e = .returned (.bool r) ∧ w' = w'' := fun w' hu => by
        rw [hr]; exact H18.out _ (HU1.out.trans hu (by simp)) x0 x1 hx0 hx1
      have c2 : ∀ w', Upd [] wr w' → Calls Try.prog 19 #[v, .int .i64 n, .int .u8 x0, .int .u8 x1] w' fun e w'' => e = .returned (.bool r) ∧ Upd [] w' w'' := fun w' hu => by
        rw [hr]; exact HG.out _ (HU.out.trans (HU1.out.trans hu (by simp)) (by simp)) x0 x1 hx0 hx1
      have e0 := hX.at 0 rfl
      have e1 := hX.at 1 rfl
      have HXL := Lib.hid hX.lt
      obtain ⟨B, hBB⟩ : ∃ B, B = w.heap.size := ⟨_, rfl⟩
      rw [← hBB] at e0 e1 HXL
      have HBB := Lib.hid hBB
      have HKP := Lib.hid (fun (w' : World) (hu : Upd [] wr w') => (⟨cell_upd hu (by simp) HXL.out 0 e0, cell_upd hu (by simp) HXL.out 1 e1, hu⟩ : w'.cell? ⟨B, 0, none⟩ = some (.int .u8 x0) ∧ w'.cell? ⟨B, 1, none⟩ = some (.int .u8 x1) ∧ Upd [] wr w'))
      have C1 := Lib.hid c1
      have C2 := Lib.hid c2
      have HUT := Lib.hid (HU.out.trans HU1.out (by simp))
      clear c1 c2 hr hX HB1 HU HU1 H18 HG HF
      go_wp2_with fail
      rw [← HBB.out]
      clear HBB hBB
      go_region_held3 (fun w' => w'.cell? ⟨B, 0, none⟩ = some (.int .u8 x0) ∧ w'.cell? ⟨B, 1, none⟩ = some (.int .u8 x1) ∧ Upd [] wr w')
        (first | (refine HKP.out _ ?_; exact (Upd.refl _ _).drew) | (go_split_ands; refine HKP.out _ ?_; exact Upd.trans (by assumption) hu (by simp)) | (go_split_ands; refine HKP.out _ ?_; assumption))
        ((first | (go_at_call 18; go_split_ands; ((with_reducible refine (C1.out _ (by assumption)).mono ?_); rintro e w1 ⟨rfl, rfl⟩)) | (go_at_call 19; go_split_ands; ((with_reducible refine (C2.out _ (by assumption)).mono ?_); rintro e w1 ⟨rfl, hu⟩)) | (go_at_call 17; (with_reducible refine (awake_calls _).mono ?_); rintro e w1 ⟨rfl, hu⟩)))
      rename_i hheld
      have HUE := Lib.hid (HUT.out.trans hheld.2.2 (by simp))
      clear hheld
      go_wp2_with fail
      go_ret
      exact ⟨rfl, HUE.out⟩

theorem creach_all (w : World) (v : Value) (l : List Ch) (guests : Int) (x0 x1 : Nat) (h : IsChans w v l) (hok : ∀ c ∈ l, c.Ok) (hl : l.length ≤ maxLen) (hx0 : x0 ≤ 255) (hx1 : x1 ≤ 255) :
    Calls Try.prog 4 #[v, .int .i64 guests, .agg #[.int .u8 x0, .int .u8 x1]] w fun e w' => e = .returned (.bool true) ∧ Upd [] w w' := by
  by_cases hz : check l guests = 0
  · unfold check at hz
    split at hz
    · cases hz
    split at hz
    · cases hz
    obtain ⟨n, rfl⟩ := Int.eq_ofNat_of_zero_le (show 0 ≤ guests by omega)
    exact creach_good w v l n x0 x1 h hok hz (by omega) (by omega) (by omega) hx0 hx1
  · exact creach_bad w v l guests x0 x1 h hok hl hz
end Go.Proofs.Ytdfjjhpnhaggjaa
