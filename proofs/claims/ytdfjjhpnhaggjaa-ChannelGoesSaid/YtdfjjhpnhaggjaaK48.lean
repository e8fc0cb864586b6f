/- The law ChannelGoes, walked. -/
import Derived.Test.YtdfjjhpnhaggjaaK47
namespace Go.Proofs.Ytdfjjhpnhaggjaa
open Go.RowKit Go.Mem

set_option maxRecDepth 1000000 in
set_option maxHeartbeats 20000000 in
theorem goes_main (w : World) (v u : Value) (l : List Ch) (A : List Act) (gn : Nat) (h : IsChans w v l) (hA : IsAs w u A) (hok : ∀ c ∈ l, c.Ok) (hAo : ∀ x ∈ A, x.Ok) (hl : l.length ≤ 16) (h1 : 1 ≤ gn) (h2 : gn ≤ 16) (hz : chk gn l [] = 0) (hf : fewB l A = true) :
    Calls Try.prog 5 #[v, .int .i64 gn, u] w fun e w' => e = .returned (.bool true) ∧ Upd [] w w' := by
  have hck : check l gn = 0 := by unfold check; rw [if_neg (by omega), if_neg (by omega)]; exact hz
  have hto : ∀ c ∈ l, c.to.length ≤ 4 := fun c hc => by have := shape_n ((chk_zero gn l [] List.nodup_nil hz).1 c hc).1; omega
  have hA80 : A.length ≤ 80 := by unfold fewB at hf; simp at hf; omega
  have HN := Lib.hid ((new_calls v l gn w h hok (by unfold maxLen; omega)).mono fun e w' h => newRes_good hck h)
  have hF : ∀ w', Upd [] w w' → Calls Try.prog 16 #[v, u] w' fun e w'' => e = .returned (.bool true) ∧ w' = w'' := fun w' hu => by
    rw [← hf]; exact few_calls v _ l A w' (h.upd hu (by simp)) (IsRows.upd hA hu (by simp)) (by unfold maxLen; omega) (by unfold maxLen; omega)
  have HF := Lib.hid hF
  have HFR := Lib.hid (fun (w' : World) (hu : Upd [] w w') (k0 k1 : Int) => from_calls v l k0 k1 w' (h.upd hu (by simp)) hl)
  have HTO := Lib.hid (fun (w' : World) (hu : Upd [] w w') (k0 k1 : Int) => to_calls v l k0 k1 w' (h.upd hu (by simp)) hl hto)
  have HCH := Lib.hid (fun (w' : World) (hu : Upd [] w w') => h.upd hu (by simp))
  obtain ⟨⟨va, vcap, rfl, -⟩, -⟩ := h
  obtain ⟨ua, ucap, rfl, hAr⟩ := hA
  obtain ⟨n, hn⟩ : ∃ n, n = l.length := ⟨_, rfl⟩
  obtain ⟨n2, hn2⟩ : ∃ n, n = A.length := ⟨_, rfl⟩
  rw [← hn] at HN HF HFR HTO HCH ⊢
  rw [← hn] at hl
  rw [← hn2] at HF ⊢
  rw [← hn2] at hA80
  obtain ⟨i0, hi, hz0, hz1, hz2⟩ := info_parts i67
  have HI : Hid (i0.zero = _ ∧ _ ∧ _ ∧ _) := ⟨hz0, hz1, hz2, hi⟩
  have HL := Lib.hid hn
  have HL2 := Lib.hid hn2
  have HAR := Lib.hid hAr
  have HAO := Lib.hid hAo
  have HZ := Lib.hid hz
  have HCK := Lib.hid hck
  have HOK := Lib.hid hok
  clear hok hAo hz hck hf hF hto hAr hn hn2 hz0 hz1 hz2 hi
  go_enter Try.func5, Try.ntmps5
  go_wp2_with fail
  refine HN.out.mono ?_
  rintro e w1 ⟨fp, T, P, rfl, hT, hc, hy, hu, hfp⟩
  have HU := Lib.hid hu
  have HTT := Lib.hid hT
  have HC := Lib.hid hc
  have HY := Lib.hid hy
  have HFP := Lib.hid hfp
  clear hu hT hc hy hfp HN
  obtain ⟨mm, hmm⟩ : ∃ mm, mm = clo (gn : Int).toNat (l.foldl mch m0) := ⟨_, rfl⟩
  rw [← hmm] at HTT
  clear hmm
  go_wp2_with fail
  refine (HF.out _ HU.out).mono ?_
  rintro e w' ⟨rfl, rfl⟩
  go_wp2_with (at_make; refine wpList_make_full _ rfl _ _ 55 rfl 0 67 i0 (.slice none 0 0) 1 Try.underlying55 HI.out.2.2.2 HI.out.1 HI.out.2.1 .i64 .i64 _ _ n rfl rfl rfl rfl (by rw [HI.out.2.2.1]; omega) (by unfold maxLen; omega) (Nat.zero_le _) ?_; intro w2 hown hgrow; have HO := Lib.hid hown; have HG := Lib.hid hgrow; clear hown hgrow)
  have hgs : Gs w w2 T w1.heap.size fp gn 0 mm l P (List.replicate l.length (.slice none 0 0)) (List.replicate l.length []) 0 := by
    have ho := HO.out
    rw [HL.out] at ho
    exact gs_start HCK.out HOK.out HTT.out HC.out HY.out HU.out HFP.out ho HG.out
  obtain ⟨S, hS⟩ : ∃ S, S = w1.heap.size := ⟨_, rfl⟩
  rw [← hS] at hgs ⊢
  have HGS := Lib.hid hgs
  clear hgs hS HO HG HC HY HTT HU HF HFP HCK
  have cx : Cx w va vcap n ua ucap n2 l A gn := ⟨hl, hA80, h1, h2, HL.out, HL2.out, HAR.out, HAO.out, HZ.out, HOK.out, HFR.out, HTO.out, HCH.out⟩
  have CX := Lib.hid cx
  clear cx HL HL2 HAR HAO HZ HOK HFR HTO HCH HI
  refine goes_loop w va vcap n ua ucap n2 l A gn T S fp mm CX.out _ _ rfl HGS.out ?_
  intro U j wr hu
  have HU := Lib.hid hu
  clear hu HGS CX
  unfold FR
  go_wp2_with fail
  refine (awake_calls _).mono ?_
  rintro e w3 ⟨rfl, hu⟩
  have HU2 := Lib.hid (HU.out.trans hu (by simp))
  clear hu
  go_wp2_with fail
  go_ret
  exact ⟨rfl, HU2.out⟩

theorem goes_all (w : World) (v u : Value) (l : List Ch) (A : List Act) (guests : Int) (h : IsChans w v l) (hA : IsAs w u A) (hok : ∀ c ∈ l, c.Ok) (hAo : ∀ x ∈ A, x.Ok) (hl : l.length ≤ maxLen) (hAl : A.length ≤ maxLen) :
    Calls Try.prog 5 #[v, .int .i64 guests, u] w fun e w' => e = .returned (.bool true) ∧ Upd [] w w' := by
  by_cases hz : check l guests = 0
  · cases hf : fewB l A
    · exact goes_many w v u l A guests h hA hok hl hAl hz hf
    · unfold check at hz
      split at hz
      · cases hz
      split at hz
      · cases hz
      obtain ⟨n, rfl⟩ := Int.eq_ofNat_of_zero_le (show 0 ≤ guests by omega)
      exact goes_main w v u l A n h hA hok hAo (by omega) (by omega) (by omega) hz hf
  · exact goes_bad w v u l A guests h hA hok hl hAl hz
end Go.Proofs.Ytdfjjhpnhaggjaa
