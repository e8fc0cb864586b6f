/- Package channel: New, of whatever it is given. -/
import Derived.Test.YtdfjjhpnhaggjaaK6
namespace Go.Proofs.Ytdfjjhpnhaggjaa
open Go.RowKit Go.Mem

/-- What New answers. -/
def NewRes (guests : Int) (l : List Ch) (w : World) (e : Ending) (w' : World) : Prop :=
  if check l guests = 0 then NewPost guests l w e w' else e = .returned (.tuple #[.pointer none, .int .i64 (check l guests)]) ∧ Upd [] w w'

set_option maxHeartbeats 1000000 in
theorem new_fail (v : Value) (guests : Int) (x : Int) (w : World) (hx : (x == 0) = false)
    (hck : Calls Try.prog 24 #[v, .int .i64 guests] w fun r w'' => r = .returned (.int .i64 x) ∧ Upd [] w w'') :
    Calls Try.prog 15 #[v, .int .i64 guests] w fun e w' => e = .returned (.tuple #[.pointer none, .int .i64 x]) ∧ Upd [] w w' := by
  have HCK := Lib.hid hck
  clear hck
  go_enter Try.func15, Try.ntmps15
  go_wp2_with (go_at_call 24; refine HCK.out.mono ?_; rintro e w1 ⟨rfl, hu⟩; have HU := Lib.hid hu; clear hu)
  go_returns
  exact ⟨rfl, HU.out⟩

set_option maxRecDepth 100000 in
set_option maxHeartbeats 1000000 in
theorem new_nil (a : Option Addr) (cap gn : Nat) (w : World) (h1 : 1 ≤ gn) (h2 : gn ≤ 16) :
    Calls Try.prog 15 #[.slice a 0 cap, .int .i64 gn] w (NewPost gn [] w) := by
  have hmm := @run_makeMap Try.prog
  go_enter Try.func15, Try.ntmps15
  go_wp2_with (go_at_call 24; refine (check_nil a cap _ _ (by omega) (by omega)).mono ?_; rintro e w1 ⟨rfl, hu⟩; have HU := Lib.hid hu; clear hu)
  clear hmm
  have HS := Lib.hid (Nw.start HU.out gn)
  have hsz : w1.heap.size < w1.heap.size + 1 + 1 := by omega
  go_loopw [26] (fun i wr => i = .int .i64 0 ∧ Nw w wr (w1.heap.size + 1 + 1) w1.heap.size (w1.heap.size + 1) gn (.slice none 0 0) (outs []) (ins []) m0 []) (fun _ _ => 0)
  case atStart => exact ⟨rfl, HS.out⟩
  case round =>
    obtain ⟨rfl, hnw⟩ := hrel
    clear HS HU
    have HNW := Lib.hid hnw
    have HCL := Lib.hid (close_calls (w1.heap.size + 1 + 1) gn ⟨gn, 0, .slice none 0 0, w1.heap.size, w1.heap.size + 1, m0⟩ wr hnw.tb rfl h2 hnw.ml)
    clear hnw
    go_wp2_with (go_at_call 38; refine HCL.out.mono ?_; rintro e w2 ⟨rfl, htb, hu⟩; have HTB := Lib.hid htb; have HU := Lib.hid hu; clear htb hu)
    go_returns
    exact new_post (l := []) HNW.out rfl (by simp) HTB.out HU.out

theorem new_calls (v : Value) (l : List Ch) (guests : Int) (w : World) (h : IsChans w v l) (hok : ∀ c ∈ l, c.Ok) (hl : l.length ≤ maxLen) :
    Calls Try.prog 15 #[v, .int .i64 guests] w (NewRes guests l w) := by
  unfold NewRes
  by_cases hz : check l guests = 0
  · simp only [if_pos hz]
    have hz' := hz
    unfold check at hz'
    split at hz'
    · cases hz'
    rename_i hg
    split at hz'
    · cases hz'
    rename_i h16
    obtain ⟨gn, rfl⟩ := Int.eq_ofNat_of_zero_le (show 0 ≤ guests by omega)
    have hck : ∀ w' : World, Upd [] w w' → Calls Try.prog 24 #[v, .int .i64 gn] w' fun r w'' => r = .returned (.int .i64 0) ∧ Upd [] w' w'' := by
      intro w' hu
      have := check_calls v l gn w' (h.upd hu (by simp)) hok hl
      rw [hz] at this
      exact this
    obtain ⟨⟨a, cap, rfl, h⟩, he⟩ := h
    by_cases hne : l = []
    · subst hne
      exact new_nil a cap gn w (by omega) (by omega)
    · obtain ⟨b, off, rfl, h2, h3⟩ := h hne
      exact new_main b off cap l.length gn l w (by omega) (by omega) rfl (by omega) h2 h3 he hok hck hz'
  · simp only [if_neg hz]
    exact new_fail v guests (check l guests) w (by simpa using hz) (check_calls v l guests w h hok hl)
end Go.Proofs.Ytdfjjhpnhaggjaa
