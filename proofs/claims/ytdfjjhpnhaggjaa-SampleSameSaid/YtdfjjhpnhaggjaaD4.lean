/- The walks of the reference's channel: Write, Read. -/
import Derived.Test.YtdfjjhpnhaggjaaD3
namespace Go.Proofs.Ytdfjjhpnhaggjaa
open Go.RowKit Go.Mem

set_option maxHeartbeats 400000 in
theorem rwrite_long (w : World) (fp : List Nat) (r : Nat) (m val e t : Int) (s : ByteArray) (L : List Wr) (h : RefIs w fp r m val e L) (hs : m < (s.size : Int)) :
    Calls Try.prog 32 #[.pointer (some ⟨r, 0, none⟩), .int .u64 t, .string s] w fun x w' => x = .returned (.int .i64 5) ∧ w = w' := by
  obtain ⟨v, rvs, hb, -⟩ := h
  have h0 := hb.at 0 rfl
  clear hb
  go_enter Try.func32, Try.ntmps32
  go_wp2
  go_ret
  exact ⟨rfl, rfl⟩

theorem one3 {a b c : Value} (ha : a.oneCell' = true) (hb : b.oneCell' = true) (hc : c.oneCell' = true) : ∀ u ∈ [a, b, c], u.oneCell' = true := by
  intro u hu; simp at hu; rcases hu with rfl | rfl | rfl <;> assumption
theorem cells_new (w : World) (cs : List Value) (T : TypeId) (j : Nat) (u : Value) (h : cs[j]? = some u) : (w.alloc (.cells cs.toArray T)).cell? ((⟨w.heap.size, 0, none⟩ : Addr).add j) = some u := by
  rw [Addr.add_mid, Nat.zero_add]
  exact (Blk.new w cs T).at j h

set_option maxHeartbeats 400000 in
theorem rwrite_ok (w : World) (fp : List Nat) (r : Nat) (m val e t : Int) (s : ByteArray) (L : List Wr) (h : RefIs w fp r m val e L) (hs : (s.size : Int) ≤ m) (hL : L.length ≤ 1000) :
    Calls Try.prog 32 #[.pointer (some ⟨r, 0, none⟩), .int .u64 t, .string s] w fun x w' => x = .returned (.int .i64 0) ∧ Steps1 (fun w' fp' => RefIs w' fp' r m val e (L ++ [⟨t, s, []⟩])) fp w w' := by
  obtain ⟨v, rvs, hb, ho, hr, rfl, hnd⟩ := h
  have h0 := hb.at 0 rfl
  have h3 := hb.at 3 rfl
  obtain ⟨i0, hi, hz0, hz1, hz2⟩ := info_parts i136
  have hlt := hb.lt
  have hrv : r ∉ bl v := by intro h; simp [h] at hnd
  have HB := Lib.hid hb
  have HO := Lib.hid ho
  have HR := Lib.hid hr
  have HN := Lib.hid hnd
  have HRV := Lib.hid hrv
  have HI := Lib.hid (And.intro hi (And.intro hz0 (And.intro hz1 hz2)))
  clear hb ho hr hnd hrv hi hz0 hz1 hz2
  go_enter Try.func32, Try.ntmps32
  have q3 : L.length + 1 ≤ maxLen := by unfold maxLen; omega
  have Q3 := Lib.hid q3
  clear q3
  go_wp2_with (at_builtin; go_must (refine wpList_append_lies _ rfl _ _ 34 rfl 0 136 i0 _ 3 48 Try.underlying34 HI.out.1 HI.out.2.1 HI.out.2.2.1 HI.out.2.2.2 rfl (by decide) v _ _ rfl (HO.out.alloc _) ⟨w.heap.size, 0, none⟩ 1 1 [.int .u64 t, .string s, .slice none 0 0] rfl rfl (cells_new _ _ _) (one3 rfl rfl rfl) (by decide) Q3.out (by omega) (Nat.zero_le _) (w.heap.size + 1) (by simp) ?_); intro g cap w2 hown hgrow hg hlt2; have hb2 := HB.out.upd (((Upd.refl (bl v) w).alloc _).grown hgrow (by intro k hk; left; simp [bl, hk])) HRV.out; have c3 := hb2.at 3 rfl; have f3 := hb2.free 3; have HP := Lib.hid (refwrite_post HB.out HR.out HN.out hown hgrow hg); clear hb2 hown hgrow hg h3)
  go_ret
  exact ⟨rfl, HP.out⟩
end Go.Proofs.Ytdfjjhpnhaggjaa
