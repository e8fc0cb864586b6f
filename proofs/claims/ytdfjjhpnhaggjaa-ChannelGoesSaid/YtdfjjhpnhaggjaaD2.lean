/- The walk of the reference's Hex. -/
import Derived.Test.YtdfjjhpnhaggjaaD1
namespace Go.Proofs.Ytdfjjhpnhaggjaa
open Go.RowKit Go.Mem

def hexTab : ByteArray := ⟨#[48, 49, 50, 51, 52, 53, 54, 55, 56, 57, 97, 98, 99, 100, 101, 102]⟩
def hx (c : UInt8) : List UInt8 := [hexTab.data.toList.getD (c.toNat / 16) 0, hexTab.data.toList.getD (c.toNat % 16) 0]
def hexs (l : List UInt8) : List UInt8 := l.flatMap hx

theorem hex_slice0 (w : World) : (Instr.slice 9 (.string ⟨#[48, 49, 50, 51, 52, 53, 54, 55, 56, 57, 97, 98, 99, 100, 101, 102]⟩) (some (.int .u8 0)) (some (.int .u8 1)) none).run Try.prog w = .ok (.string ⟨#[48]⟩) w := by kernel_rfl
theorem hex_slice1 (w : World) : (Instr.slice 9 (.string ⟨#[48, 49, 50, 51, 52, 53, 54, 55, 56, 57, 97, 98, 99, 100, 101, 102]⟩) (some (.int .u8 1)) (some (.int .u8 2)) none).run Try.prog w = .ok (.string ⟨#[49]⟩) w := by kernel_rfl
theorem hex_slice2 (w : World) : (Instr.slice 9 (.string ⟨#[48, 49, 50, 51, 52, 53, 54, 55, 56, 57, 97, 98, 99, 100, 101, 102]⟩) (some (.int .u8 2)) (some (.int .u8 3)) none).run Try.prog w = .ok (.string ⟨#[50]⟩) w := by kernel_rfl
theorem hex_slice3 (w : World) : (Instr.slice 9 (.string ⟨#[48, 49, 50, 51, 52, 53, 54, 55, 56, 57, 97, 98, 99, 100, 101, 102]⟩) (some (.int .u8 3)) (some (.int .u8 4)) none).run Try.prog w = .ok (.string ⟨#[51]⟩) w := by kernel_rfl
theorem hex_slice4 (w : World) : (Instr.slice 9 (.string ⟨#[48, 49, 50, 51, 52, 53, 54, 55, 56, 57, 97, 98, 99, 100, 101, 102]⟩) (some (.int .u8 4)) (some (.int .u8 5)) none).run Try.prog w = .ok (.string ⟨#[52]⟩) w := by kernel_rfl
theorem hex_slice5 (w : World) : (Instr.slice 9 (.string ⟨#[48, 49, 50, 51, 52, 53, 54, 55, 56, 57, 97, 98, 99, 100, 101, 102]⟩) (some (.int .u8 5)) (some (.int .u8 6)) none).run Try.prog w = .ok (.string ⟨#[53]⟩) w := by kernel_rfl
theorem hex_slice6 (w : World) : (Instr.slice 9 (.string ⟨#[48, 49, 50, 51, 52, 53, 54, 55, 56, 57, 97, 98, 99, 100, 101, 102]⟩) (some (.int .u8 6)) (some (.int .u8 7)) none).run Try.prog w = .ok (.string ⟨#[54]⟩) w := by kernel_rfl
theorem hex_slice7 (w : World) : (Instr.slice 9 (.string ⟨#[48, 49, 50, 51, 52, 53, 54, 55, 56, 57, 97, 98, 99, 100, 101, 102]⟩) (some (.int .u8 7)) (some (.int .u8 8)) none).run Try.prog w = .ok (.string ⟨#[55]⟩) w := by kernel_rfl
theorem hex_slice8 (w : World) : (Instr.slice 9 (.string ⟨#[48, 49, 50, 51, 52, 53, 54, 55, 56, 57, 97, 98, 99, 100, 101, 102]⟩) (some (.int .u8 8)) (some (.int .u8 9)) none).run Try.prog w = .ok (.string ⟨#[56]⟩) w := by kernel_rfl
theorem hex_slice9 (w : World) : (Instr.slice 9 (.string ⟨#[48, 49, 50, 51, 52, 53, 54, 55, 56, 57, 97, 98, 99, 100, 101, 102]⟩) (some (.int .u8 9)) (some (.int .u8 10)) none).run Try.prog w = .ok (.string ⟨#[57]⟩) w := by kernel_rfl
theorem hex_slice10 (w : World) : (Instr.slice 9 (.string ⟨#[48, 49, 50, 51, 52, 53, 54, 55, 56, 57, 97, 98, 99, 100, 101, 102]⟩) (some (.int .u8 10)) (some (.int .u8 11)) none).run Try.prog w = .ok (.string ⟨#[97]⟩) w := by kernel_rfl
theorem hex_slice11 (w : World) : (Instr.slice 9 (.string ⟨#[48, 49, 50, 51, 52, 53, 54, 55, 56, 57, 97, 98, 99, 100, 101, 102]⟩) (some (.int .u8 11)) (some (.int .u8 12)) none).run Try.prog w = .ok (.string ⟨#[98]⟩) w := by kernel_rfl
theorem hex_slice12 (w : World) : (Instr.slice 9 (.string ⟨#[48, 49, 50, 51, 52, 53, 54, 55, 56, 57, 97, 98, 99, 100, 101, 102]⟩) (some (.int .u8 12)) (some (.int .u8 13)) none).run Try.prog w = .ok (.string ⟨#[99]⟩) w := by kernel_rfl
theorem hex_slice13 (w : World) : (Instr.slice 9 (.string ⟨#[48, 49, 50, 51, 52, 53, 54, 55, 56, 57, 97, 98, 99, 100, 101, 102]⟩) (some (.int .u8 13)) (some (.int .u8 14)) none).run Try.prog w = .ok (.string ⟨#[100]⟩) w := by kernel_rfl
theorem hex_slice14 (w : World) : (Instr.slice 9 (.string ⟨#[48, 49, 50, 51, 52, 53, 54, 55, 56, 57, 97, 98, 99, 100, 101, 102]⟩) (some (.int .u8 14)) (some (.int .u8 15)) none).run Try.prog w = .ok (.string ⟨#[101]⟩) w := by kernel_rfl
theorem hex_slice15 (w : World) : (Instr.slice 9 (.string ⟨#[48, 49, 50, 51, 52, 53, 54, 55, 56, 57, 97, 98, 99, 100, 101, 102]⟩) (some (.int .u8 15)) (some (.int .u8 16)) none).run Try.prog w = .ok (.string ⟨#[102]⟩) w := by kernel_rfl
theorem hex_slice (a : Nat) (h : a ≤ 15) (w : World) : (Instr.slice 9 (.string ⟨#[48, 49, 50, 51, 52, 53, 54, 55, 56, 57, 97, 98, 99, 100, 101, 102]⟩) (some (.int .u8 a)) (some (.int .u8 ((a : Int) + 1))) none).run Try.prog w =
    .ok (.string ⟨#[hexTab.data.toList.getD a 0]⟩) w := by
  match a, h with
  | 0, _ => exact hex_slice0 w
  | 1, _ => exact hex_slice1 w
  | 2, _ => exact hex_slice2 w
  | 3, _ => exact hex_slice3 w
  | 4, _ => exact hex_slice4 w
  | 5, _ => exact hex_slice5 w
  | 6, _ => exact hex_slice6 w
  | 7, _ => exact hex_slice7 w
  | 8, _ => exact hex_slice8 w
  | 9, _ => exact hex_slice9 w
  | 10, _ => exact hex_slice10 w
  | 11, _ => exact hex_slice11 w
  | 12, _ => exact hex_slice12 w
  | 13, _ => exact hex_slice13 w
  | 14, _ => exact hex_slice14 w
  | 15, _ => exact hex_slice15 w
  | n + 16, h => omega

theorem hexs_len (l : List UInt8) : (hexs l).length = 2 * l.length := by
  induction l with
  | nil => rfl
  | cons c l ih => simp [hexs, hx] at ih ⊢; omega
theorem hex_next {s l : ByteArray} {k : Nat} (h : l.data.toList = hexs (s.data.toList.take k)) (hk : k < s.size) :
    (l ++ ⟨#[hexTab.data.toList.getD (s[k].toNat / 16) 0]⟩ ++ ⟨#[hexTab.data.toList.getD (s[k].toNat % 16) 0]⟩ : ByteArray).data.toList = hexs (s.data.toList.take (k + 1)) := by
  rw [List.take_succ_eq_append_getElem (by simpa using hk)]
  simp only [hexs, List.flatMap_append, List.flatMap_cons, List.flatMap_nil, List.append_nil] at h ⊢
  rw [← h]
  have e : s[k] = s.data.toList[k]'(by simpa using hk) := rfl
  simp only [hx, e]
  simp
theorem hex_size {s l : ByteArray} {k : Nat} (h : l.data.toList = hexs (s.data.toList.take k)) (hs : s.size ≤ 1000) : l.size ≤ 2000 := by
  have h1 : l.data.toList.length = l.size := Array.length_toList
  have h2 : s.data.toList.length = s.size := Array.length_toList
  rw [h, hexs_len] at h1
  have := List.length_take_le k s.data.toList
  have h3 := List.length_take_le' k s.data.toList
  omega

set_option maxRecDepth 10000 in
set_option maxHeartbeats 400000 in
theorem hex_calls (s : ByteArray) (w : World) (hs : s.size ≤ 1000) :
    Calls Try.prog 63 #[.string s] w fun r w' => r = .returned (.string ⟨(if s.data.toList = [] then [45] else hexs s.data.toList).toArray⟩) ∧ ∃ n, w' = w.drewN n := by
  obtain ⟨ans, hans⟩ : ∃ ans, ans = (if s.data.toList = [] then [45] else hexs s.data.toList) := ⟨_, rfl⟩
  rw [← hans]
  have HA := Lib.hid hans
  clear hans
  go_enter Try.func63, Try.ntmps63
  go_wp2
  go_loopw [3, 4] (fun x i wr => ∃ k : Nat, k ≤ s.size ∧ i = .int .i64 k ∧ ∃ l : ByteArray, x = .string l ∧ l.data.toList = hexs (s.data.toList.take k) ∧ ∃ n, wr = w.drewN n) (fun _ i _ => s.size - (intOf i).toNat)
  case atStart => exact ⟨0, by omega, rfl, _, rfl, by simp [hexs], 0, rfl⟩
  case round =>
    obtain ⟨k, hk, rfl, l, rfl, hl, n, rfl⟩ := hrel
    have hsz := hex_size hl hs
    have HL := Lib.hid hl
    clear hl
    by_cases hlt : k < s.size
    · have h0 : 0 < s.size := by omega
      have HN : Hid (RowKit.Hid (l.data.toList = hexs (s.data.toList.take k)) → (l ++ ⟨#[hexTab.data.toList.getD (s[k].toNat / 16) 0]⟩ ++ ⟨#[hexTab.data.toList.getD (s[k].toNat % 16) 0]⟩ : ByteArray).data.toList = hexs (s.data.toList.take (k + 1))) := fun h => hex_next h hlt
      go_wp2
      go_quiet (fail)
      go_wp2
      obtain ⟨a, ha⟩ : ∃ a : Nat, a = s[k].toNat / 16 := ⟨_, rfl⟩
      obtain ⟨b, hb⟩ : ∃ b : Nat, b = s[k].toNat % 16 := ⟨_, rfl⟩
      have hlt' := s[k].toNat_lt
      rw [show (s[k].toNat : Int) / 16 % 256 = (a : Int) by omega, show (s[k].toNat : Int) % 16 = (b : Int) by omega]
      rw [← ha, ← hb] at HN
      have ha2 : a ≤ 15 := by omega
      have hb2 : b ≤ 15 := by omega
      have q1 : IntKind.u8.wrap ((a : Int) + 1) = (a : Int) + 1 := IntWalk.u8_in _ (by omega)
      have q2 : IntKind.u8.wrap ((b : Int) + 1) = (b : Int) + 1 := IntWalk.u8_in _ (by omega)
      have s1 := hex_slice a ha2
      have s2 := hex_slice b hb2
      obtain ⟨x, hx⟩ : ∃ x : ByteArray, x = ⟨#[hexTab.data.toList.getD a 0]⟩ := ⟨_, rfl⟩
      obtain ⟨y, hy⟩ : ∃ x : ByteArray, x = ⟨#[hexTab.data.toList.getD b 0]⟩ := ⟨_, rfl⟩
      rw [← hx] at s1 HN
      rw [← hy] at s2 HN
      have hxs : x.size = 1 := by rw [hx]; rfl
      have hys : y.size = 1 := by rw [hy]; rfl
      clear hx hy ha hb hlt'
      go_quiet (fail)
      go_wp2
      go_roundw
      case rel => exact ⟨k + 1, by omega, by go_num, _, rfl, HN.out HL, _, rfl⟩
      case measure => simp [intOf]; omega
    · have hk' : k = s.size := by omega
      have hl2 : s.data.toList.length = s.size := Array.length_toList
      have HK := Lib.hid hk'
      have HLL := Lib.hid hl2
      clear hl2 hk'
      by_cases he : s.data.toList = []
      · have hq : l = ⟨#[]⟩ := str_ext (by rw [HL.out, he]; simp [hexs])
        subst hq
        have HE := Lib.hid he
        clear he
        go_wp2
        go_ret
        exact ⟨ret_str (by rw [HA.out, if_pos HE.out]), n, rfl⟩
      · have HE := Lib.hid he
        have hne : l.data.toList = hexs s.data.toList := by rw [HL.out, List.take_of_length_le (by have := HK.out; have := HLL.out; omega)]
        have hn2 : l.toList.isEmpty = false := by
          rw [ByteArray.toList_eq, List.isEmpty_eq_false_iff, hne]
          intro h
          have := hexs_len s.data.toList
          rw [h] at this
          exact he (List.eq_nil_of_length_eq_zero (by simp only [List.length_nil] at this; omega))
        have HNE := Lib.hid hne
        clear he hne
        go_wp2
        go_ret
        exact ⟨ret_str (str_ext (by rw [HA.out, if_neg HE.out, HNE.out])), n, rfl⟩
end Go.Proofs.Ytdfjjhpnhaggjaa
