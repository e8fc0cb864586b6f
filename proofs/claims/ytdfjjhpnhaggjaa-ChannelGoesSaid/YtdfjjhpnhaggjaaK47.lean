/- ChannelGoes' loop, joined out of its cases. -/
import Derived.Test.YtdfjjhpnhaggjaaK39
import Derived.Test.YtdfjjhpnhaggjaaK40
import Derived.Test.YtdfjjhpnhaggjaaK41
import Derived.Test.YtdfjjhpnhaggjaaK42
import Derived.Test.YtdfjjhpnhaggjaaK43
import Derived.Test.YtdfjjhpnhaggjaaK44
import Derived.Test.YtdfjjhpnhaggjaaK45
import Derived.Test.YtdfjjhpnhaggjaaK46
namespace Go.Proofs.Ytdfjjhpnhaggjaa
open Go.RowKit Go.Mem

theorem k_mk {va : Option Addr} {vcap n : Nat} {ua : Option Addr} {ucap n2 T S : Nat} {c : Nat → Value} {j : Nat} {wr : World} {K : Go.Act → World → Prop} (hx : ∀ U, K (FR va vcap n ua ucap n2 T S c U j) wr) {arr : Array Value} (h : arr = (FR va vcap n ua ucap n2 T S c (fun k => arr.getD k undef) j).tmps) : K ⟨arr, []⟩ wr := by
  have := hx (fun k => arr.getD k undef)
  have e : (⟨arr, []⟩ : Go.Act) = FR va vcap n ua ucap n2 T S c (fun k => arr.getD k undef) j := by
    show (⟨arr, []⟩ : Go.Act) = ⟨(FR va vcap n ua ucap n2 T S c (fun k => arr.getD k undef) j).tmps, []⟩
    rw [← h]
  rw [e]; exact this

set_option maxRecDepth 1000000 in
set_option maxHeartbeats 4000000 in
theorem goes_exit (w : World) (va : Option Addr) (vcap n : Nat) (ua : Option Addr) (ucap n2 : Nat) (l : List Ch) (gn T S : Nat) (fp : List Nat) (mm : List Bool) (c : Nat → Value) (K : Go.Act → World → Prop) (R : Ending → World → Prop) (U : Nat → Value) (j : Nat) (wr : World) (hlt : ¬ j < n2) (hx : ∀ U, K (FR va vcap n ua ucap n2 T S c U j) wr) :
    Code.wp Try.prog body5 (Exit.then (fun a' w'' => WI w va vcap n ua ucap n2 l gn T S fp mm c a' w'' ∧ Wmu n2 a' w'' < Wmu n2 (FR va vcap n ua ucap n2 T S c U j) wr) (Exit.inBlock 0 (Exit.then K (bodyPost Try.prog Try.f5 R)))) (FR va vcap n ua ucap n2 T S c U j) wr := by
  have HX := Lib.hid hx
  clear hx
  conv => arg 2; whnf
  unfold FR
  go_wp2_with fail
  exact k_mk HX.out rfl

theorem goes_round (w : World) (va : Option Addr) (vcap n : Nat) (ua : Option Addr) (ucap n2 : Nat) (l : List Ch) (A : List Act) (gn T S : Nat) (fp : List Nat) (mm : List Bool) (c : Nat → Value) (cx : Cx w va vcap n ua ucap n2 l A gn) (K : Go.Act → World → Prop) (R : Ending → World → Prop) (hx : ∀ (U : Nat → Value) (j : Nat) (w' : World), Upd [] w w' → K (FR va vcap n ua ucap n2 T S c U j) w') (a0 : Go.Act) (wr : World) (hI : WI w va vcap n ua ucap n2 l gn T S fp mm c a0 wr) :
    Code.wp Try.prog body5 (Exit.then (fun a' w'' => WI w va vcap n ua ucap n2 l gn T S fp mm c a' w'' ∧ Wmu n2 a' w'' < Wmu n2 a0 wr) (Exit.inBlock 0 (Exit.then K (bodyPost Try.prog Try.f5 R)))) a0 wr := by
  obtain ⟨U, j, now, P, vs, L, rfl, hj, hgs⟩ := hI
  by_cases hlt : j < n2
  · obtain ⟨a, ha⟩ : ∃ a, A[j]? = some a := ⟨_, List.getElem?_eq_getElem (by rw [← cx.HL2]; omega)⟩
    have w0 := (cx.HAO a (List.mem_of_getElem? ha)).w0
    by_cases c1 : a.what % 8 < 3
    · cases ho : srcI (a.guest, a.port) l with
      | none => exact goes_send_none w va vcap n ua ucap n2 l A gn T S fp mm c cx _ U j now P vs L wr hgs hlt a ha c1 ho
      | some i =>
        by_cases hs : stSend (a.guest, a.port) a.s P = 0
        · exact goes_send_ok w va vcap n ua ucap n2 l A gn T S fp mm c cx K R U j now P vs L wr hgs hlt a ha c1 i ho hs
        · exact goes_send_no w va vcap n ua ucap n2 l A gn T S fp mm c cx _ U j now P vs L wr hgs hlt a ha c1 i ho hs
    · by_cases c2 : 5 < a.what % 8
      · exact goes_other w va vcap n ua ucap n2 l A gn T S fp mm c cx _ U j now P vs L wr hgs hlt a ha c1 c2
      · cases ho : dstI (a.guest, a.port) l with
        | none => exact goes_recv_none w va vcap n ua ucap n2 l A gn T S fp mm c cx _ U j now P vs L wr hgs hlt a ha c1 c2 ho
        | some i =>
          have hi : dstI (a.guest, a.port) (P.map Item.c) = some i := by rw [hgs.pc]; exact ho
          obtain ⟨p, ss, hp, hss, hcase⟩ := rel_recv hgs.rel hgs.good hi now
          by_cases hn : ss = []
          · subst hn
            exact goes_recv_empty w va vcap n ua ucap n2 l A gn T S fp mm c cx _ U j now P vs L wr hgs hlt a ha c1 c2 i ho hss
          · rcases hcase with ⟨h, -⟩ | ⟨-, hk, -⟩ | ⟨hk, -⟩
            · exact absurd h hn
            · by_cases hq : (stRecv (a.guest, a.port) now P).st = 0
              · exact goes_recv_ok w va vcap n ua ucap n2 l A gn T S fp mm c cx _ U j now P vs L wr hgs hlt a ha c1 c2 i ho p hp hk ss hss hn hq
              · exact goes_recv_stale w va vcap n ua ucap n2 l A gn T S fp mm c cx _ U j now P vs L wr hgs hlt a ha c1 c2 i ho p hp hk ss hss hn hq
            · exact goes_recv_que w va vcap n ua ucap n2 l A gn T S fp mm c cx _ U j now P vs L wr hgs hlt a ha c1 c2 i ho p hp hk ss hss hn
  · exact goes_exit w va vcap n ua ucap n2 l gn T S fp mm c K R U j wr hlt (fun U' => hx U' j wr hgs.up)

theorem goes_loop (w : World) (va : Option Addr) (vcap n : Nat) (ua : Option Addr) (ucap n2 : Nat) (l : List Ch) (A : List Act) (gn T S : Nat) (fp : List Nat) (mm : List Bool) (cx : Cx w va vcap n ua ucap n2 l A gn) (K : Go.Act → World → Prop) (R : Ending → World → Prop) {arr : Array Value} {w2 : World} {P : List Item} {vs : List Value} {L : List (List ByteArray)}
    (h : arr = (FR va vcap n ua ucap n2 T S (fun k => arr.getD k undef) (fun k => arr.getD k undef) 0).tmps) (hG : Gs w w2 T S fp gn 0 mm l P vs L 0)
    (hx : ∀ (U : Nat → Value) (j : Nat) (w' : World), Upd [] w w' → K (FR va vcap n ua ucap n2 T S (fun k => arr.getD k undef) U j) w') :
    (Code.loop body5).wp Try.prog (Exit.inBlock 0 (Exit.then K (bodyPost Try.prog Try.f5 R))) ⟨arr, []⟩ w2 :=
  wp_loop (WI w va vcap n ua ucap n2 l gn T S fp mm (fun k => arr.getD k undef)) (Wmu n2) (wi_mk 0 0 P vs L h (Nat.zero_le _) hG) (fun a w'' hI => goes_round w va vcap n ua ucap n2 l A gn T S fp mm (fun k => arr.getD k undef) cx K R hx a w'' hI)
end Go.Proofs.Ytdfjjhpnhaggjaa
