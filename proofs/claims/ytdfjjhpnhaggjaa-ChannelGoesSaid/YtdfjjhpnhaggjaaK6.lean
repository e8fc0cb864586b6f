/- Package channel: New, walked. -/
import Derived.Test.YtdfjjhpnhaggjaaK5
import Derived.StillTailTactics
namespace Go.Proofs.Ytdfjjhpnhaggjaa
open Go.RowKit Go.Mem

section
variable {w wr w' : World} {T bo bi : Nat} {guests : Int} {ways : Value} {O I : List ((Int × Int) × Value)} {m : List Bool} {P : List Item}
theorem Nw.at2 (h : Nw w wr T bo bi guests ways O I m P) : wr.cell? ⟨T, 2, none⟩ = some ways ∧ wr.frozen? ⟨T, 2, none⟩ = false := ⟨h.tb.at 2 rfl, h.tb.free 2⟩
theorem Nw.at3 (h : Nw w wr T bo bi guests ways O I m P) : wr.cell? ⟨T, 3, none⟩ = some (.map (some bo)) := h.tb.at 3 rfl
theorem Nw.at4 (h : Nw w wr T bo bi guests ways O I m P) : wr.cell? ⟨T, 4, none⟩ = some (.map (some bi)) := h.tb.at 4 rfl
theorem Nw.atM (h : Nw w wr T bo bi guests ways O I m P) {i j : Nat} (hi : i < 16) (hj : j < 16) : wr.cell? ⟨T, 5 + i * 16 + j, none⟩ = some (.bool (Ytdfjjhpnhaggjaa.at2 m i j)) ∧ wr.frozen? ⟨T, 5 + i * 16 + j, none⟩ = false :=
  tb_at (t := ⟨guests, 0, ways, bo, bi, m⟩) h.tb h.ml hi hj
end

theorem cells_nw (w : World) (cs : List Value) (T : TypeId) (j : Nat) (u : Value) (h : cs[j]? = some u) : (w.alloc (.cells cs.toArray T)).cell? ((⟨w.heap.size, 0, none⟩ : Addr).add j) = some u := by
  rw [Addr.add_mid, Nat.zero_add]
  exact (Blk.new w cs T).at j h
theorem Nw.grown {w w2 w3 : World} {T bo bi : Nat} {guests : Int} {ways : Value} {O I : List ((Int × Int) × Value)} {m : List Bool} {P : List Item} (h : Nw w w2 T bo bi guests ways O I m P) {o : Obj} (hg : (w2.alloc o).grownBy w3 ways.ownBlock) :
    Upd (bl ways) w2 w3 ∧ w3.cell? ⟨T, 2, none⟩ = some ways ∧ w3.frozen? ⟨T, 2, none⟩ = false := by
  have hu : Upd (bl ways) w2 w3 := ((Upd.refl (bl ways) w2).alloc o).grown hg (by intro k hk; left; simp [bl, hk])
  have hb := h.tb.upd hu (own_ne h.own h.tb (by decide))
  exact ⟨hu, hb.at 2 rfl, hb.free 2⟩

theorem made_any (kind guest port most depth val : Int) (a : Option Addr) (n cap : Nat) (w : World) (h : shapeI kind n most depth val = true) (Y : Way) (hY : Y = mk kind n most depth val) :
    Calls Try.prog 37 #[.agg #[.int .u8 kind, .int .u8 guest, .int .u8 port, .slice a n cap, .int .u8 most, .int .u8 depth, .int .u32 val]] w fun e w' =>
      ∃ B, e = .returned (.iface Y.ty (.agg #[.pointer (some ⟨B, 0, none⟩)])) ∧ Y.Is w' B ∧ Upd [] w w' ∧ w.heap.size ≤ B := by
  subst hY
  exact (made_calls kind guest port most depth val a n cap w h).mono fun e w' ⟨h1, h2, h3⟩ => ⟨_, h1, h2, h3, Nat.le_succ _⟩

theorem new_post {w wr w2 : World} {T bo bi gn : Nat} {ways : Value} {l : List Ch} {P : List Item} (h : Nw w wr T bo bi gn ways (outs P) (ins P) (l.foldl mch m0) P) (hl : P.map Item.c = l) (hy : ∀ p ∈ P, p.y = mkc p.c)
    (htb : IsTb w2 T (Tb.with ⟨gn, 0, ways, bo, bi, l.foldl mch m0⟩ (clo gn (l.foldl mch m0)))) (hu : Upd [T] wr w2) : NewPost gn l w (.returned (.tuple #[.pointer (some ⟨T, 0, none⟩), .int .i64 0])) w2 := by
  refine ⟨T :: bo :: bi :: P.map Item.b, T, P, rfl, ⟨⟨ways, bo, bi, by rw [Int.toNat_natCast]; exact htb, h.mo.upd hu (by simpa using (h.mo.ne h.tb).symm), h.mi.upd hu (by simpa using (h.mi.ne h.tb).symm), rfl⟩, fun p hp => (h.is p hp).1.upd hu (by simpa using (h.is p hp).1.ne h.tb (by decide) (by decide)), h.nd⟩, hl, hy, h.up.trans hu (by intro x hx; simp at hx; subst hx; exact .inr h.nT), ?_⟩
  intro k hk
  simp only [List.mem_cons, List.mem_map] at hk
  rcases hk with rfl | rfl | rfl | ⟨p, hp, rfl⟩
  · exact h.nT
  · exact h.no
  · exact h.ni
  · exact (h.is p hp).2

theorem keys_now {l : List Ch} {P : List Item} {k : Nat} {c : Ch} (hnd : (l.flatMap Ch.all).Nodup) (hP : P.map Item.c = l.take k) (hc : l[k]? = some c) : (P.flatMap (fun p => p.c.all) ++ c.all).Nodup := by
  have e1 : P.flatMap (fun p => p.c.all) = (l.take k).flatMap Ch.all := by rw [← hP, List.flatMap_map]
  have e2 : (l.take k).flatMap Ch.all ++ c.all = (l.take (k + 1)).flatMap Ch.all := by
    rw [List.take_add_one, hc, Option.toList_some, List.flatMap_append]; simp
  rw [e1, e2]
  have : l.flatMap Ch.all = (l.take (k + 1)).flatMap Ch.all ++ (l.drop (k + 1)).flatMap Ch.all := by rw [← List.flatMap_append, List.take_append_drop]
  rw [this, List.nodup_append] at hnd
  exact hnd.1

set_option maxRecDepth 100000 in
set_option maxHeartbeats 4000000 in
theorem new_main (b off cap n gn : Nat) (l : List Ch) (w : World) (h1 : 1 ≤ gn) (h2 : gn ≤ 16) (hn : n = l.length) (hn16 : n ≤ 16) (hch : ∀ i c, l[i]? = some c → ChanAt w b (off + i * 7) c) (hb : b < w.heap.size)
    (hto : ∀ c ∈ l, IsEnds w c.tv c.to) (hok : ∀ c ∈ l, c.Ok) (hck : ∀ w' : World, Upd [] w w' → Calls Try.prog 24 #[.slice (some ⟨b, off, none⟩) n cap, .int .i64 gn] w' fun r w'' => r = .returned (.int .i64 0) ∧ Upd [] w' w'')
    (hz : chk gn l [] = 0) :
    Calls Try.prog 15 #[.slice (some ⟨b, off, none⟩) n cap, .int .i64 gn] w (NewPost gn l w) := by
  have hmm := @run_makeMap Try.prog
  obtain ⟨hsh, hnd⟩ := chk_zero gn l [] List.nodup_nil hz
  have HN := Lib.hid hn
  have HCH := Lib.hid hch
  have HTO := Lib.hid hto
  have HOK := Lib.hid hok
  have HCK := Lib.hid hck
  have HSH := Lib.hid hsh
  have HND := Lib.hid hnd
  clear hn hch hto hok hck hsh hnd hz
  go_enter Try.func15, Try.ntmps15
  go_wp2_with (go_at_call 24; refine (HCK.out _ (Upd.refl _ _)).mono ?_; rintro e w1 ⟨rfl, hu⟩; have HU := Lib.hid hu; clear hu)
  clear hmm
  have HS := Lib.hid (Nw.start HU.out gn)
  have hsz : w1.heap.size < w1.heap.size + 1 + 1 := by omega
  go_loopw [26] (fun i wr => ∃ (k : Nat) (ways : Value) (P : List Item), k ≤ n ∧ i = .int .i64 k ∧ P.map Item.c = l.take k ∧ (∀ p ∈ P, p.y = mkc p.c) ∧
    Nw w wr (w1.heap.size + 1 + 1) w1.heap.size (w1.heap.size + 1) gn ways (outs P) (ins P) ((l.take k).foldl mch m0) P) (fun i _ => n - (intOf i).toNat)
  case atStart => exact ⟨0, _, [], by omega, rfl, rfl, by simp, HS.out⟩
  case round =>
    obtain ⟨k, ways, P, hk, rfl, hpc, hpy, hnw⟩ := hrel
    clear HS HU
    by_cases hlt : k < n
    · obtain ⟨w0, hw0⟩ : ∃ w0, w0 = wr := ⟨_, rfl⟩
      subst hw0
      obtain ⟨c, hc⟩ : ∃ c, l[k]? = some c := ⟨_, List.getElem?_eq_getElem (by rw [← HN.out]; omega)⟩
      have hcm : c ∈ l := List.mem_of_getElem? hc
      have hend := HTO.out c hcm
      have hcok := HOK.out c hcm
      have hat := (HCH.out k c hc).upd hnw.up (by simp) hb
      obtain ⟨hsb, hout⟩ := HSH.out c hcm
      have hkey := keys_now (by simpa using HND.out) hpc hc
      have hnext : (l.take (k + 1)).foldl mch m0 = mch ((l.take k).foldl mch m0) c := fold_take_next _ _ hc
      have hpc2 : P.map Item.c ++ [c] = l.take (k + 1) := by rw [hpc, List.take_add_one, hc]; rfl
      obtain ⟨ta, tcap, htv, hend2⟩ := id hend
      obtain ⟨tn, htn⟩ : ∃ tn, tn = c.to.length := ⟨_, rfl⟩
      obtain ⟨Y, hY⟩ : ∃ Y, Y = mkc c := ⟨_, rfl⟩
      have hs : shapeI c.kind tn c.most c.depth c.val = true := by rw [htn]; exact hsb
      have hYm : Y = mk c.kind tn c.most c.depth c.val := by rw [htn]; exact hY
      obtain ⟨n1, n4⟩ := shape_n hs
      obtain ⟨tb, toff, rfl, hea, heb⟩ := hend2 (by intro e; rw [e] at htn; simp at htn; omega)
      obtain ⟨g, hg⟩ := Int.eq_ofNat_of_zero_le hcok.g0
      have hgp := hout (c.guest, c.port) (by simp [Ch.all])
      have hgn : g < gn := by simp [outB] at hgp; omega
      have hp16 : c.port < 16 := by simp [outB] at hgp; omega
      obtain ⟨kb, hkb⟩ : ∃ kb, (c.kind == 1) = kb := ⟨_, rfl⟩
      obtain ⟨M, hM⟩ : ∃ M, M = (l.take k).foldl mch m0 := ⟨_, rfl⟩
      rw [← hM] at hnw hnext
      have HKEY := Lib.hid hkey
      have HNEXT := Lib.hid hnext
      have HPC2 := Lib.hid hpc2
      have HEA := Lib.hid hea
      have HY := Lib.hid hY
      have HTN := Lib.hid htn
      have HSB := Lib.hid hsb
      have HOUT := Lib.hid hout
      have HCOK := Lib.hid hcok
      have HPY := Lib.hid hpy
      have HPC := Lib.hid hpc
      have HNW := Lib.hid hnw
      have HMM := Lib.hid hM
      obtain ⟨x0, x1, x2, x3, x4, x5, x6⟩ := hat
      rw [htv, ← htn] at x3
      obtain ⟨kind, hki⟩ : ∃ x, x = c.kind := ⟨_, rfl⟩
      obtain ⟨port, hpo⟩ : ∃ x, x = c.port := ⟨_, rfl⟩
      obtain ⟨most, hmo⟩ : ∃ x, x = c.most := ⟨_, rfl⟩
      obtain ⟨depth, hde⟩ : ∃ x, x = c.depth := ⟨_, rfl⟩
      obtain ⟨val, hva⟩ : ∃ x, x = c.val := ⟨_, rfl⟩
      have HFI : Hid (kind = c.kind ∧ port = c.port ∧ most = c.most ∧ depth = c.depth ∧ val = c.val ∧ c.guest = g) := ⟨hki, hpo, hmo, hde, hva, hg⟩
      rw [hg] at x1
      rw [← hki] at x0 hkb hs hYm
      rw [← hpo] at x2 hp16
      rw [← hmo] at x4 hs hYm
      rw [← hde] at x5 hs hYm
      rw [← hva] at x6 hs hYm
      have HKB := Lib.hid hkb
      have HMADE := Lib.hid (fun (w' : World) => made_any kind g port most depth val (some ⟨tb, toff, none⟩) tn tcap w' hs Y hYm)
      obtain ⟨t, hty⟩ : ∃ t, t = Y.ty := ⟨_, rfl⟩
      rw [← hty] at HMADE
      have HTY := Lib.hid hty
      have HBX := Lib.hid (Blk.new w0 [.int .u8 kind, .int .u8 g, .int .u8 port, .slice (some ⟨tb, toff, none⟩) tn tcap, .int .u8 most, .int .u8 depth, .int .u32 val] 66)
      have hwl : w.heap.size ≤ w0.heap.size := hnw.up.size
      obtain ⟨i0, hi, hz0, hz1, hz2⟩ := info_parts i97
      have HI : Hid (i0.zero = _ ∧ _ ∧ _ ∧ _) := ⟨hz0, hz1, hz2, hi⟩
      have HLEN : Hid (P.length ≤ 16) := by
        have := congrArg List.length hpc
        rw [List.length_map, List.length_take] at this
        exact Lib.hid (by omega)
      clear hc hcm hend hcok hsb hout hkey hnext hpc2 htv hend2 htn hY hs hYm hea hg hgp hM hnw hpy hpc hki hpo hmo hde hva hkb hty hz0 hz1 hz2 hi
      go_wp2_with (first | (go_at_call 37; refine (HMADE.out _).mono ?_; rintro e w2 ⟨B, rfl, hyi, hu2, hB⟩; have hnw2 := HNW.out.upd (((Upd.refl [] _).alloc _).trans hu2 (by simp)); obtain ⟨a2, -⟩ := hnw2.at2; have HNW2 := Lib.hid hnw2; have HYI := Lib.hid hyi; have HU2 := Lib.hid hu2; have HB := Lib.hid hB; clear hnw2 hyi hu2 hB) | (at_builtin; go_loud (refine wpList_append_lies _ rfl _ _ 92 rfl 0 97 i0 .nilIface 1 16 Try.underlying92 HI.out.2.2.2 HI.out.1 HI.out.2.1 HI.out.2.2.1 rfl (by decide) ways _ _ rfl (HNW2.out.upd ((Upd.refl [] _).alloc _)).own ⟨w2.heap.size, 0, none⟩ 1 1 [.iface t (.agg #[.pointer (some ⟨B, 0, none⟩)])] rfl rfl (cells_nw _ _ _) (by intro u hu; simp at hu; rw [hu]; rfl) (by decide) (by have := HLEN.out; unfold maxLen; omega) (by have := HLEN.out; omega) (Nat.zero_le _) _ rfl ?_); intro gb cp w3 hown hgrow hgb hlt3; obtain ⟨hu3, c2, f2⟩ := HNW2.out.grown hgrow; have HU3 := Lib.hid hu3; clear hu3; have HOWN := Lib.hid hown; have HGROW := Lib.hid hgrow; have HGB := Lib.hid hgb; clear hown hgrow hgb hlt3))
      obtain ⟨w4, hw4⟩ : ∃ w4, w4 = w3.setCell ⟨w1.heap.size + 1 + 1, 2, none⟩ (.slice (some ⟨gb, 0, none⟩) (P.length + 1) cp) := ⟨_, rfl⟩
      rw [← hw4]
      have hBw : w0.heap.size ≤ B := by have := HB.out; rw [World.size_alloc] at this; omega
      have NW4 : Nw w w4 (w1.heap.size + 1 + 1) w1.heap.size (w1.heap.size + 1) gn (.slice (some ⟨gb, 0, none⟩) (P.length + 1) cp) (outs P) (ins P) M (P ++ [⟨c, B, Y⟩]) := by
        rw [hw4]
        refine HNW2.out.addW (p := ⟨c, B, Y⟩) HYI.out (by show w.heap.size ≤ B; omega) ?_ ?_ HU3.out ?_
        · intro hm
          obtain ⟨q, hq, hqb⟩ := List.mem_map.1 hm
          have := (HNW.out.is q hq).1.lt
          simp only at hqb
          omega
        · have := HOWN.out
          rw [HTY.out] at this
          exact this
        · intro k hk
          obtain rfl : k = gb := by simpa [bl, Value.ownBlock] using hk
          rcases HGB.out with h | h
          · exact HNW2.out.nw k (by simp [bl, h])
          · have h5 := HNW2.out.up.size
            rw [World.size_alloc] at h
            omega
      have hX2 := HBX.out.upd HU2.out (by simp)
      have hX4 : Blk w4 w0.heap.size [.int .u8 kind, .int .u8 g, .int .u8 port, .slice (some ⟨tb, toff, none⟩) tn tcap, .int .u8 most, .int .u8 depth, .int .u32 val] 66 := by
        rw [hw4]
        refine (hX2.upd HU3.out (own_ne HNW2.out.own hX2 (by decide))).setCell_ne ?_ _ _
        exact (blk_ne hX2 HNW2.out.tb (by decide)).symm
      have hkO : KOk ((g : Int), port) := ⟨by omega, by have := HCOK.out.g1; rw [HFI.out.2.2.2.2.2] at this; exact this, by have := HCOK.out.p0; rw [HFI.out.2.1]; exact this, by have := HCOK.out.p1; rw [HFI.out.2.1]; exact this⟩
      obtain ⟨w5, r5, hnw5, hu5⟩ := (NW4.upd ((Upd.refl [] _).drew)).putO hkO (by have := fresh_out HKEY.out; rw [HFI.out.2.2.2.2.2, ← HFI.out.2.1] at this; exact this) (.agg #[.iface t (.agg #[.pointer (some ⟨B, 0, none⟩)])])
      have hX5 := (hX4.upd ((Upd.refl [] _).drew) (by simp)).upd hu5 (by simpa using NW4.mo.ne hX4)
      have hout5 : outs P ++ [(((g : Int), port), .agg #[.iface t (.agg #[.pointer (some ⟨B, 0, none⟩)])])] = outs (P ++ [⟨c, B, Y⟩]) := by
        simp [outs, Item.v, HFI.out.2.2.2.2.2, HFI.out.2.1, HTY.out]
      rw [hout5] at hnw5
      have y3 := NW4.at3
      have y1 := hX4.at 1 rfl
      have y2 := hX4.at 2 rfl
      have z3 := hX5.at 3 rfl
      have HNW5 := Lib.hid hnw5
      have HX5 := Lib.hid hX5
      clear hw4 hBw NW4 hX2 hX4 hkO hnw5 hu5 hX5 hout5 a2 c2 f2 x0 x1 x2 x3 x4 x5 x6 HOWN HGROW HGB HU3
      go_wp2
      go_region
      go_wp2
      clear y1 y2 y3 z3 r5
      obtain ⟨V, hV⟩ : ∃ V, V = (Value.slice (some ⟨gb, 0, none⟩) (P.length + 1) cp) := ⟨_, rfl⟩
      have HNW5' : Hid (Nw w w5 (w1.heap.size + 1 + 1) w1.heap.size (w1.heap.size + 1) gn V (outs (P ++ [⟨c, B, Y⟩])) (ins P) M (P ++ [⟨c, B, Y⟩])) := by rw [hV]; exact HNW5.out
      clear hV HNW5 HNW2 HYI HU2 HB HMADE HNW
      go_loopw [56] (fun i wr => ∃ j : Nat, j ≤ tn ∧ i = .int .i64 j ∧ Nw w wr (w1.heap.size + 1 + 1) w1.heap.size (w1.heap.size + 1) gn V (outs (P ++ [⟨c, B, Y⟩])) (ins P ++ insTo (.iface t (.agg #[.pointer (some ⟨B, 0, none⟩)])) (c.to.take j)) ((c.to.take j).foldl (mstep kb g) M) (P ++ [⟨c, B, Y⟩]) ∧
        Blk wr w0.heap.size [.int .u8 kind, .int .u8 g, .int .u8 port, .slice (some ⟨tb, toff, none⟩) tn tcap, .int .u8 most, .int .u8 depth, .int .u32 val] 66) (fun i _ => tn - (intOf i).toNat)
      case atStart => exact ⟨0, by omega, rfl, by simpa [insTo] using HNW5'.out, HX5.out⟩
      case round =>
        clear HNW5' HX5
        obtain ⟨j, hj, rfl, hnw, hX⟩ := hrel
        by_cases hjl : j < tn
        · obtain ⟨x, hx⟩ : ∃ x, c.to[j]? = some x := ⟨_, List.getElem?_eq_getElem (by rw [← HTN.out]; omega)⟩
          have hxm : x ∈ c.to := List.mem_of_getElem? hx
          have hkI := HCOK.out.ends x hxm
          have hxo := HOUT.out x (List.mem_cons_of_mem _ hxm)
          obtain ⟨y0, y1⟩ := (HEA.out.upd hnw.up (by simp) heb) j x hx
          have hfr := fresh_in HKEY.out hx (.iface t (.agg #[.pointer (some ⟨B, 0, none⟩)]))
          have hin1 := insTo_snoc (.iface t (.agg #[.pointer (some ⟨B, 0, none⟩)])) hx
          have hfo := fold_take_next (mstep kb g) M hx
          obtain ⟨xa, xb⟩ := x
          obtain ⟨h, hh⟩ := Int.eq_ofNat_of_zero_le hkI.1
          simp only at hh
          subst hh
          have hhn : h < gn := by simp [outB] at hxo; omega
          have hxb : xb < 16 := by simp [outB] at hxo; omega
          have HNW := Lib.hid hnw
          have HX := Lib.hid hX
          have HKI := Lib.hid hkI
          have HFR := Lib.hid hfr
          have HIN := Lib.hid hin1
          have HFO := Lib.hid hfo
          clear hx hxm hkI hxo hnw hX hfr hin1 hfo
          go_wp2
          obtain ⟨w6, hw6⟩ : ∃ w6, w6 = wr.alloc (.cells #[.int .u8 h, .int .u8 xb] 63) := ⟨_, rfl⟩
          have hu6 : Upd [] wr w6 := by rw [hw6]; exact (Upd.refl _ _).alloc _
          have hE6 : Blk w6 wr.heap.size [.int .u8 h, .int .u8 xb] 63 := by rw [hw6]; exact Blk.new wr [.int .u8 h, .int .u8 xb] 63
          rw [← hw6]
          have nw6 := HNW.out.upd hu6
          have hX6 := HX.out.upd hu6 (by simp)
          obtain ⟨w7, r7, nw7, hu7⟩ := (nw6.upd ((Upd.refl [] _).drew)).putI HKI.out HFR.out (.agg #[.iface t (.agg #[.pointer (some ⟨B, 0, none⟩)]), .int .i64 j])
          rw [List.append_assoc, ← HIN.out] at nw7
          have hE7 := (hE6.upd ((Upd.refl [] _).drew) (by simp)).upd hu7 (by simpa using nw6.mi.ne hE6)
          have hX7 := (hX6.upd ((Upd.refl [] _).drew) (by simp)).upd hu7 (by simpa using nw6.mi.ne hX6)
          have e0 := hE6.at 0 rfl
          have e1 := hE6.at 1 rfl
          have e4 := nw6.at4
          have NW7 := Lib.hid nw7
          have HE7 := Lib.hid hE7
          have HX7 := Lib.hid hX7
          clear hw6 hu6 hE6 nw6 hX6 nw7 hu7 hE7 hX7 HIN HNW HX y0 y1
          go_region
          clear r7 e0 e1 e4
          have hg16 : g < 16 := by omega
          have hh16 : h < 16 := by omega
          have e0 := HE7.out.at 0 rfl
          have e1 := HX7.out.at 1 rfl
          obtain ⟨q0, q1⟩ := NW7.out.atM hg16 hh16
          go_wp2
          go_region
          clear e0 e1 q0 q1
          obtain ⟨w8, hw8⟩ : ∃ w8, w8 = (w7.setCell ⟨w1.heap.size + 1 + 1, 5 + g * 16 + h, none⟩ (.bool true)).drew := ⟨_, rfl⟩
          rw [← hw8]
          obtain ⟨M1, hM1⟩ : ∃ M1, M1 = ((c.to.take j).foldl (mstep kb g) M).set (g * 16 + h) true := ⟨_, rfl⟩
          have nw8 : Nw w w8 (w1.heap.size + 1 + 1) w1.heap.size (w1.heap.size + 1) gn V (outs (P ++ [⟨c, B, Y⟩])) (ins P ++ insTo (.iface t (.agg #[.pointer (some ⟨B, 0, none⟩)])) (c.to.take (j + 1))) M1 (P ++ [⟨c, B, Y⟩]) := by
            rw [hw8, hM1]; exact (NW7.out.setM g h true).upd ((Upd.refl [] _).drew)
          have hu8 : Upd [w1.heap.size + 1 + 1] w7 w8 := by rw [hw8]; exact ((Upd.refl _ _).setCell (.inl (by simp)) _).drew
          have hE8 := HE7.out.upd hu8 (by simpa using (blk_ne HE7.out NW7.out.tb (by decide)))
          have hX8 := HX7.out.upd hu8 (by simpa using (blk_ne HX7.out NW7.out.tb (by decide)))
          have hfin : ∀ v, (at2 M1 h g || kb) = v → Nw w (w8.drew.setCell ⟨w1.heap.size + 1 + 1, 5 + h * 16 + g, none⟩ (.bool v)) (w1.heap.size + 1 + 1) w1.heap.size (w1.heap.size + 1) gn V (outs (P ++ [⟨c, B, Y⟩])) (ins P ++ insTo (.iface t (.agg #[.pointer (some ⟨B, 0, none⟩)])) (c.to.take (j + 1))) ((c.to.take (j + 1)).foldl (mstep kb g) M) (P ++ [⟨c, B, Y⟩]) := by
            intro v hv
            have h9 := (nw8.upd ((Upd.refl [] _).drew)).setM h g v
            rw [HFO.out]
            unfold mstep
            rw [← hv, hM1] at h9
            rw [← hv, hM1]
            exact h9
          have hX9 : ∀ v, Blk (w8.drew.setCell ⟨w1.heap.size + 1 + 1, 5 + h * 16 + g, none⟩ (.bool v)) w0.heap.size [.int .u8 kind, .int .u8 g, .int .u8 port, .slice (some ⟨tb, toff, none⟩) tn tcap, .int .u8 most, .int .u8 depth, .int .u32 val] 66 :=
            fun v => Blk.setCell_ne (w := w8.drew) hX8 (blk_ne hX8 nw8.tb (by decide)).symm _ _
          have e0 := hE8.at 0 rfl
          have e1 := hX8.at 1 rfl
          have e2 := hX8.at 0 rfl
          obtain ⟨q0, q1⟩ := nw8.atM hh16 hg16
          obtain ⟨x1, hx1⟩ : ∃ x, x = at2 M1 h g := ⟨_, rfl⟩
          rw [← hx1] at q0
          have HX1 := Lib.hid hx1
          have hkb := HKB.out
          clear hw8 hM1 nw8 hu8 hE8 hX8 hx1 NW7 HE7 HX7 HFR HKI HFO
          obtain ⟨w9, hw9⟩ : ∃ w9, w9 = w8.drew := ⟨_, rfl⟩
          have e0' : w9.cell? ⟨wr.heap.size, 0, none⟩ = some (.int .u8 h) := by rw [hw9]; exact e0
          have e1' : w9.cell? ⟨w0.heap.size, 1, none⟩ = some (.int .u8 g) := by rw [hw9]; exact e1
          have e2' : w9.cell? ⟨w0.heap.size, 0, none⟩ = some (.int .u8 kind) := by rw [hw9]; exact e2
          have q0' : w9.cell? ⟨w1.heap.size + 1 + 1, 5 + h * 16 + g, none⟩ = some (.bool x1) := by rw [hw9]; exact q0
          have q1' : w9.frozen? ⟨w1.heap.size + 1 + 1, 5 + h * 16 + g, none⟩ = false := by rw [hw9]; exact q1
          have HFIN : Hid (∀ v, (at2 M1 h g || kb) = v → Nw w (w9.setCell ⟨w1.heap.size + 1 + 1, 5 + h * 16 + g, none⟩ (.bool v)) (w1.heap.size + 1 + 1) w1.heap.size (w1.heap.size + 1) gn V (outs (P ++ [⟨c, B, Y⟩])) (ins P ++ insTo (.iface t (.agg #[.pointer (some ⟨B, 0, none⟩)])) (c.to.take (j + 1))) ((c.to.take (j + 1)).foldl (mstep kb g) M) (P ++ [⟨c, B, Y⟩])) := by rw [hw9]; exact hfin
          have HX9 : Hid (∀ v, Blk (w9.setCell ⟨w1.heap.size + 1 + 1, 5 + h * 16 + g, none⟩ (.bool v)) w0.heap.size [.int .u8 kind, .int .u8 g, .int .u8 port, .slice (some ⟨tb, toff, none⟩) tn tcap, .int .u8 most, .int .u8 depth, .int .u32 val] 66) := by rw [hw9]; exact hX9
          have HW9 : Hid (w9 = { heap := w8.heap, tape := w8.tape, drawn := w8.drawn + 1, os := w8.os, output := w8.output }) := hw9
          clear e0 e1 e2 q0 q1 hw9 hfin hX9
          have hz1 : (h : Int) < 16 := by omega
          have hz2 : (g : Int) < 16 := by omega
          cases x1
          · go_wp2
            refine wp_region_still_tail 24 (by kernel_rfl) (by kernel_rfl) ?_
            simp only [List.take_succ_cons, List.take_zero, List.drop_succ_cons, List.drop_zero]
            rw [← HW9.out]
            repeat still_step
            refine wpStill_nil ?_
            go_wp2
            go_roundw
            case rel => exact ⟨j + 1, by omega, by go_num, HFIN.out _ (by rw [← HX1.out]; rfl), HX9.out _⟩
            case measure => simp [intOf]; omega
          · go_wp2
            refine wp_region_still_tail 24 (by kernel_rfl) (by kernel_rfl) ?_
            simp only [List.take_succ_cons, List.take_zero, List.drop_succ_cons, List.drop_zero]
            rw [← HW9.out]
            repeat still_step
            refine wpStill_nil ?_
            go_wp2
            go_roundw
            case rel => exact ⟨j + 1, by omega, by go_num, HFIN.out _ (by rw [← HX1.out]; rfl), HX9.out _⟩
            case measure => simp [intOf]; omega
        · have hjt : j = tn := by omega
          have htake : c.to.take tn = c.to := List.take_of_length_le (by rw [HTN.out]; exact Nat.le_refl _)
          have hfin : Nw w wr (w1.heap.size + 1 + 1) w1.heap.size (w1.heap.size + 1) gn V (outs (P ++ [⟨c, B, Y⟩])) (ins (P ++ [⟨c, B, Y⟩])) ((l.take (k + 1)).foldl mch m0) (P ++ [⟨c, B, Y⟩]) := by
            rw [HNEXT.out]
            have e1 : ins (P ++ [⟨c, B, Y⟩]) = ins P ++ insTo (.iface t (.agg #[.pointer (some ⟨B, 0, none⟩)])) c.to := by
              rw [HTY.out]; simp [ins, Item.v]
            have e2 : mch M c = c.to.foldl (mstep kb g) M := by
              unfold mch
              rw [HFI.out.2.2.2.2.2, ← HFI.out.1, HKB.out]; rfl
            rw [e1, e2]
            rw [hjt, htake] at hnw
            exact hnw
          have HFIN := Lib.hid hfin
          have hpy2 : ∀ p ∈ P ++ [⟨c, B, Y⟩], p.y = mkc p.c := by
            intro p hp
            rcases List.mem_append.1 hp with hp | hp
            · exact HPY.out p hp
            · simp at hp; subst hp; exact HY.out
          have HPY2 := Lib.hid hpy2
          have hpc3 : (P ++ [(⟨c, B, Y⟩ : Item)]).map Item.c = l.take (k + 1) := by rw [List.map_append]; exact HPC2.out
          have HPC3 := Lib.hid hpc3
          clear hfin hpy2 hpc3 hnw hX hjt htake
          go_wp2
          go_roundw
          case rel => exact ⟨k + 1, V, _, by omega, by go_num, HPC3.out, HPY2.out, HFIN.out⟩
          case measure => simp [intOf]; omega
    · have hkn : k = n := by omega
      have hpl : P.map Item.c = l := by rw [hpc, List.take_of_length_le (by rw [← HN.out]; omega)]
      have hml : (l.take k).foldl mch m0 = l.foldl mch m0 := by rw [List.take_of_length_le (by rw [← HN.out]; omega)]
      rw [hml] at hnw
      have HNW := Lib.hid hnw
      have HPL := Lib.hid hpl
      have HPY := Lib.hid hpy
      have HCL := Lib.hid (close_calls (w1.heap.size + 1 + 1) gn ⟨gn, 0, ways, w1.heap.size, w1.heap.size + 1, l.foldl mch m0⟩ wr hnw.tb rfl h2 hnw.ml)
      clear hpc hpy hnw hkn hpl hml
      go_wp2_with (go_at_call 38; refine HCL.out.mono ?_; rintro e w2 ⟨rfl, htb, hu⟩; have HTB := Lib.hid htb; have HU := Lib.hid hu; clear htb hu)
      go_returns
      exact new_post HNW.out HPL.out HPY.out HTB.out HU.out
end Go.Proofs.Ytdfjjhpnhaggjaa
