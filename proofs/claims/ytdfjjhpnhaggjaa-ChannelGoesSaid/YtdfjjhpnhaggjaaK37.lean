/- The law ChannelGoes: where it says nothing. -/
import Derived.Test.YtdfjjhpnhaggjaaK35
import Derived.Test.YtdfjjhpnhaggjaaK36
import Derived.Test.YtdfjjhpnhaggjaaK24
import Derived.OwnWalk
namespace Go.Proofs.Ytdfjjhpnhaggjaa
open Go.RowKit Go.Mem

set_option maxRecDepth 100000 in
set_option maxHeartbeats 2000000 in
theorem goes_bad (w : World) (v u : Value) (l : List Ch) (A : List Act) (guests : Int) (h : IsChans w v l) (hA : IsAs w u A) (hok : ∀ c ∈ l, c.Ok) (hl : l.length ≤ maxLen) (hAl : A.length ≤ maxLen) (hz : check l guests ≠ 0) :
    Calls Try.prog 5 #[v, .int .i64 guests, u] w fun e w' => e = .returned (.bool true) ∧ Upd [] w w' := by
  have HN := Lib.hid ((new_calls v l guests w h hok hl).mono fun e w' h => newRes_bad hz h)
  obtain ⟨z, hzz⟩ : ∃ z, z = check l guests := ⟨_, rfl⟩
  rw [← hzz] at HN
  rw [← hzz] at hz
  obtain ⟨bb, hbb⟩ : ∃ b, b = fewB l A := ⟨_, rfl⟩
  have hF : ∀ w', Upd [] w w' → Calls Try.prog 16 #[v, u] w' fun e w'' => e = .returned (.bool bb) ∧ w' = w'' := fun w' hu => by
    rw [hbb]; exact few_calls v _ l A w' (h.upd hu (by simp)) (IsRows.upd hA hu (by simp)) hl hAl
  have HF := Lib.hid hF
  have z1 : (z != 0) = true := by simpa using hz
  clear h hA hok hl hAl hzz hz hF hbb
  cases bb
  all_goals
    go_enter Try.func5, Try.ntmps5
    go_wp2_with fail
    refine HN.out.mono ?_
    rintro e w1 ⟨rfl, hu⟩
    have HU := Lib.hid hu
    clear hu
    go_wp2_with fail
    refine (HF.out _ HU.out).mono ?_
    rintro e w' ⟨rfl, rfl⟩
    go_wp2_with fail
    refine (awake_calls _).mono ?_
    rintro e w2 ⟨rfl, hu⟩
    have HU2 := Lib.hid (HU.out.trans hu (by simp))
    clear hu
    go_wp2_with fail
    go_ret
    exact ⟨rfl, HU2.out⟩

set_option maxRecDepth 100000 in
set_option maxHeartbeats 2000000 in
theorem goes_many (w : World) (v u : Value) (l : List Ch) (A : List Act) (guests : Int) (h : IsChans w v l) (hA : IsAs w u A) (hok : ∀ c ∈ l, c.Ok) (hl : l.length ≤ maxLen) (hAl : A.length ≤ maxLen) (hz : check l guests = 0) (hf : fewB l A = false) :
    Calls Try.prog 5 #[v, .int .i64 guests, u] w fun e w' => e = .returned (.bool true) ∧ Upd [] w w' := by
  have HN := Lib.hid ((new_calls v l guests w h hok hl).mono fun e w' h => newRes_good hz h)
  have hF : ∀ w', Upd [] w w' → Calls Try.prog 16 #[v, u] w' fun e w'' => e = .returned (.bool false) ∧ w' = w'' := fun w' hu => by
    rw [← hf]; exact few_calls v _ l A w' (h.upd hu (by simp)) (IsRows.upd hA hu (by simp)) hl hAl
  have HF := Lib.hid hF
  clear h hA hok hl hAl hz hF hf
  go_enter Try.func5, Try.ntmps5
  go_wp2_with fail
  refine HN.out.mono ?_
  rintro e w1 ⟨fp, T, P, rfl, hT, -, -, hu, -⟩
  have HU := Lib.hid hu
  clear hu hT
  go_wp2_with fail
  refine (HF.out _ HU.out).mono ?_
  rintro e w' ⟨rfl, rfl⟩
  go_wp2_with fail
  refine (awake_calls _).mono ?_
  rintro e w2 ⟨rfl, hu⟩
  have HU2 := Lib.hid (HU.out.trans hu (by simp))
  clear hu
  go_wp2_with fail
  go_ret
  exact ⟨rfl, HU2.out⟩

/-- What the rounds keep. -/
structure Gs (w wr : World) (T S : Nat) (fp : List Nat) (g now : Int) (m : List Bool) (l : List Ch) (P : List Item) (vs : List Value) (L : List (List ByteArray)) (j : Nat) : Prop where
  tab : Tab wr fp T g now m P
  good : Good P
  t0 : 0 ≤ now
  t1 : now < 18446744073709551616
  pc : P.map Item.c = l
  up : Upd [] w wr
  fpn : ∀ k ∈ fp, w.heap.size ≤ k
  sent : Sent wr S vs L fp w.heap.size
  rel : Rel P L
  bd : ∀ (i : Nat) ss, L[i]? = some ss → ss.length ≤ j

theorem ing_of {g : Int} {l : List Ch} {P : List Item} (h : chk g l [] = 0) (hc : P.map Item.c = l) : InG g P := by
  intro p hp x hx
  have hpl : p.c ∈ l := by rw [← hc]; exact List.mem_map_of_mem hp
  have := ((chk_zero g l [] List.nodup_nil h).1 p.c hpl).2 x hx
  simp [outB] at this
  omega
theorem items_c {k : Int × Int} {now : Int} {s : ByteArray} : ∀ P : List Item, (psend k now s P).map Item.c = P.map Item.c
  | [] => rfl
  | p :: P => by
    unfold psend
    split
    · rfl
    · rw [List.map_cons, List.map_cons, items_c P]
theorem items_c2 {k : Int × Int} : ∀ P : List Item, (precv k P).map Item.c = P.map Item.c
  | [] => rfl
  | p :: P => by
    unfold precv
    split
    · rfl
    · rw [List.map_cons, List.map_cons, items_c2 P]
theorem itemsA_c (a : Act) (now : Int) (P : List Item) : (itemsA a now P).map Item.c = P.map Item.c := by
  unfold itemsA
  split
  · exact items_c2 P
  · split
    · rfl
    · split
      · rfl
      · exact items_c P
theorem itemsA_good {P : List Item} (h : Good P) (a : Act) {now : Int} (t0 : 0 ≤ now) (t1 : now < 18446744073709551616) : Good (itemsA a now P) := by
  unfold itemsA
  split
  · exact precv_good h _
  · split
    · exact h
    · split
      · exact h
      · exact psend_good h _ t0 t1 _
theorem nowA_bd {a : Act} (ha : a.Ok) {now : Int} (t0 : 0 ≤ now) (t1 : now < 18446744073709551616) : 0 ≤ nowA a now ∧ nowA a now < 18446744073709551616 := by
  unfold nowA
  split
  · exact ⟨ha.t0, ha.t1⟩
  · exact ⟨t0, t1⟩

/-- Behind an act of a table: what it told stands in a block of its own. -/
theorem goes_told {w wr w1 : World} {T S : Nat} {fp : List Nat} {g now : Int} {m : List Bool} {l : List Ch} {P : List Item} {vs : List Value} {L : List (List ByteArray)} {j : Nat} {a : Act} {L' : List (List ByteArray)} (h : Gs w wr T S fp g now m l P vs L j) (ha : a.Ok)
    (hT : Tab w1 fp T g (nowA a now) m (itemsA a now P)) (hu : Upd fp (wr.alloc (.cells a.cells.toArray 57)) w1) :
    Blk w1 wr.heap.size a.cells 57 ∧ wr.heap.size < w1.heap.size ∧ Upd [] w w1 ∧ Sent w1 S vs L fp w.heap.size ∧ ∀ w2, Upd [] w1 w2 → Rel (itemsA a now P) L' → (∀ (i : Nat) ss, L'[i]? = some ss → ss.length ≤ j + 1) → ∀ w3 vs' U, Upd U w2 w3 → (∀ x ∈ U, x ∉ fp ∧ w.heap.size ≤ x) → Sent w3 S vs' L' fp w.heap.size → Gs w w3 T S fp g (nowA a now) m l (itemsA a now P) vs' L' (j + 1) := by
  have hlt := h.tab.lt
  have e0 := (Blk.new wr a.cells 57).upd hu (fun hm => by have := hlt _ hm; omega)
  have hu1 : Upd [] w w1 := (h.up.alloc (.cells a.cells.toArray 57)).trans hu (fun x hx => .inr (h.fpn x hx))
  obtain ⟨n0, n1⟩ := nowA_bd ha h.t0 h.t1
  refine ⟨e0, e0.lt, hu1, (h.sent.upd ((Upd.refl [] _).alloc _) (by simp)).upd hu (fun x hx => .inl hx), ?_⟩
  intro w2 hu2 hr hb w3 vs' U hu3 hU hs
  exact ⟨(hT.upd hu2 (by simp)).upd hu3 (fun k hk hm => (hU k hm).1 hk), itemsA_good h.good a h.t0 h.t1, n0, n1, by rw [itemsA_c]; exact h.pc, (hu1.trans hu2 (by simp)).trans hu3 (fun x hx => .inr (hU x hx).2), h.fpn, hs, hr, hb⟩
theorem bd_set {L : List (List ByteArray)} {j i : Nat} {ss : List ByteArray} {s : ByteArray} (h : ∀ (i : Nat) ss, L[i]? = some ss → ss.length ≤ j) (hs : L[i]? = some ss) : ∀ (k : Nat) tt, (L.set i (ss ++ [s]))[k]? = some tt → tt.length ≤ j + 1 := by
  intro k tt ht
  rw [List.getElem?_set] at ht
  split at ht
  · split at ht
    · cases ht
      have := h i ss hs
      simp; omega
    · cases ht
  · have := h k tt ht; omega
theorem bd_tail {L : List (List ByteArray)} {j i : Nat} {r : List ByteArray} {s : ByteArray} (h : ∀ (i : Nat) ss, L[i]? = some ss → ss.length ≤ j) (hs : L[i]? = some (s :: r)) : ∀ (k : Nat) tt, (L.set i r)[k]? = some tt → tt.length ≤ j + 1 := by
  intro k tt ht
  rw [List.getElem?_set] at ht
  split at ht
  · split at ht
    · cases ht
      have := h i _ hs
      simp at this; omega
    · cases ht
  · have := h k tt ht; omega
end Go.Proofs.Ytdfjjhpnhaggjaa
