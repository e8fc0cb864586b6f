/- A table's methods, each told by one law: Send, Receive, Waiting. -/
import Derived.Test.YtdfjjhpnhaggjaaK12
import Derived.Test.YtdfjjhpnhaggjaaK13
namespace Go.Proofs.Ytdfjjhpnhaggjaa
open Go.RowKit Go.Mem

/-- The items behind a Send at a source, behind a Receive at a destination. -/
def psend (k : Int × Int) (now : Int) (s : ByteArray) : List Item → List Item
  | [] => []
  | p :: P => if (p.c.guest, p.c.port) == k then p.put (p.y.sendW now s) :: P else p :: psend k now s P
def precv (k : Int × Int) : List Item → List Item
  | [] => []
  | p :: P => match inAt k p.c.to 0 with | some i => p.put (p.y.recvW i) :: P | none => p :: precv k P
def stSend (k : Int × Int) (s : ByteArray) (P : List Item) : Int := match srcOf P k with | some p => p.y.sendS s | none => 2
def stRecv (k : Int × Int) (now : Int) (P : List Item) : Rcv := match dstOf P k with | some (p, i) => p.y.recvS i now | none => ⟨⟨#[]⟩, 0, 2⟩
def stWait (k : Int × Int) (P : List Item) : Int := match dstOf P k with | some (p, i) => p.y.waits i | none => 0

theorem psend_none (k : Int × Int) (now : Int) (s : ByteArray) : ∀ P : List Item, srcOf P k = none → psend k now s P = P
  | [], _ => rfl
  | p :: P, h => by
    unfold srcOf at h
    rw [List.find?_cons] at h
    unfold psend
    split at h
    · cases h
    · rename_i hk
      rw [hk, if_neg (by decide), psend_none k now s P h]
theorem psend_some (k : Int × Int) (now : Int) (s : ByteArray) : ∀ (P : List Item) {p : Item}, srcOf P k = some p → ∃ i, P[i]? = some p ∧ psend k now s P = P.set i (p.put (p.y.sendW now s))
  | [], p, h => by cases h
  | q :: P, p, h => by
    unfold srcOf at h
    rw [List.find?_cons] at h
    unfold psend
    split at h
    · rename_i hk
      cases h
      exact ⟨0, rfl, by rw [if_pos hk]; rfl⟩
    · rename_i hk
      obtain ⟨i, h1, h2⟩ := psend_some k now s P h
      exact ⟨i + 1, h1, by rw [hk, if_neg (by decide), h2]; rfl⟩
theorem precv_none (k : Int × Int) : ∀ P : List Item, dstOf P k = none → precv k P = P
  | [], _ => rfl
  | p :: P, h => by
    unfold dstOf at h
    unfold precv
    split at h
    · cases h
    · rename_i hk
      rw [hk]
      simp only
      rw [precv_none k P h]
theorem precv_some (k : Int × Int) : ∀ (P : List Item) {p : Item} {n : Nat}, dstOf P k = some (p, n) → ∃ i, P[i]? = some p ∧ precv k P = P.set i (p.put (p.y.recvW n))
  | [], p, n, h => by cases h
  | q :: P, p, n, h => by
    unfold dstOf at h
    unfold precv
    split at h
    · rename_i i hk
      cases h
      exact ⟨0, rfl, by rw [hk]; rfl⟩
    · rename_i hk
      obtain ⟨i, h1, h2⟩ := precv_some k P h
      exact ⟨i + 1, h1, by rw [hk]; simp only; rw [h2]; rfl⟩

def Good (P : List Item) : Prop := ∀ p ∈ P, p.y.Ok
theorem sendW_ty (y : Way) (now : Int) (s : ByteArray) : (y.sendW now s).ty = y.ty := by
  cases y <;> simp only [Way.sendW] <;> repeat' split
  all_goals rfl
theorem recvW_ty (y : Way) (k : Nat) : (y.recvW k).ty = y.ty := by
  cases y <;> simp only [Way.recvW] <;> repeat' split
  all_goals rfl
theorem sendW_ok {y : Way} (h : y.Ok) {now : Int} (t0 : 0 ≤ now) (t1 : now < 18446744073709551616) (s : ByteArray) : (y.sendW now s).Ok := by
  cases y
  · simp only [Way.sendW]
    split
    · exact h
    · exact put_ok h t0 t1 s
  · exact sendQ_ok h s
theorem recvW_ok {y : Way} (h : y.Ok) (k : Nat) : (y.recvW k).Ok := by
  cases y
  · simp only [Way.recvW]
    split
    · exact seen_ok h k
    · exact h
  · exact recvQ_ok h k
theorem good_set {P : List Item} (h : Good P) (i : Nat) {q : Item} (hq : q.y.Ok) : Good (P.set i q) := fun p hp => by
  rcases List.mem_or_eq_of_mem_set hp with hp | rfl
  · exact h p hp
  · exact hq
theorem psend_good {P : List Item} (h : Good P) (k : Int × Int) {now : Int} (t0 : 0 ≤ now) (t1 : now < 18446744073709551616) (s : ByteArray) : Good (psend k now s P) := by
  cases hs : srcOf P k with
  | none => rw [psend_none k now s P hs]; exact h
  | some p =>
    obtain ⟨i, h1, h2⟩ := psend_some k now s P hs
    rw [h2]
    exact good_set h i (sendW_ok (h p (List.mem_of_getElem? h1)) t0 t1 s)
theorem precv_good {P : List Item} (h : Good P) (k : Int × Int) : Good (precv k P) := by
  cases hs : dstOf P k with
  | none => rw [precv_none k P hs]; exact h
  | some r =>
    obtain ⟨p, n⟩ := r
    obtain ⟨i, h1, h2⟩ := precv_some k P hs
    rw [h2]
    exact good_set h i (recvW_ok (h p (List.mem_of_getElem? h1)) n)

theorem Tab.memB {w : World} {fp : List Nat} {T : Nat} {g now : Int} {m : List Bool} {P : List Item} (h : Tab w fp T g now m P) {p : Item} (hp : p ∈ P) : p.b ∈ fp := by
  obtain ⟨ways, bo, bi, h1, h2, h3, rfl⟩ := h.ex
  simp only [List.mem_cons, List.mem_map]
  exact .inr (.inr (.inr ⟨p, hp, rfl⟩))
theorem Tab.memT {w : World} {fp : List Nat} {T : Nat} {g now : Int} {m : List Bool} {P : List Item} (h : Tab w fp T g now m P) : T ∈ fp := by
  obtain ⟨ways, bo, bi, h1, h2, h3, rfl⟩ := h.ex
  simp

theorem tsend_calls (T : Nat) (g now : Int) (m : List Bool) (P : List Item) (fp : List Nat) (gu po : Int) (s : ByteArray) (w : World) (h : Tab w fp T g now m P) (hg : 0 < g) (hk : KOk (gu, po)) (hP : Good P) :
    Calls Try.prog 41 #[.pointer (some ⟨T, 0, none⟩), .int .u8 gu, .int .u8 po, .string s] w fun e w' => e = .returned (.int .u8 (stSend (gu, po) s P)) ∧ Tab w' fp T g now m (psend (gu, po) now s P) ∧ Upd fp w w' := by
  cases hs : srcOf P (gu, po) with
  | none =>
    refine (tsend_none T g now m P fp gu po s w h hg hk hs).mono fun e w' ⟨h1, h2⟩ => ?_
    rw [psend_none _ now s P hs]
    exact ⟨by rw [h1, stSend, hs], h.upd h2 (by simp), h2.mono (by simp)⟩
  | some p =>
    obtain ⟨i, hi, hps⟩ := psend_some (gu, po) now s P hs
    have hp := List.mem_of_getElem? hi
    have fin : ∀ (e : Ending) (w' : World), e = .returned (.int .u8 (p.y.sendS s)) ∧ (p.y.sendW now s).Is w' p.b ∧ Upd [p.b] w w' → e = .returned (.int .u8 (stSend (gu, po) s P)) ∧ Tab w' fp T g now m (psend (gu, po) now s P) ∧ Upd fp w w' := by
      rintro e w' ⟨h1, h2, h3⟩
      rw [hps]
      exact ⟨by rw [h1, stSend, hs], h.step hi h3 h2 (sendW_ty _ _ _), h3.mono (by intro x hx; simp at hx; subst hx; exact .inl (h.memB hp))⟩
    cases hy : p.y with
    | smp c => exact (tsend_smp T g now m P fp gu po s w h hg hk p c (by have := hP p hp; rw [hy] at this; exact this) hy hp hs).mono fin
    | que c => exact (tsend_que T g now m P fp gu po s w h hg hk p c (by have := hP p hp; rw [hy] at this; exact this) hy hp hs).mono fin
theorem trecv_calls (T : Nat) (g now : Int) (m : List Bool) (P : List Item) (fp : List Nat) (gu po : Int) (w : World) (h : Tab w fp T g now m P) (hg : 0 < g) (t0 : 0 ≤ now) (t1 : now < 18446744073709551616) (hk : KOk (gu, po)) (hP : Good P) :
    Calls Try.prog 48 #[.pointer (some ⟨T, 0, none⟩), .int .u8 gu, .int .u8 po] w fun e w' => e = .returned (.tuple #[.string (stRecv (gu, po) now P).s, .int .u64 (stRecv (gu, po) now P).age, .int .u8 (stRecv (gu, po) now P).st]) ∧ Tab w' fp T g now m (precv (gu, po) P) ∧ Upd fp w w' := by
  cases hs : dstOf P (gu, po) with
  | none =>
    refine (trecv_none T g now m P fp gu po w h hg hk hs).mono fun e w' ⟨h1, h2⟩ => ?_
    rw [precv_none _ P hs]
    exact ⟨by rw [h1, stRecv, hs], h.upd h2 (by simp), h2.mono (by simp)⟩
  | some r =>
    obtain ⟨p, n⟩ := r
    obtain ⟨i, hi, hps⟩ := precv_some (gu, po) P hs
    have hp := List.mem_of_getElem? hi
    have fin : ∀ (e : Ending) (w' : World), e = .returned (.tuple #[.string (p.y.recvS n now).s, .int .u64 (p.y.recvS n now).age, .int .u8 (p.y.recvS n now).st]) ∧ (p.y.recvW n).Is w' p.b ∧ Upd [p.b] w w' → e = .returned (.tuple #[.string (stRecv (gu, po) now P).s, .int .u64 (stRecv (gu, po) now P).age, .int .u8 (stRecv (gu, po) now P).st]) ∧ Tab w' fp T g now m (precv (gu, po) P) ∧ Upd fp w w' := by
      rintro e w' ⟨h1, h2, h3⟩
      rw [hps]
      exact ⟨by rw [h1, stRecv, hs], h.step hi h3 h2 (recvW_ty _ _), h3.mono (by intro x hx; simp at hx; subst hx; exact .inl (h.memB hp))⟩
    cases hy : p.y with
    | smp c => exact (trecv_smp T g now m P fp gu po w h hg t0 t1 hk p n c (by have := hP p hp; rw [hy] at this; exact this) hy hp hs).mono fin
    | que c => exact (trecv_que T g now m P fp gu po w h hg hk p n c (by have := hP p hp; rw [hy] at this; exact this) hy hp hs).mono fin
theorem twaits_calls (T : Nat) (g now : Int) (m : List Bool) (P : List Item) (fp : List Nat) (gu po : Int) (w : World) (h : Tab w fp T g now m P) (hg : 0 < g) (hk : KOk (gu, po)) (hP : Good P) :
    Calls Try.prog 42 #[.pointer (some ⟨T, 0, none⟩), .int .u8 gu, .int .u8 po] w fun e w' => e = .returned (.int .i64 (stWait (gu, po) P)) ∧ Upd [] w w' := by
  unfold stWait
  cases hs : dstOf P (gu, po) with
  | none => exact twaits_none T g now m P fp gu po w h hg hk hs
  | some r =>
    obtain ⟨p, n⟩ := r
    obtain ⟨i, hi, hps⟩ := precv_some (gu, po) P hs
    have hp := List.mem_of_getElem? hi
    cases hy : p.y with
    | smp c => have := twaits_smp T g now m P fp gu po w h hg hk p n c (by have := hP p hp; rw [hy] at this; exact this) hy hp hs; simp only; exact this
    | que c => have := twaits_que T g now m P fp gu po w h hg hk p n c (by have := hP p hp; rw [hy] at this; exact this) hy hp hs; simp only; exact this
end Go.Proofs.Ytdfjjhpnhaggjaa
