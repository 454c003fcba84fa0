/- Things that are due: Due; no condition. -/
import Derived.Test.YtaahkamnpobofaaWheelI
namespace Go.Proofs.Ytaahkamnpobofaa
open Go.Ab
def takeD (now : Int) (L : List Th) : List Th := L.takeWhile fun x => decide (x.due ≤ now)
def dropD (now : Int) (L : List Th) : List Th := L.dropWhile fun x => decide (x.due ≤ now)
def keysT (L : List Th) : List Int := L.map Th.key
theorem takeD_cons {now : Int} {x : Th} {T : List Th} (h : x.due ≤ now) : takeD now (x :: T) = x :: takeD now T ∧ dropD now (x :: T) = dropD now T := by simp [takeD, dropD, h]
theorem takeD_none {now : Int} {L : List Th} (h : ∀ x T, L = x :: T → now < x.due) : takeD now L = [] ∧ dropD now L = L := by
  cases L with
  | nil => simp [takeD, dropD]
  | cons x T =>
    have := h x T rfl
    have h2 : ¬ x.due ≤ now := by omega
    simp [takeD, dropD, h2]
theorem takeD_len (now : Int) (L : List Th) : (takeD now L).length ≤ L.length := by
  unfold takeD; exact (List.takeWhile_sublist _).length_le
section
variable {k d b : Nat} {h g : Hp} {v v' : Value} {H H' : List Th} {M : List (Int × Int)} {L : List Th} {S : Nat → Prop}
/-- what Due leaves -/
def DueQ (h : Hp) (k d b : Nat) (v : Value) (H : List Th) (L : List Th) (h' : Hp) : Prop :=
  ∃ v' H' M', WM h' k d b v' H' M' ∧ WOk H' M' L ∧ Upd (fun j => j = d ∨ j = b ∨ inRow v j) h h' ∧ (∀ j, inRow v' j → inRow v j) ∧ H'.length ≤ H.length
inductive DueLoop (h : Hp) (k d b : Nat) (v : Value) (B : Nat) (now : Int) (L : List Th) (c : Nat) (z : Nat) (fr : Fr) (g : Hp) : Prop
  | mk (L1 : List Th) (out : List Int) (hz : z = L1.length) (f5 : fr 5 = .pointer (some ⟨c + 2, 0, none⟩)) (f6 : fr 6 = .func (.func 61) #[] #[.pointer (some ⟨c, 0, none⟩), .pointer (some ⟨c + 1, 0, none⟩), .pointer (some ⟨c + 2, 0, none⟩)])
    (s : DueS h k d b v B now L1 out g) (ht : out ++ keysT (takeD now L1) = keysT (takeD now L)) (hd : dropD now L1 = dropD now L)
set_option maxHeartbeats 2000000 in
theorem due_ev (m : WM h k d b v H M) (w : WOk H M L) (hl : H.length ≤ 1000000000) (hb : L.length ≤ 1000000000) (now : Int) :
    EvA Try.prog 22 [.pointer (some ⟨d, 0, none⟩), .int .i64 now] (fun r h' => Acc h.length h' 1 r (takeD now L).length (intL (keysT (takeD now L))) ∧ DueQ h k d b v H (dropD now L) h') h := by
  refine EvA.body Try.func22 rfl (by kernel_rfl) (by simp) ?_
  apply Run.ok
  have hlt := m.lt
  have ab := fun j (hj : inRow v j) => (m.to.above j hj).2
  obtain ⟨c, hc⟩ : ∃ c, c = h.length := ⟨_, rfl⟩
  have s0 : Same h (h ++ [Blk.cells [.pointer (some ⟨d, 0, none⟩)] false none, Blk.cells [.int .i64 now] false none]) := Same.new _
  have l0 := load_at (P := Try.prog) (t := 34) (o := 0) (h := h ++ [Blk.cells [.pointer (some ⟨d, 0, none⟩)] false none, Blk.cells [.int .i64 now] false none]) (b := h.length) (cs := [.pointer (some ⟨d, 0, none⟩)]) (ro := false) (op := none) (by simp) (by simp)
  simp only [List.getElem?_cons_zero] at l0
  have s1 : Same h (h ++ [Blk.cells [.pointer (some ⟨d, 0, none⟩)] false none, Blk.cells [.int .i64 now] false none, Blk.cells [.slice none 0 0] false none]) := Same.new _
  rw [← hc] at l0
  simp [← hc, l0, -load_ptr]
  refine WpA.loop (DueLoop h k d b v H.length now L c) (k := L.length) ⟨L, [], rfl, by simp, by simp, ⟨v, H, M, .slice none 0 0, m.same s1, w, Nat.le_refl _, fun _ h => h, by simp, by simp, by simp, Acc.nil _, s1.mono fun _ _ h => h.elim⟩, by simp, rfl⟩ ?_
  rintro z fr g ⟨L1, out, rfl, f5, f6, s, ht, hd⟩
  apply Run.ok
  have hol : out.length ≤ 1000000000 := by
    have := congrArg List.length ht
    have h2 := takeD_len now L
    simp [keysT] at this
    omega
  simp [f6]
  rw [hc]
  refine after_call (due1_ev hlt.1 hlt.2 ab hl hol s) ?_
  rw [← hc]
  rintro r g1 (⟨rfl, hno, s1⟩ | ⟨x, T, rfl, hle, rfl, s1⟩)
  · obtain ⟨q1, q2⟩ := takeD_none hno
    rw [q1] at ht
    rw [q2] at hd
    simp only [keysT, List.map_nil, List.append_nil] at ht
    obtain ⟨v1, H1, M1, ov, m1, w1, hl1, n1, cw, cn, co, A, u⟩ := s1
    rw [← hc] at co A
    have lo := load_at (P := Try.prog) (t := 22) (o := 0) co (by simp)
    simp only [List.getElem?_cons_zero] at lo
    simp [f5, lo, -load_ptr]
    refine ⟨?_, v1, H1, M1, m1, by rw [← hd]; exact w1, u, n1, hl1⟩
    have A' := A.down (j := c) (by omega)
    rw [ht] at A'
    have e1 : (keysT (takeD now L)).length = (takeD now L).length := by simp [keysT]
    have e2 : List.map Th.key (takeD now L) = keysT (takeD now L) := rfl
    rw [e2] at A'
    rw [e1] at A'
    exact A'
  · obtain ⟨q1, q2⟩ := takeD_cons (T := T) hle
    rw [q1] at ht
    rw [q2] at hd
    simp [-roundQ_normal, ↓rq]
    exact stop_intro ⟨T.length, by simp, T, out ++ [x.key], rfl, by simp [f5], by simp [f6], s1, by rw [← ht]; simp [keysT], hd⟩
end
end Go.Proofs.Ytaahkamnpobofaa
