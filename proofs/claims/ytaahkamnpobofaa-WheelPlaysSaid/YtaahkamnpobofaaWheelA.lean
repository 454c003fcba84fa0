/- Things that are due: rows of them, and which is ahead; no condition. -/
import Derived.Test.YtaahkamnpobofaaPWheel
import Derived.Test.YtaahkamnpobofaaOwn
import Derived.Test.YtaahkamnpobofaaMaps
import Derived.Test.YtaahkamnpobofaaDraws
import Derived.Test.YtaahkamnpobofaaAbF
import Derived.Test.YtaahkamnpobofaaBadgeA
namespace Go.Proofs.Ytaahkamnpobofaa
open Go.Ab
def Th.cells (x : Th) : List Value := [.int .i64 x.due, .int .i64 x.key]
theorem flatSet {α : Type} {cells : α → List Value} {z : Nat} : ∀ (l : List α) (k : Nat) (y : α), (∀ x ∈ l, (cells x).length = z) → k < l.length → (l.flatMap cells).take (k * z) ++ cells y ++ (l.flatMap cells).drop (k * z + z) = (l.set k y).flatMap cells := by
  intro l
  induction l with
  | nil => intro k y _ hk; simp at hk
  | cons x l ih =>
    intro k y hz hk
    have hx := hz x (by simp)
    cases k with
    | zero =>
      simp only [Nat.zero_mul, List.take_zero, List.nil_append, Nat.zero_add, List.flatMap_cons, List.set_cons_zero]
      rw [← hx, List.drop_left]
    | succ k =>
      have := ih k y (fun y hy => hz y (by simp [hy])) (by simpa using hk)
      simp only [List.flatMap_cons, List.set_cons_succ]
      rw [show (k + 1) * z = (cells x).length + k * z by rw [hx, Nat.add_mul]; omega, List.take_length_add_append, Nat.add_assoc, List.drop_length_add_append, List.append_assoc, List.append_assoc, ← this, List.append_assoc]
theorem flatTake {α : Type} {cells : α → List Value} {z : Nat} : ∀ (l : List α) (k : Nat), (∀ x ∈ l, (cells x).length = z) → (l.flatMap cells).take (k * z) = (l.take k).flatMap cells := by
  intro l
  induction l with
  | nil => intro k _; simp
  | cons x l ih =>
    intro k hz
    have hx := hz x (by simp)
    cases k with
    | zero => simp
    | succ k =>
      have := ih k (fun y hy => hz y (by simp [hy]))
      simp only [List.flatMap_cons, List.take_succ_cons]
      rw [show (k + 1) * z = (cells x).length + k * z by rw [hx, Nat.add_mul]; omega, List.take_length_add_append, this]
/-- a row of things of the call's own -/
def TO (k : Nat) (h : Hp) (v : Value) (H : List Th) : Prop := Ow k h 2 v H.length (H.flatMap Th.cells)
abbrev TR (h : Hp) (v : Value) (H : List Th) : Prop := TRow h 2 v H Th.cells
section
variable {k : Nat} {h h' : Hp} {v : Value} {H : List Th} {i : Nat} {S : Nat → Prop}
theorem thz : ∀ x ∈ H, (Th.cells x).length = 2 := fun _ _ => rfl
theorem TO.tr (a : TO k h v H) : TR h v H := ⟨a.row, thz⟩
theorem TO.upd (a : TO k h v H) (u : Upd S h h') (hn : ∀ k, inRow v k → ¬ S k) : TO k h' v H := Ow.upd a u hn
theorem TO.same (a : TO k h v H) (u : Same h h') : TO k h' v H := Ow.same a u
theorem TO.above (a : TO k h v H) (j : Nat) (hj : inRow v j) : k ≤ j ∧ j < h.length := Ow.above a j hj
theorem TLen (hv : TR h v H) : lenA Try.prog 89 v h = some (.int .i64 (H.length : Nat)) := hv.len (e := 93) (by simp)
theorem TIA (hv : TR h v H) (hi : i < H.length) : indexAddrA Try.prog 89 v (.int .i64 (i : Nat)) = some (.pointer (some ⟨rbl v, rof v + i * 2, none⟩)) := hv.ia (e := 93) (by simp) (by simp) hi .i64
theorem TAG (hv : TR h v H) (hi : i < H.length) : loadA Try.prog 93 (.pointer (some ⟨rbl v, rof v + i * 2, none⟩)) h = some (.agg #[.int .i64 (nth H i).due, .int .i64 (nth H i).key]) := by
  rw [nth_get hi]; exact hv.agg (by simp) (by simp) hi
theorem TO.put (a : TO k h v H) (hi : i < H.length) (x : Th) : ∃ g, storeA Try.prog 93 (.pointer (some ⟨rbl v, rof v + i * 2, none⟩)) (.agg #[.int .i64 x.due, .int .i64 x.key]) h = some g ∧ TO k g v (H.set i x) ∧ Upd (inRow v) h g ∧ g.length = h.length := by
  obtain ⟨g, e1, e2, e3, e4⟩ := Ow.storea (P := Try.prog) (e := 93) (ys := x.cells) a (by simp) rfl rfl hi
  refine ⟨g, e1, ?_, e3.mono fun j _ e => by subst e; exact Row.inRow a.row hi, e4⟩
  unfold TO
  rw [← flatSet H i x thz hi]
  simpa using e2
theorem TO.hi (a : TO k h v H) {m : Nat} (hm : m ≤ H.length) : ∃ v', sliceA Try.prog 89 v none (some (.int .i64 (m : Int))) none h = some v' ∧ TO k h v' (H.take m) ∧ ∀ j, inRow v' j → inRow v j := by
  obtain ⟨v', e1, e2, e3⟩ := Ow.hi (P := Try.prog) (t := 89) (e := 93) (q := .i64) a (by simp) (by simp) hm
  refine ⟨v', e1, ?_, e3⟩
  unfold TO
  rw [← flatTake H m thz, List.length_take, Nat.min_eq_left hm]
  exact e2
theorem TO.app (a : TO k h v H) (hk : k ≤ h.length) (hn : H.length ≤ 1000000000) (x : Th) :
    ∃ v' g, appendA Try.prog 89 89 v (.slice (some ⟨h.length, 0, none⟩) 1 1) (h ++ [.cells [.int .i64 x.due, .int .i64 x.key] false none]) = some (v', g) ∧ TO k g v' (H ++ [x]) ∧ Upd (inRow v) (h ++ [.cells x.cells false none]) g ∧ ∀ j, inRow v' j → inRow v j ∨ h.length ≤ j := by
  obtain ⟨v', g, e1, e2, e3, e4⟩ := Ow.append (P := Try.prog) (t := 89) (tx := 89) (e := 93) (by_ := 16) (dx := .slice 93) (a.same (Same.new [.cells x.cells false none])) (by simp; omega) (by simp) (by simp) (by simp) rfl
    (show srcA 2 (.slice (some ⟨h.length, 0, none⟩) 1 1) (h ++ [.cells x.cells false none]) = some (1, x.cells) by simp [srcA, Th.cells]) (by simp [Th.cells]) (by simp [oneA, Th.cells]) (by omega) (by omega)
  exact ⟨v', g, e1, by simpa [TO] using e2, e3, fun j hj => (e4 j hj).imp id fun h1 => by simp at h1; omega⟩
end
theorem isNaN_ev (n : Int) (h : Hp) : EvA Try.prog 90 [.int .i64 n] (fun r h' => h' = h ∧ r = .bool false) h := by
  refine EvA.body Try.func90 rfl (by kernel_rfl) (by simp) ?_
  apply Run.ok
  simp
def cmpI (a b : Int) : Int := if a < b then -1 else if b < a then 1 else 0
theorem compare_ev (a b : Int) (h : Hp) : EvA Try.prog 59 [.int .i64 a, .int .i64 b] (fun r h' => h' = h ∧ r = .int .i64 (cmpI a b)) h := by
  refine EvA.body Try.func59 rfl (by kernel_rfl) (by simp) ?_
  apply Run.ok
  simp
  refine after_call (isNaN_ev a _) ?_
  rintro w g ⟨e, rfl⟩
  subst e
  simp
  refine after_call (isNaN_ev b _) ?_
  rintro w g ⟨e, rfl⟩
  subst e
  unfold cmpI
  by_cases c1 : a < b
  · simp [c1]
  · by_cases c2 : b < a
    · simp [c1, c2]
    · simp [c1, c2]
theorem or_ev {h : Hp} {v : Value} (x y : Int) (hv : Row h 1 v 2 [.int .i64 x, .int .i64 y]) : EvA Try.prog 58 [v] (fun r h' => h' = h ∧ r = .int .i64 (if x = 0 then y else x)) h := by
  refine EvA.body Try.func58 rfl (by kernel_rfl) (by simp) ?_
  apply Run.ok
  have lu := hv.len (P := Try.prog) (t := 22) (e := 3) (by simp)
  have i0 := Row.ia1 (P := Try.prog) (t := 22) (e := 3) (k := 0) hv (by simp) (by simp) (by omega) .i64
  have i1 := Row.ia1 (P := Try.prog) (t := 22) (e := 3) (k := 1) hv (by simp) (by simp) (by omega) .i64
  have l0 := Row.ld1 (P := Try.prog) (f := 3) (k := 0) hv (by simp) (by omega)
  have l1 := Row.ld1 (P := Try.prog) (f := 3) (k := 1) hv (by simp) (by omega)
  simp [-load_ptr] at i0 i1 l0 l1 lu
  simp [lu]
  refine WpA.loop (fun q fr g => ∃ i, q = 2 - i ∧ i ≤ 2 ∧ fr 3 = .int .i64 0 ∧ fr 6 = v ∧ fr 7 = .int .i64 2 ∧ fr 8 = .int .i64 (i : Nat) ∧ g = h ∧ (0 < i → x = 0) ∧ (1 < i → y = 0))
    (k := 2) ⟨0, by simp, by omega, by simp, by simp, by simp, by simp, rfl, by simp, by simp⟩ ?_
  rintro q fr g ⟨i, rfl, hi, f3, f6, f7, f8, rfl, hx, hy⟩
  apply Run.ok
  have h3 : i = 0 ∨ i = 1 ∨ i = 2 := by omega
  rcases h3 with rfl | rfl | rfl
  · simp only [Int.natCast_zero] at f8
    by_cases c : x = 0
    · have c' : (x != 0) = false := by simpa using c
      simp [f3, f6, f7, f8, i0, l0, c', -load_ptr, -roundQ_normal, ↓rq]
      exact stop_intro ⟨1, by omega, 1, by omega, by omega, by simp [f3], by simp [f6], by simp [f7], by simp, rfl, fun _ => c, by omega⟩
    · have c' : (x != 0) = true := by simpa using c
      simp [f3, f6, f7, f8, i0, l0, c', c, -load_ptr]
  · have hx := hx (by omega)
    simp only [Int.natCast_one] at f8
    by_cases c : y = 0
    · have c' : (y != 0) = false := by simpa using c
      simp [f3, f6, f7, f8, i1, l1, c', -load_ptr, -roundQ_normal, ↓rq]
      exact stop_intro ⟨0, by omega, 2, by omega, by omega, by simp [f3], by simp [f6], by simp [f7], by simp, rfl, fun _ => hx, fun _ => c⟩
    · have c' : (y != 0) = true := by simpa using c
      simp [f3, f6, f7, f8, i1, l1, c', hx, -load_ptr]
  · have hx := hx (by omega)
    have hy := hy (by omega)
    have f8' : fr 8 = .int .i64 2 := f8
    simp [f3, f7, f8', hx, hy]
def cmpT (a b : Th) : Int := if cmpI a.due b.due = 0 then cmpI a.key b.key else cmpI a.due b.due
theorem cmpT_lt (a b : Th) : cmpT a b < 0 ↔ Th.lt a b := by
  unfold cmpT cmpI Th.lt
  split <;> (split <;> (try split)) <;> omega
theorem ahead_ev (a b : Th) (h : Hp) : EvA Try.prog 86 [.agg #[.int .i64 a.due, .int .i64 a.key], .agg #[.int .i64 b.due, .int .i64 b.key]] (fun r h' => h' = h ∧ r = .bool (decide (Th.lt a b))) h := by
  refine EvA.forget (Q := fun r => r = .bool (decide (Th.lt a b))) ?_
  refine EvA.body Try.func86 rfl (by kernel_rfl) (by simp) ?_
  apply Run.ok
  have hA : (h ++ [Blk.cells a.cells false none, Blk.cells b.cells false none])[h.length]? = some (.cells a.cells false none) := by simp
  have hB : (h ++ [Blk.cells a.cells false none, Blk.cells b.cells false none])[h.length + 1]? = some (.cells b.cells false none) := by simp
  have a0 := load_at (P := Try.prog) (t := 3) (o := 0) hA (by simp)
  have a1 := load_at (P := Try.prog) (t := 3) (o := 1) hA (by simp)
  have b0 := load_at (P := Try.prog) (t := 3) (o := 0) hB (by simp)
  have b1 := load_at (P := Try.prog) (t := 3) (o := 1) hB (by simp)
  simp only [Th.cells, List.getElem?_cons_zero, List.getElem?_cons_succ] at a0 a1 b0 b1
  simp only [Th.cells] at hA hB
  have s0 : Same h (h ++ [Blk.cells [.int .i64 a.due, .int .i64 a.key] false none, Blk.cells [.int .i64 b.due, .int .i64 b.key] false none]) := Same.new _
  simp [spl]
  refine WpA.drawnT [0, 1, 2, 3, 5, 6, 7, 8, 4, 9, 10, 11, 12, 13] [[], [], [], [], [0, 1, 2, 3], [], [], [], [], [0, 1, 2, 3, 4, 5, 6, 7, 8], [], [0, 1, 2, 3, 4, 5, 6, 7, 8, 9, 10]] [[], [0], [], [2], [0, 1, 2, 3], [], [5], [], [7], [0, 1, 2, 3, 4, 5, 6, 7, 8], [0, 1, 2, 3, 4, 5, 6, 7, 8, 9], [0, 1, 2, 3, 4, 5, 6, 7, 8, 9, 10], [0, 1, 2, 3, 4, 5, 6, 7, 8, 9, 10, 11], [0, 1, 2, 3, 4, 5, 6, 7, 8, 9, 10, 11, 12]] (by kernel_rfl) (by decide +kernel) (by decide +kernel) (by decide +kernel) ?_
  generalize h ++ [Blk.cells [Value.int .i64 a.due, .int .i64 a.key] false none, Blk.cells [.int .i64 b.due, .int .i64 b.key] false none] = g at *
  simp [a0, a1, b0, b1, -load_ptr]
  refine after_call (compare_ev a.due b.due _) ?_
  rintro w g1 ⟨e, rfl⟩
  subst e
  simp [a0, a1, b0, b1, -load_ptr]
  refine after_call (compare_ev a.key b.key _) ?_
  rintro w g1 ⟨e, rfl⟩
  subst e
  have s1 : Same g1 (g1 ++ [Blk.cells [.int .i64 (cmpI a.due b.due), .int .i64 (cmpI a.key b.key)] false none]) := Same.new _
  have hrow : Row (g1 ++ [Blk.cells [.int .i64 (cmpI a.due b.due), .int .i64 (cmpI a.key b.key)] false none]) 1 (.slice (some ⟨g1.length, 0, none⟩) 2 2) 2 [.int .i64 (cmpI a.due b.due), .int .i64 (cmpI a.key b.key)] := ⟨⟨_, _, rfl⟩, by simp [srcA], by simp⟩
  have a0' := load_at (P := Try.prog) (t := 3) (o := 0) (s1.at hA) (by simp)
  have a1' := load_at (P := Try.prog) (t := 3) (o := 1) (s1.at hA) (by simp)
  have b0' := load_at (P := Try.prog) (t := 3) (o := 0) (s1.at hB) (by simp)
  have b1' := load_at (P := Try.prog) (t := 3) (o := 1) (s1.at hB) (by simp)
  simp only [List.getElem?_cons_zero, List.getElem?_cons_succ] at a0' a1' b0' b1'
  simp [a0, a1, b0, b1, a0', a1', b0', b1', zeros, spl, capO, -load_ptr]
  refine after_call (or_ev _ _ hrow) ?_
  rintro w g2 ⟨e, rfl⟩
  subst e
  have ht : (if cmpI a.due b.due = 0 then cmpI a.key b.key else cmpI a.due b.due) = cmpT a b := rfl
  have hlt := cmpT_lt a b
  rw [ht]
  have st := same_tail26 (s0.trans s1)
  by_cases c : cmpT a b < 0
  · simp [c, hlt.1 c, flat, ground, -load_ptr]
    exact st
  · have : ¬ Th.lt a b := fun e => c (hlt.2 e)
    simp [c, this, flat, ground, -load_ptr]
    exact st
end Go.Proofs.Ytaahkamnpobofaa
