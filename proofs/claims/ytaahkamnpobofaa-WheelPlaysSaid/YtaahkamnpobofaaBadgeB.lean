/- Desks of badges: the first badge of which something holds; whether one stands in the way; of a job; no condition. -/
import Derived.Test.YtaahkamnpobofaaBadgeA
namespace Go.Proofs.Ytaahkamnpobofaa
open Go.Ab
section
variable {h g : Hp} {k d b : Nat} {last : Int} {L : List Bd} {v : Value}
/-- a function value that answers p of a holder, and leaves memory as it is -/
def TestsB (g : Value) (h : Hp) (L : List Bd) (p : Bd → Bool) : Prop := ∃ f cap, g = .func (.func f) #[] cap ∧ ∀ x ∈ L, ∀ g', Same h g' → EvA Try.prog f (x.agg :: cap.toList) (fun r h' => h' = g' ∧ r = .bool (p x)) g'
theorem atL_get {last : Int} {L : List Bd} (o : DeskOk last L) {i : Nat} (hi : i < L.length) : atL L L[i].no = some L[i] := by
  rw [atL, List.find?_eq_some_iff_getElem]
  refine ⟨by simp, i, hi, rfl, fun j hj => ?_⟩
  have := rising_lt o hj hi
  simp only [Bool.not_eq_true', decide_eq_false_iff_not]
  omega
theorem DeskR.ldm (r : DeskR h k d b last L) : loadA Try.prog 83 (.pointer (some ⟨d, 1, none⟩)) h = some (.map (some b)) := by rw [load_at r.at_ (by simp)]; rfl
theorem DeskR.ldl (r : DeskR h k d b last L) : loadA Try.prog 3 (.pointer (some ⟨d, 0, none⟩)) h = some (.int .i64 last) := by rw [load_at r.at_ (by simp)]; rfl
def zeroH : Value := .agg #[.int .i64 0, .int .i64 0, .int .i64 0, .int .i64 0]
theorem DeskR.look (r : DeskR h k d b last L) (q : Int) : lookupA Try.prog 83 (.map (some b)) (.int .i64 q) false h = some (((atL L q).map Bd.agg).getD zeroH) := by
  have := r.mp.look (P := Try.prog) (t := 83) (kt := 3) (et := 74) (z := zeroH) (by simp) (by simp [intK]) (by simp [zeroH]) q
  rw [lkp_desk] at this
  exact this
theorem DeskR.look2 (r : DeskR h k d b last L) (q : Int) : lookupA Try.prog 83 (.map (some b)) (.int .i64 q) true h = some (.tuple #[((atL L q).map Bd.agg).getD zeroH, .bool (atL L q).isSome]) := by
  have := r.mp.look2 (P := Try.prog) (t := 83) (kt := 3) (et := 74) (z := zeroH) (by simp) (by simp [intK]) (by simp [zeroH]) q
  rw [lkp_desk, Option.isSome_map] at this
  exact this
theorem DeskR.lookAt (r : DeskR h k d b last L) {i : Nat} (hi : i < L.length) : lookupA Try.prog 83 (.map (some b)) (.int .i64 L[i].no) false h = some L[i].agg := by
  rw [r.look, atL_get r.ok hi]; rfl
theorem NLen {k n : Nat} {xs : List Value} (A : Acc k h 1 v n xs) : lenA Try.prog 22 v h = some (.int .i64 (n : Nat)) := Row.len (P := Try.prog) (t := 22) (e := 3) A.row (by simp)
theorem NIA {k n i : Nat} {xs : List Value} (A : Acc k h 1 v n xs) (hi : i < n) : indexAddrA Try.prog 22 v (.int .i64 (i : Nat)) = some (.pointer (some ⟨rbl v, rof v + i, none⟩)) := Row.ia1 (P := Try.prog) (t := 22) (e := 3) A.row (by simp) (by simp) hi .i64
theorem NLD {k n i : Nat} {xs : List Value} (A : Acc k h 1 v n xs) (hi : i < n) : loadA Try.prog 3 (.pointer (some ⟨rbl v, rof v + i, none⟩)) h = xs[i]? := Row.ld1 (P := Try.prog) (f := 3) A.row (by simp) hi
theorem first_ev {gv : Value} {p : Bd → Bool} (r : DeskR h k d b last L) (hg : TestsB gv h L p) :
    EvA Try.prog 80 [.pointer (some ⟨d, 0, none⟩), gv] (fun v h' => Same h h' ∧ v = match L.find? p with | some x => .tuple #[.int .i64 x.no, .bool true] | none => .tuple #[.int .i64 0, .bool false]) h := by
  obtain ⟨f, cap, rfl, hg⟩ := hg
  refine EvA.body Try.func80 rfl (by kernel_rfl) (by simp) ?_
  apply Run.ok
  simp
  refine after_call (badges_ev r) ?_
  rintro v g ⟨A, s⟩
  have wl := NLen A
  have few := r.ok.few
  simp [wl]
  refine WpA.loop (fun z fr g' => ∃ i, z = L.length - i ∧ i ≤ L.length ∧ fr 0 = .pointer (some ⟨d, 0, none⟩) ∧ fr 1 = .func (.func f) #[] cap ∧ fr 9 = v ∧ fr 10 = .int .i64 (L.length : Nat) ∧ fr 11 = .int .i64 (i : Nat) ∧ g' = g ∧ ∀ x ∈ L.take i, p x = false)
    (k := L.length) ⟨0, by simp, by omega, by simp, by simp, by simp, by simp, by simp, rfl, by simp⟩ ?_
  rintro z fr g' ⟨i, rfl, hi, f0, f1, f9, f10, f11, rfl, hp⟩
  apply Run.ok
  have r2 := r.same s
  by_cases c : i < L.length
  · have c' : (i : Int) < L.length := by omega
    have w1 : IntKind.i64.wrap ((i : Int) + 1) = (i : Int) + 1 := wrap_i64 (by omega) (by omega)
    have ia := NIA A c
    have ld := NLD A c
    rw [List.getElem?_map, List.getElem?_eq_getElem c, Option.map_some] at ld
    have lm := r2.ldm
    have lk := r2.lookAt c
    have htk : L.take (i + 1) = L.take i ++ [L[i]] := by rw [List.take_add_one, List.getElem?_eq_getElem c]; rfl
    simp [f0, f1, f9, f10, f11, c', ia, ld, lm, lk, -load_ptr]
    refine after_call (hg L[i] (List.getElem_mem _) _ s) ?_
    rintro w h2 ⟨rfl, rfl⟩
    cases hpx : p L[i] with
    | true =>
      have : L.find? p = some L[i] := by
        rw [List.find?_eq_some_iff_getElem]
        refine ⟨hpx, i, c, rfl, fun j hj => ?_⟩
        have := hp L[j] (List.mem_take_iff_getElem.2 ⟨j, by omega, rfl⟩)
        simp [this]
      simp [this]
      exact s
    | false =>
      simp [f11, w1, -roundQ_normal, ↓rq]
      refine stop_intro ⟨L.length - (i + 1), by omega, i + 1, rfl, by omega, by simp [f0], by simp [f1], by simp [f9], by simp [f10], by simp, rfl, fun x hx => ?_⟩
      rw [htk] at hx
      rcases List.mem_append.1 hx with hx | hx
      · exact hp x hx
      · simp only [List.mem_singleton] at hx; subst hx; exact hpx
  · have c' : ¬ (i : Int) < L.length := by omega
    rw [List.take_of_length_le (by omega)] at hp
    have : L.find? p = none := by
      rw [List.find?_eq_none]
      intro x hx
      simp [hp x hx]
    simp [f10, f11, c', this]
    exact s
end
end Go.Proofs.Ytaahkamnpobofaa
