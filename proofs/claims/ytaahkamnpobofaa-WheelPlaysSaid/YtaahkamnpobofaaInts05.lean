/- Lists of numbers that are the same, by the document's own comparison; no condition. -/
import Derived.Test.YtaahkamnpobofaaAbF
import Derived.Test.YtaahkamnpobofaaDraws
namespace Go.Proofs.Ytaahkamnpobofaa
open Go.Ab
set_option maxRecDepth 8000 in
theorem ints05_ev {h : Hp} {u w : Value} {L M : List Int} (hu : Row h 1 u L.length (L.map fun n => .int .i64 n)) (hw : Row h 1 w M.length (M.map fun n => .int .i64 n)) (hl : L.length ≤ 1000000000) :
    EvA Try.prog 30 [u, w] (fun r h' => h' = h ∧ r = .bool (decide (L = M))) h := by
  refine EvA.body Try.func30 rfl (by kernel_rfl) (by simp) ?_
  apply Run.ok
  have lu := hu.len (P := Try.prog) (t := 22) (e := 3) (by simp)
  have lw := hw.len (P := Try.prog) (t := 22) (e := 3) (by simp)
  by_cases c0 : L.length = M.length
  · simp [lu, lw, c0]
    refine WpA.loop (fun q fr g => ∃ i, q = L.length - i ∧ i ≤ L.length ∧ fr 0 = u ∧ fr 1 = w ∧ fr 5 = .int .i64 (i : Nat) ∧ g = h ∧ L.take i = M.take i)
      (k := L.length) ⟨0, by simp, by omega, by simp, by simp, by simp, rfl, by simp⟩ ?_
    rintro q fr g ⟨i, rfl, hi, f0, f1, f5, rfl, hp⟩
    apply Run.ok
    by_cases c : i < L.length
    · have c' : (i : Int) < L.length := by omega
      have c2 : i < M.length := by omega
      have w1 : IntKind.i64.wrap ((i : Int) + 1) = (i : Int) + 1 := wrap_i64 (by omega) (by omega)
      have ia := Row.ia1 (P := Try.prog) (t := 22) (e := 3) hu (by simp) (by simp) c .i64
      have ld := Row.ld1 (P := Try.prog) (f := 3) hu (by simp) c
      have ia2 := Row.ia1 (P := Try.prog) (t := 22) (e := 3) hw (by simp) (by simp) c2 .i64
      have ld2 := Row.ld1 (P := Try.prog) (f := 3) hw (by simp) c2
      rw [List.getElem?_map, List.getElem?_eq_getElem c, Option.map_some] at ld
      rw [List.getElem?_map, List.getElem?_eq_getElem c2, Option.map_some] at ld2
      have t1 : L.take (i + 1) = L.take i ++ [L[i]] := by rw [List.take_add_one, List.getElem?_eq_getElem c]; rfl
      have t2 : M.take (i + 1) = M.take i ++ [M[i]] := by rw [List.take_add_one, List.getElem?_eq_getElem c2]; rfl
      have hne : L[i] ≠ M[i] → L ≠ M := fun hn e => hn (by subst e; rfl)
      generalize L[i] = x at ld hne t1
      generalize M[i] = y at ld2 hne t2
      simp [f0, f5, lu, c', -load_ptr]
      refine WpA.drawnA [0, 1, 2, 3, 4, 5, 6, 7, 8] [] (by kernel_rfl) (by decide +kernel) (by decide +kernel) ?_
      by_cases e : x = y
      · simp [f0, f1, f5, ia, ld, ia2, ld2, w1, e, -load_ptr, -roundQ_normal, ↓rq]
        refine stop_intro ⟨L.length - (i + 1), by omega, i + 1, rfl, by omega, by simp [f0], by simp [f1], by simp, rfl, by rw [t1, t2, hp, e]⟩
      · have hd := hne e
        have e' : (x != y) = true := by simpa using e
        simp [f0, f1, f5, ia, ld, ia2, ld2, e', hd, -load_ptr]
    · have c' : ¬ (i : Int) < L.length := by omega
      have hd : L = M := by rwa [List.take_of_length_le (by omega), List.take_of_length_le (by omega)] at hp
      simp [f0, f5, lu, c', decide_eq_true hd, -load_ptr]
  · have hd : L ≠ M := fun e => c0 (by rw [e])
    have c0' : ((L.length : Int) != M.length) = true := by simpa using fun e : (L.length : Int) = M.length => c0 (by omega)
    simp [lu, lw, c0', hd]
end Go.Proofs.Ytaahkamnpobofaa
