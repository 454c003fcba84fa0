/- The law GlobPicks: it comes to true; no condition. -/
import Derived.Test.YtojdhmkjegkfkaaPick
namespace Go.Proofs.Ytojdhmkjegkfkaa
open Go.Ab Go.Glob
/-- how long texts are together -/
def tot (l : List (List UInt8)) : Nat := (l.map List.length).sum
theorem tot_snoc (l : List (List UInt8)) (x : List UInt8) : tot (l ++ [x]) = tot l + x.length := by simp [tot]
theorem tot_take (l : List (List UInt8)) (B : Nat) (hb : ∀ x ∈ l, x.length ≤ B) (i : Nat) : tot (l.take i) ≤ i * B := by
  induction i with
  | zero => simp [tot]
  | succ i ih =>
    by_cases c : i < l.length
    · rw [List.take_add_one, List.getElem?_eq_getElem c]
      have := hb l[i] (List.getElem_mem _)
      simp only [Option.toList_some, tot_snoc]
      rw [Nat.add_mul]; omega
    · rw [List.take_of_length_le (by omega)] at ih ⊢
      rw [Nat.add_mul]; omega
theorem tot_mem (l : List (List UInt8)) (x : List UInt8) (hx : x ∈ l) : x.length ≤ tot l := by
  induction l with
  | nil => simp at hx
  | cons y l ih =>
    simp only [tot, List.map_cons, List.sum_cons] at ih ⊢
    rcases List.mem_cons.1 hx with rfl | hx
    · omega
    · have := ih hx; omega
theorem long_ev {h : Hp} {v : Value} {l : List (List UInt8)} (hv : SRow h v l) (hl : l.length ≤ 140737488351232) (hb : ∀ x ∈ l, x.length ≤ 140737488351232) :
    EvA Try.prog 23 [v] (fun r h' => h' = h ∧ ∃ b, r = .bool b ∧ (b = false → l.length ≤ 30 ∧ ∀ x ∈ l, x.length ≤ 2000)) h := by
  refine EvA.body Try.func23 rfl (by kernel_rfl) (by simp) ?_
  apply Run.ok
  have hlen := SRow.len (P := Try.prog) (t := 23) (e := 9) hv (by simp)
  simp [hlen]
  refine WpA.loop (fun k fr h' => ∃ i, k = l.length - i ∧ i ≤ l.length ∧ i ≤ 100 ∧ fr 0 = v ∧ fr 3 = .int .i64 ((l.length + tot (l.take i) : Nat) : Int) ∧ fr 4 = .int .i64 (i : Nat) ∧ h' = h)
    (k := l.length) ⟨0, by simp, by omega, by omega, by simp, by simp [tot], by simp, rfl⟩ ?_
  rintro k fr h' ⟨i, rfl, hi, hi2, f0, f3, f4, rfl⟩
  apply Run.ok
  have hfin : ∀ b : Bool, (b = false → ¬ (i < l.length ∧ i < 100)) → (b = true → i < l.length ∧ i < 100) → True := fun _ _ _ => trivial
  by_cases c : i < l.length
  · have c' : (i : Int) < l.length := by omega
    by_cases d : i < 100
    · have d' : (i : Int) < 100 := by omega
      have w1 : IntKind.i64.wrap ((i : Int) + 1) = (i : Int) + 1 := wrap_i64 (by omega) (by omega)
      have ia := SRow.ia (P := Try.prog) (t := 23) (e := 9) hv (by simp) (by simp) c .i64
      have ld := SRow.ld (P := Try.prog) (f := 9) hv (by simp) c
      have ht := tot_take l _ hb i
      have hm := hb l[i] (List.getElem_mem _)
      have hcast : ((l.length + tot (l.take i) : Nat) : Int) + (l[i].length : Nat) = ((l.length + tot (l.take i) + l[i].length : Nat) : Int) := by omega
      have hle : i * 140737488351232 ≤ 100 * 140737488351232 := Nat.mul_le_mul_right _ hi2
      have w2 : IntKind.i64.wrap (((l.length + tot (l.take i) : Nat) : Int) + (l[i].length : Nat)) = ((l.length + tot (l.take i) + l[i].length : Nat) : Int) := by rw [hcast, wrap_i64 (by omega) (by omega)]
      simp [-Int.natCast_add, f0, f3, f4, hlen, c', d', ia, ld, w1, w2, -load_ptr, -roundQ_normal, ↓rq]
      refine stop_intro ⟨l.length - (i + 1), by omega, i + 1, rfl, by omega, by omega, by simp [f0], ?_, by simp, rfl⟩
      have : l.take (i + 1) = l.take i ++ [l[i]] := by rw [List.take_add_one, List.getElem?_eq_getElem c]; rfl
      rw [this, tot_snoc]
      simp [-Int.natCast_add, Nat.add_assoc]
    · have d' : ¬ (i : Int) < 100 := by omega
      have e : 30 < l.length := by omega
      have e' : (30 : Int) < l.length := by omega
      simp [-Int.natCast_add, f0, f3, f4, hlen, c', d', e']
  · have c' : ¬ (i : Int) < l.length := by omega
    rw [List.take_of_length_le (by omega)] at f3
    by_cases e : 30 < l.length
    · have e' : (30 : Int) < l.length := by omega
      simp [-Int.natCast_add, f0, f3, f4, hlen, c', e']
    · have e' : ¬ (30 : Int) < l.length := by omega
      simp [-Int.natCast_add, f0, f3, f4, hlen, c', e']
      intro h3
      refine ⟨by omega, fun x hx => ?_⟩
      have := tot_mem l x hx
      omega
theorem same_ev {h : Hp} {v w : Value} {l m : List (List UInt8)} (hv : SRow h v l) (hw : SRow h w m) (hl : l.length ≤ 1000000000000000) :
    EvA Try.prog 28 [v, w] (fun r h' => h' = h ∧ r = .bool (decide (l = m))) h := by
  refine EvA.body Try.func28 rfl (by kernel_rfl) (by simp) ?_
  apply Run.ok
  have hlen := SRow.len (P := Try.prog) (t := 23) (e := 9) hv (by simp)
  have hlen2 := SRow.len (P := Try.prog) (t := 23) (e := 9) hw (by simp)
  by_cases hne : l.length = m.length
  · have hne' : ((l.length : Int) != m.length) = false := by simp; omega
    simp [hlen, hlen2, hne']
    refine WpA.loop (fun k fr h' => ∃ i, k = l.length - i ∧ i ≤ l.length ∧ fr 0 = v ∧ fr 1 = w ∧ fr 5 = .int .i64 (i : Nat) ∧ h' = h ∧ l.take i = m.take i)
      (k := l.length) ⟨0, by simp, by omega, by simp, by simp, by simp, rfl, by simp⟩ ?_
    rintro k fr h' ⟨i, rfl, hi, f0, f1, f5, rfl, heq⟩
    apply Run.ok
    by_cases c : i < l.length
    · have c' : (i : Int) < l.length := by omega
      have c2 : i < m.length := by omega
      have w1 : IntKind.i64.wrap ((i : Int) + 1) = (i : Int) + 1 := wrap_i64 (by omega) (by omega)
      have ia := SRow.ia (P := Try.prog) (t := 23) (e := 9) hv (by simp) (by simp) c .i64
      have ld := SRow.ld (P := Try.prog) (f := 9) hv (by simp) c
      have ia2 := SRow.ia (P := Try.prog) (t := 23) (e := 9) hw (by simp) (by simp) c2 .i64
      have ld2 := SRow.ld (P := Try.prog) (f := 9) hw (by simp) c2
      simp [f0, f1, f5, hlen, c']
      refine WpA.drawnA [0, 1, 2, 3, 4, 5, 6, 7, 8] [] (by kernel_rfl) (by decide +kernel) (by decide +kernel) ?_
      simp [f0, f1, f5, ia, ld, ia2, ld2, -load_ptr]
      by_cases hx : l[i] = m[i]
      · simp [hx, f0, f1, f5, w1, -roundQ_normal, ↓rq]
        refine stop_intro ⟨l.length - (i + 1), by omega, i + 1, rfl, by omega, by simp [f0], by simp [f1], by simp, rfl, ?_⟩
        rw [List.take_add_one, List.take_add_one, heq, List.getElem?_eq_getElem c, List.getElem?_eq_getElem c2, hx]
      · simp [hx]
        intro he
        subst he
        exact hx rfl
    · have c' : ¬ (i : Int) < l.length := by omega
      simp [f0, f5, hlen, c']
      rw [List.take_of_length_le (by omega), List.take_of_length_le (by omega)] at heq
      exact heq
  · have hne' : ((l.length : Int) != m.length) = true := by simp; omega
    simp [hlen, hlen2, hne']
    intro he
    subst he
    exact hne rfl
end Go.Proofs.Ytojdhmkjegkfkaa
