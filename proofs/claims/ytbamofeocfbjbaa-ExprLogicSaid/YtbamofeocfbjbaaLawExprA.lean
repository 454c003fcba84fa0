/- The law of layer 11: how many words, and words written over; no condition. -/
import Derived.Test.YtbamofeocfbjbaaRExprB
namespace Go.Proofs.Ytbamofeocfbjbaa
open Go.Ab Go.Glob
section
variable {h g : Hp} {W : List Bs} {w : Value}
theorem large11_ev (hw : SRow h w W) (hl : W.length ≤ 140737488355328) (hx : ∀ x ∈ W, x.length ≤ 140737488355328) :
    EvA Try.prog 13 [w] (fun r h' => (∃ b, r = .bool b ∧ (b = false → W.length ≤ 3000 ∧ ∀ x ∈ W, x.length ≤ 3000)) ∧ h' = h) h := by
  refine EvA.body Try.func13 rfl (by kernel_rfl) (by simp) ?_
  apply Run.ok
  have wl := WL hw
  simp
  refine WpA.loop (fun z fr g => ∃ (i n : Nat), z = W.length - i ∧ i ≤ W.length ∧ i ≤ n ∧ n ≤ 140737488365328 ∧ fr 0 = w ∧ fr 3 = .int .i64 (n : Nat) ∧ fr 4 = .int .i64 (i : Nat) ∧ g = h ∧ ∀ x ∈ W.take i, x.length ≤ n)
    (k := W.length) ⟨0, 0, by simp, by omega, by omega, by omega, by simp, by simp, by simp, rfl, by simp⟩ ?_
  rintro z fr g ⟨i, n, rfl, hi, hin, hn, f0, f3, f4, rfl, hp⟩
  apply Run.ok
  by_cases c : i < W.length
  · have c' : (i : Int) < W.length := by omega
    by_cases d : n < 3000
    · have d' : (n : Int) < 3000 := by omega
      have w1 : IntKind.i64.wrap ((i : Int) + 1) = (i : Int) + 1 := wrap_i64 (by omega) (by omega)
      have w2 : IntKind.i64.wrap ((n : Int) + 1) = (n : Int) + 1 := wrap_i64 (by omega) (by omega)
      have ia := WIA hw c
      have ld := WLD hw c
      have hxi := hx W[i] (List.getElem_mem _)
      have htk : W.take (i + 1) = W.take i ++ [W[i]] := by rw [List.take_add_one, List.getElem?_eq_getElem c]; rfl
      generalize W[i] = x at ld hxi htk
      obtain ⟨q, hq⟩ : ∃ q : Nat, q = n + 1 + x.length := ⟨_, rfl⟩
      have w3 : IntKind.i64.wrap ((n : Int) + 1 + (x.length : Int)) = (q : Int) := by rw [wrap_i64 (by omega) (by omega)]; omega
      simp [f0, f3, f4, wl, c', d', ia, ld, w1, w2, w3, -load_ptr, -roundQ_normal, ↓rq]
      refine stop_intro ⟨W.length - (i + 1), by omega, i + 1, q, rfl, by omega, by omega, by omega, by simp [f0], by simp, by simp, rfl, fun y hy => ?_⟩
      rw [htk] at hy
      rcases List.mem_append.1 hy with h1 | h1
      · have := hp y h1; omega
      · simp only [List.mem_singleton] at h1; subst h1; omega
    · have d' : ¬ (n : Int) < 3000 := by omega
      simp [f0, f3, f4, wl, c', d', -load_ptr]
  · have c' : ¬ (i : Int) < W.length := by omega
    rw [List.take_of_length_le (by omega)] at hp
    simp [f0, f3, f4, wl, c', -load_ptr]
    intro h1
    exact ⟨by omega, fun x hx => by have := hp x hx; omega⟩
/-- a word is written over -/
theorem putQ {k n i : Nat} {v : Value} {xs : List Value} (A : Acc k h 1 v n xs) (hi : i < n) :
    ∃ g xs', storeA Try.prog 9 (.pointer (some ⟨rbl v, rof v + i, none⟩)) (.string ⟨#[63]⟩) h = some g ∧ Acc k g 1 v n xs' ∧ Upd (inRow v) h g := by
  obtain ⟨g, e1, e2, e3, e4⟩ := A.storec (P := Try.prog) (e := 9) (x := .string ⟨#[63]⟩) (i := i) (j := 0) (by simp) rfl hi (by omega)
  exact ⟨g, _, by simpa using e1, e2, e3.mono fun j _ hj => by rw [hj]; exact Row.inRow A.row hi⟩
theorem QL {k n : Nat} {v : Value} {xs : List Value} (A : Acc k h 1 v n xs) : lenA Try.prog 22 v h = some (.int .i64 (n : Nat)) := Row.len (P := Try.prog) (t := 22) (e := 9) A.row (by simp)
theorem QIA {k n i : Nat} {v : Value} {xs : List Value} (A : Acc k h 1 v n xs) (hi : i < n) : indexAddrA Try.prog 22 v (.int .i64 (i : Nat)) = some (.pointer (some ⟨rbl v, rof v + i, none⟩)) := Row.ia1 (P := Try.prog) (t := 22) (e := 9) A.row (by simp) (by simp) hi .i64
theorem valueE_bad {e : Nat} (h : valueE W = .bad e) : e = 4 ∨ e = 65 := by
  unfold valueE at h
  cases ho : rowE 0 false true W with
  | bad c => rw [ho] at h; cases h; exact (bads_are _ W (Nat.le_refl _)).2 _ _ _ _ ho
  | ok v t r => rw [ho] at h; cases r with
    | nil => cases h
    | cons => cases h; exact .inl rfl
end
end Go.Proofs.Ytbamofeocfbjbaa
