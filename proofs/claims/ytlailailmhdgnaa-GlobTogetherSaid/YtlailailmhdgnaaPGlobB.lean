/- Patterns in plain Lean: what single stars match, patterns without stars, patterns put together; no condition. -/
import Derived.Test.YtlailailmhdgnaaPGlob
namespace Go.Glob
theorem bs_ext (s : List UInt8) (ps : List Pc) (a b : Nat) (h : bwd s ps a ↔ bwd s ps b) : bw s ps a = bw s ps b := by rw [Bool.eq_iff_iff, bw_iff, bw_iff]; exact h
theorem M_two (s : List UInt8) : M [42, 42] s = true := by
  have h1 : chk [42, 42] = 0 := by decide
  have h2 : mp (pcs [42, 42]) s = true := by
    rw [mp_iff, pcs_two, pcs_nil]
    exact ⟨s.length, Nat.zero_le _, Nat.le_refl _, rfl⟩
  simp [M, h1, h2]
theorem M_one (s : List UInt8) : M [42] s = !(s.any (· == 47)) := by
  have h1 : chk [42] = 0 := by decide
  have h2 : mp (pcs [42]) s = !(s.any (· == 47)) := by
    rw [Bool.eq_iff_iff, mp_iff, pcs_one 42 [] (by simp), pcs_nil]
    have : pcOf 42 = .one := rfl
    rw [this]
    simp only [bwd, Bool.not_eq_true', List.any_eq_false, beq_iff_eq]
    constructor
    · rintro ⟨j, _, _, h3, rfl⟩ x hx
      obtain ⟨i, hi, rfl⟩ := List.mem_iff_getElem.1 hx
      have := h3 i (Nat.zero_le _) hi
      simpa [List.getD_eq_getElem?_getD, hi] using this
    · intro h3
      refine ⟨s.length, Nat.zero_le _, Nat.le_refl _, fun i _ hi => ?_, rfl⟩
      have := h3 s[i] (List.getElem_mem _)
      simpa [List.getD_eq_getElem?_getD, hi] using this
  simp [M, h1, h2]
theorem pcs_plain : ∀ (p : List UInt8), (∀ c ∈ p, c ≠ 42 ∧ c ≠ 63) → pcs p = p.map .ch := by
  intro p
  induction p with
  | nil => intro _; exact pcs_nil
  | cons c p ih =>
    intro h
    have hc := h c (by simp)
    rw [pcs_one c p (fun h => hc.1 h.1), ih fun d hd => h d (by simp [hd])]
    rcases pcOf_cases c with ⟨h1, _⟩ | ⟨h1, _⟩ | ⟨_, _, h1⟩
    · exact absurd h1 hc.1
    · exact absurd h1 hc.2
    · rw [h1]; rfl
theorem bwd_plain (s : List UInt8) : ∀ (p : List UInt8) (k : Nat), k ≤ s.length → (bwd s (p.map .ch) k ↔ s.drop k = p) := by
  intro p
  induction p with
  | nil =>
    intro k hk
    simp only [List.map_nil, bwd, List.drop_eq_nil_iff]; omega
  | cons c p ih =>
    intro k hk
    simp only [List.map_cons, bwd]
    constructor
    · rintro ⟨h1, h2, h3⟩
      rw [List.drop_eq_getElem_cons h1, (ih (k + 1) h1).1 h3]
      simp [List.getD_eq_getElem?_getD, h1] at h2
      rw [h2]
    · intro h
      have h1 : k < s.length := by
        rcases Nat.lt_or_ge k s.length with h' | h'
        · exact h'
        · rw [List.drop_eq_nil_of_le h'] at h; cases h
      rw [List.drop_eq_getElem_cons h1] at h
      injection h with ha hb
      exact ⟨h1, by simp [List.getD_eq_getElem?_getD, h1, ha], (ih (k + 1) h1).2 hb⟩
theorem M_plain (p s : List UInt8) (h : ∀ c ∈ p, c ≠ 42 ∧ c ≠ 63) : M p s = (decide (p = s) && (chk p == 0)) := by
  have h1 : mp (pcs p) s = decide (p = s) := by
    rw [Bool.eq_iff_iff, mp_iff, pcs_plain p h, bwd_plain s p 0 (Nat.zero_le _)]
    simp; exact ⟨fun h => h.symm, fun h => h.symm⟩
  rw [M, h1, Bool.and_comm]

/-! put together -/
theorem fwd_append (s : List UInt8) (ps qs : List Pc) (f : Row) : fwd s (ps ++ qs) f = fwd s qs (fwd s ps f) := by simp [fwd]
theorem stepF_take (s : List UInt8) (n : Nat) (x : Pc) : ∀ (k : Nat) (f g : Row), k ≤ n → n ≤ s.length → (∀ i, i ≤ k → f i = g i) → stepF (s.take n) x f k = stepF s x g k := by
  intro k
  induction k with
  | zero => intro f g _ _ h; simp [stepF, h 0 (Nat.le_refl _)]
  | succ k ih =>
    intro f g hk hn h
    have ih := ih f g (by omega) hn fun i hi => h i (by omega)
    have hd : (s.take n).getD k 0 = s.getD k 0 := by
      simp only [List.getD_eq_getElem?_getD, List.getElem?_take]
      rw [if_pos (by omega)]
    cases x <;> simp only [stepF, h (k + 1) (Nat.le_refl _), h k (by omega), ih, hd]
theorem fwd_take (s : List UInt8) (n : Nat) (hn : n ≤ s.length) : ∀ (ps : List Pc) (f g : Row), (∀ i, i ≤ n → f i = g i) → ∀ k, k ≤ n → fwd (s.take n) ps f k = fwd s ps g k := by
  intro ps
  induction ps with
  | nil => intro f g h k hk; exact h k hk
  | cons x ps ih =>
    intro f g h k hk
    rw [fwd_cons, fwd_cons]
    exact ih _ _ (fun i hi => stepF_take s n x i f g hi hn fun j hj => h j (by omega)) k hk
theorem mp_take (ps : List Pc) (s : List UInt8) (n : Nat) (hn : n ≤ s.length) : mp ps (s.take n) = fwd s ps row0 n := by
  have h1 : (s.take n).length = n := by simp; omega
  rw [mp, h1]
  exact fwd_take s n hn ps row0 row0 (fun _ _ => rfl) n (Nat.le_refl _)
theorem bwd_drop (s : List UInt8) (n : Nat) (hn : n ≤ s.length) : ∀ (ps : List Pc) (k : Nat), bwd (s.drop n) ps k ↔ bwd s ps (n + k) := by
  have hd : ∀ i, (s.drop n).getD i 0 = s.getD (n + i) 0 := by intro i; simp [List.getD_eq_getElem?_getD]
  have hl : (s.drop n).length = s.length - n := by simp
  intro ps
  induction ps with
  | nil => intro k; simp only [bwd, hl]; omega
  | cons x ps ih =>
    intro k
    cases x with
    | two =>
      simp only [bwd, hl, ih]
      constructor
      · rintro ⟨j, h1, h2, h3⟩; exact ⟨n + j, by omega, by omega, h3⟩
      · rintro ⟨j, h1, h2, h3⟩; exact ⟨j - n, by omega, by omega, by rwa [show n + (j - n) = j by omega]⟩
    | one =>
      simp only [bwd, hl, ih, hd]
      constructor
      · rintro ⟨j, h1, h2, h3, h4⟩
        refine ⟨n + j, by omega, by omega, fun i h5 h6 => ?_, h4⟩
        have := h3 (i - n) (by omega) (by omega)
        rwa [show n + (i - n) = i by omega] at this
      · rintro ⟨j, h1, h2, h3, h4⟩
        exact ⟨j - n, by omega, by omega, fun i h5 h6 => h3 (n + i) (by omega) (by omega), by rwa [show n + (j - n) = j by omega]⟩
    | any => simp only [bwd, hl, ih, hd, Nat.add_assoc]; exact ⟨fun ⟨a, b, c⟩ => ⟨by omega, b, c⟩, fun ⟨a, b, c⟩ => ⟨by omega, b, c⟩⟩
    | ch c => simp only [bwd, hl, ih, hd, Nat.add_assoc]; exact ⟨fun ⟨a, b, c⟩ => ⟨by omega, b, c⟩, fun ⟨a, b, c⟩ => ⟨by omega, b, c⟩⟩
theorem mp_append (ps qs : List Pc) (s : List UInt8) : mp (ps ++ qs) s = true ↔ ∃ n, n ≤ s.length ∧ mp ps (s.take n) = true ∧ mp qs (s.drop n) = true := by
  rw [mp, fwd_append, fwd_bwd]
  constructor
  · rintro ⟨j, h1, h2, h3⟩
    exact ⟨j, h1, by rw [mp_take _ _ _ h1]; exact h2, by rw [mp_iff, bwd_drop s j h1]; exact h3⟩
  · rintro ⟨j, h1, h2, h3⟩
    exact ⟨j, h1, by rw [mp_take _ _ _ h1] at h2; exact h2, by rw [mp_iff, bwd_drop s j h1] at h3; exact h3⟩
theorem pcs_append : ∀ (n : Nat) (p q : List UInt8), p.length ≤ n → ¬ (p.getLast? = some 42 ∧ q.head? = some 42) → pcs (p ++ q) = pcs p ++ pcs q := by
  intro n
  induction n with
  | zero =>
    intro p q hp _
    have : p = [] := List.eq_nil_of_length_eq_zero (by omega)
    subst this; simp [pcs_nil]
  | succ n ih =>
    intro p q hp h
    cases p with
    | nil => simp [pcs_nil]
    | cons c p =>
      by_cases hc : c = 42 ∧ p.head? = some 42
      · obtain ⟨rfl, h2⟩ := hc
        cases p with
        | nil => simp at h2
        | cons d p =>
          simp at h2; subst h2
          rw [pcs_two, List.cons_append, List.cons_append, pcs_two]
          rw [ih p q (by simp at hp; omega) ?_]
          · rfl
          · rintro ⟨h3, h4⟩
            refine h ⟨?_, h4⟩
            cases p with
            | nil => simp at h3
            | cons e p => simpa [List.getLast?_cons_cons] using h3
      · rw [pcs_one c p hc, List.cons_append, pcs_one c (p ++ q) ?_]
        · rw [ih p q (by simp at hp; omega) ?_]
          · rfl
          · rintro ⟨h3, h4⟩
            refine h ⟨?_, h4⟩
            cases p with
            | nil => simp at h3
            | cons e p => simpa [List.getLast?_cons_cons] using h3
        · rintro ⟨h1, h2⟩
          cases p with
          | nil =>
            simp at h2
            exact h ⟨by simp [h1], h2⟩
          | cons e p => exact hc ⟨h1, by simpa using h2⟩
theorem M_append (p q s : List UInt8) (h : ¬ (p.getLast? = some 42 ∧ q.head? = some 42)) (h1 : chk p = 0) (h2 : chk q = 0) (h3 : chk (p ++ q) = 0) :
    M (p ++ q) s = true ↔ ∃ n, n ≤ s.length ∧ M p (s.take n) = true ∧ M q (s.drop n) = true := by
  simp only [M, h1, h2, h3, beq_self_eq_true, Bool.true_and]
  rw [pcs_append p.length p q (Nat.le_refl _) h]
  exact mp_append _ _ s
end Go.Glob
