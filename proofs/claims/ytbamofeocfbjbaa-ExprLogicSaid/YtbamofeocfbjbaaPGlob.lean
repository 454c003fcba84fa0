/- Patterns in plain Lean: a pattern's pieces, and what they match; forward and backward tables; no condition. -/
namespace Go.Glob
inductive Pc where
  | two
  | one
  | any
  | ch (c : UInt8)
  deriving DecidableEq
def pcOf (c : UInt8) : Pc := if c = 42 then .one else if c = 63 then .any else .ch c
/-- a pattern's pieces -/
def pcs : List UInt8 → List Pc
  | [] => []
  | [c] => [pcOf c]
  | c :: d :: p => if c = 42 ∧ d = 42 then .two :: pcs p else pcOf c :: pcs (d :: p)
termination_by l => l.length

/-- forward: do the pieces so far match the first k bytes? -/
abbrev Row := Nat → Bool
def stepF (s : List UInt8) (x : Pc) (f : Row) : Row
  | 0 => f 0 && (x == .two || x == .one)
  | k + 1 => match x with
    | .two => f (k + 1) || stepF s x f k
    | .one => f (k + 1) || (stepF s x f k && s.getD k 0 != 47)
    | .any => f k && s.getD k 0 != 47
    | .ch c => f k && s.getD k 0 == c
def row0 : Row := fun k => k == 0
def fwd (s : List UInt8) (ps : List Pc) (f : Row) : Row := ps.foldl (fun f x => stepF s x f) f
/-- does a pattern's pieces match a text? -/
def mp (ps : List Pc) (s : List UInt8) : Bool := fwd s ps row0 s.length

/-- backward: do the pieces match the text from k on? -/
def bwd (s : List UInt8) : List Pc → Nat → Prop
  | [], k => k = s.length
  | .two :: ps, k => ∃ j, k ≤ j ∧ j ≤ s.length ∧ bwd s ps j
  | .one :: ps, k => ∃ j, k ≤ j ∧ j ≤ s.length ∧ (∀ i, k ≤ i → i < j → s.getD i 0 ≠ 47) ∧ bwd s ps j
  | .any :: ps, k => k < s.length ∧ s.getD k 0 ≠ 47 ∧ bwd s ps (k + 1)
  | .ch c :: ps, k => k < s.length ∧ s.getD k 0 = c ∧ bwd s ps (k + 1)

theorem stepF_two (s : List UInt8) (f : Row) (k : Nat) : stepF s .two f k = true ↔ ∃ j, j ≤ k ∧ f j = true := by
  induction k with
  | zero => simp [stepF]
  | succ k ih =>
    simp only [stepF, Bool.or_eq_true, ih]
    constructor
    · rintro (h | ⟨j, h1, h2⟩)
      · exact ⟨k + 1, Nat.le_refl _, h⟩
      · exact ⟨j, by omega, h2⟩
    · rintro ⟨j, h1, h2⟩
      by_cases h : j = k + 1
      · subst h; exact .inl h2
      · exact .inr ⟨j, by omega, h2⟩
theorem stepF_one (s : List UInt8) (f : Row) (k : Nat) : stepF s .one f k = true ↔ ∃ j, j ≤ k ∧ f j = true ∧ ∀ i, j ≤ i → i < k → s.getD i 0 ≠ 47 := by
  induction k with
  | zero =>
    simp [stepF]
  | succ k ih =>
    simp only [stepF, Bool.or_eq_true, Bool.and_eq_true, ih, bne_iff_ne]
    constructor
    · rintro (h | ⟨⟨j, h1, h2, h3⟩, h4⟩)
      · exact ⟨k + 1, Nat.le_refl _, h, fun i h1 h2 => by omega⟩
      · refine ⟨j, by omega, h2, fun i h5 h6 => ?_⟩
        by_cases h : i = k
        · subst h; exact h4
        · exact h3 i h5 (by omega)
    · rintro ⟨j, h1, h2, h3⟩
      by_cases h : j = k + 1
      · subst h; exact .inl h2
      · exact .inr ⟨⟨j, by omega, h2, fun i h5 h6 => h3 i h5 (by omega)⟩, h3 k (by omega) (by omega)⟩
theorem stepF_any (s : List UInt8) (f : Row) (k : Nat) : stepF s .any f k = true ↔ ∃ j, k = j + 1 ∧ f j = true ∧ s.getD j 0 ≠ 47 := by
  cases k with
  | zero => simp [stepF]
  | succ k => simp [stepF]
theorem stepF_ch (s : List UInt8) (c : UInt8) (f : Row) (k : Nat) : stepF s (.ch c) f k = true ↔ ∃ j, k = j + 1 ∧ f j = true ∧ s.getD j 0 = c := by
  cases k with
  | zero => simp [stepF]
  | succ k => simp [stepF]
/-- the two meet -/
theorem fwd_bwd (s : List UInt8) : ∀ (ps : List Pc) (f : Row), fwd s ps f s.length = true ↔ ∃ j, j ≤ s.length ∧ f j = true ∧ bwd s ps j := by
  intro ps
  induction ps with
  | nil => intro f; simp only [fwd, List.foldl_nil, bwd]; exact ⟨fun h => ⟨_, Nat.le_refl _, h, rfl⟩, fun ⟨j, _, h, e⟩ => e ▸ h⟩
  | cons x ps ih =>
    intro f
    have := ih (stepF s x f)
    simp only [fwd, List.foldl_cons] at this ⊢
    rw [this]
    cases x with
    | two =>
      simp only [stepF_two, bwd]
      constructor
      · rintro ⟨j, h1, ⟨i, h2, h3⟩, h4⟩; exact ⟨i, by omega, h3, j, h2, h1, h4⟩
      · rintro ⟨i, h1, h2, j, h3, h4, h5⟩; exact ⟨j, h4, ⟨i, h3, h2⟩, h5⟩
    | one =>
      simp only [stepF_one, bwd]
      constructor
      · rintro ⟨j, h1, ⟨i, h2, h3, h4⟩, h5⟩; exact ⟨i, by omega, h3, j, h2, h1, h4, h5⟩
      · rintro ⟨i, h1, h2, j, h3, h4, h5, h6⟩; exact ⟨j, h4, ⟨i, h3, h2, h5⟩, h6⟩
    | any =>
      simp only [stepF_any, bwd]
      constructor
      · rintro ⟨j, h1, ⟨i, rfl, h3, h4⟩, h5⟩; exact ⟨i, by omega, h3, by omega, h4, h5⟩
      · rintro ⟨i, h1, h2, h3, h4, h5⟩; exact ⟨i + 1, by omega, ⟨i, rfl, h2, h4⟩, h5⟩
    | ch c =>
      simp only [stepF_ch, bwd]
      constructor
      · rintro ⟨j, h1, ⟨i, rfl, h3, h4⟩, h5⟩; exact ⟨i, by omega, h3, by omega, h4, h5⟩
      · rintro ⟨i, h1, h2, h3, h4, h5⟩; exact ⟨i + 1, by omega, ⟨i, rfl, h2, h4⟩, h5⟩
theorem mp_iff (ps : List Pc) (s : List UInt8) : mp ps s = true ↔ bwd s ps 0 := by
  rw [mp, fwd_bwd]
  simp only [row0]
  constructor
  · rintro ⟨j, _, h, hb⟩; simp at h; subst h; exact hb
  · intro h; exact ⟨0, Nat.zero_le _, rfl, h⟩
/-! patterns as they are read -/
def badB (c : UInt8) : Bool := decide (c < 33) || decide (126 < c)
def bads (p : List UInt8) : Bool := p.any badB
def chk (p : List UInt8) : Int := if p.length > 64 then 40 else if p = [] ∨ bads p = true then 4 else 0
def M (p s : List UInt8) : Bool := chk p == 0 && mp (pcs p) s
def strOf : Pc → List UInt8
  | .two => [42, 42]
  | .one => [42]
  | .any => [63]
  | .ch c => [c]
theorem pcs_nil : pcs [] = [] := by rw [pcs]
theorem pcs_two (p : List UInt8) : pcs (42 :: 42 :: p) = .two :: pcs p := by rw [pcs]; simp
theorem pcs_one (c : UInt8) (p : List UInt8) (h : ¬ (c = 42 ∧ p.head? = some 42)) : pcs (c :: p) = pcOf c :: pcs p := by
  cases p with
  | nil => rw [pcs_nil, pcs]
  | cons d p =>
    rw [pcs, if_neg]
    rintro ⟨h1, h2⟩
    exact h ⟨h1, by simp [h2]⟩
theorem strOf_pcOf (c : UInt8) : strOf (pcOf c) = [c] := by
  unfold pcOf
  split
  · rename_i h; rw [h]; rfl
  · split
    · rename_i h; rw [h]; rfl
    · rfl
theorem pcOf_cases (c : UInt8) : (c = 42 ∧ pcOf c = .one) ∨ (c = 63 ∧ pcOf c = .any) ∨ (c ≠ 42 ∧ c ≠ 63 ∧ pcOf c = .ch c) := by
  unfold pcOf
  by_cases h : c = 42
  · exact .inl ⟨h, by rw [if_pos h]⟩
  · by_cases h2 : c = 63
    · exact .inr (.inl ⟨h2, by rw [if_neg h, if_pos h2]⟩)
    · exact .inr (.inr ⟨h, h2, by rw [if_neg h, if_neg h2]⟩)
/-- a byte that stands for itself -/
def wfp : Pc → Prop
  | .ch c => c ≠ 42 ∧ c ≠ 63
  | _ => True
theorem wfp_pcOf (c : UInt8) : wfp (pcOf c) := by
  rcases pcOf_cases c with ⟨_, h⟩ | ⟨_, h⟩ | ⟨h1, h2, h⟩ <;> rw [h] <;> simp_all [wfp]
theorem stepF_zero (s : List UInt8) (x : Pc) (f : Row) (hw : wfp x) (p0 : UInt8) (hp : (strOf x)[0]? = some p0) : stepF s x f 0 = (f 0 && decide (p0 = 42)) := by
  cases x with
  | two => simp [strOf] at hp; subst hp; simp [stepF]
  | one => simp [strOf] at hp; subst hp; simp [stepF]
  | any => simp [strOf] at hp; subst hp; simp [stepF]
  | ch c => simp [strOf] at hp; subst hp; have := hw.1; simp [stepF, this]
theorem strOf_zero (x : Pc) : ∃ p0, (strOf x)[0]? = some p0 := by cases x <;> exact ⟨_, rfl⟩
theorem split_pc (c : UInt8) (tl : List UInt8) : ∃ x rest, pcs (c :: tl) = x :: pcs rest ∧ c :: tl = strOf x ++ rest ∧ (decide (2 ≤ (c :: tl).length) && decide ((c :: tl).take 2 = [42, 42])) = decide ((strOf x).length = 2) ∧ ((strOf x).length = 1 ∨ (strOf x).length = 2) ∧ rest.length < (c :: tl).length ∧ wfp x := by
  by_cases h : c = 42 ∧ tl.head? = some 42
  · obtain ⟨rfl, h2⟩ := h
    cases tl with
    | nil => simp at h2
    | cons d tl =>
      simp at h2; subst h2
      exact ⟨.two, tl, pcs_two tl, rfl, by simp [strOf], .inr rfl, by simp; omega, trivial⟩
  · refine ⟨pcOf c, tl, pcs_one c tl h, by rw [strOf_pcOf]; rfl, ?_, .inl (by rw [strOf_pcOf]; rfl), by simp, wfp_pcOf c⟩
    rw [strOf_pcOf]
    have : ¬ ((c :: tl).take 2 = [42, 42]) := by
      intro h2
      cases tl with
      | nil => simp at h2
      | cons d tl => simp at h2; exact h ⟨h2.1, by simp [h2.2]⟩
    rw [decide_eq_false this]; simp
theorem fwd_cons (s : List UInt8) (x : Pc) (ps : List Pc) (f : Row) : fwd s (x :: ps) f = fwd s ps (stepF s x f) := rfl
theorem stepF_congr (s : List UInt8) (x : Pc) (f g : Row) : ∀ k, (∀ i, i ≤ k → f i = g i) → stepF s x f k = stepF s x g k := by
  intro k
  induction k with
  | zero => intro h; simp [stepF, h 0 (Nat.le_refl _)]
  | succ k ih =>
    intro h
    have ih := ih fun i hi => h i (by omega)
    cases x <;> simp [stepF, h (k + 1) (Nat.le_refl _), h k (by omega), ih]

/-! backward, as a table -/
open Classical in
noncomputable def bw (s : List UInt8) (ps : List Pc) (k : Nat) : Bool := decide (bwd s ps k)
theorem bw_iff (s : List UInt8) (ps : List Pc) (k : Nat) : bw s ps k = true ↔ bwd s ps k := by simp [bw]
theorem bw_nil (s : List UInt8) (k : Nat) : bw s [] k = (k == s.length) := by
  rw [Bool.eq_iff_iff, bw_iff]; simp [bwd]
theorem bw_two (s : List UInt8) (ps : List Pc) (k : Nat) (hk : k ≤ s.length) : bw s (.two :: ps) k = (bw s ps k || (decide (k < s.length) && bw s (.two :: ps) (k + 1))) := by
  rw [Bool.eq_iff_iff]
  simp only [Bool.or_eq_true, Bool.and_eq_true, bw_iff, decide_eq_true_eq, bwd]
  constructor
  · rintro ⟨j, h1, h2, h3⟩
    by_cases h : j = k
    · subst h; exact .inl h3
    · exact .inr ⟨by omega, j, by omega, h2, h3⟩
  · rintro (h | ⟨h1, j, h2, h3, h4⟩)
    · exact ⟨k, Nat.le_refl _, hk, h⟩
    · exact ⟨j, by omega, h3, h4⟩
theorem bw_one (s : List UInt8) (ps : List Pc) (k : Nat) (hk : k ≤ s.length) : bw s (.one :: ps) k = (bw s ps k || (decide (k < s.length) && s.getD k 0 != 47 && bw s (.one :: ps) (k + 1))) := by
  rw [Bool.eq_iff_iff]
  simp only [Bool.or_eq_true, Bool.and_eq_true, bw_iff, decide_eq_true_eq, bwd, bne_iff_ne]
  constructor
  · rintro ⟨j, h1, h2, h3, h4⟩
    by_cases h : j = k
    · subst h; exact .inl h4
    · exact .inr ⟨⟨by omega, h3 k (Nat.le_refl _) (by omega)⟩, j, by omega, h2, fun i h5 h6 => h3 i (by omega) h6, h4⟩
  · rintro (h | ⟨⟨h1, h0⟩, j, h2, h3, h4, h5⟩)
    · exact ⟨k, Nat.le_refl _, hk, fun i h1 h2 => by omega, h⟩
    · refine ⟨j, by omega, h3, fun i h6 h7 => ?_, h5⟩
      by_cases h : i = k
      · subst h; exact h0
      · exact h4 i (by omega) h7
theorem bw_any (s : List UInt8) (ps : List Pc) (k : Nat) : bw s (.any :: ps) k = (decide (k < s.length) && s.getD k 0 != 47 && bw s ps (k + 1)) := by
  rw [Bool.eq_iff_iff]
  simp only [Bool.and_eq_true, bw_iff, decide_eq_true_eq, bwd, bne_iff_ne]
  constructor
  · rintro ⟨h1, h2, h3⟩; exact ⟨⟨h1, h2⟩, h3⟩
  · rintro ⟨⟨h1, h2⟩, h3⟩; exact ⟨h1, h2, h3⟩
theorem bw_ch (s : List UInt8) (c : UInt8) (ps : List Pc) (k : Nat) : bw s (.ch c :: ps) k = (decide (k < s.length) && s.getD k 0 == c && bw s ps (k + 1)) := by
  rw [Bool.eq_iff_iff]
  simp only [Bool.and_eq_true, bw_iff, decide_eq_true_eq, bwd, beq_iff_eq]
  constructor
  · rintro ⟨h1, h2, h3⟩; exact ⟨⟨h1, h2⟩, h3⟩
  · rintro ⟨⟨h1, h2⟩, h3⟩; exact ⟨h1, h2, h3⟩
theorem mp_bw (ps : List Pc) (s : List UInt8) : mp ps s = bw s ps 0 := by
  rw [Bool.eq_iff_iff, mp_iff, bw_iff]
end Go.Glob
