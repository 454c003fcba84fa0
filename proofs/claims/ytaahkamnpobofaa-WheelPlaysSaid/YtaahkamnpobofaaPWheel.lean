/- Things that are due, in plain Lean: the order, heaps; no condition. -/
namespace Go.Proofs.Ytaahkamnpobofaa
/-- a thing that is due -/
structure Th where
  due : Int
  key : Int
  deriving DecidableEq
def Th.lt (a b : Th) : Prop := a.due < b.due ∨ (a.due = b.due ∧ a.key < b.key)
instance (a b : Th) : Decidable (Th.lt a b) := by unfold Th.lt; infer_instance
theorem Th.lt_irrefl (a : Th) : ¬ Th.lt a a := by unfold Th.lt; omega
theorem Th.lt_trans {a b c : Th} (h : Th.lt a b) (g : Th.lt b c) : Th.lt a c := by unfold Th.lt at *; omega
theorem Th.le_trans {a b c : Th} (h : ¬ Th.lt b a) (g : ¬ Th.lt c b) : ¬ Th.lt c a := by unfold Th.lt at *; omega
theorem Th.eq_of {a b : Th} (h : ¬ Th.lt a b) (g : ¬ Th.lt b a) : a = b := by
  cases a; cases b; unfold Th.lt at *; simp at *; omega
theorem Th.tri (a b : Th) : Th.lt a b ∨ a = b ∨ Th.lt b a := by
  by_cases h : Th.lt a b
  · exact .inl h
  · by_cases g : Th.lt b a
    · exact .inr (.inr g)
    · exact .inr (.inl (Th.eq_of h g))
theorem Th.asymm {a b : Th} (h : Th.lt a b) : ¬ Th.lt b a := by unfold Th.lt at *; omega
def nth (H : List Th) (j : Nat) : Th := H.getD j ⟨0, 0⟩
theorem nth_get {H : List Th} {j : Nat} (h : j < H.length) : nth H j = H[j] := by simp [nth, h]
theorem nth_set {H : List Th} {i j : Nat} {x : Th} (hi : i < H.length) : nth (H.set i x) j = if j = i then x else nth H j := by
  unfold nth
  by_cases h : j = i
  · subst h; simp [hi]
  · rw [if_neg h, List.getD_eq_getElem?_getD, List.getD_eq_getElem?_getD, List.getElem?_set_ne (fun e => h e.symm)]
theorem nth_mem {H : List Th} {j : Nat} (h : j < H.length) : nth H j ∈ H := by rw [nth_get h]; exact List.getElem_mem _
/-- two places are changed for one another -/
def swp (H : List Th) (i k : Nat) : List Th := (H.set i (nth H k)).set k (nth H i)
theorem swp_len (H : List Th) (i k : Nat) : (swp H i k).length = H.length := by simp [swp]
theorem swp_nth {H : List Th} {i k j : Nat} (hi : i < H.length) (hk : k < H.length) : nth (swp H i k) j = if j = k then nth H i else if j = i then nth H k else nth H j := by
  unfold swp
  rw [nth_set (by simpa using hk), nth_set hi]
theorem swp_perm {H : List Th} {i k : Nat} (hi : i < H.length) (hk : k < H.length) : (swp H i k).Perm H := by
  unfold swp
  rw [nth_get hi, nth_get hk]
  exact List.set_set_perm hi hk
/-- a heap -/
def HeapOk (H : List Th) : Prop := ∀ j, 0 < j → j < H.length → ¬ Th.lt (nth H j) (nth H ((j - 1) / 2))
theorem HeapOk.nil : HeapOk [] := fun j _ h => by simp at h
/-- a heap but for the place i, which may be less than what is above it -/
structure UpInv (H : List Th) (i : Nat) : Prop where
  lt : i < H.length
  ok : ∀ j, 0 < j → j < H.length → j ≠ i → ¬ Th.lt (nth H j) (nth H ((j - 1) / 2))
  gr : 0 < i → ∀ j, 0 < j → j < H.length → (j - 1) / 2 = i → ¬ Th.lt (nth H j) (nth H ((i - 1) / 2))
theorem nth_app_old {H : List Th} {x : Th} {j : Nat} (h : j < H.length) : nth (H ++ [x]) j = nth H j := by simp [nth, List.getElem?_append_left h]
theorem UpInv.start {H : List Th} (h : HeapOk H) (x : Th) : UpInv (H ++ [x]) H.length := by
  refine ⟨by simp, fun j h0 h1 h2 => ?_, fun _ j h0 h1 h2 => ?_⟩
  · simp at h1
    rw [nth_app_old (by omega), nth_app_old (by omega)]
    exact h j h0 (by omega)
  · simp at h1; omega
theorem UpInv.stop {H : List Th} {i : Nat} (u : UpInv H i) (h : i = 0 ∨ ¬ Th.lt (nth H i) (nth H ((i - 1) / 2))) : HeapOk H := by
  intro j h0 h1
  by_cases e : j = i
  · subst e
    rcases h with h | h
    · omega
    · exact h
  · exact u.ok j h0 h1 e
theorem UpInv.step {H : List Th} {i : Nat} (u : UpInv H i) (h0 : 0 < i) (hl : Th.lt (nth H i) (nth H ((i - 1) / 2))) : UpInv (swp H i ((i - 1) / 2)) ((i - 1) / 2) := by
  have hi := u.lt
  have hp : (i - 1) / 2 < i := by omega
  obtain ⟨p, hpe⟩ : ∃ p, p = (i - 1) / 2 := ⟨_, rfl⟩
  rw [← hpe] at hl hp ⊢
  have hpl : p < H.length := by omega
  have sw : ∀ j, nth (swp H i p) j = if j = p then nth H i else if j = i then nth H p else nth H j := fun j => swp_nth hi hpl
  refine ⟨by rw [swp_len]; exact hpl, fun j j0 j1 jp => ?_, fun p0 j j0 j1 jp => ?_⟩
  · rw [swp_len] at j1
    rw [sw, sw, if_neg jp]
    by_cases ji : j = i
    · subst ji
      rw [if_pos rfl, if_pos hpe.symm]
      exact Th.asymm hl
    · rw [if_neg ji]
      by_cases q1 : (j - 1) / 2 = p
      · rw [if_pos q1]
        have := u.ok j j0 j1 ji
        rw [q1] at this
        exact Th.le_trans (Th.asymm hl) this
      · rw [if_neg q1]
        by_cases q2 : (j - 1) / 2 = i
        · rw [if_pos q2]
          have := u.gr h0 j j0 j1 q2
          rw [← hpe] at this
          exact this
        · rw [if_neg q2]; exact u.ok j j0 j1 ji
  · rw [swp_len] at j1
    have hpp : (p - 1) / 2 < p := by omega
    have up : ¬ Th.lt (nth H p) (nth H ((p - 1) / 2)) := u.ok p p0 hpl (by omega)
    rw [sw, sw, if_neg (by omega), if_neg (show ¬ (p - 1) / 2 = p by omega), if_neg (show ¬ (p - 1) / 2 = i by omega)]
    by_cases ji : j = i
    · rw [if_pos ji]; exact up
    · rw [if_neg ji]
      have := u.ok j j0 j1 ji
      rw [jp] at this
      exact Th.le_trans up this
/-- a heap but for the place i, which may be more than what is below it -/
structure DnInv (H : List Th) (i : Nat) : Prop where
  ok : ∀ j, 0 < j → j < H.length → (j - 1) / 2 ≠ i → ¬ Th.lt (nth H j) (nth H ((j - 1) / 2))
  gr : 0 < i → ∀ j, 0 < j → j < H.length → (j - 1) / 2 = i → ¬ Th.lt (nth H j) (nth H ((i - 1) / 2))
/-- the least of i and its children below c -/
structure Kid (H : List Th) (i c k : Nat) : Prop where
  at_ : k = i ∨ (k < H.length ∧ (k - 1) / 2 = i ∧ 0 < k ∧ Th.lt (nth H k) (nth H i))
  le : ∀ j, 0 < j → j < c → j < H.length → (j - 1) / 2 = i → ¬ Th.lt (nth H j) (nth H k)
theorem Kid.start (H : List Th) (i : Nat) : Kid H i (2 * i + 1) i := ⟨.inl rfl, fun j h0 h1 _ h2 => by omega⟩
theorem Kid.step {H : List Th} {i c k : Nat} (u : Kid H i c k) (h1 : 2 * i + 1 ≤ c) (h2 : c ≤ 2 * i + 2) (h3 : c < H.length) : Kid H i (c + 1) (if Th.lt (nth H c) (nth H k) then c else k) := by
  by_cases hl : Th.lt (nth H c) (nth H k)
  · rw [if_pos hl]
    refine ⟨.inr ⟨h3, by omega, by omega, ?_⟩, fun j j0 j1 j2 j3 => ?_⟩
    · rcases u.at_ with e | ⟨_, _, _, e⟩
      · rw [← e]; exact hl
      · exact Th.lt_trans hl e
    · by_cases e : j = c
      · subst e; exact Th.lt_irrefl _
      · exact Th.le_trans (Th.asymm hl) (u.le j j0 (by omega) j2 j3)
  · rw [if_neg hl]
    refine ⟨u.at_, fun j j0 j1 j2 j3 => ?_⟩
    by_cases e : j = c
    · subst e; exact hl
    · exact u.le j j0 (by omega) j2 j3
theorem DnInv.stop {H : List Th} {i c : Nat} (u : DnInv H i) (q : Kid H i c i) (hc : 2 * i + 2 < c ∨ H.length ≤ c) : HeapOk H := by
  intro j h0 h1
  by_cases e : (j - 1) / 2 = i
  · rw [e]; exact q.le j h0 (by omega) h1 e
  · exact u.ok j h0 h1 e
theorem DnInv.step {H : List Th} {i c k : Nat} (u : DnInv H i) (hi : i < H.length) (q : Kid H i c k) (hc : 2 * i + 2 < c ∨ H.length ≤ c) (hk : k ≠ i) : k < H.length ∧ i < k ∧ DnInv (swp H i k) k := by
  obtain ⟨kl, kp, k0, klt⟩ : k < H.length ∧ (k - 1) / 2 = i ∧ 0 < k ∧ Th.lt (nth H k) (nth H i) := by
    rcases q.at_ with e | e
    · exact absurd e hk
    · exact e
  have sw : ∀ j, nth (swp H i k) j = if j = k then nth H i else if j = i then nth H k else nth H j := fun j => swp_nth hi kl
  refine ⟨kl, by omega, fun j j0 j1 jp => ?_, fun _ j j0 j1 jp => ?_⟩
  · rw [swp_len] at j1
    rw [sw, sw]
    by_cases jk : j = k
    · rw [if_pos jk, if_neg (show ¬ (j - 1) / 2 = k by omega), if_pos (show (j - 1) / 2 = i by omega)]
      exact Th.asymm klt
    · rw [if_neg jk]
      by_cases ji : j = i
      · subst ji
        rw [if_pos rfl, if_neg (show ¬ (j - 1) / 2 = k by omega), if_neg (show ¬ (j - 1) / 2 = j by omega)]
        exact u.gr j0 k k0 kl kp
      · rw [if_neg ji, if_neg jp]
        by_cases q1 : (j - 1) / 2 = i
        · rw [if_pos q1]
          exact q.le j j0 (by omega) j1 q1
        · rw [if_neg q1]
          exact u.ok j j0 j1 q1
  · rw [swp_len] at j1
    rw [sw, sw, if_neg (by omega), if_neg (show ¬ j = i by omega), if_neg (show ¬ (k - 1) / 2 = k by omega), if_pos kp]
    have := u.ok j j0 j1 (by omega)
    rw [jp] at this
    exact this
/-- the first is the least -/
theorem HeapOk.least {H : List Th} (h : HeapOk H) : ∀ j, j < H.length → ¬ Th.lt (nth H j) (nth H 0) := by
  intro j
  induction j using Nat.strongRecOn with
  | ind j ih =>
    intro hj
    by_cases e : j = 0
    · subst e; exact Th.lt_irrefl _
    · exact Th.le_trans (ih ((j - 1) / 2) (by omega) (by omega)) (h j (by omega) hj)
theorem HeapOk.least' {H : List Th} (h : HeapOk H) {x : Th} (hx : x ∈ H) : ¬ Th.lt x (nth H 0) := by
  obtain ⟨j, hj, rfl⟩ := List.getElem_of_mem hx
  have := h.least j hj
  rwa [nth_get hj] at this
/-- the last put on the first's place -/
def popL (H : List Th) : List Th := (H.set 0 (nth H (H.length - 1))).take (H.length - 1)
theorem popL_len (H : List Th) : (popL H).length = H.length - 1 := by simp [popL]
theorem nth_take {H : List Th} {n j : Nat} (h : j < n) : nth (H.take n) j = nth H j := by simp [nth, h]
theorem popL_inv {H : List Th} (h : HeapOk H) : DnInv (popL H) 0 := by
  refine ⟨fun j j0 j1 jp => ?_, fun h0 => by omega⟩
  rw [popL_len] at j1
  unfold popL
  rw [nth_take j1, nth_take (by omega), nth_set (by omega), nth_set (by omega), if_neg (by omega), if_neg (by omega)]
  exact h j j0 (by omega)
theorem popL_perm {H : List Th} (h : 0 < H.length) : (nth H 0 :: popL H).Perm H := by
  cases H with
  | nil => simp at h
  | cons x T =>
    cases hT : T.reverse with
    | nil =>
      have : T = [] := by simpa using hT
      subst this
      simp [popL, nth]
    | cons y R =>
      have e : T = R.reverse ++ [y] := by
        have := congrArg List.reverse hT
        simpa using this
      subst e
      have e1 : popL (x :: (R.reverse ++ [y])) = y :: R.reverse := by
        simp [popL, nth]
      rw [e1]
      have e2 : nth (x :: (R.reverse ++ [y])) 0 = x := rfl
      rw [e2]
      refine List.Perm.cons x ?_
      have := List.perm_append_comm (l₁ := [y]) (l₂ := R.reverse)
      simpa using this
/-- what rises is a heap -/
theorem rises_heap {H : List Th} (h : H.Pairwise fun a b => ¬ Th.lt b a) : HeapOk H := by
  intro j h0 h1
  rw [nth_get h1, nth_get (show (j - 1) / 2 < H.length by omega)]
  exact List.pairwise_iff_getElem.1 h ((j - 1) / 2) j (by omega) h1 (by omega)
end Go.Proofs.Ytaahkamnpobofaa
