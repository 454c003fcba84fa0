/- Conditions in plain Lean: in brackets, with not, and, or between; no condition. -/
import Derived.Test.YtbamofeocfbjbaaPExpr
namespace Go.Proofs.Ytbamofeocfbjbaa
theorem termE_nil (d : Nat) : termE d [] = .bad 4 := by rw [termE.eq_def]; rfl
/-- a term has three words -/
theorem three : ∀ n (ws : List Bs), ws.length ≤ n → ∀ d v t r, termE d ws = .ok v t r → 3 ≤ ws.length ∧ ∃ w ∈ ws, opN w ≠ 0 := by
  intro n
  induction n with
  | zero =>
    intro ws hn d v t r h
    have : ws = [] := List.eq_nil_of_length_eq_zero (by omega)
    subst this
    rw [termE_nil] at h
    cases h
  | succ n ih =>
    intro ws hn d v t r h
    rw [termE.eq_def] at h
    cases hc : cmpA ws with
    | some q =>
      obtain ⟨a, o, b, q⟩ := q
      obtain ⟨w, rfl, _, hw⟩ := cmpA_some hc
      exact ⟨by simp, w, by simp, hw⟩
    | none =>
      rw [hc] at h
      cases ws with
      | nil => cases h
      | cons w q =>
        simp only [List.length_cons] at hn ⊢
        simp only at h
        split at h
        · split at h
          · cases h
          · obtain ⟨h1, x, h2, h3⟩ := ih q (by omega) _ _ _ _ (Out.neg_ok h)
            exact ⟨by omega, x, by simp [h2], h3⟩
        · split at h
          · split at h
            · cases h
            · have h1 := Out.shut_ok h
              rw [rowE_eq] at h1
              cases ht : termE (d + 1) q with
              | bad e => rw [ht] at h1; cases h1
              | ok v' t' r' =>
                obtain ⟨h1, x, h2, h3⟩ := ih q (by omega) _ _ _ _ ht
                exact ⟨by omega, x, by simp [h2], h3⟩
          · cases h
theorem rowE_three {d : Nat} {any part : Bool} {ws : List Bs} {v : Bool} {t r : List Bs} (h : rowE d any part ws = .ok v t r) : 3 ≤ ws.length ∧ ∃ w ∈ ws, opN w ≠ 0 := by
  rw [rowE_eq] at h
  cases ht : termE d ws with
  | bad e => rw [ht] at h; cases h
  | ok v' t' r' => exact three _ ws (Nat.le_refl _) _ _ _ _ ht
/-- as told, or too deep -/
def VT (v : Bool) (t r : List Bs) (o : Out) : Prop := o = .ok v t r ∨ o = .bad 65
theorem VT.neg {v : Bool} {t r : List Bs} {o : Out} (h : VT v t r o) : VT (!v) t r o.neg := by
  rcases h with rfl | rfl
  · exact .inl rfl
  · exact .inr rfl
theorem VT.pre {v : Bool} {t r : List Bs} {o : Out} (t0 : List Bs) (h : VT v t r o) : VT v (t0 ++ t) r (o.pre t0) := by
  rcases h with rfl | rfl
  · exact .inl rfl
  · exact .inr rfl
theorem VT.shut {v : Bool} {t r : List Bs} {o : Out} (h : VT v t (wShut :: r) o) : VT v t r o.shut := by
  rcases h with rfl | rfl
  · exact .inl (by simp [Out.shut])
  · exact .inr rfl
theorem cmpA_nop {u w : Bs} {l : List Bs} (h : opN w = 0) : cmpA (u :: w :: l) = none := by
  cases l with
  | nil => rfl
  | cons b r => simp [cmpA, h]
theorem termE_n {d : Nat} {ws : List Bs} (h : cmpA (wNot :: ws) = none) : termE d (wNot :: ws) = if 64 ≤ d then .bad 65 else (termE (d + 1) ws).neg := by
  rw [termE.eq_def, h]; simp
theorem termE_o {d : Nat} {ws : List Bs} (h : cmpA (wOpen :: ws) = none) : termE d (wOpen :: ws) = if 64 ≤ d then .bad 65 else (rowE (d + 1) false true ws).shut := by
  rw [termE.eq_def, h]; simp [show wOpen ≠ wNot by decide]
theorem termE_c {d : Nat} {a w b : Bs} {r : List Bs} (h : opN w ≠ 0) : termE d (a :: w :: b :: r) = .ok (cmpV (opN w) a b) [a, b] r := by
  rw [termE.eq_def]; simp [cmpA, h]
theorem VT.n {d : Nat} {ws : List Bs} {v : Bool} {t r : List Bs} (h : cmpA (wNot :: ws) = none) (hv : VT v t r (termE (d + 1) ws)) : VT (!v) t r (termE d (wNot :: ws)) := by
  rw [termE_n h]
  split
  · exact .inr rfl
  · exact hv.neg
theorem VT.o {d : Nat} {ws : List Bs} {v : Bool} {t r : List Bs} (h : cmpA (wOpen :: ws) = none) (hv : VT v t (wShut :: r) (rowE (d + 1) false true ws)) : VT v t r (termE d (wOpen :: ws)) := by
  rw [termE_o h]
  split
  · exact .inr rfl
  · exact hv.shut
/-- words behind those of a condition, none of which goes on with it -/
theorem behind : ∀ n (ws : List Bs), ws.length ≤ n →
    (∀ d v t r, termE d ws = .ok v t r → ∀ d' s, VT v t (r ++ s) (termE d' (ws ++ s))) ∧
    (∀ d any part v t r, rowE d any part ws = .ok v t r → ∀ d' s, (r = [] → ∃ s', s = wShut :: s') → VT v t (r ++ s) (rowE d' any part (ws ++ s))) := by
  intro n
  induction n with
  | zero =>
    intro ws hn
    have : ws = [] := List.eq_nil_of_length_eq_zero (by omega)
    subst this
    refine ⟨fun d v t r h => (by rw [termE_nil] at h; cases h), fun d any part v t r h => (by rw [rowE_eq, termE_nil] at h; cases h)⟩
  | succ n ih =>
    intro ws hn
    have hT : ∀ d v t r, termE d ws = .ok v t r → ∀ d' s, VT v t (r ++ s) (termE d' (ws ++ s)) := by
      intro d v t r h d' s
      have h3 := (three _ ws (Nat.le_refl _) _ _ _ _ h).1
      match ws, h3 with
      | a :: w :: b :: q, _ =>
        by_cases ho : opN w = 0
        · have hc : cmpA (a :: w :: b :: q) = none := cmpA_nop ho
          have hc' : cmpA (a :: (w :: b :: q ++ s)) = none := cmpA_nop ho
          simp only [List.length_cons] at hn
          have hi := ih (w :: b :: q) (by simp only [List.length_cons]; omega)
          by_cases h1 : a = wNot
          · subst h1
            rw [termE_n hc] at h
            split at h
            · cases h
            · have := VT.n (d := d') hc' (hi.1 _ _ _ _ (Out.neg_ok h) (d' + 1) s)
              rwa [Bool.not_not] at this
          · by_cases h2 : a = wOpen
            · subst h2
              rw [termE_o hc] at h
              split at h
              · cases h
              · exact VT.o (d := d') hc' (hi.2 _ _ _ _ _ _ (Out.shut_ok h) (d' + 1) s (by simp))
            · rw [termE.eq_def, hc] at h
              simp [h1, h2] at h
        · rw [termE_c ho] at h
          simp only [Out.ok.injEq] at h
          obtain ⟨rfl, rfl, rfl⟩ := h
          exact .inl (termE_c ho)
    refine ⟨hT, fun d any part v t r h d' s hs => ?_⟩
    rw [rowE_eq] at h ⊢
    cases ht : termE d ws with
    | bad e => rw [ht] at h; cases h
    | ok v' t' r' =>
      have hlt := termE_lt ht
      rw [ht] at h
      simp only at h
      rcases hT _ _ _ _ ht d' s with e | e
      · rw [e]
        simp only
        cases r' with
        | nil =>
          simp only [goOn, Out.ok.injEq] at h
          obtain ⟨rfl, rfl, rfl⟩ := h
          obtain ⟨s', rfl⟩ := hs rfl
          exact .inl (by simp [goOn, show wShut ≠ wAnd by decide, show wShut ≠ wOr by decide])
        | cons w q =>
          simp only [List.length_cons] at hlt
          have hq := ih q (by omega)
          simp only [goOn] at h
          simp only [List.cons_append, goOn]
          split at h
          · rename_i hw
            rw [if_pos hw]
            obtain ⟨t2, h1, rfl⟩ := Out.pre_ok h
            exact (hq.2 _ _ _ _ _ _ h1 d' s hs).pre _
          · rename_i hw
            rw [if_neg hw]
            split at h
            · rename_i hw
              rw [if_pos hw]
              obtain ⟨t2, h1, rfl⟩ := Out.pre_ok h
              exact (hq.2 _ _ _ _ _ _ h1 d' s hs).pre _
            · rename_i hw
              rw [if_neg hw]
              simp only [Out.ok.injEq] at h
              obtain ⟨rfl, rfl, rfl⟩ := h
              exact .inl rfl
      · rw [e]
        exact .inr rfl
/-- a condition that does not begin with an operator -/
def Plain (a : List Bs) (v : Bool) (t : List Bs) : Prop := valueE a = .ok v t [] ∧ ∀ w q, a = w :: q → opN w = 0
theorem valueE_row {a : List Bs} {v : Bool} {t r : List Bs} (h : valueE a = .ok v t r) : rowE 0 false true a = .ok v t [] ∧ r = [] := by
  unfold valueE at h
  cases ho : rowE 0 false true a with
  | bad e => rw [ho] at h; cases h
  | ok v' t' r' =>
    rw [ho] at h
    cases r' with
    | nil => simp only [Out.ok.injEq] at h; obtain ⟨rfl, rfl, rfl⟩ := h; exact ⟨rfl, rfl⟩
    | cons w q => cases h
/-- words in brackets, others behind -/
def inB (a s : List Bs) : List Bs := wOpen :: (a ++ wShut :: s)
theorem VT.inB {a s t : List Bs} {v : Bool} (h : Plain a v t) (d : Nat) : VT v t s (termE d (inB a s)) := by
  obtain ⟨h1, h2⟩ := h
  obtain ⟨h1, _⟩ := valueE_row h1
  have h3 := (rowE_three h1).1
  match a, h3 with
  | w :: q, _ =>
    refine VT.o (cmpA_nop (h2 w q rfl)) ?_
    exact (behind _ _ (Nat.le_refl _)).2 _ _ _ _ _ _ h1 (d + 1) (wShut :: s) (fun _ => ⟨s, rfl⟩)
/-- what it comes to, whatever its texts are -/
def VV (v : Bool) (r : List Bs) (o : Out) : Prop := ∃ t, VT v t r o
section
variable {d : Nat} {any part v u : Bool} {ws q r s : List Bs}
theorem VV.or (h : VV v (wOr :: q) (termE d ws)) (hq : VV u r (rowE d (any || (part && v)) true q)) : VV u r (rowE d any part ws) := by
  obtain ⟨t, e | e⟩ := h
  · obtain ⟨t', hq⟩ := hq
    rw [rowE_eq, e]
    exact ⟨_, by simpa [goOn, show wOr ≠ wAnd by decide] using hq.pre t⟩
  · rw [rowE_eq, e]; exact ⟨[], .inr rfl⟩
theorem VV.and (h : VV v (wAnd :: q) (termE d ws)) (hq : VV u r (rowE d any (part && v) q)) : VV u r (rowE d any part ws) := by
  obtain ⟨t, e | e⟩ := h
  · obtain ⟨t', hq⟩ := hq
    rw [rowE_eq, e]
    exact ⟨_, by simpa [goOn] using hq.pre t⟩
  · rw [rowE_eq, e]; exact ⟨[], .inr rfl⟩
theorem VV.fin (h : VV v [] (termE d ws)) : VV (any || (part && v)) [] (rowE d any part ws) := by
  obtain ⟨t, e | e⟩ := h
  · rw [rowE_eq, e]; exact ⟨t, .inl rfl⟩
  · rw [rowE_eq, e]; exact ⟨[], .inr rfl⟩
theorem VV.shut (h : VV v (wShut :: s) (termE d ws)) : VV (any || (part && v)) (wShut :: s) (rowE d any part ws) := by
  obtain ⟨t, e | e⟩ := h
  · rw [rowE_eq, e]; exact ⟨t, .inl (by simp [goOn, show wShut ≠ wAnd by decide, show wShut ≠ wOr by decide])⟩
  · rw [rowE_eq, e]; exact ⟨[], .inr rfl⟩
theorem VV.n (h : cmpA (wNot :: ws) = none) (hv : VV v r (termE (d + 1) ws)) : VV (!v) r (termE d (wNot :: ws)) := hv.imp fun _ h1 => VT.n h h1
theorem VV.o (h : cmpA (wOpen :: ws) = none) (hv : VV v (wShut :: r) (rowE (d + 1) false true ws)) : VV v r (termE d (wOpen :: ws)) := hv.imp fun _ h1 => VT.o h h1
theorem VV.inB {a t : List Bs} (h : Plain a v t) : VV v s (termE d (inB a s)) := ⟨t, VT.inB h d⟩
end
/-! what holds tells -/
def okB (ws : List Bs) : Bool := match valueE ws with | .bad _ => false | .ok .. => true
def valB (ws : List Bs) : Bool := match valueE ws with | .bad _ => false | .ok v _ _ => v
theorem VV.holds {v : Bool} {ws : List Bs} (h : VV v [] (rowE 0 false true ws)) : okB ws = true → valB ws = v := by
  obtain ⟨t, e | e⟩ := h <;> simp [okB, valB, valueE, e]
section
variable {a b c ta tb tc : List Bs} {p q r : Bool} (ha : Plain a p ta) (hb : Plain b q tb) (hc : Plain c r tc)
theorem logic0 (ha : Plain a p ta) : okB (inB a []) = true → valB (inB a []) = p := VV.holds (by simpa using VV.fin (any := false) (part := true) (VV.inB (s := []) ha))
theorem logic1 (ha : Plain a p ta) (hb : Plain b q tb) : okB (inB a (wOr :: inB b [])) = true → valB (inB a (wOr :: inB b [])) = (p || q) :=
  VV.holds (by simpa using VV.or (any := false) (part := true) (VV.inB ha) (VV.fin (VV.inB hb)))
theorem logic2 (ha : Plain a p ta) (hb : Plain b q tb) : okB (inB a (wAnd :: inB b [])) = true → valB (inB a (wAnd :: inB b [])) = (p && q) :=
  VV.holds (by simpa using VV.and (any := false) (part := true) (VV.inB ha) (VV.fin (VV.inB hb)))
theorem logic3 (ha : Plain a p ta) (hb : Plain b q tb) (hc : Plain c r tc) : okB (inB a (wAnd :: inB b (wOr :: inB c []))) = true → valB (inB a (wAnd :: inB b (wOr :: inB c []))) = (p && q || r) :=
  VV.holds (by simpa using VV.and (any := false) (part := true) (VV.inB ha) (VV.or (VV.inB hb) (VV.fin (VV.inB hc))))
theorem logic4 (ha : Plain a p ta) (hb : Plain b q tb) (hc : Plain c r tc) : okB (inB a (wOr :: inB b (wAnd :: inB c []))) = true → valB (inB a (wOr :: inB b (wAnd :: inB c []))) = (p || q && r) :=
  VV.holds (by simpa using VV.or (any := false) (part := true) (VV.inB ha) (VV.and (VV.inB hb) (VV.fin (VV.inB hc))))
theorem cmpN (s : List Bs) : cmpA (wNot :: inB a s) = none := cmpA_nop (by decide)
theorem cmpO (s : List Bs) : cmpA (wOpen :: inB a s) = none := cmpA_nop (by decide)
theorem logic5 (ha : Plain a p ta) (hb : Plain b q tb) : okB (wNot :: inB a (wAnd :: wNot :: inB b [])) = true → valB (wNot :: inB a (wAnd :: wNot :: inB b [])) = (!p && !q) :=
  VV.holds (by simpa using VV.and (any := false) (part := true) (VV.n (cmpN _) (VV.inB ha)) (VV.fin (VV.n (cmpN _) (VV.inB hb))))
theorem logic6 (ha : Plain a p ta) (hb : Plain b q tb) : okB (wNot :: inB (inB a (wOr :: inB b [])) []) = true → valB (wNot :: inB (inB a (wOr :: inB b [])) []) = (!p && !q) := by
  have h : wNot :: inB (inB a (wOr :: inB b [])) [] = wNot :: wOpen :: inB a (wOr :: inB b [wShut]) := by simp [inB]
  rw [h]
  exact VV.holds (by simpa using VV.fin (any := false) (part := true) (VV.n (cmpA_nop (by decide)) (VV.o (cmpO _) (VV.or (VV.inB ha) (VV.shut (VV.inB hb))))))
theorem logic7 (ha : Plain a p ta) (hb : Plain b q tb) (hc : Plain c r tc) : okB (inB a (wAnd :: inB (inB b (wOr :: inB c [])) [])) = true → valB (inB a (wAnd :: inB (inB b (wOr :: inB c [])) [])) = (p && (q || r)) := by
  have h : inB a (wAnd :: inB (inB b (wOr :: inB c [])) []) = inB a (wAnd :: wOpen :: inB b (wOr :: inB c [wShut])) := by simp [inB]
  rw [h]
  exact VV.holds (by simpa using VV.and (any := false) (part := true) (VV.inB ha) (VV.fin (VV.o (cmpO _) (VV.or (VV.inB hb) (VV.shut (VV.inB hc))))))
end
/-- brackets around what is no condition -/
theorem opens_of {a : List Bs} {v : Bool} {t r : List Bs} (h : valueE (inB a []) = .ok v t r) : ∃ w ∈ a, opN w ≠ 0 := by
  obtain ⟨_, w, h1, h2⟩ := rowE_three (valueE_row h).1
  simp only [inB, List.mem_cons, List.mem_append, List.not_mem_nil, or_false] at h1
  rcases h1 with rfl | h1 | rfl
  · exact absurd (by decide) h2
  · exact ⟨w, h1, h2⟩
  · exact absurd (by decide) h2
/-- brackets around a condition -/
theorem brackets {a t : List Bs} {v : Bool} (h : Plain a v t) : valueE (inB a []) = .ok v t [] ∨ valueE (inB a []) = .bad 65 := by
  have := VT.inB (s := []) h 0
  unfold valueE
  rw [rowE_eq]
  rcases this with e | e
  · rw [e]; exact .inl (by simp [goOn])
  · rw [e]; exact .inr rfl
end Go.Proofs.Ytbamofeocfbjbaa
