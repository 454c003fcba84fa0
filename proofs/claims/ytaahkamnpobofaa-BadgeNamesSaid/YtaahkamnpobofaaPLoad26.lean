/- The desk of bytes in plain Lean: what is read, and that own bytes are read back; no condition. -/
import Derived.Test.YtaahkamnpobofaaCnt
import Derived.Test.YtaahkamnpobofaaBadgeE
namespace Go.Proofs.Ytaahkamnpobofaa
open Go.Ab
theorem cntB_enc {n : Int} (h0 : 0 ≤ n) (h1 : n ≤ 2147483647) : cntB n = enc n.toNat := by
  unfold cntB; rw [if_neg (by omega)]
theorem cntO_own {most n : Int} (r : List UInt8) (h0 : 0 ≤ n) (h1 : n ≤ most) (h2 : n ≤ 2147483647) : cntO most (some (cntB n ++ r)) = (n.toNat, some r) := by
  rw [cntB_enc h0 h2]
  exact cntO_enc r (by omega) (by omega)
/-- one badge read -/
noncomputable def oneB (o : Option (List UInt8)) : Bd × Option (List UInt8) :=
  let c1 := cntO 2147483647 o
  let c2 := cntO 2147483647 c1.2
  let c3 := cntO 24 c2.2
  let c4 := cntO 4 c3.2
  let c5 := cntO 2147483647 c4.2
  (⟨(c1.1 : Nat), (c2.1 : Nat), (c3.1 : Nat), (c4.1 : Nat), (c5.1 : Nat)⟩, c5.2)
/-- badges read: below one another, each of which may be -/
noncomputable def readB (last : Int) : Nat → Option (List UInt8) → Int → List Bd → Option (Option (List UInt8) × List Bd)
  | 0, o, _, L => some (o, L)
  | n + 1, o, at', L =>
    if (oneB o).1.no ≤ at' ∨ last < (oneB o).1.no ∨ (oneB o).1.good = false ∨ busyB L (oneB o).1 = true then none
    else readB last n (oneB o).2 (oneB o).1.no (L ++ [(oneB o).1])
noncomputable def loadD (l : List UInt8) : Option (Int × List Bd) :=
  match readB ((cntO 2147483647 (some l)).1 : Nat) (cntO 4 (cntO 2147483647 (some l)).2).1 (cntO 4 (cntO 2147483647 (some l)).2).2 0 [] with
  | none => none
  | some (o, L) => if o = some [] then some (((cntO 2147483647 (some l)).1 : Nat), L) else none
theorem oneB_own {x : Bd} (r : List UInt8) (h0 : 0 ≤ x.no) (h1 : x.no ≤ 2147483647) (hg : x.good = true) : oneB (some (bdB x ++ r)) = (x, some r) := by
  obtain ⟨g1, g2, g3, g4⟩ := (Bd.good_iff x).1 hg
  have e : bdB x ++ r = cntB x.no ++ (cntB x.pipe ++ (cntB x.job ++ (cntB x.runner ++ (cntB x.heard ++ r)))) := by simp [bdB, bdN]
  rw [e]
  simp only [oneB]
  rw [cntO_own _ h0 h1 h1]
  simp only
  rw [cntO_own _ (by omega) (by omega) (by omega)]
  simp only
  rw [cntO_own _ (by omega) (by omega) (by omega)]
  simp only
  rw [cntO_own _ (by omega) (by omega) (by omega)]
  simp only
  rw [cntO_own _ (by omega) (by omega) (by omega)]
  simp only [Prod.mk.injEq, and_true]
  obtain ⟨a, b, c, d, e⟩ := x
  simp only [Bd.mk.injEq] at *
  omega
theorem readB_own {last : Int} : ∀ (L A : List Bd) (r : List UInt8) (at' : Int), DeskOk last (A ++ L) → 0 ≤ at' → (∀ x ∈ L, at' < x.no) → readB last L.length (some (L.flatMap bdB ++ r)) at' A = some (some r, A ++ L) := by
  intro L
  induction L with
  | nil => intro A r at' _ _ _; simp [readB]
  | cons x L ih =>
    intro A r at' o h0 hat
    have hx := hat x (by simp)
    have hno := o.nos x (by simp)
    have hl1 := o.l1
    have hg := o.good x (by simp)
    have e : (x :: L).flatMap bdB ++ r = bdB x ++ (L.flatMap bdB ++ r) := by simp
    have hb : busyB A x = false := by
      rw [busyB, List.any_eq_false]
      intro y hy
      have := (List.pairwise_append.1 o.apart).2.2 y hy x (by simp)
      rw [this]; simp
    simp only [List.length_cons, readB]
    rw [e, oneB_own _ (by omega) (by omega) hg]
    simp only
    rw [if_neg (by rw [hg, hb]; simp; omega)]
    have := ih (A ++ [x]) r x.no (by simpa using o) (by omega) (fun y hy => (List.pairwise_cons.1 (List.pairwise_append.1 o.rising).2.1).1 y hy)
    simpa using this
/-- own bytes, others behind them -/
theorem loadD_own {last : Int} {L : List Bd} (o : DeskOk last L) (r : List UInt8) : loadD (saveB last L ++ r) = if r = [] then some (last, L) else none := by
  have few := o.few
  have l0 := o.l0
  have l1 := o.l1
  have e : saveB last L ++ r = cntB last ++ (cntB (L.length : Nat) ++ (L.flatMap bdB ++ r)) := by simp [saveB]
  unfold loadD
  rw [e, cntO_own _ l0 l1 l1]
  simp only
  rw [cntO_own _ (by omega) (by omega) (by omega)]
  simp only [Int.toNat_natCast]
  rw [show ((last.toNat : Nat) : Int) = last by omega, readB_own L [] r 0 (by simpa using o) (by omega) (fun x hx => by have := o.nos x hx; omega)]
  simp
/-- what is read stood there -/
theorem cntO_bytes {most : Int} {o : Option (List UInt8)} {r : List UInt8} (h : (cntO most o).2 = some r) : o = some (cntB ((cntO most o).1 : Nat) ++ r) := by
  have h1 := cntO_some h
  have h2 := (cntO_le most o).1
  rw [cntB_enc (by omega) (by omega)]
  simpa using h1
theorem cntO_nil (most : Int) : cntO most none = (0, none) := rfl
theorem cntO_live {most : Int} {o : Option (List UInt8)} (h : (cntO most o).1 ≠ 0) : ∃ r, (cntO most o).2 = some r := by
  cases o with
  | none => exact absurd rfl h
  | some l =>
    simp only [cntO] at h ⊢
    split
    · rename_i c; rw [if_pos c] at h; exact absurd rfl h
    · exact ⟨_, rfl⟩
theorem oneB_dead : (oneB none).1.good = false := by
  simp [oneB, cntO_nil, Bd.good]
theorem readB_dead {last : Int} {n : Nat} {at' : Int} {L : List Bd} (hn : n ≠ 0) : readB last n none at' L = none := by
  cases n with
  | zero => exact absurd rfl hn
  | succ n =>
    simp only [readB]
    rw [if_pos (.inr (.inr (.inl oneB_dead)))]
theorem oneB_bytes {o : Option (List UInt8)} {r : List UInt8} (h : (oneB o).2 = some r) : o = some (bdB (oneB o).1 ++ r) := by
  simp only [oneB] at h ⊢
  have h5 := cntO_bytes h
  have h4 := cntO_bytes h5
  have h3 := cntO_bytes h4
  have h2 := cntO_bytes h3
  have h1 := cntO_bytes h2
  refine h1.trans (congrArg some ?_)
  simp [bdB, bdN]
theorem readB_bytes {last : Int} : ∀ (n : Nat) (o : Option (List UInt8)) (at' : Int) (A : List Bd) (r : List UInt8) (M : List Bd), readB last n o at' A = some (some r, M) → ∃ L, M = A ++ L ∧ L.length = n ∧ o = some (L.flatMap bdB ++ r) := by
  intro n
  induction n with
  | zero =>
    intro o at' A r M h
    simp only [readB, Option.some.injEq, Prod.mk.injEq] at h
    obtain ⟨rfl, rfl⟩ := h
    exact ⟨[], by simp, rfl, by simp⟩
  | succ n ih =>
    intro o at' A r M h
    simp only [readB] at h
    split at h
    · cases h
    · obtain ⟨L, rfl, hl, ho⟩ := ih _ _ _ _ _ h
      refine ⟨(oneB o).1 :: L, by simp, by simp [hl], ?_⟩
      refine (oneB_bytes ho).trans (congrArg some ?_)
      simp
theorem readB_ok {last : Int} (h0 : 0 ≤ last) (h1 : last ≤ 2147483647) : ∀ (n : Nat) (o : Option (List UInt8)) (at' : Int) (A : List Bd) (p : Option (List UInt8)) (M : List Bd), DeskOk last A → 0 ≤ at' → (∀ x ∈ A, x.no ≤ at') → readB last n o at' A = some (p, M) → DeskOk last M := by
  intro n
  induction n with
  | zero =>
    intro o at' A p M hA _ _ h
    simp only [readB, Option.some.injEq, Prod.mk.injEq] at h
    obtain ⟨_, rfl⟩ := h
    exact hA
  | succ n ih =>
    intro o at' A p M hA hat hle h
    simp only [readB] at h
    split at h
    · cases h
    · rename_i hc
      simp only [not_or] at hc
      obtain ⟨c1, c2, c3, c4⟩ := hc
      refine ih _ _ _ _ _ ?_ (by omega) ?_ h
      · exact hA.add (fun y hy => by have := hle y hy; omega) (by omega) (by omega) (by simpa using c3) (by simpa using c4)
      · intro y hy
        rcases List.mem_append.1 hy with e | e
        · have := hle y e; omega
        · simp only [List.mem_singleton] at e; subst e; omega
end Go.Proofs.Ytaahkamnpobofaa
