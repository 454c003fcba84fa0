/- Conditions in plain Lean: what words come to; no condition. -/
import Derived.Test.YtbamofeocfbjbaaPGlob
namespace Go.Proofs.Ytbamofeocfbjbaa
open Go.Glob
abbrev Bs := List UInt8
def wNot : Bs := [110, 111, 116]
def wOpen : Bs := [40]
def wShut : Bs := [41]
def wAnd : Bs := [97, 110, 100]
def wOr : Bs := [111, 114]
/-- a word as an operator -/
def opN (w : Bs) : Nat := if w = [61, 61] then 1 else if w = [33, 61] then 2 else if w = [126] then 3 else 0
def cmpV (o : Nat) (a b : Bs) : Bool := if o = 1 then decide (a = b) else if o = 2 then !decide (a = b) else M b a
inductive Out where
  | bad (e : Nat)
  | ok (v : Bool) (t r : List Bs)
def Out.neg : Out → Out
  | .bad e => .bad e
  | .ok v t r => .ok (!v) t r
def Out.pre (t0 : List Bs) : Out → Out
  | .bad e => .bad e
  | .ok v t r => .ok v (t0 ++ t) r
def Out.shut : Out → Out
  | .bad e => .bad e
  | .ok _ _ [] => .bad 4
  | .ok v t (w :: r) => if w = wShut then .ok v t r else .bad 4
/-- a comparison ahead -/
def cmpA : List Bs → Option (Bs × Nat × Bs × List Bs)
  | a :: o :: b :: r => if opN o = 0 then none else some (a, opN o, b, r)
  | _ => none
theorem cmpA_some {ws r : List Bs} {a b : Bs} {o : Nat} (h : cmpA ws = some (a, o, b, r)) : ∃ w, ws = a :: w :: b :: r ∧ o = opN w ∧ opN w ≠ 0 := by
  unfold cmpA at h
  split at h
  · split at h
    · cases h
    · rename_i x w y q hn
      simp only [Option.some.injEq, Prod.mk.injEq] at h
      obtain ⟨rfl, rfl, rfl, rfl⟩ := h
      exact ⟨w, rfl, rfl, hn⟩
  · cases h
mutual
/-- what a term comes to, d deep -/
def termE (d : Nat) (ws : List Bs) : Out :=
  match cmpA ws with
  | some (a, o, b, r) => .ok (cmpV o a b) [a, b] r
  | none => match ws with
    | [] => .bad 4
    | w :: r => if w = wNot then (if 64 ≤ d then .bad 65 else (termE (d + 1) r).neg) else if w = wOpen then (if 64 ≤ d then .bad 65 else (rowE (d + 1) false true r).shut) else .bad 4
termination_by (ws.length, 0)
/-- what a condition comes to, part of which is known -/
def rowE (d : Nat) (any part : Bool) (ws : List Bs) : Out :=
  match termE d ws with
  | .bad e => .bad e
  | .ok v t [] => .ok (any || (part && v)) t []
  | .ok v t (w :: r) =>
    if _h : r.length < ws.length then
      if w = wAnd then (rowE d any (part && v) r).pre t else if w = wOr then (rowE d (any || (part && v)) true r).pre t else .ok (any || (part && v)) t (w :: r)
    else .bad 0
termination_by (ws.length, 1)
end
theorem Out.neg_ok {o : Out} {v : Bool} {t r : List Bs} (h : o.neg = .ok v t r) : o = .ok (!v) t r := by
  cases o with
  | bad e => cases h
  | ok v' t' r' => simp only [Out.neg, Out.ok.injEq] at h; obtain ⟨rfl, rfl, rfl⟩ := h; simp
theorem Out.pre_ok {o : Out} {v : Bool} {t0 t r : List Bs} (h : o.pre t0 = .ok v t r) : ∃ t', o = .ok v t' r ∧ t = t0 ++ t' := by
  cases o with
  | bad e => cases h
  | ok v' t' r' => simp only [Out.pre, Out.ok.injEq] at h; obtain ⟨rfl, rfl, rfl⟩ := h; exact ⟨_, rfl, rfl⟩
theorem Out.shut_ok {o : Out} {v : Bool} {t r : List Bs} (h : o.shut = .ok v t r) : o = .ok v t (wShut :: r) := by
  cases o with
  | bad e => cases h
  | ok v' t' r' =>
    cases r' with
    | nil => cases h
    | cons w q =>
      simp only [Out.shut] at h
      split at h
      · rename_i hw; simp only [Out.ok.injEq] at h; obtain ⟨rfl, rfl, rfl⟩ := h; rw [hw]
      · cases h
theorem shorter : ∀ n (ws : List Bs), ws.length ≤ n → (∀ d v t r, termE d ws = .ok v t r → r.length < ws.length) ∧ (∀ d any part v t r, rowE d any part ws = .ok v t r → r.length < ws.length) := by
  intro n
  induction n with
  | zero =>
    intro ws hn
    have : ws = [] := List.eq_nil_of_length_eq_zero (by omega)
    subst this
    have ht : ∀ d, termE d [] = .bad 4 := fun d => by rw [termE.eq_def]; rfl
    refine ⟨fun d v t r h => (by rw [ht] at h; cases h), fun d any part v t r h => (by rw [rowE.eq_def, ht] at h; cases h)⟩
  | succ n ih =>
    intro ws hn
    have hT : ∀ d v t r, termE d ws = .ok v t r → r.length < ws.length := by
      intro d v t r h
      rw [termE.eq_def] at h
      cases hc : cmpA ws with
      | some q =>
        obtain ⟨a, o, b, q⟩ := q
        rw [hc] at h
        obtain ⟨w, rfl, _, _⟩ := cmpA_some hc
        simp only [Out.ok.injEq] at h
        obtain ⟨_, _, rfl⟩ := h
        simp; omega
      | none =>
        rw [hc] at h
        cases ws with
        | nil => cases h
        | cons w q =>
          simp only [List.length_cons] at hn
          have := ih q (by omega)
          simp only at h
          split at h
          · split at h
            · cases h
            · have := this.1 _ _ _ _ (Out.neg_ok h); simp; omega
          · split at h
            · split at h
              · cases h
              · have := this.2 _ _ _ _ _ _ (Out.shut_ok h); simp at this ⊢; omega
            · cases h
    refine ⟨hT, fun d any part v t r h => ?_⟩
    rw [rowE.eq_def] at h
    cases ht : termE d ws with
    | bad e => rw [ht] at h; cases h
    | ok v' t' r' =>
      have hlt := hT _ _ _ _ ht
      rw [ht] at h
      cases r' with
      | nil => simp only [Out.ok.injEq] at h; obtain ⟨_, _, rfl⟩ := h; exact hlt
      | cons w q =>
        simp only [List.length_cons] at hlt
        have hq := ih q (by omega)
        simp only at h
        rw [dif_pos (by omega)] at h
        split at h
        · obtain ⟨t'', h1, _⟩ := Out.pre_ok h; have := hq.2 _ _ _ _ _ _ h1; omega
        · split at h
          · obtain ⟨t'', h1, _⟩ := Out.pre_ok h; have := hq.2 _ _ _ _ _ _ h1; omega
          · simp only [Out.ok.injEq] at h; obtain ⟨_, _, rfl⟩ := h; simpa using hlt
theorem termE_lt {d : Nat} {ws : List Bs} {v : Bool} {t r : List Bs} (h : termE d ws = .ok v t r) : r.length < ws.length := (shorter _ ws (Nat.le_refl _)).1 _ _ _ _ h
theorem rowE_lt {d : Nat} {any part : Bool} {ws : List Bs} {v : Bool} {t r : List Bs} (h : rowE d any part ws = .ok v t r) : r.length < ws.length := (shorter _ ws (Nat.le_refl _)).2 _ _ _ _ _ _ h
/-- what a condition comes to behind a term -/
def goOn (d : Nat) (any p : Bool) (t : List Bs) : List Bs → Out
  | [] => .ok (any || p) t []
  | w :: r => if w = wAnd then (rowE d any p r).pre t else if w = wOr then (rowE d (any || p) true r).pre t else .ok (any || p) t (w :: r)
theorem rowE_eq (d : Nat) (any part : Bool) (ws : List Bs) : rowE d any part ws = match termE d ws with | .bad e => .bad e | .ok v t r => goOn d any (part && v) t r := by
  rw [rowE.eq_def]
  cases h : termE d ws with
  | bad e => rfl
  | ok v t r =>
    cases r with
    | nil => rfl
    | cons w q =>
      have := termE_lt h
      simp only [List.length_cons] at this
      simp only
      rw [dif_pos (by omega)]
      rfl
/-- a refusal is ErrForm or ErrDeep -/
theorem bads_are : ∀ n (ws : List Bs), ws.length ≤ n → (∀ d e, termE d ws = .bad e → e = 4 ∨ e = 65) ∧ (∀ d any part e, rowE d any part ws = .bad e → e = 4 ∨ e = 65) := by
  intro n
  induction n with
  | zero =>
    intro ws hn
    have : ws = [] := List.eq_nil_of_length_eq_zero (by omega)
    subst this
    have ht : ∀ d, termE d [] = .bad 4 := fun d => by rw [termE.eq_def]; rfl
    refine ⟨fun d e h => by rw [ht] at h; cases h; exact .inl rfl, fun d any part e h => by rw [rowE.eq_def, ht] at h; cases h; exact .inl rfl⟩
  | succ n ih =>
    intro ws hn
    have hT : ∀ d e, termE d ws = .bad e → e = 4 ∨ e = 65 := by
      intro d e h
      rw [termE.eq_def] at h
      cases hc : cmpA ws with
      | some q => obtain ⟨a, o, b, q⟩ := q; rw [hc] at h; cases h
      | none =>
        rw [hc] at h
        cases ws with
        | nil => cases h; exact .inl rfl
        | cons w q =>
          simp only [List.length_cons] at hn
          have := ih q (by omega)
          simp only at h
          split at h
          · split at h
            · cases h; exact .inr rfl
            · cases hq : termE (d + 1) q with
              | bad e' => rw [hq] at h; cases h; exact this.1 _ _ hq
              | ok => rw [hq] at h; cases h
          · split at h
            · split at h
              · cases h; exact .inr rfl
              · cases hq : rowE (d + 1) false true q with
                | bad e' => rw [hq] at h; cases h; exact this.2 _ _ _ _ hq
                | ok v t r =>
                  rw [hq] at h
                  cases r with
                  | nil => cases h; exact .inl rfl
                  | cons w' r' =>
                    simp only [Out.shut] at h
                    split at h
                    · cases h
                    · cases h; exact .inl rfl
            · cases h; exact .inl rfl
    refine ⟨hT, fun d any part e h => ?_⟩
    rw [rowE_eq] at h
    cases ht : termE d ws with
    | bad e' => rw [ht] at h; cases h; exact hT _ _ ht
    | ok v t r =>
      have hlt := termE_lt ht
      rw [ht] at h
      simp only at h
      cases r with
      | nil => cases h
      | cons w q =>
        simp only [List.length_cons] at hlt
        have hq := ih q (by omega)
        simp only [goOn] at h
        split at h
        · cases hr : rowE d any (part && v) q with
          | bad e' => rw [hr] at h; cases h; exact hq.2 _ _ _ _ hr
          | ok => rw [hr] at h; cases h
        · split at h
          · cases hr : rowE d (any || (part && v)) true q with
            | bad e' => rw [hr] at h; cases h; exact hq.2 _ _ _ _ hr
            | ok => rw [hr] at h; cases h
          · cases h
/-- what all words come to: the value, the texts, or the refusal -/
def valueE (ws : List Bs) : Out := match rowE 0 false true ws with
  | .bad e => .bad e
  | .ok v t [] => .ok v t []
  | .ok _ _ (_ :: _) => .bad 4
/-! several things with a word between each two -/
inductive LOut where
  | bad (e : Nat)
  | ok (vs : List Bool) (t r : List Bs)
def LOut.pre (v : Bool) (t0 : List Bs) : LOut → LOut
  | .bad e => .bad e
  | .ok vs t r => .ok (v :: vs) (t0 ++ t) r
inductive LR (st : List Bs → Out → Prop) (w : Bs) : List Bs → LOut → Prop
  | bad {ws e} (h : st ws (.bad e)) : LR st w ws (.bad e)
  | stop {ws v t r} (h : st ws (.ok v t r)) (hw : ∀ q, r ≠ w :: q) : LR st w ws (.ok [v] t r)
  | more {ws v t r o} (h : st ws (.ok v t (w :: r))) (hr : LR st w r o) : LR st w ws (o.pre v t)
/-- what lists of terms with and between come to -/
def goOr (d : Nat) (any p : Bool) (t : List Bs) : List Bs → Out
  | [] => .ok (any || p) t []
  | w :: r => if w = wOr then (rowE d (any || p) true r).pre t else .ok (any || p) t (w :: r)
theorem Out.pre_pre (o : Out) (t u : List Bs) : (o.pre u).pre t = o.pre (t ++ u) := by cases o <;> simp [Out.pre]
theorem goOr_pre (d : Nat) (any p : Bool) (t u : List Bs) (r : List Bs) : (goOr d any p u r).pre t = goOr d any p (t ++ u) r := by
  cases r with
  | nil => rfl
  | cons w q =>
    simp only [goOr]
    split
    · rw [Out.pre_pre]
    · rfl
def LOut.go (d : Nat) (any part : Bool) : LOut → Out
  | .bad e => .bad e
  | .ok vs t r => goOr d any (part && vs.all id) t r
def LOut.fin (any : Bool) : LOut → Out
  | .bad e => .bad e
  | .ok vs t r => .ok (any || vs.any id) t r
theorem LR.and {d : Nat} {ws : List Bs} {o : LOut} (h : LR (fun ws o => termE d ws = o) wAnd ws o) : (∀ any part, rowE d any part ws = o.go d any part) ∧ ∀ vs t r, o = .ok vs t r → r.length < ws.length ∧ ∀ q, r ≠ wAnd :: q := by
  induction h with
  | bad h => exact ⟨fun any part => by rw [rowE_eq, h]; rfl, fun _ _ _ h => by cases h⟩
  | @stop ws v t r h hw =>
    refine ⟨fun any part => ?_, fun vs t' r' e => ?_⟩
    · rw [rowE_eq, h]
      simp only
      cases r with
      | nil => simp [goOn, goOr, LOut.go]
      | cons w q =>
        have : w ≠ wAnd := fun e => hw q (by rw [e])
        simp [goOn, goOr, LOut.go, this]
    · cases e; exact ⟨termE_lt h, hw⟩
  | @more ws v t r o h hr ih =>
    have hlt := termE_lt h
    simp only [List.length_cons] at hlt
    refine ⟨fun any part => ?_, fun vs t' r' e => ?_⟩
    · rw [rowE_eq, h]
      simp only [goOn, if_true]
      rw [ih.1]
      cases o with
      | bad e => rfl
      | ok vs t' r' => simp only [LOut.pre, LOut.go, goOr_pre, List.all_cons, id, Bool.and_assoc]
    · cases o with
      | bad e' => cases e
      | ok vs2 t2 r2 =>
        simp only [LOut.pre, LOut.ok.injEq] at e
        obtain ⟨rfl, rfl, rfl⟩ := e
        obtain ⟨a, b⟩ := ih.2 _ _ _ rfl
        exact ⟨by omega, b⟩
/-- what a list of terms with and between comes to, as one -/
def andO : LOut → Out
  | .bad e => .bad e
  | .ok vs t r => .ok (vs.all id) t r
def oneO : LOut → Out
  | .bad e => .bad e
  | .ok vs t r => .ok (vs.any id) t r
theorem LR.or {d : Nat} {st : List Bs → Out → Prop} (hst : ∀ ws o, st ws o → ∃ lo, LR (fun ws o => termE d ws = o) wAnd ws lo ∧ o = andO lo) {ws : List Bs} {o : LOut} (h : LR st wOr ws o) :
    (∀ any, rowE d any true ws = o.fin any) := by
  induction h with
  | @bad ws e h =>
    intro any
    obtain ⟨o, h1, h2⟩ := hst _ _ h
    rw [h1.and.1]
    cases o with
    | bad e' => cases h2; rfl
    | ok => cases h2
  | @stop ws v t r h hw =>
    intro any
    obtain ⟨o, h1, h2⟩ := hst _ _ h
    rw [h1.and.1]
    cases o with
    | bad e' => cases h2
    | ok vs t' r' =>
      simp only [andO, Out.ok.injEq] at h2
      obtain ⟨rfl, rfl, rfl⟩ := h2
      cases r with
      | nil => simp [LOut.go, LOut.fin, goOr]
      | cons w q =>
        have : w ≠ wOr := fun e => hw q (by rw [e])
        simp [LOut.go, LOut.fin, goOr, this]
  | @more ws v t r o h hr ih =>
    intro any
    obtain ⟨o', h1, h2⟩ := hst _ _ h
    rw [h1.and.1]
    cases o' with
    | bad e' => cases h2
    | ok vs t' r' =>
      simp only [andO, Out.ok.injEq] at h2
      obtain ⟨rfl, rfl, rfl⟩ := h2
      simp only [LOut.go, goOr, if_true]
      rw [ih]
      cases o with
      | bad e => rfl
      | ok ws2 t2 r2 => simp [LOut.pre, LOut.fin, Out.pre, Bool.or_assoc]
theorem LR.andBad {d : Nat} {ws : List Bs} {o : LOut} (h : LR (fun ws o => termE d ws = o) wAnd ws o) : ∀ e, o = .bad e → e = 4 ∨ e = 65 := by
  intro e he
  have := h.and.1 false true
  rw [he] at this
  exact (bads_are _ ws (Nat.le_refl _)).2 _ _ _ _ this
/-- several things ahead of others -/
def LOut.preAll (vs0 : List Bool) (t0 : List Bs) : LOut → LOut
  | .bad e => .bad e
  | .ok vs t r => .ok (vs0 ++ vs) (t0 ++ t) r
theorem LOut.preAll_pre (o : LOut) (vs0 : List Bool) (t0 t : List Bs) (v : Bool) : (o.pre v t).preAll vs0 t0 = o.preAll (vs0 ++ [v]) (t0 ++ t) := by cases o <;> simp [LOut.pre, LOut.preAll]
end Go.Proofs.Ytbamofeocfbjbaa
