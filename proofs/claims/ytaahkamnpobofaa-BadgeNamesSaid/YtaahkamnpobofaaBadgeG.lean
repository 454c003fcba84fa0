/- Desks of badges: a step by the program alone; no condition. -/
import Derived.Test.YtaahkamnpobofaaBadgeF
import Derived.Test.YtaahkamnpobofaaWorks26
namespace Go.Proofs.Ytaahkamnpobofaa
open Go.Ab
/-- a step: what is done, and its numbers -/
structure St5 where
  k : Int
  a : Int
  b : Int
  c : Int
  d : Int
def St5.cells (s : St5) : List Value := [.int .i64 s.k, .int .i64 s.a, .int .i64 s.b, .int .i64 s.c, .int .i64 s.d]
def St5.bd (s : St5) : Bd := ⟨0, s.a, s.b, s.c, s.d⟩
def doT (last : Int) (L : List Bd) (s : St5) : Int := if s.k = 0 then giveT last L s.bd else last
def doN (last : Int) (L : List Bd) (s : St5) : Int := if s.k = 0 then giveN last L s.bd else 0
def doL (last : Int) (L : List Bd) (s : St5) : List Bd :=
  if s.k = 0 then giveL last L s.bd else if s.k = 1 then (if beatE L s.a s.b = 0 then beatL L s.a s.b else L) else if s.k = 2 then dropL L s.a else L
section
variable {h g : Hp} {k d b : Nat} {last : Int} {L : List Bd} {v : Value}
theorem giveE_cases (last : Int) (L : List Bd) (x : Bd) : giveE last L x = 0 ∨ giveE last L x = 1 ∨ giveE last L x = 61 ∨ giveE last L x = 70 := by
  unfold giveE
  split
  · exact .inr (.inl rfl)
  · split
    · exact .inr (.inr (.inl rfl))
    · split
      · exact .inr (.inr (.inr rfl))
      · exact .inl rfl
theorem DeskR.weak {k' : Nat} (r : DeskR h k d b last L) (hk : k' ≤ k) : DeskR h k' d b last L := ⟨r.at_, r.mp, r.ok, by have := r.kd; omega, by have := r.kb; omega⟩
/-- what Check answers -/
def checkV (o : Option Bd) : Value := match o with | some x => .tuple #[x.agg, .int .i64 0] | none => .tuple #[zeroH, .int .i64 60]
def checkE (o : Option Bd) : Int := if o.isSome then 0 else 60
theorem checkV_is (o : Option Bd) : ∃ x : Bd, checkV o = .tuple #[.agg #[.int .i64 x.pipe, .int .i64 x.job, .int .i64 x.runner, .int .i64 x.heard], .int .i64 (checkE o)] ∧ ∀ y, o = some y → x = y := by
  cases o with
  | none => exact ⟨⟨0, 0, 0, 0, 0⟩, rfl, fun y h => by cases h⟩
  | some x => exact ⟨x, rfl, fun y h => by cases h; rfl⟩
theorem checkC_ev (r : DeskR h k d b last L) (q : Int) : EvA Try.prog 40 [.pointer (some ⟨d, 0, none⟩), .int .i64 q] (fun v h' => v = checkV (atL L q) ∧ Same h h') h :=
  (check26_ev r q).mono fun v h' ⟨e, s⟩ => ⟨e.trans (by cases atL L q <;> rfl), s⟩
/-- what a step comes to -/
def DoQ (h : Hp) (k d b : Nat) (last : Int) (L : List Bd) (s : St5) (v : Value) (h' : Hp) : Prop :=
  ∃ d' b', v = .tuple #[.pointer (some ⟨d', 0, none⟩), .int .i64 (doN last L s), .bool true] ∧ DeskR h' k d' b' (doT last L s) (doL last L s) ∧ Upd (fun j => j = d ∨ j = b) h h' ∧ ((d' = d ∧ b' = b) ∨ (h.length ≤ d' ∧ h.length ≤ b'))
set_option maxHeartbeats 2000000 in
theorem do_ev (r : DeskR h k d b last L) (s : St5) : EvA Try.prog 38 [.pointer (some ⟨d, 0, none⟩), .agg #[.int .i64 s.k, .int .i64 s.a, .int .i64 s.b, .int .i64 s.c, .int .i64 s.d]]
    (DoQ h k d b last L s) h := by
  refine EvA.body Try.func38 rfl (by kernel_rfl) (by simp) ?_
  apply Run.ok
  obtain ⟨sk, sa, sb, sc, sd⟩ := s
  have sn : Same h (h ++ [Blk.cells [.int .i64 sk, .int .i64 sa, .int .i64 sb, .int .i64 sc, .int .i64 sd] false none]) := Same.new _
  have r0 := r.same sn
  have un : Upd (fun j => j = d ∨ j = b) h (h ++ [Blk.cells [.int .i64 sk, .int .i64 sa, .int .i64 sb, .int .i64 sc, .int .i64 sd] false none]) := sn.mono fun _ _ h => h.elim
  have l0 := r.ok.l0
  by_cases c0 : sk = 0
  · subst c0
    simp
    refine after_call (give_ev r0 ⟨0, sa, sb, sc, sd⟩) ?_
    rintro w g ⟨rfl, r1, u1⟩
    rcases giveE_cases last L ⟨0, sa, sb, sc, sd⟩ with e | e | e | e
    · obtain ⟨e1, e2, e3⟩ := ge1 _ _ _ e
      have hp : 0 < last + 1 := by omega
      simp [e, e3, hp]
      exact ⟨d, b, by simp [doN, St5.bd, e3], by simpa [doT, doL, St5.bd] using r1, un.trans u1 fun _ _ h => h, .inl ⟨rfl, rfl⟩⟩
    all_goals
      obtain ⟨e1, e2, e3⟩ := ge2 _ _ _ e (by decide)
      simp [e, e3]
      exact ⟨d, b, by simp [doN, St5.bd, e3], by simpa [doT, doL, St5.bd] using r1, un.trans u1 fun _ _ h => h, .inl ⟨rfl, rfl⟩⟩
  by_cases c1 : sk = 1
  · subst c1
    simp
    refine after_call (beat_ev r0 sa sb) ?_
    rintro w g ⟨rfl, r1, u1⟩
    simp
    exact ⟨d, b, by simp [doN], by simpa [doT, doL] using r1, un.trans (u1.mono fun _ _ h => .inr h) fun _ _ h => h, .inl ⟨rfl, rfl⟩⟩
  by_cases c2 : sk = 2
  · subst c2
    simp
    refine after_call (dropC_ev r0 sa) ?_
    rintro w g ⟨rfl, r1, u1⟩
    simp
    exact ⟨d, b, by simp [doN], by simpa [doT, doL] using r1, un.trans (u1.mono fun _ _ h => .inr h) fun _ _ h => h, .inl ⟨rfl, rfl⟩⟩
  by_cases c3 : sk = 3
  · subst c3
    simp
    refine after_call (save_ev r0) ?_
    rintro w g ⟨B, s1⟩
    simp
    have hsl := saveB_len last L
    have few := r.ok.few
    refine after_call (load_ev (BAcc.bytes B) (by omega)) ?_
    rintro w g2 ⟨s2, hq⟩
    have ho := loadD_own r.ok []
    simp only [List.append_nil, if_true] at ho
    rw [ho] at hq
    obtain ⟨d', b', rfl, r2⟩ := hq
    simp
    have hk := r.lt
    have hlen := sn.len
    have hlen1 := s1.len
    exact ⟨d', b', by simp [doN], by simpa [doT, doL] using r2.weak (by have := r.kd; omega), un.trans ((s1.trans s2).mono fun _ _ h => h.elim) fun _ _ h => h, .inr ⟨by have := r2.kd; omega, by have := r2.kb; omega⟩⟩
  · have e0 : (sk == 0) = false := by simpa using c0
    have e1 : (sk == 1) = false := by simpa using c1
    have e2 : (sk == 2) = false := by simpa using c2
    have e3 : (sk == 3) = false := by simpa using c3
    simp [e0, e1, e2, e3]
    exact ⟨d, b, by simp [doN, c0], by simpa [doT, doL, c0, c1, c2] using r0, un, .inl ⟨rfl, rfl⟩⟩
end
end Go.Proofs.Ytaahkamnpobofaa
