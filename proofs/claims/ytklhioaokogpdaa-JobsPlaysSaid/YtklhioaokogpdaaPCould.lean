/- Jobs, plainly: whether a job could stand as it does; no condition. -/
import Derived.Test.YtklhioaokogpdaaJobsE
namespace Go.Proofs.Ytklhioaokogpdaa
open Go.Ab
def mayRunB (y : Jb) (l : List St) (x : St) : Bool := passA y l && (!y.manual || x.played)
def ranB (y : Jb) (l : List St) (x : St) : Bool := mayRunB y l x && decide (1 ≤ x.tried) && decide (1 ≤ x.badge)
/-- both statuses are one, field by field -/
def stEq (x y : St) : Bool := ((x.s : Int) == (y.s : Int)) && (x.tried == y.tried) && (x.badge == y.badge) && (x.since == y.since) && (x.code == y.code) && (x.played == y.played)
def couldP (y : Jb) (l : List St) (x : St) : Bool :=
  if (x.played = true ∧ y.manual = false) ∨ y.tries < x.tried then false
  else if x.s = 1 ∨ x.s = 2 ∨ x.s = 10 then stEq x ⟨nextA y l false, 0, 0, 0, 0, false⟩
  else if x.s = 3 then mayRunB y l x && decide (x.tried < y.tries) && decide (x.badge = 0) && decide (x.since = 0) && decide (x.code = 0)
  else if x.s = 4 then ranB y l x && decide (x.code = 0)
  else if x.s = 5 ∨ x.s = 8 ∨ x.s = 11 then ranB y l x && decide (x.since = 0) && decide (x.code = 0)
  else if x.s = 6 then ranB y l x && decide (x.since = 0) && decide (x.tried = y.tries) && decide (1 ≤ x.code)
  else if x.s = 7 then ranB y l x && decide (x.since = 0) && decide (x.tried = y.tries) && decide (x.code = 0)
  else if x.s = 9 then decide (x.badge = 0) && decide (x.since = 0) && decide (x.code = 0) && ((decide (x.tried = 0) && !x.played) || passA y l) && (decide (x.tried = 0) || mayRunB y l x)
  else false
theorem couldP_congr {y z : Jb} (l : List St) (x : St) (h1 : y.needs = z.needs) (h2 : y.tries = z.tries) (h3 : y.manual = z.manual) : couldP y l x = couldP z l x := by
  unfold couldP ranB mayRunB nextA passA brokA
  rw [h1, h2, h3]
theorem st_eq (x y : St) (o q : Operand) : binA Try.prog .eql 63 o q (.agg #[.int .u8 (x.s : Nat), .int .i64 x.tried, .int .i64 x.badge, .int .i64 x.since, .int .i64 x.code, .bool x.played]) (.agg #[.int .u8 (y.s : Nat), .int .i64 y.tried, .int .i64 y.badge, .int .i64 y.since, .int .i64 y.code, .bool y.played]) = some (.bool (stEq x y)) := by
  obtain ⟨s, t, b, si, c, p⟩ := x
  obtain ⟨s', t', b', si', c', p'⟩ := y
  simp only [stEq]
  have hg : (Try.prog).eqGuardType (Try.prog).depth 63 = false := by kernel_rfl
  have hh : (Try.prog).stoodInHeld 63 = false := by kernel_rfl
  have hi : ∀ n m : Int, eqA Try.prog 9999 3 (.int .i64 n) (.int .i64 m) = some (n == m) := fun n m => by
    have : eqA Try.prog (9998 + 1) 3 (.int .i64 n) (.int .i64 m) = some (n == m) := by simp [eqA]
    exact this
  have hu : ∀ n m : Int, eqA Try.prog 9999 5 (.int .u8 n) (.int .u8 m) = some (n == m) := fun n m => by
    have : eqA Try.prog (9998 + 1) 5 (.int .u8 n) (.int .u8 m) = some (n == m) := by simp [eqA]
    exact this
  have hb : eqA Try.prog 9999 4 (.bool p) (.bool p') = some (p == p') := by
    have : eqA Try.prog (9998 + 1) 4 (.bool p) (.bool p') = some (p == p') := by simp [eqA]
    exact this
  have a0 : ∀ a b c d e f : Value, partA Try.prog 5 [a, b, c, d, e, f] 0 = some a := fun a b c d e f => by simp [partA]
  have a1 : ∀ a b c d e f : Value, partA Try.prog 3 [a, b, c, d, e, f] 1 = some b := fun a b c d e f => by simp [partA]
  have a2 : ∀ a b c d e f : Value, partA Try.prog 3 [a, b, c, d, e, f] 2 = some c := fun a b c d e f => by simp [partA]
  have a3 : ∀ a b c d e f : Value, partA Try.prog 3 [a, b, c, d, e, f] 3 = some d := fun a b c d e f => by simp [partA]
  have a4 : ∀ a b c d e f : Value, partA Try.prog 3 [a, b, c, d, e, f] 4 = some e := fun a b c d e f => by simp [partA]
  have a5 : ∀ a b c d e f : Value, partA Try.prog 4 [a, b, c, d, e, f] 5 = some f := fun a b c d e f => by simp [partA]
  have h3 : eqA Try.prog (9999 + 1) 63 (.agg #[.int .u8 (s : Nat), .int .i64 t, .int .i64 b, .int .i64 si, .int .i64 c, .bool p]) (.agg #[.int .u8 (s' : Nat), .int .i64 t', .int .i64 b', .int .i64 si', .int .i64 c', .bool p']) = some (((s : Int) == (s' : Int)) && (t == t') && (b == b') && (si == si') && (c == c') && (p == p')) := by
    unfold eqA
    generalize hE1 : ((s : Int) == (s' : Int)) = E1
    generalize hE2 : (t == t') = E2
    generalize hE3 : (b == b') = E3
    generalize hE4 : (si == si') = E4
    generalize hE5 : (c == c') = E5
    generalize hE6 : (p == p') = E6
    rw [hE6] at hb
    cases E1 <;> cases E2 <;> cases E3 <;> cases E4 <;> cases E5 <;> cases E6 <;> simp [hh, eqFields, hi, hu, hb, a0, a1, a2, a3, a4, a5, hE1, hE2, hE3, hE4, hE5]
  have h4 : eqA Try.prog 10000 63 (.agg #[.int .u8 (s : Nat), .int .i64 t, .int .i64 b, .int .i64 si, .int .i64 c, .bool p]) (.agg #[.int .u8 (s' : Nat), .int .i64 t', .int .i64 b', .int .i64 si', .int .i64 c', .bool p']) = some (((s : Int) == (s' : Int)) && (t == t') && (b == b') && (si == si') && (c == c') && (p == p')) := h3
  simp [binA, guardA, hg, h4]
/-- the rest of a text, wherever one comes to it -/
theorem cutRun {P : Program} {n : Nat} {C : Code} {Q : QA} {g : Hp} {F : Fr → Prop} {G : Prop} (main : (∀ fr, F fr → Run P n C Q fr g) → G) (key : ∀ fr, F fr → Run P n C Q fr g) : G := main key
end Go.Proofs.Ytklhioaokogpdaa
