/- Paths and trees of files in plain Lean; no condition. -/
import Derived.Test.YtbamofeocfbjbaaPExpr
import Derived.Lib.Bytealg
namespace Go.Proofs.Ytbamofeocfbjbaa
open Go.Glob
/-- a text cut at its first / -/
def cutS : Bs → Bs × Bs × Bool
  | [] => ([], [], false)
  | c :: r => if c = 47 then ([], r, true) else ((c :: (cutS r).1), (cutS r).2.1, (cutS r).2.2)
theorem indexByte_ge (l : Bs) (c : UInt8) : -1 ≤ Lib.indexByte l c := by
  induction l with
  | nil => simp [Lib.indexByte]
  | cons b l ih =>
    simp only [Lib.indexByte]
    split
    · omega
    · split
      · omega
      · rename_i h; simp at h; omega
theorem cutS_spec (l : Bs) : ((cutS l).2.2 = true → l = (cutS l).1 ++ 47 :: (cutS l).2.1 ∧ Lib.indexByte l 47 = (cutS l).1.length) ∧ ((cutS l).2.2 = false → (cutS l).1 = l ∧ (cutS l).2.1 = [] ∧ Lib.indexByte l 47 = -1) := by
  induction l with
  | nil => simp [cutS, Lib.indexByte]
  | cons c r ih =>
    by_cases hc : c = 47
    · subst hc
      simp [cutS, Lib.indexByte]
    · simp only [cutS, if_neg hc]
      refine ⟨fun h => ?_, fun h => ?_⟩
      · obtain ⟨h1, h2⟩ := ih.1 h
        refine ⟨by rw [List.cons_append, ← h1], ?_⟩
        simp only [Lib.indexByte, h2]
        rw [if_neg (by simpa using hc), if_neg (by simp)]
        simp
      · obtain ⟨h1, h2, h3⟩ := ih.2 h
        refine ⟨by rw [h1], h2, ?_⟩
        simp only [Lib.indexByte, h3]
        rw [if_neg (by simpa using hc)]
        simp
theorem cutS_lt {l : Bs} (h : (cutS l).2.2 = true) : (cutS l).2.1.length < l.length := by
  have := ((cutS_spec l).1 h).1
  have h2 := congrArg List.length this
  simp at h2
  omega
/-- the parts of a path, what was read of the first one ahead -/
def parts : Bs → Bs → List Bs
  | acc, [] => [acc]
  | acc, c :: r => if c = 47 then acc :: parts [] r else parts (acc ++ [c]) r
theorem parts_cut (l : Bs) : ∀ acc, parts acc l = (acc ++ (cutS l).1) :: (if (cutS l).2.2 then parts [] (cutS l).2.1 else []) := by
  induction l with
  | nil => intro acc; simp [parts, cutS]
  | cons c r ih =>
    intro acc
    by_cases hc : c = 47
    · simp [parts, cutS, hc]
    · simp only [parts, cutS, if_neg hc]
      rw [ih]
      simp
def plainN (n : Nat) : Bool := (decide (97 ≤ n) && decide (n ≤ 122)) || (decide (65 ≤ n) && decide (n ≤ 90)) || (decide (48 ≤ n) && decide (n ≤ 57)) || decide (n = 45) || decide (n = 95) || decide (n = 46)
/-- bytes by their kinds: what the comparisons of a path's byte come to -/
def Atoms (n : Nat) (a1 a2 b1 b2 d1 d2 e u p s v : Bool) : Prop := ((97 : Int) ≤ n ↔ a1 = true) ∧ ((n : Int) ≤ 122 ↔ a2 = true) ∧ ((65 : Int) ≤ n ↔ b1 = true) ∧ ((n : Int) ≤ 90 ↔ b2 = true) ∧ ((48 : Int) ≤ n ↔ d1 = true) ∧ ((n : Int) ≤ 57 ↔ d2 = true) ∧ ((n : Int) == 45) = e ∧ ((n : Int) == 95) = u ∧ ((n : Int) == 46) = p ∧ ((n : Int) == 47) = s ∧ plainN n = v
theorem atoms (n : Nat) : Atoms n false true false true false true false false false false false ∨ Atoms n false true false true false true true false false false true ∨ Atoms n false true false true false true false false true false true ∨ Atoms n false true false true false true false false false true false ∨ Atoms n false true false true true true false false false false true ∨ Atoms n false true false true true false false false false false false ∨ Atoms n false true true true true false false false false false true ∨ Atoms n false true true false true false false false false false false ∨ Atoms n false true true false true false false true false false true ∨ Atoms n false true true false true false false false false false false ∨ Atoms n true true true false true false false false false false true ∨ Atoms n true false true false true false false false false false false := by
  have h : (n ≤ 44) ∨ (n = 45) ∨ (n = 46) ∨ (n = 47) ∨ (48 ≤ n ∧ n ≤ 57) ∨ (58 ≤ n ∧ n ≤ 64) ∨ (65 ≤ n ∧ n ≤ 90) ∨ (91 ≤ n ∧ n ≤ 94) ∨ (n = 95) ∨ (n = 96) ∨ (97 ≤ n ∧ n ≤ 122) ∨ (123 ≤ n) := by omega
  rcases h with h | h | h | h | h | h | h | h | h | h | h | h
  · refine .inl ?_
    simp only [Atoms, plainN, beq_eq_false_iff_ne, Bool.false_eq_true, iff_false, iff_true, ne_eq, Bool.or_eq_false_iff, Bool.and_eq_false_iff, decide_eq_false_iff_not]
    refine ⟨?_, ?_, ?_, ?_, ?_, ?_, ?_, ?_, ?_, ?_, ?_⟩ <;> omega
  · refine .inr (.inl ?_)
    simp only [Atoms, plainN, beq_iff_eq, beq_eq_false_iff_ne, Bool.false_eq_true, iff_false, iff_true, ne_eq, Bool.or_eq_true, Bool.and_eq_true, decide_eq_true_eq]
    refine ⟨?_, ?_, ?_, ?_, ?_, ?_, ?_, ?_, ?_, ?_, ?_⟩ <;> omega
  · refine .inr (.inr (.inl ?_))
    simp only [Atoms, plainN, beq_iff_eq, beq_eq_false_iff_ne, Bool.false_eq_true, iff_false, iff_true, ne_eq, Bool.or_eq_true, Bool.and_eq_true, decide_eq_true_eq]
    refine ⟨?_, ?_, ?_, ?_, ?_, ?_, ?_, ?_, ?_, ?_, ?_⟩ <;> omega
  · refine .inr (.inr (.inr (.inl ?_)))
    simp only [Atoms, plainN, beq_iff_eq, beq_eq_false_iff_ne, Bool.false_eq_true, iff_false, iff_true, ne_eq, Bool.or_eq_false_iff, Bool.and_eq_false_iff, decide_eq_false_iff_not]
    refine ⟨?_, ?_, ?_, ?_, ?_, ?_, ?_, ?_, ?_, ?_, ?_⟩ <;> omega
  · refine .inr (.inr (.inr (.inr (.inl ?_))))
    simp only [Atoms, plainN, beq_eq_false_iff_ne, Bool.false_eq_true, iff_false, iff_true, ne_eq, Bool.or_eq_true, Bool.and_eq_true, decide_eq_true_eq]
    refine ⟨?_, ?_, ?_, ?_, ?_, ?_, ?_, ?_, ?_, ?_, ?_⟩ <;> omega
  · refine .inr (.inr (.inr (.inr (.inr (.inl ?_)))))
    simp only [Atoms, plainN, beq_eq_false_iff_ne, Bool.false_eq_true, iff_false, iff_true, ne_eq, Bool.or_eq_false_iff, Bool.and_eq_false_iff, decide_eq_false_iff_not]
    refine ⟨?_, ?_, ?_, ?_, ?_, ?_, ?_, ?_, ?_, ?_, ?_⟩ <;> omega
  · refine .inr (.inr (.inr (.inr (.inr (.inr (.inl ?_))))))
    simp only [Atoms, plainN, beq_eq_false_iff_ne, Bool.false_eq_true, iff_false, iff_true, ne_eq, Bool.or_eq_true, Bool.and_eq_true, decide_eq_true_eq]
    refine ⟨?_, ?_, ?_, ?_, ?_, ?_, ?_, ?_, ?_, ?_, ?_⟩ <;> omega
  · refine .inr (.inr (.inr (.inr (.inr (.inr (.inr (.inl ?_)))))))
    simp only [Atoms, plainN, beq_eq_false_iff_ne, Bool.false_eq_true, iff_false, iff_true, ne_eq, Bool.or_eq_false_iff, Bool.and_eq_false_iff, decide_eq_false_iff_not]
    refine ⟨?_, ?_, ?_, ?_, ?_, ?_, ?_, ?_, ?_, ?_, ?_⟩ <;> omega
  · refine .inr (.inr (.inr (.inr (.inr (.inr (.inr (.inr (.inl ?_))))))))
    simp only [Atoms, plainN, beq_iff_eq, beq_eq_false_iff_ne, Bool.false_eq_true, iff_false, iff_true, ne_eq, Bool.or_eq_true, Bool.and_eq_true, decide_eq_true_eq]
    refine ⟨?_, ?_, ?_, ?_, ?_, ?_, ?_, ?_, ?_, ?_, ?_⟩ <;> omega
  · refine .inr (.inr (.inr (.inr (.inr (.inr (.inr (.inr (.inr (.inl ?_)))))))))
    simp only [Atoms, plainN, beq_eq_false_iff_ne, Bool.false_eq_true, iff_false, iff_true, ne_eq, Bool.or_eq_false_iff, Bool.and_eq_false_iff, decide_eq_false_iff_not]
    refine ⟨?_, ?_, ?_, ?_, ?_, ?_, ?_, ?_, ?_, ?_, ?_⟩ <;> omega
  · refine .inr (.inr (.inr (.inr (.inr (.inr (.inr (.inr (.inr (.inr (.inl ?_))))))))))
    simp only [Atoms, plainN, beq_eq_false_iff_ne, Bool.false_eq_true, iff_false, iff_true, ne_eq, Bool.or_eq_true, Bool.and_eq_true, decide_eq_true_eq]
    refine ⟨?_, ?_, ?_, ?_, ?_, ?_, ?_, ?_, ?_, ?_, ?_⟩ <;> omega
  · refine .inr (.inr (.inr (.inr (.inr (.inr (.inr (.inr (.inr (.inr (.inr (?_)))))))))))
    simp only [Atoms, plainN, beq_eq_false_iff_ne, Bool.false_eq_true, iff_false, iff_true, ne_eq, Bool.or_eq_false_iff, Bool.and_eq_false_iff, decide_eq_false_iff_not]
    refine ⟨?_, ?_, ?_, ?_, ?_, ?_, ?_, ?_, ?_, ?_, ?_⟩ <;> omega
def plainC (c : UInt8) : Bool := plainN c.toNat
def goodP (q : Bs) : Bool := !decide (q = []) && !decide (q = [46]) && !decide (q = [46, 46])
def okPart (q : Bs) : Bool := goodP q && q.all plainC
def pathB (p : Bs) : Bool := decide (p.length ≤ 48) && (parts [] p).all okPart
theorem parts_bad {acc : Bs} (p : Bs) (h : acc.all plainC = false) : (parts acc p).all okPart = false := by
  rw [parts_cut]
  simp [okPart, List.all_append, h]
/-- a file: its path, its bytes -/
abbrev Fl := Bs × Bs
def fileE (f : Fl) : Nat := if pathB f.1 = false then 63 else if 4096 < f.2.length then 40 else 0
def sizeL : List Fl → Nat
  | [] => 0
  | f :: l => f.2.length + sizeL l
theorem sizeL_append (l m : List Fl) : sizeL (l ++ m) = sizeL l + sizeL m := by
  induction l with
  | nil => simp [sizeL]
  | cons f l ih => simp [sizeL, ih]; omega
/-- does p stand under q? -/
def underB (p q : Bs) : Bool := decide (q.length < p.length) && decide (p.take q.length = q) && decide (p.getD q.length 0 = 47)
def wayB (p q : Bs) : Bool := decide (p = q) || underB p q || underB q p
def stB (l : List Fl) : Bool := l.any fun f => l.any fun g => underB f.1 g.1
def fullE (l : List Fl) : Nat := if 64 < l.length ∨ 16384 < sizeL l then 3 else 0
end Go.Proofs.Ytbamofeocfbjbaa
