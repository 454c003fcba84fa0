/- Wide frames: laws; no condition. -/
import Derived.Test.YtojdhmkjegkfkaaAb25
namespace Go.Ab
open Go.RowKit
theorem digG_eq {α R : Type} (j : Nat) (k : (W α → α) → R) : digG j k = k (fun w => digG j fun a => a w) := by
  unfold digG; split <;> rfl
theorem getK_eq {R : Type} (i : Nat) (k : (FT → Value) → R) : getK i k = k (fun f => f.get i) := by
  unfold FT.get getK
  cases Nat.ble i 511 with
  | false => rfl
  | true =>
    simp only [cond_true]
    rw [digG_eq, digG_eq, digG_eq]
    congr 1
    funext f
    rw [digG_eq, digG_eq, digG_eq]
/-- a word of eight -/
def W.at {α : Type} (x : W α) (j : Nat) : α := match j with
  | 0 => x.a0 | 1 => x.a1 | 2 => x.a2 | 3 => x.a3 | 4 => x.a4 | 5 => x.a5 | 6 => x.a6 | _ => x.a7
theorem digG_at {α R : Type} (j : Nat) (k : (W α → α) → R) : digG j k = k (fun w => w.at j) := by
  obtain _ | _ | _ | _ | _ | _ | _ | j := j <;> rfl
theorem FT.get_eq (f : FT) (i : Nat) : f.get i = if i < 512 then ((f.at (i / 64)).at (i / 8 % 8)).at (i % 8) else any := by
  unfold FT.get getK
  by_cases h : i < 512
  · rw [if_pos h, show Nat.ble i 511 = true from Nat.ble_eq_true_of_le (by omega)]
    simp only [cond_true, digG_at]
    rfl
  · rw [if_neg h, show Nat.ble i 511 = false from by cases hb : Nat.ble i 511 with | true => (have := Nat.le_of_ble_eq_true hb; omega) | false => rfl]
    rfl
def W.set {α : Type} (x : W α) (j : Nat) (y : α) : W α := match j with
  | 0 => { x with a0 := y } | 1 => { x with a1 := y } | 2 => { x with a2 := y } | 3 => { x with a3 := y } | 4 => { x with a4 := y } | 5 => { x with a5 := y } | 6 => { x with a6 := y } | _ => { x with a7 := y }
theorem W.at_set {α : Type} (x : W α) (j i : Nat) (y : α) (hj : j < 8) (hi : i < 8) : (x.set j y).at i = if i = j then y else x.at i := by
  obtain _ | _ | _ | _ | _ | _ | _ | _ | j := j <;> (try omega) <;> obtain _ | _ | _ | _ | _ | _ | _ | _ | i := i <;> first | omega | rfl
theorem digU_eq {α S R : Type} (j : Nat) (k : (W α → (α → (α → S) → S) → (W α → S) → S) → R) : digU j k = k (fun x g kk => g (x.at j) fun y => kk (x.set j y)) := by
  obtain _ | _ | _ | _ | _ | _ | _ | j := j <;> rfl
def FT.set (f : FT) (i : Nat) (v : Value) : FT := W.set f (i / 64) (W.set (f.at (i / 64)) (i / 8 % 8) (W.set ((f.at (i / 64)).at (i / 8 % 8)) (i % 8) v))
theorem putWK_eq {S R : Type} (i : Nat) (k : (FT → Value → (FT → S) → S) → R) : putWK i k = k (fun f v kk => kk (f.set i v)) := by
  unfold putWK
  simp only [digU_eq]
  rfl
theorem FT.get_set (f : FT) {i : Nat} (v : Value) (hi : i < 512) (j : Nat) : (f.set i v).get j = if j = i then v else f.get j := by
  rw [FT.get_eq, FT.get_eq]
  by_cases hj : j < 512
  · rw [if_pos hj, if_pos hj]
    unfold FT.set
    rw [W.at_set _ _ _ _ (by omega) (by omega)]
    by_cases h1 : j / 64 = i / 64
    · rw [if_pos h1, W.at_set _ _ _ _ (by omega) (by omega)]
      by_cases h2 : j / 8 % 8 = i / 8 % 8
      · rw [if_pos h2, W.at_set _ _ _ _ (by omega) (by omega), h1, h2]
        by_cases h3 : j % 8 = i % 8
        · rw [if_pos h3, if_pos (by omega)]
        · rw [if_neg h3, if_neg (by omega)]
      · rw [if_neg h2, if_neg (by omega), h1]
    · rw [if_neg h1, if_neg (by omega)]
  · rw [if_neg hj, if_neg hj, if_neg (by omega)]
end Go.Ab
