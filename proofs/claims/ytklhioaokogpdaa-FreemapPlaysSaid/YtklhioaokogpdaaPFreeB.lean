/- Bits out of bytes, in plain Lean; no condition. -/
import Derived.Test.YtklhioaokogpdaaPFree
namespace Go.Free
def unpk (u : Nat) (B : List UInt8) : List Bool := (List.range u).map fun i => (B.getD (i / 8) 0).toNat / 2 ^ (i % 8) % 2 == 1
@[simp] theorem unpk_length (u : Nat) (B : List UInt8) : (unpk u B).length = u := by simp [unpk]
theorem unpk_get (u : Nat) (B : List UInt8) (i : Nat) (hi : i < u) : (unpk u B).getD i false = ((B.getD (i / 8) 0).toNat / 2 ^ (i % 8) % 2 == 1) := by
  simp [unpk, List.getD_eq_getElem?_getD, hi]
theorem sum8_of : ∀ b : Fin 256, sum8 (b.val / 2 ^ 0 % 2 == 1) (b.val / 2 ^ 1 % 2 == 1) (b.val / 2 ^ 2 % 2 == 1) (b.val / 2 ^ 3 % 2 == 1) (b.val / 2 ^ 4 % 2 == 1) (b.val / 2 ^ 5 % 2 == 1) (b.val / 2 ^ 6 % 2 == 1) (b.val / 2 ^ 7 % 2 == 1) = b.val := by decide +kernel
theorem top_zero : ∀ (b : Fin 256) (r k : Fin 8), r.val ≤ k.val → b.val / 2 ^ r.val = 0 → (b.val / 2 ^ k.val % 2 == 1) = false := by decide +kernel
theorem bt_unpk (u : Nat) (B : List UInt8) (hB : B.length = (u + 7) / 8) (ht : 0 < u % 8 → (B.getD (u / 8) 0).toNat / 2 ^ (u % 8) = 0) (j k : Nat) (hk : k < 8) (hj : j < B.length) :
    bt (unpk u B) j k = ((B.getD j 0).toNat / 2 ^ k % 2 == 1) := by
  unfold bt
  by_cases c : 8 * j + k < u
  · rw [unpk_get _ _ _ c, show (8 * j + k) / 8 = j by omega, show (8 * j + k) % 8 = k by omega]
  · have h0 : (unpk u B).getD (8 * j + k) false = false := by
      rw [List.getD_eq_getElem?_getD, List.getElem?_eq_none (by simp; omega)]; rfl
    rw [h0]
    have hju : j = u / 8 := by omega
    have hr : 0 < u % 8 := by omega
    have := ht hr
    subst hju
    exact (top_zero ⟨_, (B.getD (u / 8) 0).toNat_lt⟩ ⟨u % 8, by omega⟩ ⟨k, hk⟩ (by simp only; omega) this).symm
theorem byteN_unpk (u : Nat) (B : List UInt8) (hB : B.length = (u + 7) / 8) (ht : 0 < u % 8 → (B.getD (u / 8) 0).toNat / 2 ^ (u % 8) = 0) (j : Nat) (hj : j < B.length) : byteN (unpk u B) j = (B.getD j 0).toNat := by
  have h := fun k hk => bt_unpk u B hB ht j k hk hj
  simp only [byteN, h 0 (by omega), h 1 (by omega), h 2 (by omega), h 3 (by omega), h 4 (by omega), h 5 (by omega), h 6 (by omega), h 7 (by omega)]
  exact sum8_of ⟨_, (B.getD j 0).toNat_lt⟩
theorem pk_unpk (u : Nat) (B : List UInt8) (hB : B.length = (u + 7) / 8) (ht : 0 < u % 8 → (B.getD (u / 8) 0).toNat / 2 ^ (u % 8) = 0) : pk (unpk u B) = B := by
  apply List.ext_getElem
  · simp [hB]
  · intro j h1 h2
    rw [pk_get, byteN_unpk u B hB ht j h2]
    simp [List.getD_eq_getElem?_getD, h2]
theorem sum8_top : ∀ (a b c d e f g h : Bool) (r : Fin 8), (r.val ≤ 0 → a = false) → (r.val ≤ 1 → b = false) → (r.val ≤ 2 → c = false) → (r.val ≤ 3 → d = false) → (r.val ≤ 4 → e = false) → (r.val ≤ 5 → f = false) → (r.val ≤ 6 → g = false) → (r.val ≤ 7 → h = false) → sum8 a b c d e f g h / 2 ^ r.val = 0 := by decide +kernel
theorem pk_top (T : List Bool) (h : 0 < T.length % 8) : ((pk T).getD (T.length / 8) 0).toNat / 2 ^ (T.length % 8) = 0 := by
  have hl : T.length / 8 < (pk T).length := by simp; omega
  rw [List.getD_eq_getElem?_getD, List.getElem?_eq_getElem hl, Option.getD_some, pk_nat]
  have key : ∀ k, T.length % 8 ≤ k → bt T (T.length / 8) k = false := fun k hk => by
    unfold bt
    rw [List.getD_eq_getElem?_getD, List.getElem?_eq_none (by omega)]; rfl
  exact sum8_top _ _ _ _ _ _ _ _ ⟨T.length % 8, by omega⟩ (key 0) (key 1) (key 2) (key 3) (key 4) (key 5) (key 6) (key 7)
/-- how many ones in so many bytes -/
def onesTo (B : List UInt8) (n : Nat) : Nat := ((B.take n).map fun b => ones b.toNat).sum
theorem onesTo_zero (B : List UInt8) : onesTo B 0 = 0 := by simp [onesTo]
theorem onesTo_succ (B : List UInt8) (n : Nat) (hn : n < B.length) : onesTo B (n + 1) = onesTo B n + ones B[n].toNat := by
  unfold onesTo
  rw [List.take_add_one, List.getElem?_eq_getElem hn, List.map_append, List.sum_append]
  rfl
theorem count_take (T : List Bool) (m : Nat) : (T.take (m + 1)).count true = (T.take m).count true + (T.getD m false).toNat := by
  rw [List.take_add_one, List.count_append, List.getD_eq_getElem?_getD]
  cases h : T[m]? with
  | none => simp
  | some b => cases b <;> simp
theorem onesTo_cnt (T : List Bool) : ∀ n, n ≤ (pk T).length → onesTo (pk T) n = (T.take (8 * n)).count true := by
  intro n
  induction n with
  | zero => intro _; simp [onesTo_zero]
  | succ n ih =>
    intro hn
    rw [onesTo_succ _ _ (by omega), ih (by omega), pk_nat, byteN, ones_sum8]
    rw [show 8 * (n + 1) = 8 * n + 7 + 1 by omega, count_take, count_take, count_take, count_take, count_take, count_take, count_take, count_take]
    simp only [bt, Nat.add_zero]
    omega
theorem onesTo_all (T : List Bool) : onesTo (pk T) (pk T).length = cnt T := by
  rw [onesTo_cnt T _ (Nat.le_refl _), List.take_of_length_le (by simp; omega)]; rfl
theorem onesTo_le (B : List UInt8) (n : Nat) : onesTo B n ≤ 8 * n := by
  induction n with
  | zero => simp [onesTo_zero]
  | succ n ih =>
    by_cases h : n < B.length
    · rw [onesTo_succ _ _ h]
      have : ones B[n].toNat ≤ 8 := by
        unfold ones
        exact Nat.le_trans List.countP_le_length (by simp)
      omega
    · have : onesTo B (n + 1) = onesTo B n := by
        unfold onesTo; rw [List.take_of_length_le (by omega), List.take_of_length_le (by omega)]
      omega
end Go.Free
