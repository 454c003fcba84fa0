/- Truth values as bits of bytes; plain, no condition. -/
namespace Go.Free
def bt (T : List Bool) (j k : Nat) : Bool := T.getD (8 * j + k) false
def sum8 (a b c d e f g h : Bool) : Nat := a.toNat + 2 * b.toNat + 4 * c.toNat + 8 * d.toNat + 16 * e.toNat + 32 * f.toNat + 64 * g.toNat + 128 * h.toNat
def byteN (T : List Bool) (j : Nat) : Nat := sum8 (bt T j 0) (bt T j 1) (bt T j 2) (bt T j 3) (bt T j 4) (bt T j 5) (bt T j 6) (bt T j 7)
theorem sum8_lt : ∀ a b c d e f g h : Bool, sum8 a b c d e f g h < 256 := by decide
theorem byteN_lt (T : List Bool) (j : Nat) : byteN T j < 256 := sum8_lt _ _ _ _ _ _ _ _
def pk (T : List Bool) : List UInt8 := (List.range ((T.length + 7) / 8)).map fun j => UInt8.ofNat (byteN T j)
@[simp] theorem pk_length (T : List Bool) : (pk T).length = (T.length + 7) / 8 := by simp [pk]
theorem pk_get (T : List Bool) (j : Nat) (hj : j < (pk T).length) : (pk T)[j] = UInt8.ofNat (byteN T j) := by simp [pk]
theorem pk_nat (T : List Bool) (j : Nat) (hj : j < (pk T).length) : ((pk T)[j]).toNat = byteN T j := by
  rw [pk_get]; have := byteN_lt T j; simp; omega
theorem sum8_bit : ∀ a b c d e f g h : Bool, (sum8 a b c d e f g h / 1 % 2 = a.toNat) ∧ (sum8 a b c d e f g h / 2 % 2 = b.toNat) ∧ (sum8 a b c d e f g h / 4 % 2 = c.toNat) ∧ (sum8 a b c d e f g h / 8 % 2 = d.toNat) ∧
    (sum8 a b c d e f g h / 16 % 2 = e.toNat) ∧ (sum8 a b c d e f g h / 32 % 2 = f.toNat) ∧ (sum8 a b c d e f g h / 64 % 2 = g.toNat) ∧ (sum8 a b c d e f g h / 128 % 2 = h.toNat) := by decide
theorem lt8 {k : Nat} (hk : k < 8) : k = 0 ∨ k = 1 ∨ k = 2 ∨ k = 3 ∨ k = 4 ∨ k = 5 ∨ k = 6 ∨ k = 7 := by omega
theorem byteN_bit (T : List Bool) (j k : Nat) (hk : k < 8) : byteN T j / 2 ^ k % 2 = (bt T j k).toNat := by
  obtain ⟨h0, h1, h2, h3, h4, h5, h6, h7⟩ := sum8_bit (bt T j 0) (bt T j 1) (bt T j 2) (bt T j 3) (bt T j 4) (bt T j 5) (bt T j 6) (bt T j 7)
  rcases lt8 hk with rfl | rfl | rfl | rfl | rfl | rfl | rfl | rfl <;> assumption
theorem bt_set (T : List Bool) (i j k : Nat) (v : Bool) (hi : i < T.length) : bt (T.set i v) j k = if 8 * j + k = i then v else bt T j k := by
  unfold bt
  rw [List.getD_eq_getElem?_getD, List.getD_eq_getElem?_getD, List.getElem?_set]
  by_cases h : i = 8 * j + k
  · subst h; simp [hi]
  · rw [if_neg h, if_neg (fun h' => h h'.symm)]
theorem byteN_set_other (T : List Bool) (i j : Nat) (v : Bool) (hi : i < T.length) (hj : j ≠ i / 8) : byteN (T.set i v) j = byteN T j := by
  unfold byteN
  have key : ∀ k, k < 8 → bt (T.set i v) j k = bt T j k := fun k hk => by rw [bt_set T i j k v hi, if_neg (by omega)]
  rw [key 0 (by omega), key 1 (by omega), key 2 (by omega), key 3 (by omega), key 4 (by omega), key 5 (by omega), key 6 (by omega), key 7 (by omega)]
theorem byteN_set (T : List Bool) (j k : Nat) (v : Bool) (hk : k < 8) (hi : 8 * j + k < T.length) : byteN (T.set (8 * j + k) v) j + (bt T j k).toNat * 2 ^ k = byteN T j + v.toNat * 2 ^ k := by
  unfold byteN
  simp only [bt_set T (8 * j + k) j _ v hi, Nat.add_left_cancel_iff]
  rcases lt8 hk with rfl | rfl | rfl | rfl | rfl | rfl | rfl | rfl <;> simp [sum8] <;> omega
theorem bt_of (T : List Bool) (i : Nat) (hi : i < T.length) : bt T (i / 8) (i % 8) = T[i] := by
  unfold bt
  rw [show 8 * (i / 8) + i % 8 = i by omega, List.getD_eq_getElem?_getD, List.getElem?_eq_getElem hi]; rfl
theorem pk_set (T : List Bool) (i : Nat) (v : Bool) (hi : i < T.length) : pk (T.set i v) = (pk T).set (i / 8) (UInt8.ofNat (byteN (T.set i v) (i / 8))) := by
  apply List.ext_getElem?
  intro j
  rw [List.getElem?_set]
  by_cases hj : j < (T.length + 7) / 8
  · have h1 : j < (pk (T.set i v)).length := by simpa using hj
    have h2 : j < (pk T).length := by simpa using hj
    rw [List.getElem?_eq_getElem h1, pk_get]
    by_cases h : i / 8 = j
    · subst h; rw [if_pos rfl, if_pos h2]
    · rw [if_neg h, List.getElem?_eq_getElem h2, pk_get, byteN_set_other T i j v hi (fun h' => h h'.symm)]
  · rw [List.getElem?_eq_none (by simpa using hj)]
    by_cases h : i / 8 = j
    · subst h; rw [if_pos rfl, if_neg (by simpa using hj)]
    · rw [if_neg h, List.getElem?_eq_none (by simpa using hj)]
/-! the operations on a byte -/
theorem and_bit : ∀ (b : Fin 256) (k : Fin 8), (((BitVec.ofInt 8 (b.val : Int)) &&& (BitVec.ofInt 8 ((2 ^ k.val : Nat) : Int))).toNat == 0) = (b.val / 2 ^ k.val % 2 == 0) := by decide +kernel
theorem or_bit : ∀ (b : Fin 256) (k : Fin 8), b.val / 2 ^ k.val % 2 = 0 → ((BitVec.ofInt 8 (b.val : Int)) ||| (BitVec.ofInt 8 ((2 ^ k.val : Nat) : Int))).toNat = b.val + 2 ^ k.val := by decide +kernel
theorem andNot_bit : ∀ (b : Fin 256) (k : Fin 8), b.val / 2 ^ k.val % 2 = 1 → ((BitVec.ofInt 8 (b.val : Int)) &&& ~~~ (BitVec.ofInt 8 ((2 ^ k.val : Nat) : Int))).toNat = b.val - 2 ^ k.val := by decide +kernel
/-- so many are taken -/
def cnt (T : List Bool) : Nat := T.count true
theorem cnt_set_true (T : List Bool) (i : Nat) (hi : i < T.length) (h : T[i] = false) : cnt (T.set i true) = cnt T + 1 := by
  unfold cnt; rw [List.count_set hi]; simp [h]
theorem cnt_set_false (T : List Bool) (i : Nat) (hi : i < T.length) (h : T[i] = true) : cnt (T.set i false) + 1 = cnt T := by
  unfold cnt
  have : 0 < List.count true T := List.count_pos_iff.2 (by rw [← h]; exact List.getElem_mem _)
  rw [List.count_set hi]; simp [h]; omega
theorem cnt_le (T : List Bool) : cnt T ≤ T.length := List.count_le_length
/-- the first that is free -/
def first (T : List Bool) : Nat := T.findIdx (fun b => !b)
theorem first_le (T : List Bool) : first T ≤ T.length := List.findIdx_le_length
theorem first_false (T : List Bool) (h : first T < T.length) : T[first T] = false := by
  have := List.findIdx_getElem (p := fun b => !b) (w := h)
  unfold first
  simpa using this
theorem first_before (T : List Bool) (i : Nat) (h : i < first T) (hi : i < T.length) : T[i] = true := by
  have := List.not_of_lt_findIdx h
  simpa using this
theorem bt_first (T : List Bool) (h : first T < 8 * (pk T).length) : bt T (first T / 8) (first T % 8) = false := by
  rcases Nat.lt_or_ge (first T) T.length with h1 | h1
  · rw [bt_of T _ h1, first_false T h1]
  · unfold bt
    rw [show 8 * (first T / 8) + first T % 8 = first T by omega, List.getD_eq_getElem?_getD, List.getElem?_eq_none h1]; rfl
theorem bt_before (T : List Bool) (i : Nat) (h : i < first T) : bt T (i / 8) (i % 8) = true := by
  have := first_le T
  rw [bt_of T i (by omega), first_before T i h (by omega)]
theorem sum8_all : ∀ a b c d e f g h : Bool, (sum8 a b c d e f g h == 255) = (a && b && c && d && e && f && g && h) := by decide
theorem byteN_full (T : List Bool) (j : Nat) (h : 8 * j + 7 < first T) : byteN T j = 255 := by
  have key : ∀ k, k < 8 → bt T j k = true := fun k hk => by
    have := bt_before T (8 * j + k) (by omega)
    rwa [show (8 * j + k) / 8 = j by omega, show (8 * j + k) % 8 = k by omega] at this
  have := sum8_all (bt T j 0) (bt T j 1) (bt T j 2) (bt T j 3) (bt T j 4) (bt T j 5) (bt T j 6) (bt T j 7)
  rw [key 0 (by omega), key 1 (by omega), key 2 (by omega), key 3 (by omega), key 4 (by omega), key 5 (by omega), key 6 (by omega), key 7 (by omega)] at this
  unfold byteN
  rw [key 0 (by omega), key 1 (by omega), key 2 (by omega), key 3 (by omega), key 4 (by omega), key 5 (by omega), key 6 (by omega), key 7 (by omega)]
  simpa using this
theorem byteN_not_full (T : List Bool) (j k : Nat) (hk : k < 8) (h : bt T j k = false) : byteN T j ≠ 255 := by
  intro he
  have := byteN_bit T j k hk
  rw [he, h] at this
  rcases lt8 hk with rfl | rfl | rfl | rfl | rfl | rfl | rfl | rfl <;> simp at this
/-- the table of trailing zeros, and of ones -/
def ntz (n : Nat) : Nat := if n = 0 then 8 else (List.range 8).find? (fun k => n / 2 ^ k % 2 == 1) |>.getD 8
theorem ntz_first : ∀ (b : Fin 256) (k : Fin 8), (∀ m : Fin 8, m.val < k.val → b.val / 2 ^ m.val % 2 = 1) → b.val / 2 ^ k.val % 2 = 0 → ntz (255 - b.val) = k.val := by decide +kernel
def ones (n : Nat) : Nat := (List.range 8).countP fun k => n / 2 ^ k % 2 == 1
theorem ones_sum8 : ∀ a b c d e f g h : Bool, ones (sum8 a b c d e f g h) = a.toNat + b.toNat + c.toNat + d.toNat + e.toNat + f.toNat + g.toNat + h.toNat := by decide +kernel
end Go.Free
