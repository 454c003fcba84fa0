/- code.number: what it answers; no condition. -/
import Derived.Test.YtaahkamnpobofaaLeb
import Derived.Test.YtaahkamnpobofaaAbF
namespace Go.Proofs.Ytaahkamnpobofaa
open Go.Ab

/-- a byte of a text -/
def bat (s : ByteArray) (n : Nat) : UInt8 := s.data.toList.getD n 0
theorem ba_get (s : ByteArray) (n : Nat) (hn : n < s.size) : s[n]? = some (bat s n) := by
  rw [getElem?_pos s n hn]
  have : n < s.data.size := hn
  simp [bat, ByteArray.getElem_eq_getElem_data, List.getD_eq_getElem?_getD, getElem?_pos s.data n this]
theorem bat_lt (s : ByteArray) (n : Nat) : (bat s n).toNat < 256 := (bat s n).toNat_lt
/-- a text's bytes from the place k on, n of them, as digits -/
def dig (s : ByteArray) (k n : Nat) : Nat := val ((s.data.toList.drop k).take n)
theorem dig_zero (s : ByteArray) (k : Nat) : dig s k 0 = 0 := by simp [dig, val]
theorem dig_succ (s : ByteArray) (k n : Nat) (hk : k < s.size) : dig s k (n + 1) = (bat s k).toNat % 128 + 128 * dig s (k + 1) n := by
  have h1 : k < s.data.toList.length := by simpa using hk
  simp only [dig]
  rw [List.drop_eq_getElem_cons h1, List.take_succ_cons]
  simp only [val, bat, List.getD_eq_getElem?_getD, List.getElem?_eq_getElem h1, Option.getD_some]
theorem dig_lt (s : ByteArray) (n : Nat) : ∀ k, dig s k n < 128 ^ n := by
  induction n with
  | zero => intro k; simp [dig_zero]
  | succ n ih =>
    intro k
    rcases Nat.lt_or_ge k s.size with h | h
    · rw [dig_succ s k n h, Nat.pow_succ]
      have := ih (k + 1); omega
    · have : dig s k (n + 1) = 0 := by
        have h1 : s.data.toList.length ≤ k := by simpa using h
        simp [dig, List.drop_of_length_le h1, val]
      rw [this]; exact Nat.pow_pos (by decide)
theorem dig_top (s : ByteArray) (m : Nat) : ∀ k, k + m < s.size → (bat s (k + m)).toNat ≤ 1 → dig s k (m + 1) < 2 * 128 ^ m := by
  induction m with
  | zero => intro k h1 h2; rw [dig_succ s k 0 h1, dig_zero]; simp at h2 ⊢; omega
  | succ m ih =>
    intro k h1 h2
    rw [dig_succ s k _ (by omega), Nat.pow_succ]
    have := ih (k + 1) (by omega) (by rw [show k + 1 + m = k + (m + 1) by omega]; exact h2)
    omega
theorem low7 : ∀ b : Fin 256, ((BitVec.ofInt 8 (b.val : Int)) &&& ~~~ (BitVec.ofInt 8 (128 : Int))).toNat = b.val % 128 := by decide +kernel
theorem bin_low7 {t : TypeId} {x y : Operand} (b : UInt8) : binA Try.prog .andNot t x y (.int .u8 (b.toNat : Nat)) (.int .u8 128) = some (.int .u8 ((b.toNat % 128 : Nat) : Int)) := by
  have := low7 ⟨b.toNat, b.toNat_lt⟩
  simp only at this
  rw [bin_andNot, bits_u8, this, wrap_u8 (by omega) (by omega)]
theorem or_low (a b : Nat) (ha : a < 144115188075855872) (hb : b < 128) : (BitVec.ofInt 64 ((a : Int) * 128) ||| BitVec.ofInt 64 (b : Int)).toNat = a * 128 + b := by
  have e1 : BitVec.ofInt 64 ((a : Int) * 128) = BitVec.ofNat 64 (a * 128) := by
    apply BitVec.eq_of_toNat_eq; simp [BitVec.toNat_ofInt] <;> omega
  have e2 : BitVec.ofInt 64 (b : Int) = BitVec.ofNat 64 b := by
    apply BitVec.eq_of_toNat_eq; simp [BitVec.toNat_ofInt] <;> omega
  rw [e1, e2, BitVec.toNat_or, BitVec.toNat_ofNat, BitVec.toNat_ofNat, Nat.mod_eq_of_lt (by omega), Nat.mod_eq_of_lt (by omega)]
  have := Nat.shiftLeft_add_eq_or_of_lt (i := 7) (b := b) (by omega) a
  rw [Nat.shiftLeft_eq] at this
  exact this.symm
theorem bin_or_low {t : TypeId} {x y : Operand} (a b : Nat) (ha : a < 144115188075855872) (hb : b < 128) :
    binA Try.prog .or t x y (.int .u64 (IntKind.u64.wrap ((a : Int) * 128))) (.int .u64 (IntKind.u64.wrap (b : Int))) = some (.int .u64 ((b + 128 * a : Nat) : Int)) := by
  rw [wrap_u64 (by omega) (by omega), wrap_u64 (by omega) (by omega), bin_or, bits_u64, or_low a b ha hb, wrap_u64 (by omega) (by omega)]
  congr 3; omega
theorem number_rest (s : ByteArray) (h' : Hp) (n : Nat) (c1 : n < s.size) (c2 : n < 10) (hb : ∀ m, m ≤ n + 1 → 1 ≤ m → dig s m (n + 1 - m) < 144115188075855872) (h64 : dig s 0 (n + 1) < 18446744073709551616)
    (hnum : num s.data.toList = if grps (dig s 0 (n + 1)) = n + 1 then (dig s 0 (n + 1), n + 1) else (0, 0)) {N : Nat} {c : Code} {Q : QA} (fr : Fr) (f0 : fr 0 = .string s) (f4 : fr 4 = .int .i64 n) (f5 : fr 5 = .int .u64 0) (f6 : fr 6 = .int .i64 n)
    (round : ∀ (m : Nat) (fr : Fr), m ≤ n + 1 → fr 0 = .string s → fr 4 = .int .i64 n → fr 5 = .int .u64 (dig s m (n + 1 - m) : Nat) → fr 6 = .int .i64 ((m : Int) - 1) →
      WpA Try.prog N c (roundQ (fun k fr h'' => k ≤ n + 1 ∧ fr 0 = .string s ∧ fr 4 = .int .i64 n ∧ fr 5 = .int .u64 (dig s k (n + 1 - k) : Nat) ∧ fr 6 = .int .i64 ((k : Int) - 1) ∧ h'' = h') m Q) fr h') :
    WpA Try.prog N (.loop c) Q fr h' := by
  refine WpA.loop (fun k fr h'' => k ≤ n + 1 ∧ fr 0 = .string s ∧ fr 4 = .int .i64 n ∧ fr 5 = .int .u64 (dig s k (n + 1 - k) : Nat) ∧ fr 6 = .int .i64 ((k : Int) - 1) ∧ h'' = h') (k := n + 1) ⟨by omega, f0, f4, ?_, ?_, rfl⟩ ?_
  · rw [f5, Nat.sub_self, dig_zero]; rfl
  · rw [f6]; congr 1; omega
  · rintro k fr h'' ⟨a1, a2, a3, a4, a5, rfl⟩
    exact round k fr a1 a2 a3 a4 a5
theorem number_ev (s : ByteArray) (h : Hp) : EvA Try.prog 118 [.string s]
    (fun r h' => r = .tuple #[.int .u64 ((num s.data.toList).1 : Nat), .int .i64 ((num s.data.toList).2 : Nat)] ∧ h' = h) h := by
  have hsz : s.data.toList.length = s.size := by simp
  refine EvA.body Try.func118 rfl (by kernel_rfl) (by simp) ?_
  apply Run.ok
  simp
  refine WpA.loop (fun k fr h' => ∃ n : Nat, k = 10 - n ∧ n ≤ s.size ∧ n ≤ 10 ∧ fr 0 = .string s ∧ fr 4 = .int .i64 n ∧ h' = h ∧ ∀ j, j < n → 128 ≤ (bat s j).toNat) (k := 10) ⟨0, rfl, by omega, by omega, by simp, by simp, rfl, by omega⟩ ?_
  rintro k fr h' ⟨n, rfl, h1, h2, f0, f4, rfl, ha⟩
  apply Run.ok
  simp [f0, f4]
  refine wanted_cases (fun c => ?_) (fun c => ?_)
  · have c1 : n < s.size := by simp at c; omega
    have c2 : n < 10 := by simp at c; omega
    simp [c, f0, f4, ba_get s n c1]
    refine branch_cases (fun d => ?_) (fun d => ?_)
    · simp [f0, f4]
      refine ⟨10 - (n + 1), by omega, n + 1, rfl, by omega, by omega, ?_, ?_⟩
      · exact wrap_i64 (by omega) (by omega)
      · intro j hj
        rcases Nat.lt_or_ge j n with hj' | hj'
        · exact ha j hj'
        · have : j = n := by omega
          subst this
          simp at d; omega
    · simp at d
      have e1 : ¬ (s.size ≤ n) := by omega
      have e2 : ((n : Int) == 10) = false := by simp; omega
      have hbt : (bat s n).toNat < 128 := by omega
      have hval : dig s 0 (n + 1) = val (s.data.toList.take (n + 1)) := by simp [dig]
      by_cases hz : n = 9 ∧ 1 < (bat s n).toNat
      · obtain ⟨rfl, hz1⟩ := hz
        have hnum := num_none (num_top (s := s.data.toList) (by omega) ha hbt hz1)
        have e6 : decide (1 < ((bat s 9).toNat : Int)) = true := by simp; omega
        have e7 : ¬ ((s.size : Int) ≤ 9) := by omega
        simp [f0, f4, e7, e6, ba_get s 9 c1, hnum]
      · have hb : ∀ m, m ≤ n + 1 → 1 ≤ m → dig s m (n + 1 - m) < 144115188075855872 := by
          intro m hm h1m
          rcases Nat.lt_or_ge n 9 with h9 | h9
          · refine Nat.lt_of_lt_of_le (dig_lt s _ m) ?_
            calc 128 ^ (n + 1 - m) ≤ 128 ^ 8 := Nat.pow_le_pow_right (by decide) (by omega)
              _ ≤ _ := by decide
          · have h9' : n = 9 := by omega
            subst h9'
            rcases Nat.lt_or_ge m 10 with h10 | h10
            · have := dig_top s (9 - m) m (by omega) (by rw [show m + (9 - m) = 9 by omega]; omega)
              rw [show 9 - m + 1 = 9 + 1 - m by omega] at this
              have h8 : 128 ^ (9 - m) ≤ 128 ^ 8 := Nat.pow_le_pow_right (by decide) (by omega)
              have h8' : (128 : Nat) ^ 8 = 72057594037927936 := by decide
              omega
            · rw [show 9 + 1 - m = 0 by omega, dig_zero]; decide
        have h64 : dig s 0 (n + 1) < 18446744073709551616 := by
          rw [dig_succ s 0 n (by omega)]
          have := hb 1 (by omega) (by omega)
          rw [show n + 1 - 1 = n by omega] at this
          rw [Nat.zero_add]; omega
        have hnum := num_is (s := s.data.toList) c2 (by omega) ha hbt (by rw [← hval]; exact h64)
        rw [← hval] at hnum
        have e5 : ((n : Int) == 9) = false ∨ (((n : Int) == 9) = true ∧ (decide (1 < ((bat s n).toNat : Int))) = false) := by simp; omega
        rcases e5 with e5 | ⟨e5, e6⟩
        · simp [f0, f4, e1, e2, e5]
          refine number_rest s h' n c1 c2 hb h64 hnum _ (by simp [f0]) (by simp [f4]) (by simp) (by simp [f4]) ?_
          clear f0 f4
          intro m fr hm f0 f4 f5 f6
          apply Run.ok
          simp [f0, f4, f5, f6]
          refine branch_cases (fun d2 => ?_) (fun d2 => ?_)
          · have hm1 : 1 ≤ m := by simp at d2; omega
            have hidx : ((m : Int) - 1).toNat = m - 1 := by omega
            have hm2 : (1 : Int) ≤ m := by omega
            have w1 := hb m hm hm1
            have w2 := dig_succ s (m - 1) (n + 1 - m) (by omega)
            rw [show m - 1 + 1 = m by omega, show n + 1 - m + 1 = n + 1 - (m - 1) by omega] at w2
            have w3 : ((bat s (m - 1)).toNat : Int) % 128 = (((bat s (m - 1)).toNat % 128 : Nat) : Int) := by omega
            simp [f0, f4, f5, f6, hidx, hm2, ba_get s (m - 1) (by omega), bin_low7]
            rw [w3, bin_or_low _ _ w1 (by omega), ← w2]
            simp [f0, f4, f5, f6]
            refine ⟨m - 1, by omega, by omega, rfl, ?_⟩
            rw [wrap_i64 (by omega) (by omega)]; omega
          · have hm0 : m = 0 := by simp at d2; omega
            subst hm0
            simp [f0, f4, f5, f6]
            refine after_call (groups_ev _ h' (by simpa using h64)) ?_
            rintro r h2 ⟨rfl, rfl⟩
            simp [f0, f4, f5, f6]
            rw [wrap_i64 (by omega) (by omega)]
            refine branch_cases (fun d3 => ?_) (fun d3 => ?_)
            · have hne : ¬ grps (dig s 0 (n + 1)) = n + 1 := by simp at d3; omega
              simp [hnum, hne]
            · have heq : grps (dig s 0 (n + 1)) = n + 1 := by simp at d3; omega
              simp [hnum, heq, f4, f5]
              exact wrap_i64 (by omega) (by omega)
        · simp [f0, f4, e1, e2, e5, e6, ba_get s n c1]
          refine number_rest s h' n c1 c2 hb h64 hnum _ (by simp [f0]) (by simp [f4]) (by simp) (by simp [f4]) ?_
          clear f0 f4
          intro m fr hm f0 f4 f5 f6
          apply Run.ok
          simp [f0, f4, f5, f6]
          refine branch_cases (fun d2 => ?_) (fun d2 => ?_)
          · have hm1 : 1 ≤ m := by simp at d2; omega
            have hidx : ((m : Int) - 1).toNat = m - 1 := by omega
            have hm2 : (1 : Int) ≤ m := by omega
            have w1 := hb m hm hm1
            have w2 := dig_succ s (m - 1) (n + 1 - m) (by omega)
            rw [show m - 1 + 1 = m by omega, show n + 1 - m + 1 = n + 1 - (m - 1) by omega] at w2
            have w3 : ((bat s (m - 1)).toNat : Int) % 128 = (((bat s (m - 1)).toNat % 128 : Nat) : Int) := by omega
            simp [f0, f4, f5, f6, hidx, hm2, ba_get s (m - 1) (by omega), bin_low7]
            rw [w3, bin_or_low _ _ w1 (by omega), ← w2]
            simp [f0, f4, f5, f6]
            refine ⟨m - 1, by omega, by omega, rfl, ?_⟩
            rw [wrap_i64 (by omega) (by omega)]; omega
          · have hm0 : m = 0 := by simp at d2; omega
            subst hm0
            simp [f0, f4, f5, f6]
            refine after_call (groups_ev _ h' (by simpa using h64)) ?_
            rintro r h2 ⟨rfl, rfl⟩
            simp [f0, f4, f5, f6]
            rw [wrap_i64 (by omega) (by omega)]
            refine branch_cases (fun d3 => ?_) (fun d3 => ?_)
            · have hne : ¬ grps (dig s 0 (n + 1)) = n + 1 := by simp at d3; omega
              simp [hnum, hne]
            · have heq : grps (dig s 0 (n + 1)) = n + 1 := by simp at d3; omega
              simp [hnum, heq, f4, f5]
              exact wrap_i64 (by omega) (by omega)
  · have e0 : s.size ≤ n ∨ n = 10 := by simp at c; omega
    have hnum := num_none (num_long (s := s.data.toList) h2 ha (by omega))
    by_cases e1 : s.size ≤ n
    · simp [c, f0, f4, e1, hnum]
    · have e2 : ((n : Int) == 10) = true := by simp; omega
      simp [c, f0, f4, e1, e2, hnum]
end Go.Proofs.Ytaahkamnpobofaa
