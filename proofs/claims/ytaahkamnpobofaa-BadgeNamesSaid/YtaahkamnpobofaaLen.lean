/- How many bits, and groups of seven, a number has; no condition. -/
import Derived.Test.YtaahkamnpobofaaAbF
namespace Go.Proofs.Ytaahkamnpobofaa
open Go.Ab
def len64 (u : Nat) : Nat := if u = 0 then 0 else u.log2 + 1
theorem len64_div (u k : Nat) (h : 2 ^ k ≤ u) : len64 u = k + len64 (u / 2 ^ k) := by
  have hp : 0 < 2 ^ k := Nat.two_pow_pos k
  have h1 : u / 2 ^ k ≠ 0 := by
    have := Nat.div_pos h hp; omega
  have h2 : u ≠ 0 := by omega
  simp only [len64, h1, h2, if_false]
  have : u.log2 = k + (u / 2 ^ k).log2 := by
    rw [Nat.log2_eq_iff h2]
    have h3 := (Nat.log2_eq_iff h1 (k := (u / 2 ^ k).log2)).1 rfl
    constructor
    · rw [Nat.pow_add]
      calc _ ≤ 2 ^ k * (u / 2 ^ k) := Nat.mul_le_mul_left _ h3.1
        _ ≤ u := Nat.mul_div_le _ _
    · rw [Nat.add_assoc, Nat.pow_add, Nat.mul_comm]
      exact (Nat.div_lt_iff_lt_mul hp).1 h3.2
  omega
def tab8 : ByteArray := ⟨((List.range 256).map fun i => UInt8.ofNat (len64 i)).toArray⟩
theorem tab8_get (i : Nat) (hi : i < 256) : tab8[i]? = some (UInt8.ofNat (len64 i)) := by
  have hs : tab8.size = 256 := by simp [tab8, ByteArray.size]
  rw [getElem?_pos tab8 i (by omega)]
  simp [tab8, ByteArray.getElem_eq_getElem_data]
theorem len64_small (i : Nat) (hi : i < 256) : len64 i ≤ 8 := by
  unfold len64; split
  · omega
  · have := (Nat.log2_lt (k := 8) (n := i) (by assumption)).2 (by omega); omega
theorem len64_le (u : Nat) (hu : u < 18446744073709551616) : len64 u ≤ 64 := by
  unfold len64; split
  · omega
  · have := (Nat.log2_lt (k := 64) (n := u) (by assumption)).2 (by omega); omega
set_option maxRecDepth 100000 in
theorem len64_ev (u : Nat) (h : Hp) (h1 : u < 18446744073709551616) : EvA Try.prog 115 [.int .u64 u] (fun r h' => r = .int .i64 (len64 u : Nat) ∧ h' = h) h := by
  refine EvA.body Try.func115 rfl (by kernel_rfl) (by simp) ?_
  apply Run.ok
  generalize hT : (Value.string _) = T
  have hT' : T = .string tab8 := by rw [← hT]; kernel_rfl
  clear hT; subst hT'
  have key : ∀ (v : Int) (m : Nat), 0 ≤ v → v < 256 → m ≤ 56 → len64 u = m + len64 v.toNat →
      IntKind.i64.wrap ((m : Int) + IntKind.i64.wrap ((len64 v.toNat : Int) % 256)) = (len64 u : Nat) := by
    intro v m h0 h1 h2 h3
    have := len64_small v.toNat (by omega)
    have h4 : ((len64 v.toNat : Nat) : Int) % 256 = len64 v.toNat := by omega
    rw [h4, wrap_i64 (a := ((len64 v.toNat : Nat) : Int)) (by omega) (by omega), wrap_i64 (by omega) (by omega), h3]; simp
  have key2 : ∀ (v m : Nat), 2 ^ m ≤ u → v = u / 2 ^ m → len64 u = m + len64 v := fun v m hm hv => hv ▸ len64_div u m hm
  simp
  refine branch_cases (fun c1 => ?_) (fun c1 => ?_) <;> simp at c1 ⊢ <;> refine branch_cases (fun c2 => ?_) (fun c2 => ?_) <;> simp at c2 ⊢ <;> refine branch_cases (fun c3 => ?_) (fun c3 => ?_) <;> simp at c3 ⊢
  all_goals rw [wrap_u8 (by omega) (by omega), if_pos (by omega), tab8_get _ (by omega)]
  all_goals simp
  · exact key _ 56 (by omega) (by omega) (by omega) (key2 _ 56 (by omega) (by omega))
  · exact key _ 48 (by omega) (by omega) (by omega) (key2 _ 48 (by omega) (by omega))
  · exact key _ 40 (by omega) (by omega) (by omega) (key2 _ 40 (by omega) (by omega))
  · exact key _ 32 (by omega) (by omega) (by omega) (key2 _ 32 (by omega) (by omega))
  · exact key _ 24 (by omega) (by omega) (by omega) (key2 _ 24 (by omega) (by omega))
  · exact key _ 16 (by omega) (by omega) (by omega) (key2 _ 16 (by omega) (by omega))
  · exact key _ 8 (by omega) (by omega) (by omega) (key2 _ 8 (by omega) (by omega))
  · have := key u 0 (by omega) (by omega) (by omega) (by simp)
    simpa using this
/-- the groups of seven bits of a number -/
def grps (u : Nat) : Nat := max 1 ((len64 u + 6) / 7)
theorem groups_ev (u : Nat) (h : Hp) (h1 : u < 18446744073709551616) : EvA Try.prog 121 [.int .u64 u] (fun r h' => r = .int .i64 (grps u : Nat) ∧ h' = h) h := by
  refine EvA.body Try.func121 rfl (by kernel_rfl) (by simp) ?_
  apply Run.ok
  simp
  refine after_call (len64_ev u h h1) ?_
  rintro r h' ⟨rfl, rfl⟩
  simp
  have hl := len64_le u h1
  rw [wrap_i64 (a := (len64 u : Int) + 7) (by omega) (by omega), wrap_i64 (a := (len64 u : Int) + 7 - 1) (by omega) (by omega), Int.tdiv_eq_ediv_of_nonneg (by omega), wrap_i64 (by omega) (by omega)]
  simp only [grps]
  omega
end Go.Proofs.Ytaahkamnpobofaa
