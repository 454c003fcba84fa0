/- The document's free map: Bytes; no condition. -/
import Derived.Test.YtklhioaokogpdaaRef05B
namespace Go.Proofs.Ytklhioaokogpdaa
open Go.Ab Go.Free
set_option maxHeartbeats 1000000 in
theorem rbytes_ev {h : Hp} {k b : Nat} {v : Value} {T : List Bool} (m : RM h k b v T) :
    EvA Try.prog 46 [.pointer (some ⟨b, 0, none⟩)] (fun r h' => BAcc h.length h' r (enc T.length ++ pk T) ∧ Same h h') h := by
  refine EvA.body Try.func46 rfl (by kernel_rfl) (by simp) ?_
  apply Run.ok
  have hlen := m.len
  have l0 := m.l0
  have tl := m.tl
  have hpl := pk_length T
  simp [l0, tl, -load_ptr]
  refine after_call (rcount_lay_ev (.slice none 0 0) [] (T.length : Nat) h Row.nil (by simp)) ?_
  rintro r h1 ⟨A1, s1⟩
  have hcb : cntB (T.length : Nat) = enc T.length := by
    unfold cntB; rw [if_neg (by omega)]; rfl
  have hen : (enc T.length).length ≤ 10 := by rw [enc_length]; exact grps_le _ (by omega)
  rw [List.nil_append, hcb] at A1
  simp
  refine WpA.loop (fun z fr g => ∃ i a, z = (pk T).length - i ∧ i ≤ (pk T).length ∧ fr 0 = .pointer (some ⟨b, 0, none⟩) ∧ fr 3 = a ∧ fr 4 = .int .i64 (i : Nat) ∧ Same h g ∧ BAcc h.length g a (enc T.length ++ (pk T).take i))
    (k := (pk T).length) ⟨0, r, by simp, by omega, by simp, by simp, by simp, s1, by simpa using A1⟩ ?_
  rintro z fr g ⟨i, a, rfl, hi, f0, f3, f4, sm, A⟩
  apply Run.ok
  have mg := m.same sm
  have l0 := mg.l0
  have tl := mg.tl
  obtain ⟨q, hq⟩ : ∃ q : Nat, q = (pk T).length := ⟨_, rfl⟩
  rw [← hq] at hi ⊢
  have w7 : IntKind.i64.wrap ((T.length : Int) + 7) = (T.length : Int) + 7 := wrap_i64 (by omega) (by omega)
  have hqi : ((T.length : Int) + 7).tdiv 8 = (q : Int) := by rw [Int.tdiv_eq_ediv_of_nonneg (by omega)]; omega
  have wq : IntKind.i64.wrap (q : Int) = (q : Int) := wrap_i64 (by omega) (by omega)
  by_cases c : i < q
  · have c' : (i : Int) < q := by omega
    have w1 : IntKind.i64.wrap ((i : Int) + 1) = (i : Int) + 1 := wrap_i64 (by omega) (by omega)
    obtain ⟨i8, hi8⟩ : ∃ i8 : Nat, i8 = 8 * i := ⟨_, rfl⟩
    have w8 : IntKind.i64.wrap (8 * (i : Int)) = (i8 : Int) := by rw [wrap_i64 (by omega) (by omega)]; omega
    have w88 : IntKind.i64.wrap ((i8 : Int) + 8) = (i8 : Int) + 8 := wrap_i64 (by omega) (by omega)
    simp [f0, f3, f4, l0, tl, w7, hqi, wq, c', w8, -load_ptr]
    refine WpA.loop (fun z fr g2 => ∃ mm kk p2 : Nat, z = 8 - mm ∧ mm ≤ 8 ∧ kk = i8 + mm ∧ p2 = 2 ^ mm ∧ fr 0 = .pointer (some ⟨b, 0, none⟩) ∧ fr 3 = a ∧ fr 4 = .int .i64 (i : Nat) ∧ fr 5 = .int .i64 (psum T i mm : Nat) ∧ fr 6 = .int .i64 (p2 : Nat) ∧ fr 7 = .int .i64 (kk : Nat) ∧ g2 = g ∧ kk ≤ T.length)
      (k := 8) ⟨0, i8, 1, by simp, by omega, by simp, by simp, by simp [f0], by simp [f3], by simp [f4], by simp [psum], by simp, by simp, rfl, by omega⟩ ?_
    rintro z fr g2 ⟨mm, kk, p2, rfl, hmm, hkk, hp2, f0, f3, f4, f5, f6, f7, rfl, hkl⟩
    apply Run.ok
    by_cases cc : mm < 8 ∧ kk < T.length
    · have c1 : (kk : Int) < (i8 : Int) + 8 := by omega
      have c2 : kk < T.length := cc.2
      have ia := mg.ia c2
      have ld := mg.ld c2
      have hp3 : p2 ≤ 128 := by
        rw [hp2]
        have : 2 ^ mm ≤ 2 ^ 7 := Nat.pow_le_pow_right (by omega) (by omega)
        simpa using this
      have hps := psum_lt T i mm
      have hbt : bt T i mm = T[kk] := by
        unfold bt; rw [List.getD_eq_getElem?_getD, show 8 * i + mm = kk by omega, List.getElem?_eq_getElem c2]; rfl
      have hpn : psum T i (mm + 1) = psum T i mm + T[kk].toNat * p2 := by rw [psum, hbt, ← hp2]
      rw [← hp2] at hps
      obtain ⟨s0, hs0⟩ : ∃ s0 : Nat, s0 = psum T i mm := ⟨_, rfl⟩
      rw [← hs0] at hps hpn f5
      have wk : IntKind.i64.wrap ((kk : Int) + 1) = (kk : Int) + 1 := wrap_i64 (by omega) (by omega)
      have wp : IntKind.i64.wrap ((p2 : Int) * 2) = (p2 : Int) * 2 := wrap_i64 (by omega) (by omega)
      have wsp : IntKind.i64.wrap ((s0 : Int) + (p2 : Int)) = (s0 : Int) + (p2 : Int) := wrap_i64 (by omega) (by omega)
      cases hT : T[kk] with
      | true =>
        rw [hT] at ld hpn
        simp [f0, f3, f4, f5, f6, f7, l0, tl, w8, w88, c1, c2, ia, ld, wk, wp, wsp, -load_ptr, -roundQ_normal, ↓rq]
        refine stop_intro ⟨8 - (mm + 1), by omega, mm + 1, kk + 1, p2 * 2, rfl, by omega, by omega, by rw [hp2, Nat.pow_succ], by simp [f0], by simp [f3], by simp [f4], by simp [hpn], by simp, by simp, rfl, by omega⟩
      | false =>
        rw [hT] at ld hpn
        simp at hpn
        simp [f0, f3, f4, f5, f6, f7, l0, tl, w8, w88, c1, c2, ia, ld, wk, wp, -load_ptr, -roundQ_normal, ↓rq]
        refine stop_intro ⟨8 - (mm + 1), by omega, mm + 1, kk + 1, p2 * 2, rfl, by omega, by omega, by rw [hp2, Nat.pow_succ], by simp [f0], by simp [f3], by simp [f4], by simp [f5, hpn], by simp, by simp, rfl, by omega⟩
    · have hfin : psum T i mm = byteN T i := by
        rw [← psum_8]
        rcases Nat.lt_or_ge mm 8 with h1 | h1
        · have := psum_end T i mm (by omega) (8 - mm)
          rw [show mm + (8 - mm) = 8 by omega] at this; exact this.symm
        · rw [show mm = 8 by omega]
      rw [hfin] at f5
      have hbl := byteN_lt T i
      have hiq : i < (pk T).length := by omega
      have hpg := pk_get T i hiq
      have wu : IntKind.u8.wrap (byteN T i : Int) = (((pk T)[i]).toNat : Nat) := by rw [wrap_u8 (by omega) (by omega), pk_nat]
      obtain ⟨v3, h3, e3, a3, sm3⟩ := pushB (pk T)[i] (((pk T)[i]).toNat : Nat) rfl A sm (by simp; omega)
      have htk : (pk T).take (i + 1) = (pk T).take i ++ [(pk T)[i]] := by rw [List.take_add_one, List.getElem?_eq_getElem hiq]; rfl
      generalize (pk T)[i] = x at wu e3 a3 htk
      have hbrk : ¬ (kk : Int) < (i8 : Int) + 8 ∨ ((kk : Int) < (i8 : Int) + 8 ∧ ¬ kk < T.length) := by omega
      rcases hbrk with c1 | ⟨c1, c2⟩
      · simp [f0, f3, f4, f5, f6, f7, l0, tl, w8, w88, c1, wu, zeros, capO, spl, e3, w1, -load_ptr, -roundQ_normal, ↓rq]
        refine stop_intro ⟨q - (i + 1), by omega, i + 1, v3, by omega, by omega, by simp [f0], by simp, by simp, sm3, by rw [htk, ← List.append_assoc]; exact a3⟩
      · simp [f0, f3, f4, f5, f6, f7, l0, tl, w8, w88, c1, c2, wu, zeros, capO, spl, e3, w1, -load_ptr, -roundQ_normal, ↓rq]
        refine stop_intro ⟨q - (i + 1), by omega, i + 1, v3, by omega, by omega, by simp [f0], by simp, by simp, sm3, by rw [htk, ← List.append_assoc]; exact a3⟩
  · have c' : ¬ (i : Int) < q := by omega
    rw [List.take_of_length_le (by omega)] at A
    simp [f0, f3, f4, l0, tl, w7, hqi, wq, c', -load_ptr]
    exact ⟨A, sm⟩
end Go.Proofs.Ytklhioaokogpdaa
