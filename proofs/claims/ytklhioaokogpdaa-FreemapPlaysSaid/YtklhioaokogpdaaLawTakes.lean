/- The law FreemapTakes: called, it comes to true; no condition. -/
import Derived.Test.YtklhioaokogpdaaFreeE
import Derived.Test.YtklhioaokogpdaaWorks05
namespace Go.Proofs.Ytklhioaokogpdaa
open Go.Ab Go.Free
theorem FM.lo {h : Hp} {k b : Nat} {v : Value} {T : List Bool} (m : FM h k b v T) {j : Nat} (hj : own b v T j) : k ≤ j := by
  rcases hj with rfl | ⟨rfl, h0⟩
  · exact m.above
  · exact (m.bits.above h0).1
theorem FM.hi {h : Hp} {k b : Nat} {v : Value} {T : List Bool} (m : FM h k b v T) {j : Nat} (hj : own b v T j) : j < h.length := by
  rcases hj with rfl | ⟨rfl, h0⟩
  · exact hp_lt m.at_
  · exact (m.bits.above h0).2
theorem FM.since {h0 h h' : Hp} {b : Nat} {v : Value} {T : List Bool} (m : FM h h0.length b v T) (s : Same h0 h) (u : Upd (own b v T) h h') : Same h0 h' :=
  Upd.trans s u fun j hj hin => by have := m.lo hin; omega
theorem own_len {b : Nat} {v : Value} {T T' : List Bool} (hl : T'.length = T.length) : own b v T' = own b v T := by
  funext j; unfold own; rw [pk_length, pk_length, hl]
theorem claim_len (T : List Bool) (i : Int) : (claimT T i).2.length = T.length := by
  unfold claimT; split
  · split <;> simp
  · rfl
theorem drop_len (T : List Bool) (i : Int) : (dropT T i).2.length = T.length := by
  unfold dropT; split
  · split <;> simp
  · rfl
theorem cnt_all (T : List Bool) (h : cnt T = T.length) : ∀ i (hi : i < T.length), T[i] = true := by
  unfold cnt at h
  intro i hi
  have := List.count_eq_length.1 h T[i] (List.getElem_mem _)
  exact this.symm
theorem first_all (T : List Bool) (h : cnt T = T.length) : first T = T.length := by
  rcases Nat.lt_or_ge (first T) T.length with h1 | h1
  · have := first_false T h1
    rw [cnt_all T h _ h1] at this; simp at this
  · have := first_le T; omega
theorem first_some (T : List Bool) (h : cnt T < T.length) : first T < T.length := by
  rcases Nat.lt_or_ge (first T) T.length with h1 | h1
  · exact h1
  · exfalso
    have : cnt T = T.length := by
      unfold cnt
      rw [List.count_eq_length]
      intro x hx
      obtain ⟨i, hi, rfl⟩ := List.mem_iff_getElem.1 hx
      exact (first_before T i (by omega) hi).symm
    omega
theorem idxs_cnt (T : List Bool) : (idxs T T.length).length = cnt T := by
  have key : ∀ n, n ≤ T.length → (idxs T n).length = (T.take n).count true := by
    intro n
    induction n with
    | zero => intro _; simp [idxs]
    | succ n ih =>
      intro hn
      have c : n < T.length := by omega
      rw [idxs_succ, List.take_add_one, List.getElem?_eq_getElem c, List.count_append]
      have hg : T.getD n false = T[n] := by simp [List.getD_eq_getElem?_getD, c]
      rw [hg]
      cases hT : T[n] <;> simp [ih (by omega)]
  rw [key _ (Nat.le_refl _), List.take_length]; rfl
set_option maxHeartbeats 1000000 in
theorem takes_ev {h : Hp} {w : Value} {l : List Int} (n0 : Int) (hn : -9223372036854775808 ≤ n0 ∧ n0 ≤ 9223372036854775807) (hw : Row h 1 w l.length (l.map fun x => .int .i64 x)) (hl : l.length ≤ 140737488351232) :
    EvA Try.prog 4 [.int .i64 n0, w] (fun r _ => r = .bool true) h := by
  refine EvA.body Try.func4 rfl (by kernel_rfl) (by simp) ?_
  apply Run.ok
  have hlen := hw.len (P := Try.prog) (t := 35) (e := 3) (by simp)
  simp
  refine after_call (works05_ev _) ?_
  rintro r h' ⟨rfl, rfl⟩
  by_cases c0 : 500 < l.length
  · have c0' : (500 : Int) < l.length := by omega
    simp [hlen, c0']
    refine after_call (works05_ev _) ?_
    rintro r h' ⟨rfl, rfl⟩
    simp
  · have c0' : ¬ (500 : Int) < l.length := by omega
    have hau : IntKind.u64.wrap n0 = n0 % 18446744073709551616 := wrap_u64_mod n0
    obtain ⟨n, hnn⟩ : ∃ n : Nat, (n0 % 18446744073709551616).tmod 2001 = (n : Nat) := ⟨((n0 % 18446744073709551616).tmod 2001).toNat, by
      have : 0 ≤ (n0 % 18446744073709551616).tmod 2001 := Int.tmod_nonneg _ (by omega)
      omega⟩
    have hn2 : n < 2001 := by
      have : (n0 % 18446744073709551616).tmod 2001 < 2001 := Int.tmod_lt_of_pos _ (by omega)
      omega
    have wn : IntKind.i64.wrap (n : Int) = (n : Int) := wrap_i64 (by omega) (by omega)
    simp [hlen, c0', hau, hnn, wn]
    refine after_call (new_ev (n : Int) _) ?_
    rintro r h1 ⟨sm1, hq⟩
    rw [if_pos (by omega)] at hq
    obtain ⟨b, v, rfl, m1⟩ := hq
    simp only [Int.toNat_natCast] at m1
    simp
    refine WpA.loop (fun k fr g => ∃ i T, k = l.length - i ∧ i ≤ l.length ∧ fr 0 = .int .i64 (n : Nat) ∧ fr 1 = w ∧ fr 5 = .pointer (some ⟨b, 0, none⟩) ∧ fr 7 = .int .i64 (i : Nat) ∧ Same h' g ∧ List.length T = n ∧ FM g h'.length b v T)
      (k := l.length) ⟨0, _, by simp, by omega, by simp, by simp, by simp, by simp, sm1, by simp, m1⟩ ?_
    rintro k fr g ⟨i, T, rfl, hi, f0, f1, f5, f7, sm, hT, m⟩
    apply Run.ok
    have hwg := hw.same sm
    have hlg := hwg.len (P := Try.prog) (t := 35) (e := 3) (by simp)
    by_cases c : i < l.length
    · have c' : (i : Int) < l.length := by omega
      have w1 : IntKind.i64.wrap ((i : Int) + 1) = (i : Int) + 1 := wrap_i64 (by omega) (by omega)
      by_cases cn : 0 < n
      · have ia := Row.ia1 (P := Try.prog) (t := 35) (e := 3) hwg (by simp) (by simp) c .i64
        have ld := Row.ld1 (P := Try.prog) (f := 3) hwg (by simp) c
        rw [List.getElem?_map, List.getElem?_eq_getElem c] at ld
        simp only [Option.map_some] at ld
        generalize l[i] = x at ld
        have hxu : IntKind.u64.wrap x = x % 18446744073709551616 := wrap_u64_mod x
        have hnu : IntKind.u64.wrap (n : Int) = (n : Int) := wrap_u64 (by omega) (by omega)
        have hn0 : ¬ (n = 0) := by omega
        generalize hy : IntKind.i64.wrap ((x % 18446744073709551616).tmod (n : Int)) = y
        simp [f0, f1, f5, f7, hlg, c', cn, ia, ld, hxu, hnu, hn0, hy, -load_ptr]
        refine after_call (claim_ev y m) ?_
        rintro r g2 ⟨rfl, m2, u2⟩
        simp [f7, w1, -roundQ_normal, ↓rq]
        refine stop_intro ⟨l.length - (i + 1), by omega, i + 1, _, rfl, by omega, by simp [f0], by simp [f1], by simp [f5], by simp, m.since sm u2, by rw [claim_len]; exact hT, m2⟩
      · have hn0 : n = 0 := by omega
        simp [f0, f1, f5, f7, hlg, c', cn, w1, -roundQ_normal, ↓rq]
        refine stop_intro ⟨l.length - (i + 1), by omega, i + 1, T, rfl, by omega, by simp [f0], by simp [f1], by simp [f5], by simp, sm, hT, m⟩
    · have c' : ¬ (i : Int) < l.length := by omega
      simp [f0, f1, f5, f7, hlg, c']
      refine after_call (copy_ev m) ?_
      rintro r g2 ⟨sm2, b', v', rfl, w2⟩
      have hcl := cnt_le T
      have hTl := m.len
      simp
      have m2 := m.upd sm2 (fun _ _ h => h)
      refine WpA.loop (fun k fr g3 => ∃ (i : Nat) (last : Int) (U : List Bool), k = n - cnt T - i ∧ i + cnt T ≤ n ∧ fr 0 = .int .i64 (n : Nat) ∧ fr 5 = .pointer (some ⟨b, 0, none⟩) ∧ fr 8 = .pointer (some ⟨b', 0, none⟩) ∧ fr 9 = .int .i64 last ∧ fr 10 = .int .i64 (i : Nat) ∧
          U.length = n ∧ FM g3 h'.length b v U ∧ FM g3 g.length b' v' T ∧ -1 ≤ last ∧ last < n ∧ cnt U = cnt T + i ∧ (∀ (p : Nat) (hp : p < U.length), (p : Int) ≤ last → U[p] = true) ∧ (∀ p : Nat, last < p → U[p]? = T[p]?) ∧ (∀ j, own b v T j → j < g.length))
        (k := n - cnt T) ⟨0, -1, T, by simp, by omega, by simp [f0], by simp [f5], by simp, by simp, by simp, hT, m2, w2, by omega, by omega, by simp, fun p hp h => by omega, fun p _ => rfl, fun j hj => m.hi hj⟩ ?_
      rintro k fr g3 ⟨i, last, U, rfl, hi2, f0, f5, f8, f9, f10, hU, mU, mT, hl0, hl1, hcU, hup, hdn, hown⟩
      apply Run.ok
      simp [f0, f5, f8, f9, f10]
      refine after_call (list_ev mT) ?_
      rintro r g4 ⟨ha4, sm4⟩
      have hl4 := ha4.row.len (P := Try.prog) (t := 35) (e := 3) (by simp)
      rw [idxs_cnt] at hl4
      have ws : IntKind.i64.wrap ((n : Int) - cnt T) = (n : Int) - cnt T := wrap_i64 (by omega) (by omega)
      have mU4 := mU.upd sm4 (fun _ _ h => h)
      have mT4 := mT.upd sm4 (fun _ _ h => h)
      have how : own b v U = own b v T := own_len (by rw [hU, hT])
      by_cases c2 : (i : Int) < (n : Int) - cnt T
      · have w1 : IntKind.i64.wrap ((i : Int) + 1) = (i : Int) + 1 := wrap_i64 (by omega) (by omega)
        simp [f0, f5, f8, f9, f10, hl4, ws, c2]
        refine after_call (ftake_ev mU4) ?_
        rintro r g5 ⟨rfl, m5, u5⟩
        have hfs := first_some U (by omega)
        have hff := first_false U hfs
        have hke : takeT U = (((first U : Nat) : Int), 0, U.set (first U) true) := by simp [takeT, hfs]
        rw [hke] at m5 ⊢
        have hgt : last < (first U : Nat) := by
          rcases Decidable.em (last < ((first U : Nat) : Int)) with h1 | h1
          · exact h1
          · have := hup (first U) hfs (by omega)
            rw [hff] at this; simp at this
        have hgt' : ¬ ((first U : Nat) : Int) ≤ last := by omega
        simp [f9, hgt', f8]
        have mT5 := mT4.upd u5 fun j hj hin => by
          rw [how] at hin
          have h1 := hown j hin
          have h2 := mT4.lo hj
          omega
        refine after_call (taken_ev ((first U : Nat) : Int) mT5) ?_
        rintro r g6 ⟨rfl, rfl⟩
        have hft : first U < T.length := by omega
        have hTf : T[first U] = false := by
          have := hdn (first U) hgt
          rw [List.getElem?_eq_getElem hfs, List.getElem?_eq_getElem hft, hff] at this
          simpa using this.symm
        rw [tk_nat T _ hft, hTf]
        simp [f0, f5, f8, f9, f10, w1, -roundQ_normal, ↓rq]
        refine stop_intro ⟨n - cnt T - (i + 1), by omega, i + 1, ((first U : Nat) : Int), U.set (first U) true, rfl, by omega, by simp [f0], by simp [f5], by simp [f8], by simp, by simp, by simpa using hU, m5, mT5, by omega, by omega, ?_, ?_, ?_, hown⟩
        · rw [cnt_set_true U _ hfs hff, hcU]; omega
        · intro p hp hple
          rw [List.getElem_set]
          split
          · rfl
          · exact first_before U p (by omega) (by simpa using hp)
        · intro p hp
          rw [List.getElem?_set_ne (by omega)]
          exact hdn p (by omega)
      · simp [f0, f5, f8, f9, f10, hl4, ws, c2]
        have hall : cnt U = U.length := by omega
        refine after_call (ftake_ev mU4) ?_
        rintro r g5 ⟨rfl, m5, u5⟩
        have hke : takeT U = (0, 3, U) := by simp [takeT, first_all U hall]
        rw [hke] at m5 ⊢
        simp [f5]
        refine after_call (free_ev m5) ?_
        rintro r g6 ⟨rfl, rfl⟩
        have h00 : ((U.length : Int) - cnt U == 0) = true := by simp; omega
        simp [h00, f5]
        refine after_call (list_ev m5) ?_
        rintro r g7 ⟨ha7, sm7⟩
        have hl7 := ha7.row.len (P := Try.prog) (t := 35) (e := 3) (by simp)
        rw [idxs_cnt, hall, hU] at hl7
        simp [hl7, f0]
theorem freemapTakes_ev (h : Hp) (vs : List Value) (dts : List Dt) (hr : RepAll Try.prog h 6 [3, 35] vs dts) : EvA Try.prog 4 vs (fun r _ => r = .bool true) h := by
  obtain ⟨a, vs, d, ds, rfl, rfl, h1, hr⟩ := hr.cons
  obtain ⟨b, vs, e, ds, rfl, rfl, h2, hr⟩ := hr.cons
  rw [hr.nil]
  obtain ⟨n, rfl, n1, n2⟩ := h1.int (q := .i64) (by simp)
  obtain ⟨l, l1, l2, l3⟩ := h2.ints (q := .i64) (e := 3) (by simp) (by simp) (by kernel_rfl)
  exact takes_ev n ⟨n1, n2⟩ (l1.row (by simp)) l2
end Go.Proofs.Ytklhioaokogpdaa
