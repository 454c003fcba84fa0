/- The law BadgeHeard: called, it comes to true; no condition. -/
import Derived.Test.YtaahkamnpobofaaWorks26
namespace Go.Proofs.Ytaahkamnpobofaa
open Go.Ab
theorem u64nat (n : Int) : ∃ q : Nat, IntKind.u64.wrap n = (q : Int) ∧ q < 18446744073709551616 := by
  have h0 : IntKind.u64.wrap n = n % 18446744073709551616 := by
    simp [IntKind.wrap, IntKind.bits, IntKind.signed]
  rw [h0]
  exact ⟨(n % 18446744073709551616).toNat, by omega, by omega⟩
theorem tmod_nat (q m : Nat) : ((q : Nat) : Int).tmod (m : Nat) = ((q % m : Nat) : Int) := by
  rw [Int.tmod_eq_emod_of_nonneg (by omega)]; simp
set_option maxHeartbeats 8000000 in
set_option maxRecDepth 10000 in
theorem heard26_ev {h : Hp} {v : Value} {l : List Int} (lease0 behind0 : Int) (hv : Row h 1 v l.length (l.map fun n => .int .i64 n)) :
    EvA Try.prog 3 [.int .i64 lease0, v, .int .i64 behind0] (fun r _ => r = .bool true) h := by
  refine EvA.body Try.func3 rfl (by kernel_rfl) (by simp) ?_
  apply Run.ok
  have wl := Row.len (P := Try.prog) (t := 22) (e := 3) hv (by simp)
  simp
  refine after_call (works26_ev _) ?_
  rintro r g ⟨rfl, rfl⟩
  by_cases c0 : 200 < l.length
  · have c0' : (200 : Int) < l.length := by omega
    simp [wl, c0']
    refine after_call (works26_ev _) ?_
    rintro r g ⟨rfl, rfl⟩
    simp
  have c0' : ¬ (200 : Int) < l.length := by omega
  obtain ⟨q0, hq0, _⟩ := u64nat lease0
  obtain ⟨q1, hq1, _⟩ := u64nat behind0
  have t0 : ((q0 : Nat) : Int).tmod 100 = ((q0 % 100 : Nat) : Int) := tmod_nat q0 100
  have t1 : ((q1 : Nat) : Int).tmod 400 = ((q1 % 400 : Nat) : Int) := tmod_nat q1 400
  obtain ⟨m0, hm0⟩ : ∃ m0, m0 = q0 % 100 := ⟨_, rfl⟩
  obtain ⟨beh, hbeh⟩ : ∃ b, b = q1 % 400 := ⟨_, rfl⟩
  rw [← hm0] at t0
  rw [← hbeh] at t1
  have hm1 : m0 < 100 := by omega
  have hb1 : beh < 400 := by omega
  have w0 : IntKind.i64.wrap ((m0 : Nat) : Int) = (m0 : Int) := wrap_i64 (by omega) (by omega)
  have w1 : IntKind.i64.wrap ((beh : Nat) : Int) = (beh : Int) := wrap_i64 (by omega) (by omega)
  obtain ⟨m, hm⟩ : ∃ m, m = m0 + 1 := ⟨_, rfl⟩
  have w2 : IntKind.i64.wrap (1 + (m0 : Int)) = (m : Int) := by rw [wrap_i64 (by omega) (by omega)]; omega
  simp [wl, c0', hq0, hq1, t0, t1, w0, w1, w2]
  refine after_call (new26_ok _ (by omega) (by omega)) ?_
  rintro w g0 ⟨rfl, r, sm⟩
  obtain ⟨k, hk⟩ : ∃ k, k = g.length := ⟨_, rfl⟩
  rw [← hk] at r ⊢
  simp
  refine after_call (give_ev r ⟨0, 3, 2, 1, 7⟩) ?_
  rintro w g1 ⟨rfl, r, u⟩
  have e0 : giveE 5 [] ⟨0, 3, 2, 1, 7⟩ = 0 := by decide
  obtain ⟨e1, e2, e3⟩ := ge1 _ _ _ e0
  rw [e1, e2] at r
  rw [e0, e3]
  have r : DeskR g1 k (k + 1) k 6 [⟨6, 3, 2, 1, 7⟩] := r
  have sm : Same g g1 := Upd.trans sm u fun j hj e => by omega
  clear e0 e1 e2 e3
  simp
  refine after_call (give_ev r ⟨0, 3, 3, 2, 7⟩) ?_
  rintro w g2 ⟨rfl, r, u⟩
  have e0 : giveE 6 [⟨6, 3, 2, 1, 7⟩] ⟨0, 3, 3, 2, 7⟩ = 0 := by decide
  obtain ⟨e1, e2, e3⟩ := ge1 _ _ _ e0
  rw [e1, e2] at r
  rw [e0, e3]
  have r : DeskR g2 k (k + 1) k 7 [⟨6, 3, 2, 1, 7⟩, ⟨7, 3, 3, 2, 7⟩] := r
  have sm : Same g g2 := Upd.trans sm u fun j hj e => by omega
  clear e0 e1 e2 e3
  simp
  refine WpA.loop (fun z fr g' => ∃ (i N : Nat), z = l.length - i ∧ i ≤ l.length ∧ 7 ≤ N ∧ N ≤ 7 + 100 * i ∧ fr 0 = .int .i64 (m : Nat) ∧ fr 1 = v ∧ fr 2 = .int .i64 (beh : Nat) ∧ fr 7 = .pointer (some ⟨k + 1, 0, none⟩) ∧ fr 8 = .int .i64 6 ∧ fr 10 = .int .i64 7 ∧ fr 12 = .int .i64 (N : Nat) ∧ fr 13 = .int .i64 (i : Nat) ∧
      DeskR g' k (k + 1) k 7 [⟨6, 3, 2, 1, (N : Int)⟩, ⟨7, 3, 3, 2, 7⟩] ∧ Same g g')
    (k := l.length) ⟨0, 7, by simp, by omega, by omega, by omega, by simp, by simp, by simp, by simp, by simp, by simp, by simp, by simp, r, sm⟩ ?_
  clear r sm u
  rintro z fr g' ⟨i, N, rfl, hi, hN, hN2, f0, f1, f2, f7, f8, f10, f12, f13, r, sm⟩
  apply Run.ok
  have wl' := Row.len (P := Try.prog) (t := 22) (e := 3) (hv.same sm) (by simp)
  by_cases c : i < l.length
  · have c' : (i : Int) < l.length := by omega
    have w3 : IntKind.i64.wrap ((i : Int) + 1) = (i : Int) + 1 := wrap_i64 (by omega) (by omega)
    have ia := Row.ia1 (P := Try.prog) (t := 22) (e := 3) (hv.same sm) (by simp) (by simp) c .i64
    have ld := Row.ld1 (P := Try.prog) (f := 3) (hv.same sm) (by simp) c
    rw [List.getElem?_map, List.getElem?_eq_getElem c, Option.map_some] at ld
    generalize l[i] = x at ld
    obtain ⟨q, hq, _⟩ := u64nat x
    have hlz : IntKind.u64.wrap ((m : Nat) : Int) = (m : Int) := by simp [IntKind.wrap, IntKind.bits, IntKind.signed]; omega
    have tq : ((q : Nat) : Int).tmod (m : Nat) = ((q % m : Nat) : Int) := tmod_nat q m
    have hqm : q % m < m := Nat.mod_lt _ (by omega)
    obtain ⟨y, hy⟩ : ∃ y, y = q % m := ⟨_, rfl⟩
    rw [← hy] at tq hqm
    have wy : IntKind.i64.wrap ((y : Nat) : Int) = (y : Int) := wrap_i64 (by omega) (by omega)
    obtain ⟨M, hM⟩ : ∃ M, M = N + y := ⟨_, rfl⟩
    have wn : IntKind.i64.wrap ((N : Int) + (y : Int)) = (M : Int) := by rw [wrap_i64 (by omega) (by omega)]; omega
    have hmz : ¬ (m : Int) = 0 := by omega
    have hmz2 : ¬ m = 0 := by omega
    have w7 : IntKind.i64.wrap ((M : Int) - 7) = (M : Int) - 7 := wrap_i64 (by omega) (by omega)
    have p1 : ¬ (m : Int) < 1 := by omega
    have p2 : ¬ (m : Int) ≤ (M : Int) - N := by omega
    have p3 : (N : Int) ≤ M := by omega
    have p4 : (7 : Int) ≤ M := by omega
    have e0 : beatE [⟨6, 3, 2, 1, (N : Int)⟩, ⟨7, 3, 3, 2, 7⟩] 6 M = 0 := by
      have : (M : Int) ≤ 2147483647 := by omega
      simp [beatE, wi, atL, this]
    have hb : beatL [⟨6, 3, 2, 1, (N : Int)⟩, ⟨7, 3, 3, 2, 7⟩] 6 M = [⟨6, 3, 2, 1, (M : Int)⟩, ⟨7, 3, 3, 2, 7⟩] := by
      have : max (N : Int) M = M := by omega
      simp [beatL, this]
    simp [f0, f1, f7, f12, f13, wl', c', ia, ld, hq, hlz, tq, hmz2, wy, wn, -load_ptr]
    refine after_call (expired_ev r (M : Int) (m : Int) (by omega)) ?_
    rintro lv g3 ⟨A, s3⟩
    have r3 := r.same s3
    by_cases d : M < m + 7
    · have d1 : (M : Int) - 7 < m := by omega
      have d2 : ¬ (m : Int) ≤ (M : Int) - 7 := by omega
      have hL : lateL [⟨6, 3, 2, 1, (N : Int)⟩, ⟨7, 3, 3, 2, 7⟩] (M : Int) (m : Int) = [] := by simp [lateL, lateB, p1, p2, d2]
      rw [hL] at A
      have wl3 := NLen A
      simp at wl3
      simp [f0, f7, f8, w7, d1, d2, wl3, -load_ptr]
      refine after_call (beat_ev r3 6 (M : Int)) ?_
      rintro w g4 ⟨rfl, r4, u⟩
      rw [e0] at r4 ⊢
      rw [if_pos rfl, hb] at r4
      simp [f13, w3, -roundQ_normal, ↓rq]
      exact stop_intro ⟨l.length - (i + 1), by omega, i + 1, M, rfl, by omega, by omega, by omega, by simp [f0], by simp [f1], by simp [f2], by simp [f7], by simp [f8], by simp [f10], by simp, by simp, r4, Upd.trans (sm.trans s3) u fun j hj e => by omega⟩
    · have d1 : ¬ (M : Int) - 7 < m := by omega
      have d2 : (m : Int) ≤ (M : Int) - 7 := by omega
      have hL : lateL [⟨6, 3, 2, 1, (N : Int)⟩, ⟨7, 3, 3, 2, 7⟩] (M : Int) (m : Int) = [7] := by simp [lateL, lateB, p1, p2, d2, p4]
      rw [hL] at A
      have wl3 := NLen A
      have ib := NIA (i := 0) A (by simp)
      have lb := NLD (i := 0) A (by simp)
      simp [-load_ptr] at wl3 ib lb
      simp [f0, f7, f8, f10, w7, d1, d2, wl3, ib, lb, -load_ptr]
      refine after_call (beat_ev r3 6 (M : Int)) ?_
      rintro w g4 ⟨rfl, r4, u⟩
      rw [e0] at r4 ⊢
      rw [if_pos rfl, hb] at r4
      simp [f13, w3, -roundQ_normal, ↓rq]
      exact stop_intro ⟨l.length - (i + 1), by omega, i + 1, M, rfl, by omega, by omega, by omega, by simp [f0], by simp [f1], by simp [f2], by simp [f7], by simp [f8], by simp [f10], by simp, by simp, r4, Upd.trans (sm.trans s3) u fun j hj e => by omega⟩
  · have c' : ¬ (i : Int) < l.length := by omega
    simp [f1, f7, f10, f13, wl', c', -load_ptr]
    refine after_call (dropC_ev r 7) ?_
    rintro w g3 ⟨rfl, r3, u⟩
    have d9 : (atL [⟨6, 3, 2, 1, (N : Int)⟩, ⟨7, 3, 3, 2, 7⟩] 7).isNone = false := by simp [atL]
    have hd : dropL [⟨6, 3, 2, 1, (N : Int)⟩, ⟨7, 3, 3, 2, 7⟩] 7 = [⟨6, 3, 2, 1, (N : Int)⟩] := by simp [dropL]
    rw [hd] at r3
    rw [d9]
    have sm3 : Same g g3 := Upd.trans sm u fun j hj e => by omega
    obtain ⟨M, hM⟩ : ∃ M, M = N + beh := ⟨_, rfl⟩
    have wn : IntKind.i64.wrap ((N : Int) + (beh : Int)) = (M : Int) := by rw [wrap_i64 (by omega) (by omega)]; omega
    have p1 : ¬ (m : Int) < 1 := by omega
    have p3 : (N : Int) ≤ M := by omega
    have e0 : beatE [⟨6, 3, 2, 1, (N : Int)⟩] 6 M = 0 := by
      have : (M : Int) ≤ 2147483647 := by omega
      simp [beatE, wi, atL, this]
    have hb : beatL [⟨6, 3, 2, 1, (N : Int)⟩] 6 M = [⟨6, 3, 2, 1, (M : Int)⟩] := by
      have : max (N : Int) M = M := by omega
      simp [beatL, this]
    have hend : lateL [⟨6, 3, 2, 1, (M : Int)⟩] (M : Int) (m : Int) = [] := by
      have : 0 < m := by omega
      simp [lateL, lateB, p1, this]
    simp [f0, f2, f7, f12, wn, -load_ptr]
    refine after_call (expired_ev r3 (M : Int) (m : Int) (by omega)) ?_
    rintro lv g4 ⟨A, s4⟩
    have r4 := r3.same s4
    by_cases d : m ≤ beh
    · have d1 : (m : Int) ≤ beh := by omega
      have d2 : (m : Int) ≤ (M : Int) - N := by omega
      have hL : lateL [⟨6, 3, 2, 1, (N : Int)⟩] (M : Int) (m : Int) = [6] := by simp [lateL, lateB, p1, p3, d2]
      rw [hL] at A
      have wl3 := NLen A
      have ib := NIA (i := 0) A (by simp)
      have lb := NLD (i := 0) A (by simp)
      simp [-load_ptr] at wl3 ib lb
      simp [f0, f2, f7, f8, f12, d1, wl3, ib, lb, wn, -load_ptr]
      refine after_call (beat_ev r4 6 (M : Int)) ?_
      rintro w g5 ⟨rfl, r5, u⟩
      rw [e0] at r5 ⊢
      rw [if_pos rfl, hb] at r5
      simp [f0, f2, f7, f12, wn, -load_ptr]
      refine after_call (expired_ev r5 (M : Int) (m : Int) (by omega)) ?_
      rintro lv2 g6 ⟨A2, s6⟩
      rw [hend] at A2
      have wl4 := NLen A2
      simp at wl4
      simp [wl4]
    · have d1 : ¬ (m : Int) ≤ beh := by omega
      have d2 : ¬ (m : Int) ≤ (M : Int) - N := by omega
      have hL : lateL [⟨6, 3, 2, 1, (N : Int)⟩] (M : Int) (m : Int) = [] := by simp [lateL, lateB, p1, d2]
      rw [hL] at A
      have wl3 := NLen A
      simp at wl3
      simp [f0, f2, f7, f8, f12, d1, wl3, wn, -load_ptr]
      refine after_call (beat_ev r4 6 (M : Int)) ?_
      rintro w g5 ⟨rfl, r5, u⟩
      rw [e0] at r5 ⊢
      rw [if_pos rfl, hb] at r5
      simp [f0, f2, f7, f12, wn, -load_ptr]
      refine after_call (expired_ev r5 (M : Int) (m : Int) (by omega)) ?_
      rintro lv2 g6 ⟨A2, s6⟩
      rw [hend] at A2
      have wl4 := NLen A2
      simp at wl4
      simp [wl4]
theorem badgeHeard_ev (h : Hp) (vs : List Value) (dts : List Dt) (hr : RepAll Try.prog h 6 [3, 22, 3] vs dts) : EvA Try.prog 3 vs (fun r _ => r = .bool true) h := by
  obtain ⟨a, vs, e, ds, rfl, rfl, h1, hr⟩ := hr.cons
  obtain ⟨b, vs, e2, ds, rfl, rfl, h2, hr⟩ := hr.cons
  obtain ⟨c, vs, e3, ds, rfl, rfl, h3, hr⟩ := hr.cons
  rw [hr.nil]
  obtain ⟨n, rfl, _⟩ := h1.int (q := .i64) (by simp)
  obtain ⟨m, rfl, _⟩ := h3.int (q := .i64) (by simp)
  obtain ⟨l, l1, l2, l3⟩ := h2.ints (e := 3) (q := .i64) (by simp) (by simp) (by kernel_rfl)
  exact heard26_ev n m (l1.row (by simp))
end Go.Proofs.Ytaahkamnpobofaa
