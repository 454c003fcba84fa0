/- bastionlaw26.works: called, it comes to true; no condition. -/
import Derived.Test.YtaahkamnpobofaaBadgeE
namespace Go.Proofs.Ytaahkamnpobofaa
open Go.Ab
theorem heq4 (x y : Bd) (o q : Operand) : binA Try.prog .neq 74 o q (.agg #[.int .i64 x.pipe, .int .i64 x.job, .int .i64 x.runner, .int .i64 x.heard]) (.agg #[.int .i64 y.pipe, .int .i64 y.job, .int .i64 y.runner, .int .i64 y.heard]) = some (.bool (!(decide (x.pipe = y.pipe) && decide (x.job = y.job) && decide (x.runner = y.runner) && decide (x.heard = y.heard)))) := by
  have hg : (Try.prog).eqGuardType (Try.prog).depth 74 = false := by kernel_rfl
  have hh : (Try.prog).stoodInHeld 74 = false := by kernel_rfl
  have hs : ∀ x y : Int, eqA Try.prog 9999 3 (.int .i64 x) (.int .i64 y) = some (decide (x = y)) := fun x y => by
    have : eqA Try.prog (9998 + 1) 3 (.int .i64 x) (.int .i64 y) = some (decide (x = y)) := by simp [eqA]; rw [Bool.eq_iff_iff]; simp
    exact this
  have a0 : ∀ a b c d : Value, partA Try.prog 3 [a, b, c, d] 0 = some a := fun a b c d => by simp [partA]
  have a1 : ∀ a b c d : Value, partA Try.prog 3 [a, b, c, d] 1 = some b := fun a b c d => by simp [partA]
  have a2 : ∀ a b c d : Value, partA Try.prog 3 [a, b, c, d] 2 = some c := fun a b c d => by simp [partA]
  have a3 : ∀ a b c d : Value, partA Try.prog 3 [a, b, c, d] 3 = some d := fun a b c d => by simp [partA]
  have h3 : eqA Try.prog (9999 + 1) 74 (.agg #[.int .i64 x.pipe, .int .i64 x.job, .int .i64 x.runner, .int .i64 x.heard]) (.agg #[.int .i64 y.pipe, .int .i64 y.job, .int .i64 y.runner, .int .i64 y.heard]) = some (decide (x.pipe = y.pipe) && decide (x.job = y.job) && decide (x.runner = y.runner) && decide (x.heard = y.heard)) := by
    unfold eqA
    generalize hE1 : decide (x.pipe = y.pipe) = E1
    generalize hE2 : decide (x.job = y.job) = E2
    generalize hE3 : decide (x.runner = y.runner) = E3
    generalize hE4 : decide (x.heard = y.heard) = E4
    cases E1 <;> cases E2 <;> cases E3 <;> cases E4 <;> simp [hh, eqFields, hs, a0, a1, a2, a3, hE1, hE2, hE3, hE4]
  have h4 : eqA Try.prog 10000 74 (.agg #[.int .i64 x.pipe, .int .i64 x.job, .int .i64 x.runner, .int .i64 x.heard]) (.agg #[.int .i64 y.pipe, .int .i64 y.job, .int .i64 y.runner, .int .i64 y.heard]) = some (decide (x.pipe = y.pipe) && decide (x.job = y.job) && decide (x.runner = y.runner) && decide (x.heard = y.heard)) := h3
  simp [binA, guardA, hg, h4]
theorem ge1 (last : Int) (L : List Bd) (x : Bd) : giveE last L x = 0 → giveT last L x = last + 1 ∧ giveL last L x = L ++ [x.as (last + 1)] ∧ giveN last L x = last + 1 := fun h => by simp [giveT, giveL, giveN, h]
theorem ge2 (last : Int) (L : List Bd) (x : Bd) {e : Int} (he : giveE last L x = e) (h0 : e ≠ 0) : giveT last L x = last ∧ giveL last L x = L ∧ giveN last L x = 0 := by
  have : giveE last L x ≠ 0 := by rw [he]; exact h0
  simp [giveT, giveL, giveN, this]
set_option maxHeartbeats 8000000 in
set_option maxRecDepth 10000 in
theorem works26_ev (h : Hp) : EvA Try.prog 13 [] (fun r h' => h' = h ∧ r = .bool true) h := by
  refine EvA.forget (Q := fun r => r = .bool true) ?_
  refine EvA.body Try.func13 rfl (by kernel_rfl) (by simp) ?_
  apply Run.ok
  simp
  refine after_call (new26_ok h (by omega) (by omega)) ?_
  rintro w g0 ⟨rfl, r, sm⟩
  obtain ⟨k, hk⟩ : ∃ k, k = h.length := ⟨_, rfl⟩
  rw [← hk] at r ⊢
  simp
  refine after_call (give_ev r ⟨0, 1, 0, 2, 10⟩) ?_
  rintro w g1 ⟨rfl, r, u⟩
  have e0 : giveE 7 [] ⟨0, 1, 0, 2, 10⟩ = 0 := by decide
  obtain ⟨e1, e2, e3⟩ := ge1 _ _ _ e0
  rw [e1, e2] at r
  rw [e0, e3]
  have r : DeskR g1 k (k + 1) k 8 [⟨8, 1, 0, 2, 10⟩] := r
  have sm : Same h g1 := Upd.trans sm u fun j hj e => by omega
  clear e0 e1 e2 e3
  simp
  refine after_call (give_ev r ⟨0, 1, 0, 3, 10⟩) ?_
  rintro w g2 ⟨rfl, r, u⟩
  have e0 : giveE 8 [⟨8, 1, 0, 2, 10⟩] ⟨0, 1, 0, 3, 10⟩ = 61 := by decide
  obtain ⟨e1, e2, e3⟩ := ge2 _ _ _ e0 (by decide)
  rw [e1, e2] at r
  rw [e0, e3]
  have r : DeskR g2 k (k + 1) k 8 [⟨8, 1, 0, 2, 10⟩] := r
  have sm : Same h g2 := Upd.trans sm u fun j hj e => by omega
  clear e0 e1 e2 e3
  simp
  refine after_call (give_ev r ⟨0, 1, 1, 2, 10⟩) ?_
  rintro w g3 ⟨rfl, r, u⟩
  have e0 : giveE 8 [⟨8, 1, 0, 2, 10⟩] ⟨0, 1, 1, 2, 10⟩ = 61 := by decide
  obtain ⟨e1, e2, e3⟩ := ge2 _ _ _ e0 (by decide)
  rw [e1, e2] at r
  rw [e0, e3]
  have r : DeskR g3 k (k + 1) k 8 [⟨8, 1, 0, 2, 10⟩] := r
  have sm : Same h g3 := Upd.trans sm u fun j hj e => by omega
  clear e0 e1 e2 e3
  simp
  refine after_call (give_ev r ⟨0, 1, 1, 3, 11⟩) ?_
  rintro w g4 ⟨rfl, r, u⟩
  have e0 : giveE 8 [⟨8, 1, 0, 2, 10⟩] ⟨0, 1, 1, 3, 11⟩ = 0 := by decide
  obtain ⟨e1, e2, e3⟩ := ge1 _ _ _ e0
  rw [e1, e2] at r
  rw [e0, e3]
  have r : DeskR g4 k (k + 1) k 9 [⟨8, 1, 0, 2, 10⟩, ⟨9, 1, 1, 3, 11⟩] := r
  have sm : Same h g4 := Upd.trans sm u fun j hj e => by omega
  clear e0 e1 e2 e3
  simp
  refine after_call (beat_ev r 8 20) ?_
  rintro w g5 ⟨rfl, r, u⟩
  have e0 : beatE [⟨8, 1, 0, 2, 10⟩, ⟨9, 1, 1, 3, 11⟩] 8 20 = 0 := by decide
  rw [e0] at r ⊢
  have r : DeskR g5 k (k + 1) k 9 [⟨8, 1, 0, 2, 20⟩, ⟨9, 1, 1, 3, 11⟩] := r
  have sm : Same h g5 := Upd.trans sm u fun j hj e => by omega
  clear e0
  simp
  refine after_call (beat_ev r 8 15) ?_
  rintro w g6 ⟨rfl, r, u⟩
  have e0 : beatE [⟨8, 1, 0, 2, 20⟩, ⟨9, 1, 1, 3, 11⟩] 8 15 = 0 := by decide
  rw [e0] at r ⊢
  have r : DeskR g6 k (k + 1) k 9 [⟨8, 1, 0, 2, 20⟩, ⟨9, 1, 1, 3, 11⟩] := r
  have sm : Same h g6 := Upd.trans sm u fun j hj e => by omega
  clear e0
  simp
  refine after_call (beat_ev r 7 20) ?_
  rintro w g7 ⟨rfl, r, u⟩
  have e0 : beatE [⟨8, 1, 0, 2, 20⟩, ⟨9, 1, 1, 3, 11⟩] 7 20 = 60 := by decide
  rw [e0] at r ⊢
  have r : DeskR g7 k (k + 1) k 9 [⟨8, 1, 0, 2, 20⟩, ⟨9, 1, 1, 3, 11⟩] := r
  have sm : Same h g7 := Upd.trans sm u fun j hj e => by omega
  clear e0
  simp
  refine after_call (check26_ev r 8) ?_
  rintro w g8 ⟨rfl, s8⟩
  have a8 : atL [⟨8, 1, 0, 2, 20⟩, ⟨9, 1, 1, 3, 11⟩] 8 = some ⟨8, 1, 0, 2, 20⟩ := by decide
  rw [a8]
  have r := r.same s8
  have sm := sm.trans s8
  have ea : ∀ z : Bd, z.agg = .agg #[.int .i64 z.pipe, .int .i64 z.job, .int .i64 z.runner, .int .i64 z.heard] := fun _ => rfl
  simp [ea, spl]
  have hx : (g8 ++ [Blk.cells [.int .i64 1, .int .i64 0, .int .i64 2, .int .i64 20] false none])[g8.length]? = some (.cells (Bd.cells ⟨8, 1, 0, 2, 20⟩) false none) := by simp [Bd.cells]
  have sn : Same g8 (g8 ++ [Blk.cells [.int .i64 1, .int .i64 0, .int .i64 2, .int .i64 20] false none]) := Same.new _
  have r := r.same sn
  have sm := sm.trans sn
  generalize hC : g8.length = C at hx ⊢
  generalize g8 ++ [Blk.cells [Value.int .i64 1, .int .i64 0, .int .i64 2, .int .i64 20] false none] = g9 at *
  have hlt9 := r.lt
  refine after_call (expired_ev r 20 9 (by omega)) ?_
  rintro l1 g10 ⟨A1, s10⟩
  have n1 : lateL [⟨8, 1, 0, 2, 20⟩, ⟨9, 1, 1, 3, 11⟩] 20 9 = [9] := by decide
  rw [n1] at A1
  have r := r.same s10
  have sm := sm.trans s10
  have hx := s10.at hx
  simp
  refine after_call (expired_ev r 20 10 (by omega)) ?_
  rintro l2 g11 ⟨A2, s11⟩
  have n2 : lateL [⟨8, 1, 0, 2, 20⟩, ⟨9, 1, 1, 3, 11⟩] 20 10 = [] := by decide
  rw [n2] at A2
  have r := r.same s11
  have sm := sm.trans s11
  have hx := s11.at hx
  have A1 := A1.same s11
  simp
  refine after_call (of_ev r 1 1) ?_
  rintro w g12 ⟨s12, rfl⟩
  have o1 : ofL [⟨8, 1, 0, 2, 20⟩, ⟨9, 1, 1, 3, 11⟩] 1 1 = some ⟨9, 1, 1, 3, 11⟩ := by decide
  rw [o1]
  have r := r.same s12
  have sm := sm.trans s12
  have hx := s12.at hx
  have A1 := A1.same s12
  have A2 := A2.same s12
  have wl1 := NLen A1
  have wl2 := NLen A2
  have lx := ldH hx
  rw [ea] at lx
  have hq := fun o q => heq4 ⟨8, 1, 0, 2, 20⟩ ⟨0, 1, 0, 2, 20⟩ o q
  simp only at hq
  simp at wl1 wl2
  simp [lx, hq, wl1, wl2, -load_ptr]
  refine after_call (dropC_ev r 9) ?_
  rintro w g13 ⟨rfl, r, u⟩
  have d9 : (atL [⟨8, 1, 0, 2, 20⟩, ⟨9, 1, 1, 3, 11⟩] 9).isNone = false := by decide
  rw [d9]
  have r : DeskR g13 k (k + 1) k 9 [⟨8, 1, 0, 2, 20⟩] := r
  have sm13 : Same h g13 := Upd.trans sm u fun j hj e => by omega
  have hk12 : k + 1 < g9.length := hlt9.1
  have A1 := A1.upd u fun j hj e => by have := (A1.above j hj).1; omega
  simp
  refine after_call (check26_ev r 9) ?_
  rintro w g14 ⟨rfl, s14⟩
  have a9 : atL [⟨8, 1, 0, 2, 20⟩] 9 = none := by decide
  rw [a9]
  have r := r.same s14
  have sm14 := sm13.trans s14
  have A1 := A1.same s14
  simp [zeroH, spl]
  have sn2 : Same g14 (g14 ++ [Blk.cells [.int .i64 0, .int .i64 0, .int .i64 0, .int .i64 0] false none]) := Same.new _
  have r := r.same sn2
  have sm15 := sm14.trans sn2
  have A1 := A1.same sn2
  generalize g14 ++ [Blk.cells [Value.int .i64 0, .int .i64 0, .int .i64 0, .int .i64 0] false none] = g15 at *
  refine after_call (give_ev r ⟨0, 1, 1, 3, 12⟩) ?_
  rintro w g16 ⟨rfl, r, u⟩
  have e0 : giveE 9 [⟨8, 1, 0, 2, 20⟩] ⟨0, 1, 1, 3, 12⟩ = 0 := by decide
  obtain ⟨e1, e2, e3⟩ := ge1 _ _ _ e0
  rw [e1, e2] at r
  rw [e0, e3]
  have r : DeskR g16 k (k + 1) k 10 [⟨8, 1, 0, 2, 20⟩, ⟨10, 1, 1, 3, 12⟩] := r
  have sm16 : Same h g16 := Upd.trans sm15 u fun j hj e => by omega
  have A1 := A1.upd u fun j hj e => by have := (A1.above j hj).1; omega
  have ia := NIA (i := 0) A1 (by simp)
  have ld := NLD (i := 0) A1 (by simp)
  simp [-load_ptr] at ia ld
  simp [ia, ld, -load_ptr]
  refine after_call (save_ev r) ?_
  rintro w g17 ⟨B, s17⟩
  have hs : saveB 10 [⟨8, 1, 0, 2, 20⟩, ⟨10, 1, 1, 3, 12⟩] = [10, 2, 8, 1, 0, 2, 20, 10, 1, 1, 3, 12] := by
    simp [saveB, bdB, bdN, cntB, enc_small]
  rw [hs] at B
  have cv := Bytes.str (P := Try.prog) (t := 42) (u := 9) (e := 5) (BAcc.bytes B) (by simp) (by simp) (by simp)
  simp [cv, flat, ground]
  exact same_tail26 (sm16.trans s17)
end Go.Proofs.Ytaahkamnpobofaa
