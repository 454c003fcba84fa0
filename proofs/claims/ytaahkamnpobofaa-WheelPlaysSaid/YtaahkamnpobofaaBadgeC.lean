/- Desks of badges: New, Give, Check, Beat, Drop, Of, Last, Count; no condition. -/
import Derived.Test.YtaahkamnpobofaaBadgeB
namespace Go.Proofs.Ytaahkamnpobofaa
open Go.Ab
section
variable {h g : Hp} {k d b : Nat} {last : Int} {L : List Bd} {v : Value}
theorem busy_ev (r : DeskR h k d b last L) (x : Bd) : EvA Try.prog 49 [.pointer (some ⟨d, 0, none⟩), x.agg] (fun v h' => Same h h' ∧ v = .bool (busyB L x)) h := by
  refine EvA.body Try.func49 rfl (by kernel_rfl) (by simp) ?_
  apply Run.ok
  have s0 : Same h (h ++ [Blk.cells x.cells false none]) := Same.new _
  have ea : x.agg = .agg #[.int .i64 x.pipe, .int .i64 x.job, .int .i64 x.runner, .int .i64 x.heard] := rfl
  rw [ea]
  simp
  refine after_call (first_ev (p := fun y => inWay y x) (r.same s0) ⟨83, #[.pointer (some ⟨h.length, 0, none⟩)], rfl, fun y hy g' s => busy1_ev y x h.length g' (s.at (by simp [Bd.cells]))⟩) ?_
  rintro w g ⟨s, rfl⟩
  have e : busyB L x = (L.find? fun y => inWay y x).isSome := by
    rw [Bool.eq_iff_iff, List.find?_isSome]
    simp [busyB]
  rw [e]
  cases hf : L.find? fun y => inWay y x with
  | none => simp; exact s0.trans s
  | some z => simp; exact s0.trans s
theorem of1_ev (y : Bd) (p j : Int) (c e : Nat) (h : Hp) (hc : h[c]? = some (.cells [.int .i64 p] false none)) (he : h[e]? = some (.cells [.int .i64 j] false none)) :
    EvA Try.prog 81 [y.agg, .pointer (some ⟨c, 0, none⟩), .pointer (some ⟨e, 0, none⟩)] (fun r h' => h' = h ∧ r = .bool (decide (y.pipe = p) && decide (y.job = j))) h := by
  refine EvA.forget (Q := fun r => r = .bool (decide (y.pipe = p) && decide (y.job = j))) ?_
  refine EvA.body Try.func81 rfl (by kernel_rfl) (by simp) ?_
  apply Run.ok
  have s0 : Same h (h ++ [Blk.cells y.cells false none]) := Same.new _
  have hy : (h ++ [Blk.cells y.cells false none])[h.length]? = some (.cells y.cells false none) := by simp
  have hx := s0.at hc
  have hz := s0.at he
  have l1 := ldH hy
  have l2 := load_at (P := Try.prog) (t := 3) (o := 0) hx (by simp)
  have l3 := load_at (P := Try.prog) (t := 3) (o := 0) hz (by simp)
  simp only [Bd.cells, List.getElem?_cons_zero] at l1 l2 l3
  have ea : ∀ z : Bd, z.agg = .agg #[.int .i64 z.pipe, .int .i64 z.job, .int .i64 z.runner, .int .i64 z.heard] := fun _ => rfl
  rw [ea y]
  simp
  refine WpA.drawnA [0, 2, 3, 4, 1, 5, 6] [[], [0]] (by kernel_rfl) (by decide +kernel) (by decide +kernel) ?_
  simp [l1, l2, l3, -load_ptr]
  refine after_call (task_ev y _) ?_
  rintro r g ⟨rfl, s⟩
  have l1' := ldH (s.at hy)
  have l2' := load_at (P := Try.prog) (t := 3) (o := 0) (s.at hx) (by simp)
  have l3' := load_at (P := Try.prog) (t := 3) (o := 0) (s.at hz) (by simp)
  simp only [List.getElem?_cons_zero] at l2' l3'
  simp [l1', l2', l3', teq, flat, ground, -load_ptr]
  exact same_tail26 (s0.trans s)
theorem of_ev (r : DeskR h k d b last L) (p j : Int) : EvA Try.prog 43 [.pointer (some ⟨d, 0, none⟩), .int .i64 p, .int .i64 j] (fun v h' => Same h h' ∧ v = match ofL L p j with | some x => .tuple #[.int .i64 x.no, .bool true] | none => .tuple #[.int .i64 0, .bool false]) h := by
  refine EvA.body Try.func43 rfl (by kernel_rfl) (by simp) ?_
  apply Run.ok
  have s0 : Same h (h ++ [Blk.cells [.int .i64 p] false none, Blk.cells [.int .i64 j] false none]) := Same.new _
  simp
  refine after_call (first_ev (p := fun y => decide (y.pipe = p) && decide (y.job = j)) (r.same s0) ⟨81, #[.pointer (some ⟨h.length, 0, none⟩), .pointer (some ⟨h.length + 1, 0, none⟩)], rfl, fun y hy g' s => of1_ev y p j h.length (h.length + 1) g' (s.at (by simp)) (s.at (by simp))⟩) ?_
  rintro w g ⟨s, rfl⟩
  unfold ofL
  cases hf : L.find? fun y => decide (y.pipe = p) && decide (y.job = j) with
  | none => simp; exact s0.trans s
  | some z => simp; exact s0.trans s
theorem last26_ev (r : DeskR h k d b last L) : EvA Try.prog 41 [.pointer (some ⟨d, 0, none⟩)] (fun v h' => h' = h ∧ v = .int .i64 last) h := by
  refine EvA.body Try.func41 rfl (by kernel_rfl) (by simp) ?_
  apply Run.ok
  have l := r.ldl
  simp [l, -load_ptr]
theorem count26_ev (r : DeskR h k d b last L) : EvA Try.prog 42 [.pointer (some ⟨d, 0, none⟩)] (fun v h' => h' = h ∧ v = .int .i64 (L.length : Nat)) h := by
  refine EvA.body Try.func42 rfl (by kernel_rfl) (by simp) ?_
  apply Run.ok
  have l := r.ldm
  have n := r.mp.size (P := Try.prog) (t := 83) (kt := 3) (et := 74) (by simp)
  simp only [List.length_map] at n
  simp [l, n, -load_ptr]
theorem new26_ok (h : Hp) {last : Int} (h0 : 0 ≤ last) (h1 : last ≤ 2147483647) : EvA Try.prog 14 [.int .i64 last] (fun v h' => v = .pointer (some ⟨h.length + 1, 0, none⟩) ∧ DeskR h' h.length (h.length + 1) h.length last [] ∧ Same h h') h := by
  refine EvA.body Try.func14 rfl (by kernel_rfl) (by simp) ?_
  apply Run.ok
  have c0 : ¬ last < 0 := by omega
  have c1 : ¬ 2147483647 < last := by omega
  simp [c0, c1]
  exact ⟨⟨by simp, by simp [MapAt], DeskOk.nil h0 h1, by omega, by omega⟩, Same.new _⟩
theorem new26_no (h : Hp) {last : Int} (h0 : last < 0 ∨ 2147483647 < last) : EvA Try.prog 14 [.int .i64 last] (fun v h' => v = .pointer none ∧ h' = h) h := by
  refine EvA.body Try.func14 rfl (by kernel_rfl) (by simp) ?_
  apply Run.ok
  by_cases c0 : last < 0
  · simp [c0]
  · have c1 : 2147483647 < last := by omega
    simp [c0, c1]
theorem putI {g : Hp} {b : Nat} {ms : List (Int × Value)} (m : MapAt intK g b ms) (q : Int) (v : Value) : mapUpdateA Try.prog 83 (.map (some b)) (.int .i64 q) v g = some (g.set b (.map ((putM q v ms).map (cellM intK)))) :=
  m.put (P := Try.prog) (t := 83) (kt := 3) (et := 74) (by simp) (by simp [intK]) q v
theorem delI {g : Hp} {b : Nat} {ms : List (Int × Value)} (m : MapAt intK g b ms) (q : Int) {v : Value} (hl : lkp q ms = some v) : deleteA Try.prog 83 (.map (some b)) (.int .i64 q) g = some (g.set b (.map ((delM q ms).map (cellM intK)))) :=
  m.del (P := Try.prog) (t := 83) (kt := 3) (et := 74) (by simp) (by simp [intK]) q hl
/-- what Give answers, and what stands behind it -/
def giveE (last : Int) (L : List Bd) (x : Bd) : Int := if x.good = false then 1 else if busyB L x then 61 else if last = 2147483647 then 70 else 0
def giveL (last : Int) (L : List Bd) (x : Bd) : List Bd := if giveE last L x = 0 then L ++ [x.as (last + 1)] else L
def giveT (last : Int) (L : List Bd) (x : Bd) : Int := if giveE last L x = 0 then last + 1 else last
def giveN (last : Int) (L : List Bd) (x : Bd) : Int := if giveE last L x = 0 then last + 1 else 0
set_option maxHeartbeats 2000000 in
theorem give_ev (r : DeskR h k d b last L) (x : Bd) : EvA Try.prog 15 [.pointer (some ⟨d, 0, none⟩), .int .i64 x.pipe, .int .i64 x.job, .int .i64 x.runner, .int .i64 x.heard]
    (fun v h' => v = .tuple #[.int .i64 (giveN last L x), .int .i64 (giveE last L x)] ∧ DeskR h' k d b (giveT last L x) (giveL last L x) ∧ Upd (fun j => j = d ∨ j = b) h h') h := by
  refine EvA.body Try.func15 rfl (by kernel_rfl) (by simp) ?_
  apply Run.ok
  have ea : x.agg = .agg #[.int .i64 x.pipe, .int .i64 x.job, .int .i64 x.runner, .int .i64 x.heard] := rfl
  have s0 : Same h (h ++ [Blk.cells x.cells false none]) := Same.new _
  have hx : (h ++ [Blk.cells x.cells false none])[h.length]? = some (.cells x.cells false none) := by simp
  have lx := ldH hx
  simp only [Bd.cells] at lx
  have hlt := r.lt
  simp [spl, lx, -load_ptr]
  refine after_call (good26_ev x _) ?_
  rintro w g ⟨rfl, rfl⟩
  have r0 := r.same s0
  unfold giveN giveT giveL giveE
  cases hg : x.good with
  | false =>
    simp
    exact ⟨r0, s0.mono fun _ _ h => h.elim⟩
  | true =>
    simp [lx, -load_ptr]
    refine after_call (busy_ev r0 x) ?_
    rintro w g ⟨s1, rfl⟩
    have r1 := r0.same s1
    cases hb : busyB L x with
    | true =>
      simp
      exact ⟨r1, (s0.trans s1).mono fun _ _ h => h.elim⟩
    | false =>
      have ll := r1.ldl
      by_cases hm : last = 2147483647
      · subst hm
        simp [ll, -load_ptr]
        exact ⟨r1, (s0.trans s1).mono fun _ _ h => h.elim⟩
      · have l0 := r.ok.l0
        have l1 := r.ok.l1
        have w1 : IntKind.i64.wrap (last + 1) = last + 1 := wrap_i64 (by omega) (by omega)
        have st : storeA Try.prog 3 (.pointer (some ⟨d, 0, none⟩)) (.int .i64 (last + 1)) g = some (g.set d (.cells [.int .i64 (last + 1), .map (some b)] false none)) := by simp [storeA, r1.at_, cellsOf, oneA, spl]
        have hd1 := r1.lt
        have u1 : Upd (fun j => j = d ∨ j = b) g (g.set d (.cells [.int .i64 (last + 1), .map (some b)] false none)) := Upd.set (.inl rfl) _
        have b1 : (g.set d (.cells [.int .i64 (last + 1), .map (some b)] false none))[d]? = some (.cells [.int .i64 (last + 1), .map (some b)] false none) := by rw [List.getElem?_set_self hd1.1]
        have m1 : MapAt intK (g.set d (.cells [.int .i64 (last + 1), .map (some b)] false none)) b (L.map cellB) := by
          unfold MapAt
          rw [List.getElem?_set_ne (fun e => r.ne e)]
          exact r1.mp
        have hx1 : (g.set d (.cells [.int .i64 (last + 1), .map (some b)] false none))[h.length]? = some (.cells x.cells false none) := by
          rw [List.getElem?_set_ne (by omega)]
          exact s1.at hx
        generalize g.set d (.cells [.int .i64 (last + 1), .map (some b)] false none) = g2 at st u1 b1 m1 hx1
        have k0 := load_at (P := Try.prog) (t := 3) (o := 0) b1 (by simp)
        have k1 := load_at (P := Try.prog) (t := 83) (o := 1) b1 (by simp)
        simp only [List.getElem?_cons_zero, List.getElem?_cons_succ] at k0 k1
        have kx := ldH hx1
        have up := putI m1 (last + 1) x.agg
        have hgm : putM (last + 1) x.agg (L.map cellB) = (L ++ [x.as (last + 1)]).map cellB := give_map r.ok (by omega)
        rw [hgm] at up
        have M2 := m1.set ((L ++ [x.as (last + 1)]).map cellB)
        have u2 : Upd (fun j => j = d ∨ j = b) g2 (g2.set b (.map (((L ++ [x.as (last + 1)]).map cellB).map (cellM intK)))) := Upd.set (.inr rfl) _
        have b2 : (g2.set b (.map (((L ++ [x.as (last + 1)]).map cellB).map (cellM intK))))[d]? = some (.cells [.int .i64 (last + 1), .map (some b)] false none) := by
          rw [List.getElem?_set_ne (fun e => r.ne e.symm)]; exact b1
        generalize hG : g2.set b (.map (((L ++ [x.as (last + 1)]).map cellB).map (cellM intK))) = G at up M2 u2 b2
        have hm' : (last == 2147483647) = false := by simp [hm]
        simp [ll, hm, hm', w1, st, -load_ptr, -store_ptr]
        refine WpA.drawnA [0, 1, 2, 3, 4, 5, 6, 7, 8, 9] [[], [], [], [], [], [], [], [], [], [0, 1, 2, 3, 4, 5, 6, 7, 8]] (by kernel_rfl) (by decide +kernel) (by decide +kernel) ?_
        have k2 := load_at (P := Try.prog) (t := 3) (o := 0) b2 (by simp)
        have k3 := load_at (P := Try.prog) (t := 83) (o := 1) b2 (by simp)
        simp only [List.getElem?_cons_zero, List.getElem?_cons_succ] at k2 k3
        have hx2 : G[h.length]? = some (.cells x.cells false none) := by
          rw [← hG, List.getElem?_set_ne (by omega)]; exact hx1
        have ky := ldH hx2
        simp [k0, k1, kx, k2, k3, ky, up, hm, -load_ptr]
        have sg : Upd (fun j => j = d ∨ j = b) h g := (s0.trans s1).mono fun _ _ h => h.elim
        exact ⟨⟨b2, M2, r.ok.give hg hb (by omega) (by omega), r.kd, r.kb⟩, (sg.trans u1 fun _ _ h => h).trans u2 fun _ _ h => h⟩
theorem two0 (h : Hp) (x y : Bd) : loadA Try.prog 74 (.pointer (some ⟨h.length, 0, none⟩)) (h ++ [Blk.cells [.int .i64 x.pipe, .int .i64 x.job, .int .i64 x.runner, .int .i64 x.heard] false none, Blk.cells [.int .i64 y.pipe, .int .i64 y.job, .int .i64 y.runner, .int .i64 y.heard] false none]) = some (.agg #[.int .i64 x.pipe, .int .i64 x.job, .int .i64 x.runner, .int .i64 x.heard]) := by simp [loadA]
theorem two1 (h : Hp) (x y : Bd) : loadA Try.prog 74 (.pointer (some ⟨h.length + 1, 0, none⟩)) (h ++ [Blk.cells [.int .i64 x.pipe, .int .i64 x.job, .int .i64 x.runner, .int .i64 x.heard] false none, Blk.cells [.int .i64 y.pipe, .int .i64 y.job, .int .i64 y.runner, .int .i64 y.heard] false none]) = some (.agg #[.int .i64 y.pipe, .int .i64 y.job, .int .i64 y.runner, .int .i64 y.heard]) := by simp [loadA]
theorem check26_ev (r : DeskR h k d b last L) (q : Int) : EvA Try.prog 40 [.pointer (some ⟨d, 0, none⟩), .int .i64 q]
    (fun v h' => v = (match atL L q with | some x => .tuple #[x.agg, .int .i64 0] | none => .tuple #[zeroH, .int .i64 60]) ∧ Same h h') h := by
  refine EvA.body Try.func40 rfl (by kernel_rfl) (by simp) ?_
  apply Run.ok
  have s0 : Same h (h ++ [Blk.cells [.int .i64 0, .int .i64 0, .int .i64 0, .int .i64 0] false none]) := Same.new _
  have r0 := r.same s0
  have lm := r0.ldm
  have lk := r0.look2 q
  have ea : ∀ z : Bd, z.agg = .agg #[.int .i64 z.pipe, .int .i64 z.job, .int .i64 z.runner, .int .i64 z.heard] := fun _ => rfl
  cases hq : atL L q with
  | none =>
    simp only [hq, Option.map_none, Option.getD_none, Option.isSome_none, zeroH] at lk
    have t0 := two0 h ⟨0, 0, 0, 0, 0⟩ ⟨0, 0, 0, 0, 0⟩
    simp [spl, lm, lk, zeroH, t0, -load_ptr]
    exact Same.new _
  | some x =>
    simp only [hq, Option.map_some, Option.getD_some, Option.isSome_some, ea] at lk
    have t1 := two1 h ⟨0, 0, 0, 0, 0⟩ x
    have t2 := two0 h x x
    simp [spl, lm, lk, ea, t1, t2, -load_ptr]
    exact Same.new _
def beatE (L : List Bd) (q now : Int) : Int := if wi now 0 2147483647 = false then 1 else if (atL L q).isNone then 60 else 0
set_option maxHeartbeats 2000000 in
theorem beat_ev (r : DeskR h k d b last L) (q now : Int) : EvA Try.prog 17 [.pointer (some ⟨d, 0, none⟩), .int .i64 q, .int .i64 now]
    (fun v h' => v = .int .i64 (beatE L q now) ∧ DeskR h' k d b last (if beatE L q now = 0 then beatL L q now else L) ∧ Upd (fun j => j = b) h h') h := by
  refine EvA.body Try.func17 rfl (by kernel_rfl) (by simp) ?_
  apply Run.ok
  simp
  refine after_call (within26_ev now 0 2147483647 _) ?_
  rintro w g ⟨rfl, rfl⟩
  unfold beatE
  cases hw : wi now 0 2147483647 with
  | false => simp; exact ⟨r, Upd.refl⟩
  | true =>
    simp
    refine after_call (check26_ev r q) ?_
    rintro w g2 ⟨rfl, s⟩
    have r2 := r.same s
    cases hq : atL L q with
    | none =>
      simp [zeroH, spl]
      exact ⟨r2.same (Same.new _), (s.trans (Same.new _)).mono fun _ _ h => h.elim⟩
    | some x =>
      have hn : 0 ≤ now ∧ now ≤ 2147483647 := by simpa [wi] using hw
      have ea : ∀ z : Bd, z.agg = .agg #[.int .i64 z.pipe, .int .i64 z.job, .int .i64 z.runner, .int .i64 z.heard] := fun _ => rfl
      have hx1 : (g2 ++ [Blk.cells x.cells false none])[g2.length]? = some (.cells x.cells false none) := by simp
      have l3 := ldH3 hx1
      simp only [Bd.cells] at l3
      have r3 := r2.same (Same.new [Blk.cells [.int .i64 x.pipe, .int .i64 x.job, .int .i64 x.runner, .int .i64 (max x.heard now)] false none])
      have lm := r3.ldm
      have hx2 : (g2 ++ [Blk.cells [.int .i64 x.pipe, .int .i64 x.job, .int .i64 x.runner, .int .i64 (max x.heard now)] false none])[g2.length]? = some (.cells ({ x with heard := max x.heard now } : Bd).cells false none) := by simp [Bd.cells]
      have l4 := ldH hx2
      simp [spl, ea, l3, -load_ptr]
      have up := putI r3.mp q ({ x with heard := max x.heard now } : Bd).agg
      rw [beat_map q now L r.ok.rising x hq] at up
      have M := r3.mp.set ((beatL L q now).map cellB)
      have hu : Upd (fun j => j = b) (g2 ++ [Blk.cells [.int .i64 x.pipe, .int .i64 x.job, .int .i64 x.runner, .int .i64 (max x.heard now)] false none]) ((g2 ++ [Blk.cells [.int .i64 x.pipe, .int .i64 x.job, .int .i64 x.runner, .int .i64 (max x.heard now)] false none]).set b (.map (((beatL L q now).map cellB).map (cellM intK)))) := Upd.set (S := (· = b)) rfl _
      have hb2 := hu.at r3.at_ (fun e => r.ne e)
      have hx3 := hu.at hx2 (fun e => by have := r2.lt; omega)
      generalize (g2 ++ [Blk.cells [Value.int .i64 x.pipe, .int .i64 x.job, .int .i64 x.runner, .int .i64 (max x.heard now)] false none]).set b (.map (((beatL L q now).map cellB).map (cellM intK))) = G at up M hu hb2 hx3
      have sn : Same g2 (g2 ++ [Blk.cells [.int .i64 x.pipe, .int .i64 x.job, .int .i64 x.runner, .int .i64 (max x.heard now)] false none]) := Same.new _
      generalize g2 ++ [Blk.cells [Value.int .i64 x.pipe, .int .i64 x.job, .int .i64 x.runner, .int .i64 (max x.heard now)] false none] = g3 at *
      have k3 := load_at (P := Try.prog) (t := 83) (o := 1) hb2 (by simp)
      simp only [List.getElem?_cons_zero, List.getElem?_cons_succ] at k3
      have l5 := ldH hx3
      rw [ea] at l4 l5 up
      refine WpA.drawnA [0, 1, 2, 3, 4, 5, 6] [[], [], [], [], [], [], [0, 1, 2, 3, 4, 5]] (by kernel_rfl) (by decide +kernel) (by decide +kernel) ?_
      simp [lm, l4, l5, k3, up, -load_ptr]
      exact ⟨⟨hb2, M, r.ok.beat hn.1 hn.2, r.kd, r.kb⟩, Upd.trans ((s.trans sn).mono fun _ _ h => h.elim) hu fun _ _ h => h⟩
theorem dropC_ev (r : DeskR h k d b last L) (q : Int) : EvA Try.prog 18 [.pointer (some ⟨d, 0, none⟩), .int .i64 q]
    (fun v h' => v = .int .i64 (if (atL L q).isNone then 60 else 0) ∧ DeskR h' k d b last (dropL L q) ∧ Upd (fun j => j = b) h h') h := by
  refine EvA.body Try.func18 rfl (by kernel_rfl) (by simp) ?_
  apply Run.ok
  simp
  refine after_call (check26_ev r q) ?_
  rintro w g2 ⟨rfl, s⟩
  have r2 := r.same s
  have ea : ∀ z : Bd, z.agg = .agg #[.int .i64 z.pipe, .int .i64 z.job, .int .i64 z.runner, .int .i64 z.heard] := fun _ => rfl
  cases hq : atL L q with
  | none =>
    have hd : dropL L q = L := by
      unfold dropL
      rw [List.filter_eq_self]
      intro x hx
      rw [atL, List.find?_eq_none] at hq
      simpa using hq x hx
    rw [hd]
    simp [zeroH, spl]
    exact ⟨r2.same (Same.new _), (s.trans (Same.new _)).mono fun _ _ h => h.elim⟩
  | some x =>
    have sn : Same g2 (g2 ++ [Blk.cells [.int .i64 x.pipe, .int .i64 x.job, .int .i64 x.runner, .int .i64 x.heard] false none]) := Same.new _
    have r3 := r2.same sn
    have lm := r3.ldm
    have up := delI r3.mp q (by rw [lkp_desk, hq]; rfl)
    rw [drop_map q L r.ok.rising] at up
    have M := r3.mp.set ((dropL L q).map cellB)
    have hu : Upd (fun j => j = b) (g2 ++ [Blk.cells [.int .i64 x.pipe, .int .i64 x.job, .int .i64 x.runner, .int .i64 x.heard] false none]) ((g2 ++ [Blk.cells [.int .i64 x.pipe, .int .i64 x.job, .int .i64 x.runner, .int .i64 x.heard] false none]).set b (.map (((dropL L q).map cellB).map (cellM intK)))) := Upd.set (S := (· = b)) rfl _
    have hb2 := hu.at r3.at_ (fun e => r.ne e)
    generalize (g2 ++ [Blk.cells [Value.int .i64 x.pipe, .int .i64 x.job, .int .i64 x.runner, .int .i64 x.heard] false none]).set b (.map (((dropL L q).map cellB).map (cellM intK))) = G at up M hu hb2
    simp [spl, ea, lm, up, -load_ptr]
    exact ⟨⟨hb2, M, r.ok.drop q, r.kd, r.kb⟩, Upd.trans ((s.trans sn).mono fun _ _ h => h.elim) hu fun _ _ h => h⟩
end
end Go.Proofs.Ytaahkamnpobofaa
