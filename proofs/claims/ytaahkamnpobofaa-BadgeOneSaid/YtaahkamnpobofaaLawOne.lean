/- The law BadgeOne: called, it comes to true; no condition. -/
import Derived.Test.YtaahkamnpobofaaBadgeI
import Derived.Test.YtaahkamnpobofaaLawBack
namespace Go.Proofs.Ytaahkamnpobofaa
open Go.Ab
abbrev HRow (h : Hp) (v : Value) (l : List Bd) : Prop := TRow h 4 v l Bd.cells
section
variable {h g : Hp} {v : Value} {l : List Bd} {i : Nat}
theorem HLen (hv : HRow h v l) : lenA Try.prog 79 v h = some (.int .i64 (l.length : Nat)) := hv.len (e := 74) (by simp)
theorem HIA (hv : HRow h v l) (hi : i < l.length) : indexAddrA Try.prog 79 v (.int .i64 (i : Nat)) = some (.pointer (some ⟨rbl v, rof v + i * 4, none⟩)) := hv.ia (e := 74) (by simp) (by simp) hi .i64
theorem HC0 (hv : HRow h v l) (hi : i < l.length) : loadA Try.prog 3 (.pointer (some ⟨rbl v, rof v + i * 4, none⟩)) h = some (.int .i64 l[i].pipe) := hv.cell0 (by simp) hi (by omega)
theorem HC1 (hv : HRow h v l) (hi : i < l.length) : loadA Try.prog 3 (.pointer (some ⟨rbl v, rof v + i * 4 + 1, none⟩)) h = some (.int .i64 l[i].job) := hv.cell (j := 1) (by simp) hi (by omega)
theorem HC2 (hv : HRow h v l) (hi : i < l.length) : loadA Try.prog 3 (.pointer (some ⟨rbl v, rof v + i * 4 + 2, none⟩)) h = some (.int .i64 l[i].runner) := hv.cell (j := 2) (by simp) hi (by omega)
end
theorem any_next {α : Type} (p : α → Bool) {l : List α} {i : Nat} (hi : i < l.length) : (l.take (i + 1)).any p = ((l.take i).any p || p l[i]) := by
  rw [List.take_add_one, List.getElem?_eq_getElem hi, List.any_append]; simp [Option.toList]
theorem giveE_good {last : Int} {L : List Bd} {x : Bd} (hg : x.good = true) (hl : last < 2147483647) : giveE last L x = if busyB L x then 61 else 0 := by
  have hl' : ¬ last = 2147483647 := by omega
  unfold giveE; rw [if_neg (by rw [hg]; simp)]
  rw [if_neg hl']
theorem ofL_get {last : Int} {L : List Bd} (o : DeskOk last L) {i : Nat} (hi : i < L.length) : ofL L L[i].pipe L[i].job = some L[i] := by
  cases e : ofL L L[i].pipe L[i].job with
  | none =>
    rw [ofL, List.find?_eq_none] at e
    have := e L[i] (List.getElem_mem hi)
    simp at this
  | some x =>
    have h1 := List.find?_some e
    have h2 := List.mem_of_find?_eq_some e
    obtain ⟨j, hj, rfl⟩ := List.mem_iff_getElem.1 h2
    simp only [Bool.and_eq_true, decide_eq_true_eq] at h1
    have hp := List.pairwise_iff_getElem.1 o.apart
    rcases Nat.lt_trichotomy i j with c | c | c
    · have := hp i j hi hj c; simp [inWay, taskB, h1] at this
    · subst c; rfl
    · have := hp j i hj hi c; simp [inWay, taskB, h1] at this
theorem runner_ne {last : Int} {L : List Bd} (o : DeskOk last L) {i j : Nat} (hij : i < j) (hj : j < L.length) : (L[i].runner == L[j].runner) = false := by
  have := List.pairwise_iff_getElem.1 o.apart i j (by omega) hj hij
  simp only [inWay, Bool.or_eq_false_iff, decide_eq_false_iff_not] at this
  simpa using this.2
theorem hbd (a b : Int) : (a == b) = decide (a = b) := by by_cases h : a = b <;> simp [h]
inductive OneInv (g : Hp) (k : Nat) (v : Value) (l : List St5) (z : Nat) (fr : Fr) (g' : Hp) : Prop
  | mk (i d b : Nat) (T : Int) (L : List Bd) (hz : z = l.length - i) (hi : i ≤ l.length) (hT : T ≤ i) (f0 : fr 0 = v) (f3 : fr 3 = .pointer (some ⟨d, 0, none⟩)) (f4 : fr 4 = .int .i64 (i : Nat))
      (r : DeskR g' k d b T L) (sm : Same g g')
inductive OneMid (g : Hp) (k : Nat) (v : Value) (i : Nat) (fr : Fr) (g' : Hp) : Prop
  | mk (d b : Nat) (T : Int) (L : List Bd) (hT : T ≤ i + 1) (f0 : fr 0 = v) (f3 : fr 3 = .pointer (some ⟨d, 0, none⟩)) (f4 : fr 4 = .int .i64 (i : Nat))
      (r : DeskR g' k d b T L) (sm : Same g g') (kd : Nat) (a c : Value) (f15 : fr 15 = a) (f16 : fr 16 = c) (f17 : fr 17 = .int .i64 0) (A : Acc kd g' 1 a L.length (L.map fun x => .int .i64 x.no)) (C : Acc kd g' 4 c L.length (L.flatMap Bd.cells))
inductive OfInv (g : Hp) (k : Nat) (v : Value) (i d b : Nat) (T : Int) (L : List Bd) (kd : Nat) (a c : Value) (z : Nat) (fr : Fr) (g' : Hp) : Prop
  | mk (j : Nat) (hz : z = L.length - j) (hj : j ≤ L.length) (f0 : fr 0 = v) (f3 : fr 3 = .pointer (some ⟨d, 0, none⟩)) (f4 : fr 4 = .int .i64 (i : Nat)) (f15 : fr 15 = a) (f16 : fr 16 = c) (f17 : fr 17 = .int .i64 (j : Nat))
      (r : DeskR g' k d b T L) (sm : Same g g') (A : Acc kd g' 1 a L.length (L.map fun x => .int .i64 x.no)) (C : Acc kd g' 4 c L.length (L.flatMap Bd.cells))
inductive ApInv (g0 : Hp) (v : Value) (i d j : Nat) (a c : Value) (z : Nat) (fr : Fr) (g' : Hp) : Prop
  | mk (q : Nat) (hz : z = j - q) (hq : q ≤ j) (f0 : fr 0 = v) (f3 : fr 3 = .pointer (some ⟨d, 0, none⟩)) (f4 : fr 4 = .int .i64 (i : Nat)) (f15 : fr 15 = a) (f16 : fr 16 = c) (f17 : fr 17 = .int .i64 (j : Nat)) (f20 : fr 20 = .int .i64 (q : Nat)) (hh : g' = g0)
inductive BusyInv (L : List Bd) (x : Bd) (v c : Value) (d sb i : Nat) (h : Hp) (z : Nat) (fr : Fr) (g' : Hp) : Prop
  | mk (q : Nat) (bb : Bool) (hz : z = L.length - q) (hq : q ≤ L.length) (f0 : fr 0 = v) (f3 : fr 3 = .pointer (some ⟨d, 0, none⟩)) (f4 : fr 4 = .int .i64 (i : Nat)) (f5 : fr 5 = .pointer (some ⟨sb, 0, none⟩)) (f7 : fr 7 = c) (f8 : fr 8 = .bool bb) (f9 : fr 9 = .int .i64 (q : Nat))
      (hb : bb = (L.take q).any fun y => inWay y x) (hh : g' = h)
section
variable {h g : Hp} {v : Value} {l : List St5} {i : Nat}
set_option maxHeartbeats 8000000 in
set_option maxRecDepth 10000 in
theorem one26_ev (hv : SRow5 h v l) :
    EvA Try.prog 12 [v] (fun r _ => r = .bool true) h := by
  refine EvA.body Try.func12 rfl (by kernel_rfl) (by simp) ?_
  apply Run.ok
  have wl := SLen hv
  simp
  refine after_call (works26_ev _) ?_
  rintro r g ⟨rfl, rfl⟩
  by_cases c0 : 100 < l.length
  · have c0' : (100 : Int) < l.length := by omega
    simp [wl, c0']
    refine after_call (works26_ev _) ?_
    rintro r g ⟨rfl, rfl⟩
    simp
  have c0' : ¬ (100 : Int) < l.length := by omega
  simp [wl, c0']
  refine after_call (new26_ok _ (by omega) (by omega)) ?_
  rintro x g0 ⟨rfl, r, sm⟩
  obtain ⟨k, hk⟩ : ∃ k, k = g.length := ⟨_, rfl⟩
  rw [← hk] at r ⊢
  have hk2 : k + 1 < g0.length := r.lt.1
  simp
  refine WpA.loop (OneInv g k v l) (k := l.length) ⟨0, k + 1, k, 0, [], by simp, by omega, by omega, by simp, by simp, by simp, r, sm⟩ ?_
  clear r sm
  rintro z fr g' ⟨i, d, b, T, L, rfl, hi, hT, f0, f3, f4, r, sm⟩
  apply Run.ok
  have wl' := SLen (hv.same sm)
  by_cases c : i < l.length
  · have c' : (i : Int) < l.length := by omega
    have w3 : IntKind.i64.wrap ((i : Int) + 1) = (i : Int) + 1 := wrap_i64 (by omega) (by omega)
    have ia := SIA (hv.same sm) c
    have ag := SAG (hv.same sm) c
    have hn : (g' ++ [Blk.cells [.int .i64 l[i].k, .int .i64 l[i].a, .int .i64 l[i].b, .int .i64 l[i].c, .int .i64 l[i].d] false none])[g'.length]? = some (Blk.cells [.int .i64 l[i].k, .int .i64 l[i].a, .int .i64 l[i].b, .int .i64 l[i].c, .int .i64 l[i].d] false none) := by simp
    have sn : Same g' (g' ++ [Blk.cells [.int .i64 l[i].k, .int .i64 l[i].a, .int .i64 l[i].b, .int .i64 l[i].c, .int .i64 l[i].d] false none]) := Same.new _
    obtain ⟨s, hs⟩ : ∃ s, s = l[i] := ⟨_, rfl⟩
    rw [← hs] at ag hn sn
    obtain ⟨gB, hB⟩ : ∃ gB, gB = g' ++ [Blk.cells [.int .i64 s.k, .int .i64 s.a, .int .i64 s.b, .int .i64 s.c, .int .i64 s.d] false none] := ⟨_, rfl⟩
    rw [← hB] at sn hn
    have rB := r.same sn
    obtain ⟨sb, hsb⟩ : ∃ sb, sb = g'.length := ⟨_, rfl⟩
    rw [← hsb] at hn
    have lA := r.lt
    simp [f0, f3, f4, wl', c', ia, ag, ← hB, spl, ← hsb, -load_ptr]
    refine after_call (last26_ev rB) ?_
    rintro w5 gx ⟨hgx, rfl⟩
    subst gx
    simp
    refine after_call (counting_ev rB) ?_
    rintro w5 gC ⟨av, cv, rfl, A, C, sC⟩
    have rC := rB.same sC
    have hnC := sC.at hn
    have smC := (sm.trans sn).trans sC
    have hC : HRow gC cv L := ⟨C.row, fun _ _ => rfl⟩
    have few := rC.ok.few
    simp
    refine WpA.loop (BusyInv L s.bd v cv d sb i gC) (k := L.length) ⟨0, false, by simp, by omega, by simp [f0], by simp [f3], by simp [f4], by simp, by simp, by simp, by simp, by simp, rfl⟩ ?_
    clear f0 f3 f4
    rintro z fr gz ⟨q, bb, rfl, hq, f0, f3, f4, f5, f7, f8, f9, hb, rfl⟩
    apply Run.ok
    have hl := HLen hC
    by_cases cq : q < L.length
    · have cq' : (q : Int) < L.length := by omega
      have wq : IntKind.i64.wrap ((q : Int) + 1) = (q : Int) + 1 := wrap_i64 (by omega) (by omega)
      have i1 := HIA hC cq
      have h0 := HC0 hC cq
      have h1 := HC1 hC cq
      have h2 := HC2 hC cq
      have hany := any_next (fun y => inWay y s.bd) cq
      have k1 := load_at (P := Try.prog) (t := 3) (o := 1) hnC (by simp)
      have k2 := load_at (P := Try.prog) (t := 3) (o := 2) hnC (by simp)
      have k3 := load_at (P := Try.prog) (t := 3) (o := 3) hnC (by simp)
      simp only [List.getElem?_cons_zero, List.getElem?_cons_succ] at k1 k2 k3
      generalize L[q] = y at h0 h1 h2 hany
      simp [f7, f9, hl, cq', -load_ptr]
      refine WpA.drawnA [0, 1, 2, 3, 4, 5, 6, 7, 8, 9, 10, 11, 12, 13, 14, 15, 16, 17, 18, 19, 20, 21, 22, 23, 24, 25, 26, 27, 28, 29, 30, 31] [] (by kernel_rfl) (by decide +kernel) (by decide +kernel) ?_
      have done : ∀ b' : Bool, b' = (bb || inWay y s.bd) → b' = (L.take (q + 1)).any fun y => inWay y s.bd := fun b' e => by rw [hany, ← hb]; exact e
      cases bb with
      | true =>
        simp [f8, f9, wq, -load_ptr, -roundQ_normal, ↓rq]
        exact stop_intro ⟨L.length - (q + 1), by omega, q + 1, true, rfl, by omega, by simp [f0], by simp [f3], by simp [f4], by simp [f5], by simp [f7], by simp, by simp, done _ (by simp), rfl⟩
      | false =>
        by_cases e1 : y.runner = s.c
        · simp [f5, f7, f8, f9, i1, h2, k3, wq, e1, -load_ptr, -roundQ_normal, ↓rq]
          exact stop_intro ⟨L.length - (q + 1), by omega, q + 1, true, rfl, by omega, by simp [f0], by simp [f3], by simp [f4], by simp [f5], by simp [f7], by simp, by simp, done _ (by simp [inWay, St5.bd, e1]), rfl⟩
        have e1' : (y.runner == s.c) = false := by simpa using e1
        by_cases e2 : y.pipe = s.a
        · simp [f5, f7, f8, f9, i1, h0, h1, h2, k1, k2, k3, wq, e1', e2, -load_ptr, -roundQ_normal, ↓rq]
          exact stop_intro ⟨L.length - (q + 1), by omega, q + 1, (y.job == s.b), rfl, by omega, by simp [f0], by simp [f3], by simp [f4], by simp [f5], by simp [f7], by simp, by simp, done _ (by simp [inWay, taskB, St5.bd, e1, e2]; exact hbd _ _), rfl⟩
        have e2' : (y.pipe == s.a) = false := by simpa using e2
        simp [f5, f7, f8, f9, i1, h0, h2, k1, k3, wq, e1', e2', -load_ptr, -roundQ_normal, ↓rq]
        exact stop_intro ⟨L.length - (q + 1), by omega, q + 1, false, rfl, by omega, by simp [f0], by simp [f3], by simp [f4], by simp [f5], by simp [f7], by simp, by simp, done _ (by simp [inWay, taskB, St5.bd, e1, e2]), rfl⟩
    · have cq' : ¬ (q : Int) < L.length := by omega
      rw [List.take_of_length_le (by omega)] at hb
      have hbz : bb = busyB L s.bd := hb
      have k0 := load_at (P := Try.prog) (t := 3) (o := 0) hnC (by simp)
      have k1 := load_at (P := Try.prog) (t := 3) (o := 1) hnC (by simp)
      have k2 := load_at (P := Try.prog) (t := 3) (o := 2) hnC (by simp)
      have k3 := load_at (P := Try.prog) (t := 3) (o := 3) hnC (by simp)
      have k4 := load_at (P := Try.prog) (t := 3) (o := 4) hnC (by simp)
      simp only [List.getElem?_cons_zero, List.getElem?_cons_succ] at k0 k1 k2 k3 k4
      have lC := rC.lt
      have hT0 := rC.ok.l0
      simp [f5, f7, f9, hl, cq', k0, -load_ptr]
      apply cutRun2 (F := OneMid g k v i)
      · intro key
        by_cases hg : s.k = 0 ∧ s.bd.good = true
        · obtain ⟨p0, hgd⟩ := hg
          obtain ⟨⟨p1, p2⟩, ⟨p3, p4⟩, ⟨p5, p6⟩, p7, p8⟩ := (Bd.good_iff _).1 hgd
          simp only [St5.bd] at p1 p2 p3 p4 p5 p6 p7 p8
          simp [f3, f5, p0, p1, p2, p3, p4, p5, p6, p7, p8, k1, k2, k3, k4, -load_ptr]
          refine after_call (give_ev rC s.bd) ?_
          rintro w6 gD ⟨rfl, R1, uD⟩
          have smD : Same g gD := Upd.trans smC uD fun j hj e => by have := r.kd; have := r.kb; omega
          have hge := giveE_good (last := T) (L := L) hgd (by omega)
          rw [← hbz] at hge
          cases bb with
          | true =>
            simp only [if_true] at hge
            obtain ⟨q1, q2, q3⟩ := ge2 _ _ _ hge (by decide)
            rw [q1, q2] at R1
            rw [hge]
            rw [q3]
            simp [f3, f8, -load_ptr]
            refine after_call (last26_ev R1) ?_
            rintro w7 gz2 ⟨e7, rfl⟩
            subst gz2
            simp [-load_ptr]
            refine after_call (counting_ev R1) ?_
            rintro w8 gE ⟨a2, c2, rfl, A2, C2, sE⟩
            have R2 := R1.same sE
            have few2 := R2.ok.few
            have la := NLen A2
            have few2' : ¬ (4 : Int) < (L.length : Nat) := by omega
            simp [f3, la, -load_ptr]
            refine after_call (count26_ev R2) ?_
            rintro w9 gz3 ⟨e9, rfl⟩
            subst gz3
            simp [la, few2', -load_ptr, -Run_block']
            refine key _ _ ?_
            exact ⟨d, _, _, _, by omega, by simp [f0], by simp [f3], by simp [f4], R2, smD.trans sE, gD.length, a2, c2, by simp, by simp, by simp, A2, C2⟩
          | false =>
            simp only [Bool.false_eq_true, if_false] at hge
            obtain ⟨q1, q2, q3⟩ := ge1 _ _ _ hge
            rw [q1, q2] at R1
            generalize L ++ [s.bd.as (T + 1)] = L' at R1
            rw [hge]
            rw [q3]
            simp [f3, f8, -load_ptr]
            refine after_call (last26_ev R1) ?_
            rintro w7 gz2 ⟨e7, rfl⟩
            subst gz2
            simp [f3, -load_ptr]
            refine after_call (last26_ev R1) ?_
            rintro w7 gz2 ⟨e7, rfl⟩
            subst gz2
            simp [-load_ptr]
            refine after_call (counting_ev R1) ?_
            rintro w8 gE ⟨a2, c2, rfl, A2, C2, sE⟩
            have R2 := R1.same sE
            have few2 := R2.ok.few
            have la := NLen A2
            have few2' : ¬ (4 : Int) < (L'.length : Nat) := by omega
            simp [f3, la, -load_ptr]
            refine after_call (count26_ev R2) ?_
            rintro w9 gz3 ⟨e9, rfl⟩
            subst gz3
            simp [la, few2', -load_ptr, -Run_block']
            refine key _ _ ?_
            exact ⟨d, _, _, _, by omega, by simp [f0], by simp [f3], by simp [f4], R2, smD.trans sE, gD.length, a2, c2, by simp, by simp, by simp, A2, C2⟩
        have hcase : (¬ s.k = 0) ∨ (s.k = 0 ∧ ¬ 1 ≤ s.a) ∨ (s.k = 0 ∧ 1 ≤ s.a ∧ ¬ s.a ≤ 2147483647) ∨ (s.k = 0 ∧ 1 ≤ s.a ∧ s.a ≤ 2147483647 ∧ ¬ 0 ≤ s.b) ∨ (s.k = 0 ∧ 1 ≤ s.a ∧ s.a ≤ 2147483647 ∧ 0 ≤ s.b ∧ ¬ s.b ≤ 23) ∨ (s.k = 0 ∧ 1 ≤ s.a ∧ s.a ≤ 2147483647 ∧ 0 ≤ s.b ∧ s.b ≤ 23 ∧ ¬ 1 ≤ s.c) ∨ (s.k = 0 ∧ 1 ≤ s.a ∧ s.a ≤ 2147483647 ∧ 0 ≤ s.b ∧ s.b ≤ 23 ∧ 1 ≤ s.c ∧ ¬ s.c ≤ 4) ∨ (s.k = 0 ∧ 1 ≤ s.a ∧ s.a ≤ 2147483647 ∧ 0 ≤ s.b ∧ s.b ≤ 23 ∧ 1 ≤ s.c ∧ s.c ≤ 4 ∧ ¬ 0 ≤ s.d) ∨ (s.k = 0 ∧ 1 ≤ s.a ∧ s.a ≤ 2147483647 ∧ 0 ≤ s.b ∧ s.b ≤ 23 ∧ 1 ≤ s.c ∧ s.c ≤ 4 ∧ 0 ≤ s.d ∧ ¬ s.d ≤ 2147483647) := by
          rw [Bd.good_iff] at hg
          simp only [St5.bd] at hg
          omega
        rcases hcase with e0 | hcase
        · have e0 : (s.k == 0) = false := by simpa using e0
          have ls := ldS (s := s) hnC
          simp [f3, f5, e0, ls, -load_ptr]
          refine after_call (do_ev rC s) ?_
          rintro w6 gD ⟨d', b', rfl, R1, uD, hdb⟩
          have smD : Same g gD := Upd.trans smC uD fun j hj e => by have := r.kd; have := r.kb; omega
          have hTT := doT_le (last := T) L s
          generalize doT T L s = T' at R1 hTT
          generalize doL T L s = L' at R1
          simp [-load_ptr]
          refine after_call (last26_ev R1) ?_
          rintro w7 gz2 ⟨e7, rfl⟩
          subst gz2
          simp [-load_ptr]
          refine after_call (counting_ev R1) ?_
          rintro w8 gE ⟨a2, c2, rfl, A2, C2, sE⟩
          have R2 := R1.same sE
          have few2 := R2.ok.few
          have la := NLen A2
          have few2' : ¬ (4 : Int) < (L'.length : Nat) := by omega
          simp [la, -load_ptr]
          refine after_call (count26_ev R2) ?_
          rintro w9 gz3 ⟨e9, rfl⟩
          subst gz3
          simp [la, few2', -load_ptr, -Run_block']
          refine key _ _ ?_
          exact ⟨d', _, _, _, by omega, by simp [f0], by simp [f3], by simp [f4], R2, smD.trans sE, gD.length, a2, c2, by simp, by simp, by simp, A2, C2⟩
        rcases hcase with ⟨e0, e1⟩ | hcase
        · have e0 : (s.k == 0) = true := by simpa using e0
          have ls := ldS (s := s) hnC
          simp [f3, f5, e0, e1, k1, ls, -load_ptr]
          refine after_call (do_ev rC s) ?_
          rintro w6 gD ⟨d', b', rfl, R1, uD, hdb⟩
          have smD : Same g gD := Upd.trans smC uD fun j hj e => by have := r.kd; have := r.kb; omega
          have hTT := doT_le (last := T) L s
          generalize doT T L s = T' at R1 hTT
          generalize doL T L s = L' at R1
          simp [-load_ptr]
          refine after_call (last26_ev R1) ?_
          rintro w7 gz2 ⟨e7, rfl⟩
          subst gz2
          simp [-load_ptr]
          refine after_call (counting_ev R1) ?_
          rintro w8 gE ⟨a2, c2, rfl, A2, C2, sE⟩
          have R2 := R1.same sE
          have few2 := R2.ok.few
          have la := NLen A2
          have few2' : ¬ (4 : Int) < (L'.length : Nat) := by omega
          simp [la, -load_ptr]
          refine after_call (count26_ev R2) ?_
          rintro w9 gz3 ⟨e9, rfl⟩
          subst gz3
          simp [la, few2', -load_ptr, -Run_block']
          refine key _ _ ?_
          exact ⟨d', _, _, _, by omega, by simp [f0], by simp [f3], by simp [f4], R2, smD.trans sE, gD.length, a2, c2, by simp, by simp, by simp, A2, C2⟩
        rcases hcase with ⟨e0, e1, e2⟩ | hcase
        · have e0 : (s.k == 0) = true := by simpa using e0
          have ls := ldS (s := s) hnC
          simp [f3, f5, e0, e1, e2, k1, ls, -load_ptr]
          refine after_call (do_ev rC s) ?_
          rintro w6 gD ⟨d', b', rfl, R1, uD, hdb⟩
          have smD : Same g gD := Upd.trans smC uD fun j hj e => by have := r.kd; have := r.kb; omega
          have hTT := doT_le (last := T) L s
          generalize doT T L s = T' at R1 hTT
          generalize doL T L s = L' at R1
          simp [-load_ptr]
          refine after_call (last26_ev R1) ?_
          rintro w7 gz2 ⟨e7, rfl⟩
          subst gz2
          simp [-load_ptr]
          refine after_call (counting_ev R1) ?_
          rintro w8 gE ⟨a2, c2, rfl, A2, C2, sE⟩
          have R2 := R1.same sE
          have few2 := R2.ok.few
          have la := NLen A2
          have few2' : ¬ (4 : Int) < (L'.length : Nat) := by omega
          simp [la, -load_ptr]
          refine after_call (count26_ev R2) ?_
          rintro w9 gz3 ⟨e9, rfl⟩
          subst gz3
          simp [la, few2', -load_ptr, -Run_block']
          refine key _ _ ?_
          exact ⟨d', _, _, _, by omega, by simp [f0], by simp [f3], by simp [f4], R2, smD.trans sE, gD.length, a2, c2, by simp, by simp, by simp, A2, C2⟩
        rcases hcase with ⟨e0, e1, e2, e3⟩ | hcase
        · have e0 : (s.k == 0) = true := by simpa using e0
          have ls := ldS (s := s) hnC
          simp [f3, f5, e0, e1, e2, e3, k1, k2, ls, -load_ptr]
          refine after_call (do_ev rC s) ?_
          rintro w6 gD ⟨d', b', rfl, R1, uD, hdb⟩
          have smD : Same g gD := Upd.trans smC uD fun j hj e => by have := r.kd; have := r.kb; omega
          have hTT := doT_le (last := T) L s
          generalize doT T L s = T' at R1 hTT
          generalize doL T L s = L' at R1
          simp [-load_ptr]
          refine after_call (last26_ev R1) ?_
          rintro w7 gz2 ⟨e7, rfl⟩
          subst gz2
          simp [-load_ptr]
          refine after_call (counting_ev R1) ?_
          rintro w8 gE ⟨a2, c2, rfl, A2, C2, sE⟩
          have R2 := R1.same sE
          have few2 := R2.ok.few
          have la := NLen A2
          have few2' : ¬ (4 : Int) < (L'.length : Nat) := by omega
          simp [la, -load_ptr]
          refine after_call (count26_ev R2) ?_
          rintro w9 gz3 ⟨e9, rfl⟩
          subst gz3
          simp [la, few2', -load_ptr, -Run_block']
          refine key _ _ ?_
          exact ⟨d', _, _, _, by omega, by simp [f0], by simp [f3], by simp [f4], R2, smD.trans sE, gD.length, a2, c2, by simp, by simp, by simp, A2, C2⟩
        rcases hcase with ⟨e0, e1, e2, e3, e4⟩ | hcase
        · have e0 : (s.k == 0) = true := by simpa using e0
          have ls := ldS (s := s) hnC
          simp [f3, f5, e0, e1, e2, e3, e4, k1, k2, ls, -load_ptr]
          refine after_call (do_ev rC s) ?_
          rintro w6 gD ⟨d', b', rfl, R1, uD, hdb⟩
          have smD : Same g gD := Upd.trans smC uD fun j hj e => by have := r.kd; have := r.kb; omega
          have hTT := doT_le (last := T) L s
          generalize doT T L s = T' at R1 hTT
          generalize doL T L s = L' at R1
          simp [-load_ptr]
          refine after_call (last26_ev R1) ?_
          rintro w7 gz2 ⟨e7, rfl⟩
          subst gz2
          simp [-load_ptr]
          refine after_call (counting_ev R1) ?_
          rintro w8 gE ⟨a2, c2, rfl, A2, C2, sE⟩
          have R2 := R1.same sE
          have few2 := R2.ok.few
          have la := NLen A2
          have few2' : ¬ (4 : Int) < (L'.length : Nat) := by omega
          simp [la, -load_ptr]
          refine after_call (count26_ev R2) ?_
          rintro w9 gz3 ⟨e9, rfl⟩
          subst gz3
          simp [la, few2', -load_ptr, -Run_block']
          refine key _ _ ?_
          exact ⟨d', _, _, _, by omega, by simp [f0], by simp [f3], by simp [f4], R2, smD.trans sE, gD.length, a2, c2, by simp, by simp, by simp, A2, C2⟩
        rcases hcase with ⟨e0, e1, e2, e3, e4, e5⟩ | hcase
        · have e0 : (s.k == 0) = true := by simpa using e0
          have ls := ldS (s := s) hnC
          simp [f3, f5, e0, e1, e2, e3, e4, e5, k1, k2, k3, ls, -load_ptr]
          refine after_call (do_ev rC s) ?_
          rintro w6 gD ⟨d', b', rfl, R1, uD, hdb⟩
          have smD : Same g gD := Upd.trans smC uD fun j hj e => by have := r.kd; have := r.kb; omega
          have hTT := doT_le (last := T) L s
          generalize doT T L s = T' at R1 hTT
          generalize doL T L s = L' at R1
          simp [-load_ptr]
          refine after_call (last26_ev R1) ?_
          rintro w7 gz2 ⟨e7, rfl⟩
          subst gz2
          simp [-load_ptr]
          refine after_call (counting_ev R1) ?_
          rintro w8 gE ⟨a2, c2, rfl, A2, C2, sE⟩
          have R2 := R1.same sE
          have few2 := R2.ok.few
          have la := NLen A2
          have few2' : ¬ (4 : Int) < (L'.length : Nat) := by omega
          simp [la, -load_ptr]
          refine after_call (count26_ev R2) ?_
          rintro w9 gz3 ⟨e9, rfl⟩
          subst gz3
          simp [la, few2', -load_ptr, -Run_block']
          refine key _ _ ?_
          exact ⟨d', _, _, _, by omega, by simp [f0], by simp [f3], by simp [f4], R2, smD.trans sE, gD.length, a2, c2, by simp, by simp, by simp, A2, C2⟩
        rcases hcase with ⟨e0, e1, e2, e3, e4, e5, e6⟩ | hcase
        · have e0 : (s.k == 0) = true := by simpa using e0
          have ls := ldS (s := s) hnC
          simp [f3, f5, e0, e1, e2, e3, e4, e5, e6, k1, k2, k3, ls, -load_ptr]
          refine after_call (do_ev rC s) ?_
          rintro w6 gD ⟨d', b', rfl, R1, uD, hdb⟩
          have smD : Same g gD := Upd.trans smC uD fun j hj e => by have := r.kd; have := r.kb; omega
          have hTT := doT_le (last := T) L s
          generalize doT T L s = T' at R1 hTT
          generalize doL T L s = L' at R1
          simp [-load_ptr]
          refine after_call (last26_ev R1) ?_
          rintro w7 gz2 ⟨e7, rfl⟩
          subst gz2
          simp [-load_ptr]
          refine after_call (counting_ev R1) ?_
          rintro w8 gE ⟨a2, c2, rfl, A2, C2, sE⟩
          have R2 := R1.same sE
          have few2 := R2.ok.few
          have la := NLen A2
          have few2' : ¬ (4 : Int) < (L'.length : Nat) := by omega
          simp [la, -load_ptr]
          refine after_call (count26_ev R2) ?_
          rintro w9 gz3 ⟨e9, rfl⟩
          subst gz3
          simp [la, few2', -load_ptr, -Run_block']
          refine key _ _ ?_
          exact ⟨d', _, _, _, by omega, by simp [f0], by simp [f3], by simp [f4], R2, smD.trans sE, gD.length, a2, c2, by simp, by simp, by simp, A2, C2⟩
        rcases hcase with ⟨e0, e1, e2, e3, e4, e5, e6, e7⟩ | hcase
        · have e0 : (s.k == 0) = true := by simpa using e0
          have ls := ldS (s := s) hnC
          simp [f3, f5, e0, e1, e2, e3, e4, e5, e6, e7, k1, k2, k3, k4, ls, -load_ptr]
          refine after_call (do_ev rC s) ?_
          rintro w6 gD ⟨d', b', rfl, R1, uD, hdb⟩
          have smD : Same g gD := Upd.trans smC uD fun j hj e => by have := r.kd; have := r.kb; omega
          have hTT := doT_le (last := T) L s
          generalize doT T L s = T' at R1 hTT
          generalize doL T L s = L' at R1
          simp [-load_ptr]
          refine after_call (last26_ev R1) ?_
          rintro w7 gz2 ⟨e7, rfl⟩
          subst gz2
          simp [-load_ptr]
          refine after_call (counting_ev R1) ?_
          rintro w8 gE ⟨a2, c2, rfl, A2, C2, sE⟩
          have R2 := R1.same sE
          have few2 := R2.ok.few
          have la := NLen A2
          have few2' : ¬ (4 : Int) < (L'.length : Nat) := by omega
          simp [la, -load_ptr]
          refine after_call (count26_ev R2) ?_
          rintro w9 gz3 ⟨e9, rfl⟩
          subst gz3
          simp [la, few2', -load_ptr, -Run_block']
          refine key _ _ ?_
          exact ⟨d', _, _, _, by omega, by simp [f0], by simp [f3], by simp [f4], R2, smD.trans sE, gD.length, a2, c2, by simp, by simp, by simp, A2, C2⟩
        obtain ⟨e0, e1, e2, e3, e4, e5, e6, e7, e8⟩ := hcase
        have e0 : (s.k == 0) = true := by simpa using e0
        have ls := ldS (s := s) hnC
        simp [f3, f5, e0, e1, e2, e3, e4, e5, e6, e7, e8, k1, k2, k3, k4, ls, -load_ptr]
        refine after_call (do_ev rC s) ?_
        rintro w6 gD ⟨d', b', rfl, R1, uD, hdb⟩
        have smD : Same g gD := Upd.trans smC uD fun j hj e => by have := r.kd; have := r.kb; omega
        have hTT := doT_le (last := T) L s
        generalize doT T L s = T' at R1 hTT
        generalize doL T L s = L' at R1
        simp [-load_ptr]
        refine after_call (last26_ev R1) ?_
        rintro w7 gz2 ⟨e7, rfl⟩
        subst gz2
        simp [-load_ptr]
        refine after_call (counting_ev R1) ?_
        rintro w8 gE ⟨a2, c2, rfl, A2, C2, sE⟩
        have R2 := R1.same sE
        have few2 := R2.ok.few
        have la := NLen A2
        have few2' : ¬ (4 : Int) < (L'.length : Nat) := by omega
        simp [la, -load_ptr]
        refine after_call (count26_ev R2) ?_
        rintro w9 gz3 ⟨e9, rfl⟩
        subst gz3
        simp [la, few2', -load_ptr, -Run_block']
        refine key _ _ ?_
        exact ⟨d', _, _, _, by omega, by simp [f0], by simp [f3], by simp [f4], R2, smD.trans sE, gD.length, a2, c2, by simp, by simp, by simp, A2, C2⟩
      · clear f0 f3 f4 f5 f7 f8 f9 A C sC rC hnC smC hC hl k0 k1 k2 k3 k4 lC hT0 hbz hb few hn sn rB hB lA
        rintro fr gM ⟨d, b, T, L, hT, f0, f3, f4, r, sm, kd, a, c, f15, f16, f17, A, C⟩
        simp
        refine WpA.loop (OfInv g k v i d b T L kd a c) (k := L.length) ⟨0, by simp, by omega, f0, f3, f4, f15, f16, by simp [f17], r, sm, A, C⟩ ?_
        clear f0 f3 f4 f15 f16 f17 r sm A C
        rintro z fr gO ⟨j, rfl, hj, f0, f3, f4, f15, f16, f17, r, sm, A, C⟩
        apply Run.ok
        have la := NLen A
        have few := r.ok.few
        by_cases cj : j < L.length
        · have cj' : (j : Int) < L.length := by omega
          have wj : IntKind.i64.wrap ((j : Int) + 1) = (j : Int) + 1 := wrap_i64 (by omega) (by omega)
          have hC : HRow gO c L := ⟨C.row, fun _ _ => rfl⟩
          have i1 := HIA hC cj
          have h0 := HC0 hC cj
          have h1 := HC1 hC cj
          simp [f15, f17, la, cj', -load_ptr]
          refine WpA.drawnA [0, 1, 2, 3, 4, 5, 6, 7, 8, 9, 10, 11, 12, 13, 14, 15, 16] [[], [], [], [], [], [], [], [], [], [], [], [0, 1, 2, 3, 4, 5, 6, 7, 8, 9, 10]] (by kernel_rfl) (by decide +kernel) (by decide +kernel) ?_
          simp [f3, f16, f17, i1, h0, h1, -load_ptr]
          refine after_call (of_ev r L[j].pipe L[j].job) ?_
          rintro w gP ⟨sP, hw⟩
          rw [ofL_get r.ok cj] at hw
          subst hw
          have rP := r.same sP
          have AP := A.same sP
          have CP := C.same sP
          have smP := sm.trans sP
          have hCP := hC.same sP
          have ia := NIA AP cj
          have ld := NLD AP cj
          rw [List.getElem?_map, List.getElem?_eq_getElem cj, Option.map_some] at ld
          have hap := fun q (h : q < j) => runner_ne r.ok h cj
          have i2 := HIA hCP cj
          have h2 := HC2 hCP cj
          simp [f15, f17, ia, ld, -load_ptr]
          refine WpA.loop (ApInv gP v i d j a c) (k := j) ⟨0, by simp, by omega, by simp [f0], by simp [f3], by simp [f4], by simp [f15], by simp [f16], by simp [f17], by simp, rfl⟩ ?_
          clear f0 f3 f4 f15 f16 f17 r sm A C la
          rintro z fr gq ⟨q, rfl, hq, f0, f3, f4, f15, f16, f17, f20, rfl⟩
          apply Run.ok
          by_cases cq : q < j
          · have cq' : (q : Int) < j := by omega
            have wq : IntKind.i64.wrap ((q : Int) + 1) = (q : Int) + 1 := wrap_i64 (by omega) (by omega)
            have i3 := HIA hCP (show q < L.length by omega)
            have h3 := HC2 hCP (show q < L.length by omega)
            have hne := hap q cq
            generalize L[q].runner = x at h3 hne
            generalize L[j].runner = y at h2 hne
            simp [f17, f20, cq', -load_ptr]
            refine WpA.drawnA [0, 1, 2, 3, 4, 5, 6, 7, 8, 9, 10] [] (by kernel_rfl) (by decide +kernel) (by decide +kernel) ?_
            simp [f16, f17, f20, i2, h2, i3, h3, hne, wq, -load_ptr, -roundQ_normal, ↓rq]
            exact stop_intro ⟨j - (q + 1), by omega, q + 1, rfl, by omega, by simp [f0], by simp [f3], by simp [f4], by simp [f15], by simp [f16], by simp [f17], by simp, rfl⟩
          · have cq' : ¬ (q : Int) < j := by omega
            simp [f17, f20, cq', wj, -roundQ_normal, ↓rq]
            exact stop_intro ⟨L.length - (j + 1), by omega, j + 1, rfl, by omega, by simp [f0], by simp [f3], by simp [f4], by simp [f15], by simp [f16], by simp, rP, smP, AP, CP⟩
        · have cj' : ¬ (j : Int) < L.length := by omega
          simp [f4, f15, f17, la, cj', w3, -roundQ_normal, ↓rq]
          exact stop_intro ⟨l.length - (i + 1), by omega, i + 1, d, b, T, L, rfl, by omega, by omega, by simp [f0], by simp [f3], by simp, r, sm⟩
  · have c' : ¬ (i : Int) < l.length := by omega
    simp [f0, f4, wl', c', -load_ptr]
end
theorem badgeOne_ev (h : Hp) (vs : List Value) (dts : List Dt) (hr : RepAll Try.prog h 6 [67] vs dts) : EvA Try.prog 12 vs (fun r _ => r = .bool true) h := by
  obtain ⟨a, vs, d, ds, rfl, rfl, h1, hr⟩ := hr.cons
  rw [hr.nil]
  obtain ⟨l, l1, l2, l3, l4⟩ := h1.slice (e := 71) (z := 5) St5.cells (fun s => s.a ≤ 9223372036854775807) (by simp) (by kernel_rfl) (fun k x d hh hx => by
    obtain ⟨s, e, q, _⟩ := St5.of hx
    exact ⟨s, e, q⟩)
  exact one26_ev (l1.rows (fun _ _ => rfl) l4)
end Go.Proofs.Ytaahkamnpobofaa
