/- The document's desk: Expired, Save, Load; no condition. -/
import Derived.Test.YtaahkamnpobofaaRDeskC
import Derived.Test.YtaahkamnpobofaaRefB
namespace Go.Proofs.Ytaahkamnpobofaa
open Go.Ab
theorem lateL_next {L : List Bd} {i : Nat} (c : i < L.length) (now lease : Int) : lateL (L.take (i + 1)) now lease = lateL (L.take i) now lease ++ (if 1 ≤ lease ∧ lateB now lease L[i] = true then [L[i].no] else []) := by
  unfold lateL
  by_cases e : lease < 1
  · have e' : ¬ 1 ≤ lease := by omega
    simp [e, e']
  · have e' : 1 ≤ lease := by omega
    rw [if_neg e, if_neg e, List.take_add_one, List.getElem?_eq_getElem c, List.filter_append, List.map_append]
    congr 1
    by_cases h : lateB now lease L[i] = true <;> simp [h, e']
theorem lateL_le (L : List Bd) (now lease : Int) : (lateL L now lease).length ≤ L.length := by
  unfold lateL; split
  · simp
  · rw [List.length_map]; exact List.length_filter_le _ _
theorem put_cell {h : Hp} {c j : Nat} {cs : List Value} (n : Int) (hc : h[c]? = some (.cells cs false none)) (hj : j < cs.length) :
    storeA Try.prog 3 (.pointer (some ⟨c, j, none⟩)) (.int .i64 n) h = some (h.set c (.cells (cs.set j (.int .i64 n)) false none)) := by
  have : j + 1 ≤ cs.length := hj
  simp [storeA, hc, cellsOf, spl, this]
theorem rok_o {h : Hp} {k m b : Nat} {o : Option (List UInt8)} (hr : RRO h k m b o) :
    EvA Try.prog 69 [.pointer (some ⟨b, 0, none⟩)] (fun r h' => r = .bool o.isSome ∧ h' = h) h := by
  obtain ⟨hkb, hbm, v, hr, hv, hl⟩ := hr
  have hB := hr.1
  refine EvA.body Try.func69 rfl (by kernel_rfl) (by simp) ?_
  apply Run.ok
  cases o with
  | none => simp at hB; simp [hB]
  | some l => simp at hB; simp [hB]
section
variable {h g : Hp} {k d : Nat} {last : Int} {L : List Bd} {v : Value}
inductive RExpInv (h : Hp) (L : List Bd) (now lease : Int) (d : Nat) (z : Nat) (fr : Fr) (g : Hp) : Prop
  | mk (i : Nat) (o : Value) (hz : z = L.length - i) (hi : i ≤ L.length) (f0 : fr 0 = .pointer (some ⟨d, 0, none⟩)) (f1 : fr 1 = .int .i64 now) (f2 : fr 2 = .int .i64 lease) (f7 : fr 7 = o) (f8 : fr 8 = .int .i64 (i : Nat))
      (sm : Same h g) (A : Acc h.length g 1 o (lateL (L.take i) now lease).length ((lateL (L.take i) now lease).map fun n => .int .i64 n))
set_option maxHeartbeats 4000000 in
theorem rexpired_ev (r : RefD h k d v last L) (now lease : Int) (hn : now ≤ 9223372036854775807) : EvA Try.prog 75 [.pointer (some ⟨d, 0, none⟩), .int .i64 now, .int .i64 lease]
    (fun w h' => Acc h.length h' 1 w (lateL L now lease).length ((lateL L now lease).map fun n => .int .i64 n) ∧ Same h h') h := by
  refine EvA.body Try.func75 rfl (by kernel_rfl) (by simp) ?_
  apply Run.ok
  have few := r.ok.few
  simp
  refine WpA.loop (RExpInv h L now lease d) (k := L.length) ⟨0, .slice none 0 0, by simp, by omega, by simp, by simp, by simp, by simp, by simp, Same.refl, by simp [lateL]; exact Acc.nil _⟩ ?_
  rintro z fr gz ⟨i, o, rfl, hi, f0, f1, f2, f7, f8, sm, A⟩
  apply Run.ok
  have r2 := r.same sm
  have l1 := r2.l1
  have hl := FLen r2.fr
  by_cases c : i < L.length
  · have c' : (i : Int) < L.length := by omega
    have w1 : IntKind.i64.wrap ((i : Int) + 1) = (i : Int) + 1 := wrap_i64 (by omega) (by omega)
    have ia := FIA r2.fr c
    have c0 := FC0 r2.fr c
    have c4 := FC4 r2.fr c
    have hnx := lateL_next c now lease
    have hle := lateL_le (L.take i) now lease
    have hle2 : (L.take i).length ≤ 4 := by simp; omega
    have hgd := (Bd.good_iff L[i]).1 (r.ok.good L[i] (List.getElem_mem _))
    generalize L[i] = x at c0 c4 hnx hgd
    by_cases a1 : 1 ≤ lease
    · by_cases a2 : lease ≤ now
      · have w2 : IntKind.i64.wrap (now - lease) = now - lease := wrap_i64 (by omega) (by omega)
        by_cases a3 : x.heard ≤ now - lease
        · rw [if_pos ⟨a1, by simp [lateB]; omega⟩] at hnx
          obtain ⟨o', g', e1, A', u'⟩ := appI A (by have := sm.len; omega) (by omega) x.no
          have sx : Same gz (gz ++ [.cells [.int .i64 x.no] false none]) := Same.new _
          have sm' : Same h g' := Upd.trans (sm.trans sx) u' fun j hj e => by have := (A.above j e).1; omega
          simp [f0, f1, f2, f7, f8, l1, hl, c', a1, a2, a3, w1, w2, ia, c0, c4, zeros, spl, capO, e1, -load_ptr, -roundQ_normal, ↓rq]
          exact stop_intro ⟨L.length - (i + 1), by omega, i + 1, o', rfl, by omega, by simp [f0], by simp [f1], by simp [f2], by simp, by simp, sm', by rw [hnx]; simpa using A'⟩
        · rw [if_neg (by simp [lateB]; omega), List.append_nil] at hnx
          simp [f0, f1, f2, f8, l1, hl, c', a1, a2, a3, w1, w2, ia, c4, -load_ptr, -roundQ_normal, ↓rq]
          exact stop_intro ⟨L.length - (i + 1), by omega, i + 1, o, rfl, by omega, by simp [f0], by simp [f1], by simp [f2], by simp [f7], by simp, sm, by rw [hnx]; exact A⟩
      · rw [if_neg (by simp [lateB]; omega), List.append_nil] at hnx
        simp [f0, f1, f2, f8, l1, hl, c', a1, a2, w1, -load_ptr, -roundQ_normal, ↓rq]
        exact stop_intro ⟨L.length - (i + 1), by omega, i + 1, o, rfl, by omega, by simp [f0], by simp [f1], by simp [f2], by simp [f7], by simp, sm, by rw [hnx]; exact A⟩
    · rw [if_neg (by simp [a1]), List.append_nil] at hnx
      simp [f0, f2, f8, l1, hl, c', a1, w1, -load_ptr, -roundQ_normal, ↓rq]
      exact stop_intro ⟨L.length - (i + 1), by omega, i + 1, o, rfl, by omega, by simp [f0], by simp [f1], by simp [f2], by simp [f7], by simp, sm, by rw [hnx]; exact A⟩
  · have c' : ¬ (i : Int) < L.length := by omega
    rw [List.take_of_length_le (by omega)] at A
    simp [f0, f7, f8, l1, hl, c', -load_ptr]
    exact ⟨A, sm⟩
inductive RSaveInv (h : Hp) (last : Int) (L : List Bd) (d : Nat) (z : Nat) (fr : Fr) (g : Hp) : Prop
  | mk (i : Nat) (o : Value) (hz : z = L.length - i) (hi : i ≤ L.length) (f0 : fr 0 = .pointer (some ⟨d, 0, none⟩)) (f3 : fr 3 = o) (f4 : fr 4 = .int .i64 (i : Nat))
      (sm : Same h g) (B : BAcc h.length g o (cntB last ++ cntB (L.length : Nat) ++ (L.take i).flatMap bdB))
set_option maxHeartbeats 4000000 in
theorem rsave_ev (r : RefD h k d v last L) : EvA Try.prog 76 [.pointer (some ⟨d, 0, none⟩)] (fun v h' => BAcc h.length h' v (saveB last L) ∧ Same h h') h := by
  refine EvA.body Try.func76 rfl (by kernel_rfl) (by simp) ?_
  apply Run.ok
  have few := r.ok.few
  have l0 := r.l0
  simp [l0, -load_ptr]
  refine after_call (rcount_lay_ev (.slice none 0 0) [] last h Row.nil (by simp)) ?_
  rintro o1 g1 ⟨B1, s1⟩
  have r1 := r.same s1
  have l1 := r1.l1
  have hl := FLen r1.fr
  have hp1 := cntB_len last
  have hp2 := cntB_len (L.length : Nat)
  simp [l1, hl, -load_ptr]
  refine after_call (rcount_lay_ev o1 _ (L.length : Nat) g1 (BAcc.bytes B1) (by simp; omega)) ?_
  rintro o2 g2 ⟨B2, s2⟩
  have sm2 := s1.trans s2
  have B3 : BAcc h.length g2 o2 (cntB last ++ cntB (L.length : Nat)) := BAcc.down s1.len (by simpa using B2)
  simp
  refine WpA.loop (RSaveInv h last L d) (k := L.length) ⟨0, o2, by simp, by omega, by simp, by simp, by simp, sm2, by simpa using B3⟩ ?_
  rintro z fr gz ⟨i, o, rfl, hi, f0, f3, f4, sm, B⟩
  apply Run.ok
  have r2 := r.same sm
  have l1 := r2.l1
  have hl := FLen r2.fr
  by_cases c : i < L.length
  · have c' : (i : Int) < L.length := by omega
    have w1 : IntKind.i64.wrap ((i : Int) + 1) = (i : Int) + 1 := wrap_i64 (by omega) (by omega)
    have ia := FIA r2.fr c
    have ag := FAG r2.fr c
    have hnx : (L.take (i + 1)).flatMap bdB = (L.take i).flatMap bdB ++ bdB L[i] := by rw [List.take_add_one, List.getElem?_eq_getElem c, List.flatMap_append]; simp
    have hpl := bdBs_len (L.take i)
    have hpt : (L.take i).length ≤ 4 := by simp; omega
    generalize L[i] = x at ag hnx
    have sn : Same gz (gz ++ [Blk.cells x.five false none]) := Same.new _
    have hn : (gz ++ [Blk.cells x.five false none])[gz.length]? = some (.cells x.five false none) := by simp
    obtain ⟨e0, he0⟩ : ∃ g, g = gz ++ [Blk.cells x.five false none] := ⟨_, rfl⟩
    rw [← he0] at sn hn
    have he0' : gz ++ [Blk.cells [.int .i64 x.no, .int .i64 x.pipe, .int .i64 x.job, .int .i64 x.runner, .int .i64 x.heard] false none] = e0 := he0.symm
    have B0 := B.same sn
    have sm0 := sm.trans sn
    have hq0 := cntB_len x.no
    have hq1 := cntB_len x.pipe
    have hq2 := cntB_len x.job
    have hq3 := cntB_len x.runner
    have hq4 := cntB_len x.heard
    have f3' := f3
    have k0 := load_at (P := Try.prog) (t := 3) (o := 0) hn (by simp)
    simp only [Bd.five, List.getElem?_cons_zero] at k0
    simp [f0, f3, f4, l1, hl, c', ia, ag, spl, he0', k0, -load_ptr]
    refine after_call (rcount_lay_ev o _ x.no e0 (BAcc.bytes B0) (by simp only [List.length_append]; omega)) ?_
    rintro o3 e1 ⟨C1, t1⟩
    have hn := t1.at hn
    have sm1 := sm0.trans t1
    have B1' := BAcc.down sm0.len C1
    have k1 := load_at (P := Try.prog) (t := 3) (o := 1) hn (by simp)
    simp only [Bd.five, List.getElem?_cons_zero, List.getElem?_cons_succ] at k1
    simp [k1, -load_ptr]
    refine after_call (rcount_lay_ev o3 _ x.pipe e1 (BAcc.bytes B1') (by simp only [List.length_append]; omega)) ?_
    rintro o4 e2 ⟨C2, t2⟩
    have hn := t2.at hn
    have sm2 := sm1.trans t2
    have B2' := BAcc.down sm1.len C2
    have k2 := load_at (P := Try.prog) (t := 3) (o := 2) hn (by simp)
    simp only [Bd.five, List.getElem?_cons_zero, List.getElem?_cons_succ] at k2
    simp [k2, -load_ptr]
    refine after_call (rcount_lay_ev o4 _ x.job e2 (BAcc.bytes B2') (by simp only [List.length_append]; omega)) ?_
    rintro o5 e3 ⟨C3, t3⟩
    have hn := t3.at hn
    have sm3 := sm2.trans t3
    have B3' := BAcc.down sm2.len C3
    have k3 := load_at (P := Try.prog) (t := 3) (o := 3) hn (by simp)
    simp only [Bd.five, List.getElem?_cons_zero, List.getElem?_cons_succ] at k3
    simp [k3, -load_ptr]
    refine after_call (rcount_lay_ev o5 _ x.runner e3 (BAcc.bytes B3') (by simp only [List.length_append]; omega)) ?_
    rintro o6 e4 ⟨C4, t4⟩
    have hn := t4.at hn
    have sm4 := sm3.trans t4
    have B4' := BAcc.down sm3.len C4
    have k4 := load_at (P := Try.prog) (t := 3) (o := 4) hn (by simp)
    simp only [Bd.five, List.getElem?_cons_zero, List.getElem?_cons_succ] at k4
    simp [k4, -load_ptr]
    refine after_call (rcount_lay_ev o6 _ x.heard e4 (BAcc.bytes B4') (by simp only [List.length_append]; omega)) ?_
    rintro o7 e5 ⟨C5, t5⟩
    have hn := t5.at hn
    have sm5 := sm4.trans t5
    have B5' := BAcc.down sm4.len C5
    simp [f4, w1, -roundQ_normal, ↓rq]
    refine stop_intro ⟨L.length - (i + 1), by omega, i + 1, o7, rfl, by omega, by simp [f0], by simp, by simp, sm5, ?_⟩
    rw [hnx]
    simpa [bdB, bdN, List.append_assoc] using B5'
  · have c' : ¬ (i : Int) < L.length := by omega
    rw [List.take_of_length_le (by omega)] at B
    simp [f0, f3, f4, l1, hl, c', -load_ptr]
    exact ⟨by simpa [saveB] using B, sm⟩
end
end Go.Proofs.Ytaahkamnpobofaa
