/- The document's desk: what it is, good, busy, At, Of; no condition. -/
import Derived.Test.YtaahkamnpobofaaBadgeH
import Derived.Test.YtaahkamnpobofaaRefA
namespace Go.Proofs.Ytaahkamnpobofaa
open Go.Ab
def Bd.five (x : Bd) : List Value := [.int .i64 x.no, .int .i64 x.pipe, .int .i64 x.job, .int .i64 x.runner, .int .i64 x.heard]
/-- the document's desk at d, its list behind v -/
structure RefD (h : Hp) (k d : Nat) (v : Value) (last : Int) (L : List Bd) : Prop where
  at_ : h[d]? = some (.cells [.int .i64 last, v] false none)
  row : Acc k h 5 v L.length (L.flatMap Bd.five)
  ne : ∀ j, inRow v j → j ≠ d
  kd : k ≤ d
  ok : DeskOk last L
abbrev FRow (h : Hp) (v : Value) (l : List Bd) : Prop := TRow h 5 v l Bd.five
section
variable {h g : Hp} {v : Value} {l : List Bd} {i : Nat}
theorem FLen (hv : FRow h v l) : lenA Try.prog 48 v h = some (.int .i64 (l.length : Nat)) := hv.len (e := 53) (by simp)
theorem FIA (hv : FRow h v l) (hi : i < l.length) : indexAddrA Try.prog 48 v (.int .i64 (i : Nat)) = some (.pointer (some ⟨rbl v, rof v + i * 5, none⟩)) := hv.ia (e := 53) (by simp) (by simp) hi .i64
theorem FAG (hv : FRow h v l) (hi : i < l.length) : loadA Try.prog 53 (.pointer (some ⟨rbl v, rof v + i * 5, none⟩)) h = some (.agg #[.int .i64 l[i].no, .int .i64 l[i].pipe, .int .i64 l[i].job, .int .i64 l[i].runner, .int .i64 l[i].heard]) := hv.agg (by simp) (by simp) hi
theorem FC0 (hv : FRow h v l) (hi : i < l.length) : loadA Try.prog 3 (.pointer (some ⟨rbl v, rof v + i * 5, none⟩)) h = some (.int .i64 l[i].no) := hv.cell0 (by simp) hi (by omega)
theorem FC1 (hv : FRow h v l) (hi : i < l.length) : loadA Try.prog 3 (.pointer (some ⟨rbl v, rof v + i * 5 + 1, none⟩)) h = some (.int .i64 l[i].pipe) := hv.cell (j := 1) (by simp) hi (by omega)
theorem FC2 (hv : FRow h v l) (hi : i < l.length) : loadA Try.prog 3 (.pointer (some ⟨rbl v, rof v + i * 5 + 2, none⟩)) h = some (.int .i64 l[i].job) := hv.cell (j := 2) (by simp) hi (by omega)
theorem FC3 (hv : FRow h v l) (hi : i < l.length) : loadA Try.prog 3 (.pointer (some ⟨rbl v, rof v + i * 5 + 3, none⟩)) h = some (.int .i64 l[i].runner) := hv.cell (j := 3) (by simp) hi (by omega)
theorem FC4 (hv : FRow h v l) (hi : i < l.length) : loadA Try.prog 3 (.pointer (some ⟨rbl v, rof v + i * 5 + 4, none⟩)) h = some (.int .i64 l[i].heard) := hv.cell (j := 4) (by simp) hi (by omega)
theorem ld5 {c : Nat} {x : Bd} (hc : h[c]? = some (.cells x.five false none)) : loadA Try.prog 53 (.pointer (some ⟨c, 0, none⟩)) h = some (.agg #[.int .i64 x.no, .int .i64 x.pipe, .int .i64 x.job, .int .i64 x.runner, .int .i64 x.heard]) := by
  simp [loadA, hc, Bd.five]
end
section
variable {h g : Hp} {k d : Nat} {last : Int} {L : List Bd} {v : Value}
theorem RefD.fr (r : RefD h k d v last L) : FRow h v L := ⟨r.row.row, fun _ _ => rfl⟩
theorem RefD.l0 (r : RefD h k d v last L) : loadA Try.prog 3 (.pointer (some ⟨d, 0, none⟩)) h = some (.int .i64 last) := by rw [load_at r.at_ (by simp)]; rfl
theorem RefD.l1 (r : RefD h k d v last L) : loadA Try.prog 48 (.pointer (some ⟨d, 1, none⟩)) h = some v := by rw [load_at r.at_ (by simp)]; rfl
theorem RefD.upd {h' : Hp} {S : Nat → Prop} (r : RefD h k d v last L) (u : Upd S h h') (hd : ¬ S d) (hv : ∀ j, inRow v j → ¬ S j) : RefD h' k d v last L := ⟨u.at r.at_ hd, r.row.upd u hv, r.ne, r.kd, r.ok⟩
theorem RefD.same {h' : Hp} (r : RefD h k d v last L) (u : Same h h') : RefD h' k d v last L := r.upd u (fun h => h) (fun _ _ h => h)
theorem RefD.lt (r : RefD h k d v last L) : d < h.length := hp_lt r.at_
theorem rgood_ev (x : Bd) (h : Hp) : EvA Try.prog 70 [.agg #[.int .i64 x.no, .int .i64 x.pipe, .int .i64 x.job, .int .i64 x.runner, .int .i64 x.heard]] (fun r h' => Same h h' ∧ r = .bool x.good) h := by
  refine EvA.body Try.func70 rfl (by kernel_rfl) (by simp) ?_
  apply Run.ok
  have sn : Same h (h ++ [Blk.cells [.int .i64 x.no, .int .i64 x.pipe, .int .i64 x.job, .int .i64 x.runner, .int .i64 x.heard] false none]) := Same.new _
  cases hg : x.good with
  | true =>
    obtain ⟨⟨p1, p2⟩, ⟨p3, p4⟩, ⟨p5, p6⟩, p7, p8⟩ := (Bd.good_iff _).1 hg
    simp [p1, p2, p3, p4, p5, p6, p7, p8, sn]
  | false =>
    have hng : ¬ x.good = true := by rw [hg]; simp
    rw [Bd.good_iff] at hng
    have hcase : (¬ 1 ≤ x.pipe) ∨ (1 ≤ x.pipe ∧ ¬ x.pipe ≤ 2147483647) ∨ (1 ≤ x.pipe ∧ x.pipe ≤ 2147483647 ∧ ¬ 0 ≤ x.job) ∨ (1 ≤ x.pipe ∧ x.pipe ≤ 2147483647 ∧ 0 ≤ x.job ∧ ¬ x.job ≤ 23) ∨ (1 ≤ x.pipe ∧ x.pipe ≤ 2147483647 ∧ 0 ≤ x.job ∧ x.job ≤ 23 ∧ ¬ 1 ≤ x.runner) ∨ (1 ≤ x.pipe ∧ x.pipe ≤ 2147483647 ∧ 0 ≤ x.job ∧ x.job ≤ 23 ∧ 1 ≤ x.runner ∧ ¬ x.runner ≤ 4) ∨ (1 ≤ x.pipe ∧ x.pipe ≤ 2147483647 ∧ 0 ≤ x.job ∧ x.job ≤ 23 ∧ 1 ≤ x.runner ∧ x.runner ≤ 4 ∧ ¬ 0 ≤ x.heard) ∨ (1 ≤ x.pipe ∧ x.pipe ≤ 2147483647 ∧ 0 ≤ x.job ∧ x.job ≤ 23 ∧ 1 ≤ x.runner ∧ x.runner ≤ 4 ∧ 0 ≤ x.heard ∧ ¬ x.heard ≤ 2147483647) := by omega
    rcases hcase with e1 | ⟨e1, e2⟩ | ⟨e1, e2, e3⟩ | ⟨e1, e2, e3, e4⟩ | ⟨e1, e2, e3, e4, e5⟩ | ⟨e1, e2, e3, e4, e5, e6⟩ | ⟨e1, e2, e3, e4, e5, e6, e7⟩ | ⟨e1, e2, e3, e4, e5, e6, e7, e8⟩
    · simp [e1, sn]
    · simp [e1, e2, sn]
    · simp [e1, e2, e3, sn]
    · simp [e1, e2, e3, e4, sn]
    · simp [e1, e2, e3, e4, e5, sn]
    · simp [e1, e2, e3, e4, e5, e6, sn]
    · simp [e1, e2, e3, e4, e5, e6, e7, sn]
    · simp [e1, e2, e3, e4, e5, e6, e7, e8, sn]
theorem any_next5 {α : Type} (p : α → Bool) {l : List α} {i : Nat} (hi : i < l.length) : (l.take (i + 1)).any p = ((l.take i).any p || p l[i]) := by
  rw [List.take_add_one, List.getElem?_eq_getElem hi, List.any_append]; simp [Option.toList]
theorem hbd5 (a b : Int) : (a == b) = decide (a = b) := by by_cases h : a = b <;> simp [h]
inductive RBusyInv (L : List Bd) (x : Bd) (d c : Nat) (h : Hp) (z : Nat) (fr : Fr) (g' : Hp) : Prop
  | mk (q : Nat) (hz : z = L.length - q) (hq : q ≤ L.length) (f0 : fr 0 = .pointer (some ⟨d, 0, none⟩)) (f3 : fr 3 = .pointer (some ⟨c, 0, none⟩)) (f5 : fr 5 = .int .i64 (q : Nat))
      (hb : (L.take q).any (fun y => inWay y x) = false) (hh : g' = h)
set_option maxHeartbeats 2000000 in
theorem rbusy_ev (r : RefD h k d v last L) (x : Bd) : EvA Try.prog 71 [.pointer (some ⟨d, 0, none⟩), .agg #[.int .i64 x.no, .int .i64 x.pipe, .int .i64 x.job, .int .i64 x.runner, .int .i64 x.heard]] (fun w h' => Same h h' ∧ w = .bool (busyB L x)) h := by
  refine EvA.body Try.func71 rfl (by kernel_rfl) (by simp) ?_
  apply Run.ok
  have sn : Same h (h ++ [Blk.cells x.five false none]) := Same.new _
  have hn : (h ++ [Blk.cells x.five false none])[h.length]? = some (.cells x.five false none) := by simp
  obtain ⟨g, hg⟩ : ∃ g, g = h ++ [Blk.cells x.five false none] := ⟨_, rfl⟩
  rw [← hg] at sn hn
  have hg' : h ++ [Blk.cells [.int .i64 x.no, .int .i64 x.pipe, .int .i64 x.job, .int .i64 x.runner, .int .i64 x.heard] false none] = g := hg.symm
  have r1 := r.same sn
  have hv := r1.fr
  have hl := FLen hv
  have l1 := r1.l1
  have few := r.ok.few
  have k1 := load_at (P := Try.prog) (t := 3) (o := 1) hn (by simp)
  have k2 := load_at (P := Try.prog) (t := 3) (o := 2) hn (by simp)
  have k3 := load_at (P := Try.prog) (t := 3) (o := 3) hn (by simp)
  simp only [Bd.five, List.getElem?_cons_zero, List.getElem?_cons_succ] at k1 k2 k3
  simp [hg']
  refine WpA.loop (RBusyInv L x d h.length g) (k := L.length) ⟨0, by simp, by omega, by simp, by simp, by simp, by simp, rfl⟩ ?_
  rintro z fr gz ⟨q, rfl, hq, f0, f3, f5, hb, rfl⟩
  apply Run.ok
  by_cases c : q < L.length
  · have c' : (q : Int) < L.length := by omega
    have w1 : IntKind.i64.wrap ((q : Int) + 1) = (q : Int) + 1 := wrap_i64 (by omega) (by omega)
    have ia := FIA hv c
    have c1 := FC1 hv c
    have c2 := FC2 hv c
    have c3 := FC3 hv c
    have hany := any_next5 (fun y => inWay y x) c
    have hmem : inWay L[q] x = true → busyB L x = true := fun e => List.any_eq_true.2 ⟨_, List.getElem_mem c, e⟩
    rw [hb, Bool.false_or] at hany
    generalize L[q] = y at c1 c2 c3 hany hmem
    simp [f0, f5, l1, hl, c', -load_ptr]
    refine WpA.drawnA [0, 1, 2, 3, 4, 5, 6, 7, 8, 9, 10, 11, 12, 13, 14, 15, 16, 17, 18, 19, 20, 21, 22, 23, 24, 25, 26, 27, 28, 29, 30, 31, 32, 33, 34, 35, 36] [] (by kernel_rfl) (by decide +kernel) (by decide +kernel) ?_
    by_cases e1 : y.runner = x.runner
    · have hb' := hmem (by simp [inWay, e1])
      simp [f0, f3, f5, l1, ia, c3, k3, e1, hb', sn, -load_ptr]
    have e1' : (y.runner == x.runner) = false := by simpa using e1
    by_cases e2 : y.pipe = x.pipe
    · by_cases e3 : y.job = x.job
      · have hb' := hmem (by simp [inWay, taskB, e2, e3])
        simp [f0, f3, f5, l1, ia, c1, c2, c3, k1, k2, k3, e1', e2, e3, hb', sn, -load_ptr]
      · have e3' : (y.job == x.job) = false := by simpa using e3
        simp [f0, f3, f5, l1, ia, c1, c2, c3, k1, k2, k3, e1', e2, e3', w1, -load_ptr, -roundQ_normal, ↓rq]
        exact stop_intro ⟨L.length - (q + 1), by omega, q + 1, rfl, by omega, by simp [f0], by simp [f3], by simp, by rw [hany]; simp [inWay, taskB, e1, e3], rfl⟩
    · have e2' : (y.pipe == x.pipe) = false := by simpa using e2
      simp [f0, f3, f5, l1, ia, c1, c3, k1, k3, e1', e2', w1, -load_ptr, -roundQ_normal, ↓rq]
      exact stop_intro ⟨L.length - (q + 1), by omega, q + 1, rfl, by omega, by simp [f0], by simp [f3], by simp, by rw [hany]; simp [inWay, taskB, e1, e2], rfl⟩
  · have c' : ¬ (q : Int) < L.length := by omega
    rw [List.take_of_length_le (by omega)] at hb
    have hb' : busyB L x = false := hb
    simp [f0, f5, l1, hl, c', hb', sn, -load_ptr]
theorem rat_ev (r : RefD h k d v last L) (q : Int) : EvA Try.prog 73 [.pointer (some ⟨d, 0, none⟩), .int .i64 q] (fun w h' => h' = h ∧ ((∃ i, ∃ hi : i < L.length, L[i].no = q ∧ w = .int .i64 (i : Nat)) ∨ (atL L q = none ∧ w = .int .i64 (-1)))) h := by
  refine EvA.body Try.func73 rfl (by kernel_rfl) (by simp) ?_
  apply Run.ok
  have hv := r.fr
  have hl := FLen hv
  have l1 := r.l1
  have few := r.ok.few
  simp
  refine WpA.loop (fun z fr g => ∃ i, z = L.length - i ∧ i ≤ L.length ∧ fr 0 = .pointer (some ⟨d, 0, none⟩) ∧ fr 1 = .int .i64 q ∧ fr 5 = .int .i64 (i : Nat) ∧ g = h ∧ ∀ x ∈ L.take i, x.no ≠ q)
    (k := L.length) ⟨0, by simp, by omega, by simp, by simp, by simp, rfl, by simp⟩ ?_
  rintro z fr gz ⟨i, rfl, hi, f0, f1, f5, rfl, hb⟩
  apply Run.ok
  by_cases c : i < L.length
  · have c' : (i : Int) < L.length := by omega
    have w1 : IntKind.i64.wrap ((i : Int) + 1) = (i : Int) + 1 := wrap_i64 (by omega) (by omega)
    have ia := FIA hv c
    have c0 := FC0 hv c
    have hnx : L.take (i + 1) = L.take i ++ [L[i]] := by rw [List.take_add_one, List.getElem?_eq_getElem c]; rfl
    by_cases e : L[i].no = q
    · simp [f0, f1, f5, l1, hl, ia, c0, c', e, -load_ptr]
      exact ⟨i, ⟨c, e⟩, rfl⟩
    · have e' : (L[i].no == q) = false := by simpa using e
      simp [f0, f1, f5, l1, hl, ia, c0, c', e', w1, -load_ptr, -roundQ_normal, ↓rq]
      refine stop_intro ⟨L.length - (i + 1), by omega, i + 1, rfl, by omega, by simp [f0], by simp [f1], by simp, rfl, fun x hx => ?_⟩
      rw [hnx] at hx
      rcases List.mem_append.1 hx with hx | hx
      · exact hb x hx
      · simp only [List.mem_singleton] at hx; subst hx; exact e
  · have c' : ¬ (i : Int) < L.length := by omega
    rw [List.take_of_length_le (by omega)] at hb
    simp [f0, f5, l1, hl, c', -load_ptr]
    exact atL_none hb
theorem rof_ev (r : RefD h k d v last L) (p j : Int) : EvA Try.prog 74 [.pointer (some ⟨d, 0, none⟩), .int .i64 p, .int .i64 j] (fun w h' => h' = h ∧ w = match ofL L p j with | some x => .tuple #[.int .i64 x.no, .bool true] | none => .tuple #[.int .i64 0, .bool false]) h := by
  refine EvA.body Try.func74 rfl (by kernel_rfl) (by simp) ?_
  apply Run.ok
  have hv := r.fr
  have hl := FLen hv
  have l1 := r.l1
  have few := r.ok.few
  simp
  refine WpA.loop (fun z fr g => ∃ i, z = L.length - i ∧ i ≤ L.length ∧ fr 0 = .pointer (some ⟨d, 0, none⟩) ∧ fr 1 = .int .i64 p ∧ fr 2 = .int .i64 j ∧ fr 8 = .int .i64 (i : Nat) ∧ g = h ∧ ofL L p j = ofL (L.drop i) p j)
    (k := L.length) ⟨0, by simp, by omega, by simp, by simp, by simp, by simp, rfl, by simp⟩ ?_
  rintro z fr gz ⟨i, rfl, hi, f0, f1, f2, f8, rfl, hb⟩
  apply Run.ok
  by_cases c : i < L.length
  · have c' : (i : Int) < L.length := by omega
    have w1 : IntKind.i64.wrap ((i : Int) + 1) = (i : Int) + 1 := wrap_i64 (by omega) (by omega)
    have ia := FIA hv c
    have c0 := FC0 hv c
    have c1 := FC1 hv c
    have c2 := FC2 hv c
    rw [List.drop_eq_getElem_cons c] at hb
    simp only [ofL, List.find?_cons] at hb
    generalize L[i] = y at c0 c1 c2 hb
    by_cases e1 : y.pipe = p
    · by_cases e2 : y.job = j
      · simp only [e1, e2, decide_true, Bool.and_true] at hb
        have hb' : ofL L p j = some y := hb
        simp [f0, f1, f2, f8, l1, hl, ia, c0, c1, c2, c', e1, e2, hb', -load_ptr]
      · have e2' : (y.job == j) = false := by simpa using e2
        simp only [e2, decide_false, Bool.and_false] at hb
        simp [f0, f1, f2, f8, l1, hl, ia, c1, c2, c', e1, e2', w1, -load_ptr, -roundQ_normal, ↓rq]
        exact stop_intro ⟨L.length - (i + 1), by omega, i + 1, rfl, by omega, by simp [f0], by simp [f1], by simp [f2], by simp, rfl, hb⟩
    · have e1' : (y.pipe == p) = false := by simpa using e1
      simp only [e1, decide_false, Bool.false_and] at hb
      simp [f0, f1, f8, l1, hl, ia, c1, c', e1', w1, -load_ptr, -roundQ_normal, ↓rq]
      exact stop_intro ⟨L.length - (i + 1), by omega, i + 1, rfl, by omega, by simp [f0], by simp [f1], by simp [f2], by simp, rfl, hb⟩
  · have c' : ¬ (i : Int) < L.length := by omega
    rw [List.drop_of_length_le (by omega)] at hb
    have hb' : ofL L p j = none := hb
    simp [f0, f8, l1, hl, c', hb', -load_ptr]
end
end Go.Proofs.Ytaahkamnpobofaa
