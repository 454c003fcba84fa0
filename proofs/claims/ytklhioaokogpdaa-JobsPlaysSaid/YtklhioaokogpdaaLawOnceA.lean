/- The law of layer 25: how long a plan is, and how statuses are read in any row; no condition. -/
import Derived.Test.YtklhioaokogpdaaJobsE
import Derived.Test.YtklhioaokogpdaaWorks25
namespace Go.Proofs.Ytklhioaokogpdaa
open Go.Ab
set_option maxRecDepth 6000 in
theorem large_ev {h : Hp} {v : Value} {ps : List Pj} (p : PlanR h v ps) :
    EvA Try.prog 29 [.agg #[v]] (fun r h' => (∃ b, r = .bool b) ∧ Same h h') h := by
  refine EvA.body Try.func29 rfl (by kernel_rfl) (by simp) ?_
  apply Run.ok
  have hcv := (Row.one p.row.1).1
  have hov := (Row.one p.row.1).2
  simp [hcv, hov]
  have s1 : Same h (h ++ [.cells [v] false none]) := Same.new _
  have hB : (h ++ [Blk.cells [v] false none])[h.length]? = some (.cells [v] false none) := by simp
  generalize h ++ [Blk.cells [v] false none] = h1 at s1 hB ⊢
  have l1 : loadA Try.prog 48 (.pointer (some ⟨h.length, 0, none⟩)) h1 = some v := by rw [load_at hB (by simp)]; rfl
  have p1 := p.same s1
  have hl1 := p1.row.len (P := Try.prog) (t := 48) (e := 67) (by simp)
  have hbig := p.big.1
  refine WpA.loop (fun z fr g => ∃ (i n : Nat), z = ps.length - i ∧ i ≤ ps.length ∧ n < 140737488357400 ∧ fr 1 = .pointer (some ⟨h.length, 0, none⟩) ∧ fr 3 = .int .i64 (n : Nat) ∧ fr 4 = .int .i64 (i : Nat) ∧ g = h1)
    (k := ps.length) ⟨0, 0, by simp, by omega, by omega, by simp, by simp, by simp, rfl⟩ ?_
  rintro z fr g ⟨i, n, rfl, hi, hn, f1, f3, f4, rfl⟩
  apply Run.ok
  have fin : ∀ (n : Nat), ∃ b, Value.bool (decide ((2000 : Int) ≤ n)) = .bool b := fun n => ⟨_, rfl⟩
  by_cases c : i < ps.length
  · have c' : (i : Int) < ps.length := by omega
    by_cases d : n < 2000
    · have d' : (n : Int) < 2000 := by omega
      have w1 : IntKind.i64.wrap ((i : Int) + 1) = (i : Int) + 1 := wrap_i64 (by omega) (by omega)
      have ia := p1.row.ia (P := Try.prog) (t := 48) (e := 67) (by simp) (by simp) c .i64
      have ld := p1.row.cell (P := Try.prog) (f := 35) (j := 1) (by simp) c (by omega)
      simp only [Pj.cells, List.getElem?_cons_succ, List.getElem?_cons_zero] at ld
      have hmem : ps[i] ∈ ps := List.getElem_mem _
      have tn := (p1.nr _ hmem).len (P := Try.prog) (t := 35) (e := 3) (by simp)
      have hbn := p.big.2 _ hmem
      generalize ps[i] = y at ld tn hbn
      obtain ⟨q, hq⟩ : ∃ q : Nat, q = n + 1 + y.needs.length := ⟨_, rfl⟩
      have w2 : IntKind.i64.wrap ((n : Int) + 1) = (n : Int) + 1 := wrap_i64 (by omega) (by omega)
      have w3 : IntKind.i64.wrap ((n : Int) + 1 + (y.needs.length : Int)) = (q : Int) := by rw [wrap_i64 (by omega) (by omega)]; omega
      simp [f1, f3, f4, l1, hl1, c', d', ia, ld, tn, w1, w2, w3, -load_ptr, -roundQ_normal, ↓rq]
      refine stop_intro ⟨ps.length - (i + 1), by omega, i + 1, q, rfl, by omega, by omega, by simp [f1], by simp, by simp, rfl⟩
    · have d' : ¬ (n : Int) < 2000 := by omega
      simp [f1, f3, f4, l1, hl1, c', d', -load_ptr]
      exact s1
  · have c' : ¬ (i : Int) < ps.length := by omega
    simp [f1, f3, f4, l1, hl1, c', -load_ptr]
    exact s1
section
variable {h : Hp} {v : Value} {l : List St} {i : Nat}
theorem SR_len (m : TRow h 6 v l St.cells) : lenA Try.prog 56 v h = some (.int .i64 (l.length : Nat)) := m.len (e := 63) (by simp)
theorem SR_ia (m : TRow h 6 v l St.cells) (hi : i < l.length) : indexAddrA Try.prog 56 v (.int .i64 (i : Int)) = some (.pointer (some ⟨rbl v, rof v + i * 6, none⟩)) :=
  m.ia (P := Try.prog) (t := 56) (e := 63) (by simp) (by simp) hi .i64
theorem SR_ag (m : TRow h 6 v l St.cells) (hi : i < l.length) : loadA Try.prog 63 (.pointer (some ⟨rbl v, rof v + i * 6, none⟩)) h = some (.agg (l.getD i St.no).cells.toArray) := by
  rw [m.agg (P := Try.prog) (e := 63) (by simp) (by simp) hi, getD_at l St.no hi]
theorem SR_c0 (m : TRow h 6 v l St.cells) (hi : i < l.length) : loadA Try.prog 5 (.pointer (some ⟨rbl v, rof v + i * 6, none⟩)) h = some (.int .u8 (stA l i : Nat)) := by
  rw [m.cell0 (P := Try.prog) (f := 5) (by simp) hi (by omega), getD_at l St.no hi]; rfl
theorem SR_c1 (m : TRow h 6 v l St.cells) (hi : i < l.length) : loadA Try.prog 3 (.pointer (some ⟨rbl v, rof v + i * 6 + 1, none⟩)) h = some (.int .i64 (l.getD i St.no).tried) := by
  rw [m.cell (P := Try.prog) (f := 3) (j := 1) (by simp) hi (by omega), getD_at l St.no hi]; rfl
theorem SR_c2 (m : TRow h 6 v l St.cells) (hi : i < l.length) : loadA Try.prog 3 (.pointer (some ⟨rbl v, rof v + i * 6 + 2, none⟩)) h = some (.int .i64 (l.getD i St.no).badge) := by
  rw [m.cell (P := Try.prog) (f := 3) (j := 2) (by simp) hi (by omega), getD_at l St.no hi]; rfl
end
/-- a plan handed in, as data -/
theorem planV {h : Hp} {k : Nat} {a : Value} {d : Dt} (hr : RepV Try.prog h k 50 a d) : ∃ v ps, a = .agg #[v] ∧ PlanR h v ps := by
  obtain ⟨cs, k, rfl, hf⟩ := hr.struct (by simp; rfl)
  simp only [RepFs] at hf
  obtain ⟨x0, d0, _, rfl, r0, rfl⟩ := hf
  rw [List.append_nil]
  -- the jobs
  have hz : Try.prog.cellsOf 67 = 9 := by kernel_rfl
  obtain ⟨v, l, rfl, l1, l2, l3, l4⟩ := Rep.slice (P := Try.prog) (h := h) (e := 67) (z := 9) Pj.cells (fun y => Row h 1 y.nv y.needs.length (y.needs.map intV) ∧ y.cells.all oneA = true ∧ y.needs.length ≤ 140737488355328) (by simp) hz (fun k x d _ hx => by
    obtain ⟨k, hf⟩ := hx.struct (by simp; rfl)
    simp only [RepFs] at hf
    obtain ⟨y0, e0, _, rfl, q0, y1, e1, _, rfl, q1, y2, e2, _, rfl, q2, y3, e3, _, rfl, q3, y4, e4, _, rfl, q4, y5, e5, _, rfl, q5, y6, e6, _, rfl, q6, y7, e7, _, rfl, q7, y8, e8, _, rfl, q8, rfl⟩ := hf
    obtain ⟨s0, rfl, _⟩ := q0.str (by simp)
    obtain ⟨nv, ns, rfl, n1, n2, n3⟩ := q1.ints (e := 3) (q := .i64) (by simp) (by simp) (by kernel_rfl)
    obtain ⟨v2, _, rfl, t1, _, _⟩ := q2.strs (e := 9) (by simp) (by simp) (by kernel_rfl)
    obtain ⟨v3, s3, rfl, t3, _, _, t3'⟩ := Rep.slice (P := Try.prog) (e := 174) (z := 2) (fun (p : Value × Value) => [p.1, p.2]) (fun _ => True) (by simp) (by kernel_rfl) (fun k x d hl _ => by
      match x, hl with
      | [a, b], _ => exact ⟨(a, b), rfl, trivial⟩) q3
    obtain ⟨v4, _, rfl, t4, _, _⟩ := q4.strs (e := 9) (by simp) (by simp) (by kernel_rfl)
    obtain ⟨v5, _, rfl, t5, _, _⟩ := q5.strs (e := 9) (by simp) (by simp) (by kernel_rfl)
    obtain ⟨n6, rfl, _⟩ := q6.int (q := .i64) (by simp)
    obtain ⟨n7, rfl, _⟩ := q7.int (q := .i64) (by simp)
    obtain ⟨b8, rfl⟩ := q8.bool (by simp)
    have r1 : Row h 1 nv ns.length (ns.map intV) := n1.row (by simp [intV])
    refine ⟨⟨.string (bs s0), nv, v2, v3, v4, v5, ns, n6, n7, b8⟩, rfl, r1, ?_, Nat.le_trans n2 (by decide)⟩
    have o1 := (Row.one r1).2
    have o2 := (Row.one (t1.row (z := 1) (by simp))).2
    have o3 := (Row.one (t3.row (z := 2) t3')).2
    have o4 := (Row.one (t4.row (z := 1) (by simp))).2
    have o5 := (Row.one (t5.row (z := 1) (by simp))).2
    simp only [Pj.cells, List.all_cons, List.all_nil, o1, o2, o3, o4, o5]; rfl) r0
  exact ⟨v, l, rfl, ⟨l1.rows (fun _ _ => rfl) l4, fun y hy => (l3 y hy).1, fun y hy => (l3 y hy).2.1, Nat.le_trans l2 (by decide), fun y hy => (l3 y hy).2.2⟩⟩
theorem stepsV25 {h : Hp} {k : Nat} {a : Value} {d : Dt} (hr : RepV Try.prog h k 51 a d) : ∃ ls : List Sp, TRow h 4 a ls Sp.cells ∧ ls.length ≤ 140737488355328 := by
  obtain ⟨l, l1, l2, l3, l4⟩ := hr.slice (e := 60) (z := 4) Sp.cells (fun _ => True) (by simp) (by kernel_rfl)
    (fun k x d _ hx => by
      obtain ⟨k, hf⟩ := hx.struct (by simp; rfl)
      simp only [RepFs] at hf
      obtain ⟨x0, d0, _, rfl, r0, x1, d1, _, rfl, r1, x2, d2, _, rfl, r2, x3, d3, _, rfl, r3, rfl⟩ := hf
      obtain ⟨n0, rfl, _⟩ := r0.int (q := .u8) (by simp)
      obtain ⟨n1, rfl, _⟩ := r1.int (q := .i64) (by simp)
      obtain ⟨n2, rfl, _⟩ := r2.int (q := .i64) (by simp)
      obtain ⟨n3, rfl, _⟩ := r3.int (q := .i64) (by simp)
      exact ⟨⟨n0, n1, n2, n3⟩, rfl, trivial⟩)
  exact ⟨l, l1.rows (fun _ _ => rfl) l4, Nat.le_trans l2 (by decide)⟩
end Go.Proofs.Ytklhioaokogpdaa
