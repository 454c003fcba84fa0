/- Jobs and the document's, side by side: what is late, ready and over, and that lists are one; no condition. -/
import Derived.Test.YtklhioaokogpdaaStands
namespace Go.Proofs.Ytklhioaokogpdaa
open Go.Ab
/-- is a job late? -/
def lateF (js : List Jb) (now : Int) (i : Nat) (x : St) : Bool := decide (x.s = 4) && decide (0 < (js.getD i Jb.no).limit) && decide (x.since + (js.getD i Jb.no).limit < now)
section
variable {h h' : Hp} {k b c : Nat} {jv lv pv rv : Value} {js : List Jb} {l : List St} {ps : List Pj}
set_option maxHeartbeats 1000000 in
theorem jlate1_ev (m : JM h k b jv lv js l) (hlim : ∀ i, i < js.length → 0 ≤ (js.getD i Jb.no).limit ∧ (js.getD i Jb.no).limit ≤ 1000) (i : Nat) (hi : i < l.length) (x : St) (hx : ValOk x) (now : Int) (q1 q2 : Nat)
    (hq1 : h[q1]? = some (.cells [.pointer (some ⟨b, 0, none⟩)] false none)) (hq2 : h[q2]? = some (.cells [.int .i64 now] false none)) :
    EvA Try.prog 102 [.int .i64 (i : Nat), .agg x.cells.toArray, .pointer (some ⟨q1, 0, none⟩), .pointer (some ⟨q2, 0, none⟩)] (fun r h' => r = .bool (lateF js now i x) ∧ Same h h') h := by
  refine EvA.body Try.func102 rfl (by kernel_rfl) (by simp) ?_
  apply Run.ok
  have hjl := m.len
  have hl := hlim i (by omega)
  obtain ⟨v0, v1, v2, v3, v4⟩ := hx
  rw [stA_cells]
  simp [-load_ptr]
  have sA : Same h (h ++ [.cells x.cells false none]) := Same.new _
  have hsA : (h ++ [Blk.cells x.cells false none])[h.length]? = some (.cells x.cells false none) := by simp
  rw [stA_cells] at sA hsA
  generalize h ++ [Blk.cells [.int .u8 (x.s : Nat), .int .i64 x.tried, .int .i64 x.badge, .int .i64 x.since, .int .i64 x.code, .bool x.played] false none] = gA at sA hsA ⊢
  have MA := m.same sA
  have k0 : loadA Try.prog 5 (.pointer (some ⟨h.length, 0, none⟩)) gA = some (.int .u8 (x.s : Nat)) := by rw [load_at hsA (by simp)]; rfl
  have k3 : loadA Try.prog 3 (.pointer (some ⟨h.length, 3, none⟩)) gA = some (.int .i64 x.since) := by rw [load_at hsA (by simp)]; rfl
  have b1 : loadA Try.prog 53 (.pointer (some ⟨q1, 0, none⟩)) gA = some (.pointer (some ⟨b, 0, none⟩)) := by rw [load_at (sA.at hq1) (by simp)]; rfl
  have b2 : loadA Try.prog 3 (.pointer (some ⟨q2, 0, none⟩)) gA = some (.int .i64 now) := by rw [load_at (sA.at hq2) (by simp)]; rfl
  have j0 := MA.j0
  have ja := MA.ja hi .i64
  have j2 := MA.j2 hi
  unfold lateF
  generalize (js.getD i Jb.no).limit = lim at j2 hl ⊢
  have w1 : IntKind.i64.wrap (x.since + lim) = x.since + lim := wrap_i64 (by omega) (by omega)
  by_cases d1 : x.s = 4
  · have d1' : ((x.s : Int) == 4) = true := by simp; omega
    by_cases d2 : 0 < lim
    · by_cases d3 : x.since + lim < now
      · simp [b1, j0, ja, j2, k0, d1, d1', d2, b2, k3, w1, d3, -load_ptr]
        exact sA
      · simp [b1, j0, ja, j2, k0, d1, d1', d2, b2, k3, w1, d3, -load_ptr]
        exact sA
    · simp [b1, j0, ja, j2, k0, d1, d1', d2, -load_ptr]
      exact sA
  · have d1' : ((x.s : Int) == 4) = false := by simp; omega
    simp [b1, j0, ja, j2, k0, d1, d1', -load_ptr]
    exact sA
theorem jlate_ev (m : JM h k b jv lv js l) (hv : ∀ x ∈ l, ValOk x) (hlim : ∀ i, i < js.length → 0 ≤ (js.getD i Jb.no).limit ∧ (js.getD i Jb.no).limit ≤ 1000) (now : Int) :
    EvA Try.prog 55 [.pointer (some ⟨b, 0, none⟩), .int .i64 now] (fun r h' => Acc h.length h' 1 r (picks (lateF js now) l l.length).length ((picks (lateF js now) l l.length).map intV) ∧ Same h h') h := by
  refine EvA.body Try.func55 rfl (by kernel_rfl) (by simp) ?_
  apply Run.ok
  simp
  have sA : Same h (h ++ [.cells [.pointer (some ⟨b, 0, none⟩)] false none, .cells [.int .i64 now] false none]) := Same.new _
  have hB1 : (h ++ [Blk.cells [.pointer (some ⟨b, 0, none⟩)] false none, .cells [.int .i64 now] false none])[h.length]? = some (.cells [.pointer (some ⟨b, 0, none⟩)] false none) := by simp
  have hB2 : (h ++ [Blk.cells [.pointer (some ⟨b, 0, none⟩)] false none, .cells [.int .i64 now] false none])[h.length + 1]? = some (.cells [.int .i64 now] false none) := by simp
  have hlen : h.length ≤ (h ++ [Blk.cells [.pointer (some ⟨b, 0, none⟩)] false none, .cells [.int .i64 now] false none]).length := by simp
  generalize h ++ [Blk.cells [.pointer (some ⟨b, 0, none⟩)] false none, .cells [.int .i64 now] false none] = gA at sA hB1 hB2 hlen ⊢
  refine after_call (pick_ev (m.same sA) _ (lateF js now) ⟨102, #[.pointer (some ⟨h.length, 0, none⟩), .pointer (some ⟨h.length + 1, 0, none⟩)], rfl, fun i x g s hi hx => ?_⟩) ?_
  · subst hx
    exact jlate1_ev ((m.same sA).same s) hlim i hi _ (by rw [← getD_at l St.no hi]; exact hv _ (List.getElem_mem hi)) now _ _ (s.at hB1) (s.at hB2)
  · rintro r h2 ⟨A, s2⟩
    simp
    exact ⟨Acc.down hlen A, sA.trans s2⟩
set_option maxHeartbeats 1000000 in
set_option maxRecDepth 4000 in
theorem rlate_ev (m : RJ h k c pv rv l) (p : PlanR h pv ps) (cv : Conv ps js) (hl : l.length = ps.length) (h24 : l.length ≤ 24) (hv : ∀ x ∈ l, ValOk x) (hlim : ∀ i, i < js.length → 0 ≤ (js.getD i Jb.no).limit ∧ (js.getD i Jb.no).limit ≤ 1000) (now : Int) :
    EvA Try.prog 100 [.pointer (some ⟨c, 0, none⟩), .int .i64 now] (fun r h' => Acc h.length h' 1 r (picks (lateF js now) l l.length).length ((picks (lateF js now) l l.length).map intV) ∧ Same h h') h := by
  refine EvA.body Try.func100 rfl (by kernel_rfl) (by simp) ?_
  apply Run.ok
  simp
  refine WpA.loop (fun z fr g => ∃ (n : Nat) (a : Value), z = l.length - n ∧ n ≤ l.length ∧ fr 0 = .pointer (some ⟨c, 0, none⟩) ∧ fr 1 = .int .i64 now ∧ fr 5 = a ∧ fr 6 = .int .i64 (n : Nat) ∧ Same h g ∧ Acc h.length g 1 a (picks (lateF js now) l n).length ((picks (lateF js now) l n).map intV))
    (k := l.length) ⟨0, _, by simp, by omega, by simp, by simp, rfl, by simp, Same.refl, by simpa [picks] using Acc.nil _⟩ ?_
  rintro z fr g ⟨n, a, rfl, hn, f0, f1, f5, f6, sm, A⟩
  apply Run.ok
  have M := m.same sm
  have l0 := M.l0
  have p0 := M.p0
  have tl := M.tl
  by_cases d : n < l.length
  · have d' : (n : Int) < l.length := by omega
    have w1 : IntKind.i64.wrap ((n : Int) + 1) = (n : Int) + 1 := wrap_i64 (by omega) (by omega)
    have hnp : n < ps.length := by omega
    have ia := RS_ia M.t d
    have c0 := M.t.cell0 (P := Try.prog) (f := 5) (by simp) d (by omega)
    have c3 := M.t.cell (P := Try.prog) (f := 3) (j := 3) (by simp) d (by omega)
    rw [getD_at l St.no d] at c0 c3
    have pia := PL_ia (p.same sm) hnp
    have p7 := PL_7 (p.same sm) hnp
    rw [← (cv.2 n hnp).2.2.1] at p7
    have hps := picks_succ (lateF js now) l n
    have hpl := picks_len (lateF js now) l n
    have hx : ValOk (l.getD n St.no) := by rw [← getD_at l St.no d]; exact hv _ (List.getElem_mem d)
    have hl3 := hlim n (by rw [cv.1]; exact hnp)
    have hF : lateF js now n (l.getD n St.no) = (decide ((l.getD n St.no).s = 4) && decide (0 < (js.getD n Jb.no).limit) && decide ((l.getD n St.no).since + (js.getD n Jb.no).limit < now)) := rfl
    generalize l.getD n St.no = x at c0 c3 hps hx hF
    generalize (js.getD n Jb.no).limit = lim at p7 hl3 hF
    have c0' : loadA Try.prog 5 (.pointer (some ⟨rbl rv, rof rv + n * 6, none⟩)) g = some (.int .u8 (x.s : Nat)) := c0
    have c3' : loadA Try.prog 3 (.pointer (some ⟨rbl rv, rof rv + n * 6 + 3, none⟩)) g = some (.int .i64 x.since) := c3
    clear c0 c3
    obtain ⟨v0, v1, v2, v3, v4⟩ := hx
    have w2 : IntKind.i64.wrap (x.since + lim) = x.since + lim := wrap_i64 (by omega) (by omega)
    simp [f0, f1, f5, f6, l0, tl, d', -load_ptr]
    refine WpA.drawnT [0, 1, 2, 3, 4, 5, 6, 7, 8, 9, 10, 11, 12, 13, 14, 15, 16, 17, 18, 19, 20, 21, 22, 23, 24, 25, 26, 27, 28, 29, 30, 31, 32, 33, 34, 35, 36, 37, 38, 39, 40, 41, 42] [] [[], [0], [0, 1], [0, 1, 2], [], [0, 1, 2, 3, 4], [0, 1, 2, 3, 4, 5], [0, 1, 2, 3, 4, 5, 6], [0, 1, 2, 3, 4, 5, 6, 7], [0, 1, 2, 3, 4, 5, 6, 7, 8], [0, 1, 2, 3, 4, 5, 6, 7, 8, 9], [0, 1, 2, 3, 4, 5, 6, 7, 8, 9, 10], [0, 1, 2, 3, 4, 5, 6, 7, 8, 9, 10, 11], [0, 1, 2, 3, 4, 5, 6, 7, 8, 9, 10, 11, 12], [0, 1, 2, 3, 4, 5, 6, 7, 8, 9, 10, 11, 12, 13], [0, 1, 2, 3, 4, 5, 6, 7, 8, 9], [0, 1, 2, 3, 4, 5, 6, 7, 8, 9, 10, 11, 12, 13, 14, 15], [0, 1, 2, 3, 4, 5, 6, 7, 8, 9, 10, 11, 12, 13, 14, 15, 16], [0, 1, 2, 3, 4, 5, 6, 7, 8, 9, 10, 11, 12, 13, 14, 15, 16, 17], [0, 1, 2, 3, 4, 5, 6, 7, 8, 9, 10, 11, 12, 13, 14, 15, 16, 17, 18], [0, 1, 2, 3, 4, 5, 6, 7, 8, 9, 10, 11, 12, 13, 14, 15, 16, 17, 18, 19], [0, 1, 2, 3, 4, 5, 6, 7, 8, 9, 10, 11, 12, 13, 14, 15, 16, 17, 18, 19, 20], [0, 1, 2, 3, 4, 5, 6, 7, 8, 9, 10, 11, 12, 13, 14, 15, 16, 17, 18, 19, 20, 21], [0, 1, 2, 3, 4, 5, 6, 7, 8, 9, 10, 11, 12, 13, 14, 15, 16, 17, 18, 19, 20, 21], [0, 1, 2, 3, 4, 5, 6, 7, 8, 9, 10, 11, 12, 13, 14, 15, 16, 17, 18, 19, 20, 21, 23], [0, 1, 2, 3, 4, 5, 6, 7, 8, 9, 10, 11, 12, 13, 14, 15, 16, 17, 18, 19, 20, 21, 23, 24], [0, 1, 2, 3, 4, 5, 6, 7, 8, 9, 10, 11, 12, 13, 14, 15, 16, 17, 18, 19, 20, 21, 23, 24, 25], [0, 1, 2, 3, 4, 5, 6, 7, 8, 9, 10, 11, 12, 13, 14, 15, 16, 17, 18, 19, 20, 21], [0, 1, 2, 3, 4, 5, 6, 7, 8, 9, 10, 11, 12, 13, 14, 15, 16, 17, 18, 19, 20, 21, 23, 24, 25, 26, 27], [0, 1, 2, 3, 4, 5, 6, 7, 8, 9, 10, 11, 12, 13, 14, 15, 16, 17, 18, 19, 20, 21, 23, 24, 25, 26, 27, 28], [0, 1, 2, 3, 4, 5, 6, 7, 8, 9, 10, 11, 12, 13, 14, 15, 16, 17, 18, 19, 20, 21, 23, 24, 25, 26, 27, 28, 29], [0, 1, 2, 3, 4, 5, 6, 7, 8, 9, 10, 11, 12, 13, 14, 15, 16, 17, 18, 19, 20, 21], [0, 1, 2, 3, 4, 5, 6, 7, 8, 9, 10, 11, 12, 13, 14, 15, 16, 17, 18, 19, 20, 21, 31], [0, 1, 2, 3, 4, 5, 6, 7, 8, 9, 10, 11, 12, 13, 14, 15, 16, 17, 18, 19, 20, 21, 31, 32], [0, 1, 2, 3, 4, 5, 6, 7, 8, 9, 10, 11, 12, 13, 14, 15, 16, 17, 18, 19, 20, 21, 31, 32, 33], [0, 1, 2, 3, 4, 5, 6, 7, 8, 9, 10, 11, 12, 13, 14, 15, 16, 17, 18, 19, 20, 21, 31, 32, 33, 34], [0, 1, 2, 3, 4, 5, 6, 7, 8, 9, 10, 11, 12, 13, 14, 15, 16, 17, 18, 19, 20, 21], [0, 1, 2, 3, 4, 5, 6, 7, 8, 9, 10, 11, 12, 13, 14, 15, 16, 17, 18, 19, 20, 21, 31, 32, 33, 34, 35, 36], [0, 1, 2, 3, 4, 5, 6, 7, 8, 9, 10, 11, 12, 13, 14, 15, 16, 17, 18, 19, 20, 21, 31, 32, 33, 34, 35, 36, 37], [0, 1, 2, 3, 4, 5, 6, 7, 8, 9, 10, 11, 12, 13, 14, 15, 16, 17, 18, 19, 20, 21, 31, 32, 33, 34, 35, 36, 37, 38], [0, 1, 2, 3, 4, 5, 6, 7, 8, 9, 10, 11, 12, 13, 14, 15, 16, 17, 18, 19, 20, 21, 23, 24, 25, 26, 27, 28, 29, 30, 31, 32, 33, 34, 35, 36, 37, 38, 39], [0, 1, 2, 3, 4, 5, 6, 7, 8, 9, 10, 11, 12, 13, 14, 15, 16, 17, 18, 19, 20, 21, 22, 23, 24, 25, 26, 27, 28, 29, 30, 31, 32, 33, 34, 35, 36, 37, 38, 39, 40], [0, 1, 2, 3, 4, 5, 6, 7, 8, 9, 10, 11, 12, 13, 14, 15, 16, 17, 18, 19, 20, 21, 22, 23, 24, 25, 26, 27, 28, 29, 30, 31, 32, 33, 34, 35, 36, 37, 38, 39, 40, 41]] (by kernel_rfl) (by decide +kernel) (by decide +kernel) (by decide +kernel) ?_
    rcases Bool.eq_false_or_eq_true (lateF js now n x) with hF2 | hF2
    · rw [hF2] at hps hF
      simp only [if_true] at hps
      have hF3 := hF.symm
      simp only [Bool.and_eq_true, decide_eq_true_eq] at hF3
      obtain ⟨⟨e1, e2⟩, e3⟩ := hF3
      have e1' : ((x.s : Int) == 4) = true := by simp; omega
      obtain ⟨v5, g3, q3, A3, u3, n3⟩ := (A.same (Same.new [.cells [.int .i64 (n : Nat)] false none])).append (P := Try.prog) (by_ := 8) (t := 35) (tx := 35) (e := 3) (x := .slice (some ⟨g.length, 0, none⟩) 1 1) (m := 1) (ys := [.int .i64 (n : Nat)]) (by have := sm.len; simp; omega) (by simp) (by simp) (by simp; rfl) (by simp [isSrc]) (by simp [srcA]) (by simp) rfl (by omega) (by omega)
      have s3 : Same h g3 := Acc.since (A.same (Same.new _)) (sm.trans (Same.new _)) u3
      simp [f0, f1, f5, f6, l0, p0, ia, pia, c0', c3', p7, e1', e2, e3, w2, q3, zeros, capO, w1, -load_ptr, -roundQ_normal, ↓rq]
      refine stop_intro ⟨l.length - (n + 1), by omega, n + 1, v5, rfl, by omega, by simp [f0], by simp [f1], by simp, by simp, s3, ?_⟩
      rw [hps, List.length_append, List.map_append]
      exact A3
    · rw [hF2] at hps hF
      simp only [Bool.false_eq_true, if_false, List.append_nil] at hps
      have hF3 := hF.symm
      by_cases e1 : x.s = 4
      case' pos =>
        have e1' : ((x.s : Int) == 4) = true := by simp; omega
        rcases Decidable.em (0 < lim) with e2 | e2
        case' inl =>
          have e3 : ¬ x.since + lim < now := fun e3 => by simp [e1, e2, e3] at hF3
          simp [f0, f1, f5, f6, l0, p0, ia, pia, c0', c3', p7, e1', e2, e3, w2, w1, -load_ptr, -roundQ_normal, ↓rq]
        case' inr =>
          simp [f0, f1, f5, f6, l0, p0, ia, pia, c0', c3', p7, e1', e2, w1, -load_ptr, -roundQ_normal, ↓rq]
      case' neg =>
        have e1' : ((x.s : Int) == 4) = false := by simp; omega
        simp [f0, f1, f5, f6, l0, p0, ia, pia, c0', e1', w1, -load_ptr, -roundQ_normal, ↓rq]
      all_goals
        refine stop_intro ⟨l.length - (n + 1), by omega, n + 1, a, rfl, by omega, by simp [f0], by simp [f1], by simp [f5], by simp, sm, by rw [hps]; exact A⟩
  · have d' : ¬ (n : Int) < l.length := by omega
    have hnl : n = l.length := by omega
    subst hnl
    simp [f0, f5, f6, l0, tl, -load_ptr]
    exact ⟨A, sm⟩
theorem rready_ev (m : RJ h k c pv rv l) (h24 : l.length ≤ 24) :
    EvA Try.prog 99 [.pointer (some ⟨c, 0, none⟩)] (fun r h' => Acc h.length h' 1 r (picks (fun _ x => decide (x.s = 3)) l l.length).length ((picks (fun _ x => decide (x.s = 3)) l l.length).map intV) ∧ Same h h') h := by
  refine EvA.body Try.func99 rfl (by kernel_rfl) (by simp) ?_
  apply Run.ok
  simp
  refine WpA.loop (fun z fr g => ∃ (n : Nat) (a : Value), z = l.length - n ∧ n ≤ l.length ∧ fr 0 = .pointer (some ⟨c, 0, none⟩) ∧ fr 3 = a ∧ fr 4 = .int .i64 (n : Nat) ∧ Same h g ∧ Acc h.length g 1 a (picks (fun _ x => decide (x.s = 3)) l n).length ((picks (fun _ x => decide (x.s = 3)) l n).map intV))
    (k := l.length) ⟨0, _, by simp, by omega, by simp, rfl, by simp, Same.refl, by simpa [picks] using Acc.nil _⟩ ?_
  rintro z fr g ⟨n, a, rfl, hn, f0, f3, f4, sm, A⟩
  apply Run.ok
  have M := m.same sm
  have l0 := M.l0
  have tl := M.tl
  by_cases d : n < l.length
  · have d' : (n : Int) < l.length := by omega
    have w1 : IntKind.i64.wrap ((n : Int) + 1) = (n : Int) + 1 := wrap_i64 (by omega) (by omega)
    have ia := RS_ia M.t d
    have c0 := M.t.cell0 (P := Try.prog) (f := 5) (by simp) d (by omega)
    rw [getD_at l St.no d] at c0
    have hps := picks_succ (fun _ x => decide (x.s = 3)) l n
    have hpl := picks_len (fun _ x => decide (x.s = 3)) l n
    generalize l.getD n St.no = x at c0 hps
    have c0' : loadA Try.prog 5 (.pointer (some ⟨rbl rv, rof rv + n * 6, none⟩)) g = some (.int .u8 (x.s : Nat)) := c0
    clear c0
    by_cases e : x.s = 3
    · have e' : ((x.s : Int) == 3) = true := by simp; omega
      rw [decide_eq_true e] at hps
      simp only [if_true] at hps
      obtain ⟨v5, g3, q3, A3, u3, n3⟩ := (A.same (Same.new [.cells [.int .i64 (n : Nat)] false none])).append (P := Try.prog) (by_ := 8) (t := 35) (tx := 35) (e := 3) (x := .slice (some ⟨g.length, 0, none⟩) 1 1) (m := 1) (ys := [.int .i64 (n : Nat)]) (by have := sm.len; simp; omega) (by simp) (by simp) (by simp; rfl) (by simp [isSrc]) (by simp [srcA]) (by simp) rfl (by omega) (by omega)
      have s3 : Same h g3 := Acc.since (A.same (Same.new _)) (sm.trans (Same.new _)) u3
      simp [f0, f3, f4, l0, tl, d', ia, c0', e', q3, zeros, capO, w1, -load_ptr, -roundQ_normal, ↓rq]
      refine stop_intro ⟨l.length - (n + 1), by omega, n + 1, v5, rfl, by omega, by simp [f0], by simp, by simp, s3, ?_⟩
      rw [hps, List.length_append, List.map_append]
      exact A3
    · have e' : ((x.s : Int) == 3) = false := by simp; omega
      rw [decide_eq_false e] at hps
      simp only [Bool.false_eq_true, if_false, List.append_nil] at hps
      simp [f0, f3, f4, l0, tl, d', ia, c0', e', w1, -load_ptr, -roundQ_normal, ↓rq]
      refine stop_intro ⟨l.length - (n + 1), by omega, n + 1, a, rfl, by omega, by simp [f0], by simp [f3], by simp, sm, by rw [hps]; exact A⟩
  · have d' : ¬ (n : Int) < l.length := by omega
    have hnl : n = l.length := by omega
    subst hnl
    simp [f0, f3, f4, l0, tl, -load_ptr]
    exact ⟨A, sm⟩
theorem rover_ev (m : RJ h k c pv rv l) (h24 : l.length ≤ 24) :
    EvA Try.prog 101 [.pointer (some ⟨c, 0, none⟩)] (fun r h' => r = .bool (overJ l) ∧ h' = h) h := by
  refine EvA.body Try.func101 rfl (by kernel_rfl) (by simp) ?_
  apply Run.ok
  have l0 := m.l0
  have tl := m.tl
  simp
  refine WpA.loop (fun z fr g => ∃ (n : Nat), z = l.length - n ∧ n ≤ l.length ∧ fr 0 = .pointer (some ⟨c, 0, none⟩) ∧ fr 3 = .int .i64 (n : Nat) ∧ g = h ∧ ∀ x ∈ l.take n, endS x.s = true)
    (k := l.length) ⟨0, by simp, by omega, by simp, by simp, rfl, by simp⟩ ?_
  rintro z fr g ⟨n, rfl, hn, f0, f3, rfl, hp⟩
  apply Run.ok
  by_cases d : n < l.length
  · have d' : (n : Int) < l.length := by omega
    have w1 : IntKind.i64.wrap ((n : Int) + 1) = (n : Int) + 1 := wrap_i64 (by omega) (by omega)
    have ia := RS_ia m.t d
    have c0 := m.t.cell0 (P := Try.prog) (f := 5) (by simp) d (by omega)
    rw [getD_at l St.no d] at c0
    have htk : l.take (n + 1) = l.take n ++ [l.getD n St.no] := by rw [List.take_add_one, List.getElem?_eq_getElem d, getD_at l St.no d]; rfl
    have hmem : l.getD n St.no ∈ l := by rw [← getD_at l St.no d]; exact List.getElem_mem d
    generalize l.getD n St.no = x at c0 htk hmem
    have c0' : loadA Try.prog 5 (.pointer (some ⟨rbl rv, rof rv + n * 6, none⟩)) g = some (.int .u8 (x.s : Nat)) := c0
    clear c0
    simp [f0, f3, l0, tl, d', ia, c0', -load_ptr]
    refine after_call (rended_ev x.s _) ?_
    rintro r g2 ⟨rfl, rfl⟩
    rcases Bool.eq_false_or_eq_true (endS x.s) with he | he
    · simp [he, f0, f3, w1, -roundQ_normal, ↓rq]
      refine stop_intro ⟨l.length - (n + 1), by omega, n + 1, rfl, by omega, by simp [f0], by simp, rfl, fun y hy => ?_⟩
      rw [htk] at hy
      rcases List.mem_append.1 hy with h1 | h1
      · exact hp y h1
      · simp only [List.mem_singleton] at h1; subst h1; exact he
    · have hov : overJ l = false := List.all_eq_false.2 ⟨x, hmem, by simp [he]⟩
      simp [he, hov]
  · have d' : ¬ (n : Int) < l.length := by omega
    rw [List.take_of_length_le (by omega)] at hp
    have hov : overJ l = true := List.all_eq_true.2 hp
    simp [f0, f3, l0, tl, d', hov, -load_ptr]
end
end Go.Proofs.Ytklhioaokogpdaa
