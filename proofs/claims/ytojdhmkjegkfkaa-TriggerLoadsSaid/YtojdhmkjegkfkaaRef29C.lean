/- The document's events: Same; events in the document's type; no condition. -/
import Derived.Test.YtojdhmkjegkfkaaRef29B
namespace Go.Proofs.Ytojdhmkjegkfkaa
open Go.Ab
theorem ev_neq (s : ByteArray) (p : Int) (x y : Operand) : binA Try.prog .neq 94 x y (.agg #[.string s, .int .i64 p]) (.agg #[.string s, .int .i64 p]) = some (.bool false) := by
  have hg : (Try.prog).eqGuardType (Try.prog).depth 94 = false := by kernel_rfl
  have hh : (Try.prog).stoodInHeld 94 = false := by kernel_rfl
  have h1 : eqA Try.prog (9998 + 1) 9 (.string s) (.string s) = some true := by simp [eqA]
  have h2 : eqA Try.prog (9998 + 1) 3 (.int .i64 p) (.int .i64 p) = some true := by simp [eqA]
  have h3 : eqA Try.prog (9999 + 1) 94 (.agg #[.string s, .int .i64 p]) (.agg #[.string s, .int .i64 p]) = some true := by
    have h1' : eqA Try.prog 9999 9 (.string s) (.string s) = some true := h1
    have h2' : eqA Try.prog 9999 3 (.int .i64 p) (.int .i64 p) = some true := h2
    have a0 : partA Try.prog 9 [.string s, .int .i64 p] 0 = some (.string s) := by simp [partA]
    have a1 : partA Try.prog 3 [.string s, .int .i64 p] 1 = some (.int .i64 p) := by simp [partA]
    unfold eqA
    simp [hh, eqFields, h1', h2', a0, a1]
  have h4 : eqA Try.prog 10000 94 (.agg #[.string s, .int .i64 p]) (.agg #[.string s, .int .i64 p]) = some true := h3
  simp [binA, guardA, hg, h4]
set_option maxRecDepth 4000 in
theorem rsame_ev {h : Hp} {u w : Value} {l : List Ev} (hu : TRow h 2 u l Ev.cells) (hw : TRow h 2 w l Ev.cells) (hl : l.length ≤ 1000000) :
    EvA Try.prog 36 [u, w] (fun r h' => h' = h ∧ r = .bool true) h := by
  refine EvA.body Try.func36 rfl (by kernel_rfl) (by simp) ?_
  apply Run.ok
  have lu := hu.len (P := Try.prog) (t := 61) (e := 94) (by simp)
  have lw := hw.len (P := Try.prog) (t := 61) (e := 94) (by simp)
  simp [lu, lw]
  refine WpA.loop (fun z fr g => ∃ i, z = l.length - i ∧ i ≤ l.length ∧ fr 0 = u ∧ fr 1 = w ∧ fr 5 = .int .i64 (i : Nat) ∧ g = h)
    (k := l.length) ⟨0, by simp, by omega, by simp, by simp, by simp, rfl⟩ ?_
  rintro z fr g ⟨i, rfl, hi, f0, f1, f5, rfl⟩
  apply Run.ok
  by_cases c : i < l.length
  · have c' : (i : Int) < l.length := by omega
    have w1 : IntKind.i64.wrap ((i : Int) + 1) = (i : Int) + 1 := wrap_i64 (by omega) (by omega)
    have ia := hu.ia (P := Try.prog) (t := 61) (e := 94) (by simp) (by simp) c .i64
    have ia2 := hw.ia (P := Try.prog) (t := 61) (e := 94) (by simp) (by simp) c .i64
    have ld : loadA Try.prog 94 (.pointer (some ⟨rbl u, rof u + i * 2, none⟩)) g = some (.agg #[.string (bs l[i].id), .int .i64 l[i].pipe]) := by
      rw [hu.agg (P := Try.prog) (e := 94) (by simp) (by simp) c]; rfl
    have ld2 : loadA Try.prog 94 (.pointer (some ⟨rbl w, rof w + i * 2, none⟩)) g = some (.agg #[.string (bs l[i].id), .int .i64 l[i].pipe]) := by
      rw [hw.agg (P := Try.prog) (e := 94) (by simp) (by simp) c]; rfl
    simp [f0, f1, f5, lu, c', -load_ptr]
    refine WpA.drawnA [0, 1, 2, 3, 4, 5, 6, 7, 8] [] (by kernel_rfl) (by decide +kernel) (by decide +kernel) ?_
    simp [f0, f1, f5, ia, ia2, ld, ld2, ev_neq, w1, -load_ptr, -roundQ_normal, ↓rq]
    refine stop_intro ⟨l.length - (i + 1), by omega, i + 1, rfl, by omega, by simp [f0], by simp [f1], by simp, rfl⟩
  · have c' : ¬ (i : Int) < l.length := by omega
    simp [f0, f1, f5, lu, c']
theorem events_ev {h : Hp} {u : Value} {l : List Ev} (hu : TRow h 2 u l Ev.cells) (hl : l.length ≤ 8) :
    EvA Try.prog 37 [u] (fun r h' => Acc h.length h' 2 r l.length (l.flatMap Ev.cells) ∧ Same h h') h := by
  refine EvA.body Try.func37 rfl (by kernel_rfl) (by simp) ?_
  apply Run.ok
  simp
  refine WpA.loop (fun z fr g => ∃ i a, z = l.length - i ∧ i ≤ l.length ∧ fr 0 = u ∧ fr 3 = a ∧ fr 4 = .int .i64 (i : Nat) ∧ Same h g ∧ Acc h.length g 2 a (l.take i).length ((l.take i).flatMap Ev.cells))
    (k := l.length) ⟨0, _, by simp, by omega, by simp, rfl, by simp, Same.refl, by simpa using Acc.nil _⟩ ?_
  rintro z fr g ⟨i, a, rfl, hi, f0, f3, f4, sm, A⟩
  apply Run.ok
  have hg := hu.same sm
  have lu := hg.len (P := Try.prog) (t := 44) (e := 47) (by simp)
  by_cases c : i < l.length
  · have c' : (i : Int) < l.length := by omega
    have w1 : IntKind.i64.wrap ((i : Int) + 1) = (i : Int) + 1 := wrap_i64 (by omega) (by omega)
    have ia := hg.ia (P := Try.prog) (t := 44) (e := 47) (by simp) (by simp) c .i64
    have ld0 := hg.cell0 (P := Try.prog) (f := 9) (by simp) c (by omega)
    have ld1 := hg.cell (P := Try.prog) (f := 3) (j := 1) (by simp) c (by omega)
    simp only [Ev.cells, List.getElem?_cons_succ, List.getElem?_cons_zero, str] at ld0 ld1
    have htk : l.take (i + 1) = l.take i ++ [l[i]] := by rw [List.take_add_one, List.getElem?_eq_getElem c]; rfl
    have le0 : ∀ g', Same g g' → loadA Try.prog 9 (.pointer (some ⟨rbl u, rof u + i * 2, none⟩)) g' = some (.string (bs l[i].id)) := fun g' s => by
      have := (hg.same s).cell0 (P := Try.prog) (f := 9) (by simp) c (by omega)
      simpa only [Ev.cells, List.getElem?_cons_zero, str] using this
    have le1 : ∀ g', Same g g' → loadA Try.prog 3 (.pointer (some ⟨rbl u, rof u + i * 2 + 1, none⟩)) g' = some (.int .i64 l[i].pipe) := fun g' s => by
      have := (hg.same s).cell (P := Try.prog) (f := 3) (j := 1) (by simp) c (by omega)
      simpa only [Ev.cells, List.getElem?_cons_succ, List.getElem?_cons_zero] using this
    generalize l[i] = x at ld0 ld1 htk le0 le1
    have hs2 : Same g (g ++ [.cells [.string (bs x.id), .int .i64 x.pipe] false none]) := Same.new _
    have hh := hg.same hs2
    have hil : (l.take i).length ≤ 8 := by simp; omega
    obtain ⟨v3, g3, q3, A3, u3, n3⟩ := (A.same hs2).append (P := Try.prog) (by_ := 24) (t := 61) (tx := 61) (e := 94) (x := .slice (some ⟨g.length, 0, none⟩) 1 1) (m := 1) (ys := [.string (bs x.id), .int .i64 x.pipe]) (by have := sm.len; simp; omega) (by simp) (by simp) (by simp; rfl) (by simp [isSrc]) (by simp [srcA]) (by simp) rfl (by omega) (by omega)
    have s3 : Same h g3 := Upd.trans (Same.trans sm hs2) u3 fun j hj hin => by have := (A.above j hin).1; omega
    simp [f0, f3, f4, lu, c', -load_ptr]
    refine WpA.drawnA [0, 1, 2, 3, 4, 5, 6, 7, 8, 9, 10, 11, 12, 13, 14] [[], [], [], [], [], [], [], [], [], [], [], [], [], [0, 1, 2, 3, 4, 5, 6, 7, 8, 9, 10, 11, 12]] (by kernel_rfl) (by decide +kernel) (by decide +kernel) ?_
    have le0 := le0 _ hs2
    have le1 := le1 _ hs2
    simp [f0, f3, f4, ia, ld0, ld1, le0, le1, zeros, capO, spl, q3, w1, -load_ptr, -roundQ_normal, ↓rq]
    refine stop_intro ⟨l.length - (i + 1), by omega, i + 1, v3, rfl, by omega, by simp [f0], by simp, by simp, s3, ?_⟩
    rw [htk, List.length_append, List.flatMap_append]
    exact A3
  · have c' : ¬ (i : Int) < l.length := by omega
    rw [List.take_of_length_le (by omega)] at A
    simp [f0, f3, f4, lu, c']
    exact ⟨A, sm⟩
end Go.Proofs.Ytojdhmkjegkfkaa
