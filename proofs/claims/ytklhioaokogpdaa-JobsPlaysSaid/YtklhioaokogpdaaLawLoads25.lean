/- The law of layer 25: a plan's copy, statuses as the document's, and that jobs stand as the document's; no condition. -/
import Derived.Test.YtklhioaokogpdaaStandsB
import Derived.Test.YtklhioaokogpdaaLawOnceA
namespace Go.Proofs.Ytklhioaokogpdaa
open Go.Ab
theorem rst_neq (x : St) (o q : Operand) : binA Try.prog .neq 124 o q (.agg #[.int .u8 (x.s : Nat), .int .i64 x.tried, .int .i64 x.badge, .int .i64 x.since, .int .i64 x.code, .bool x.played]) (.agg #[.int .u8 (x.s : Nat), .int .i64 x.tried, .int .i64 x.badge, .int .i64 x.since, .int .i64 x.code, .bool x.played]) = some (.bool false) := by
  obtain ⟨s, t, b, si, c, p⟩ := x
  simp only
  have hg : (Try.prog).eqGuardType (Try.prog).depth 124 = false := by kernel_rfl
  have hh : (Try.prog).stoodInHeld 124 = false := by kernel_rfl
  have hi : ∀ n : Int, eqA Try.prog 9999 3 (.int .i64 n) (.int .i64 n) = some true := fun n => by
    have : eqA Try.prog (9998 + 1) 3 (.int .i64 n) (.int .i64 n) = some true := by simp [eqA]
    exact this
  have hu : eqA Try.prog 9999 5 (.int .u8 (s : Nat)) (.int .u8 (s : Nat)) = some true := by
    have : eqA Try.prog (9998 + 1) 5 (.int .u8 (s : Nat)) (.int .u8 (s : Nat)) = some true := by simp [eqA]
    exact this
  have hb : eqA Try.prog 9999 4 (.bool p) (.bool p) = some true := by
    have : eqA Try.prog (9998 + 1) 4 (.bool p) (.bool p) = some true := by simp [eqA]
    exact this
  have a0 : ∀ a b c d e f : Value, partA Try.prog 5 [a, b, c, d, e, f] 0 = some a := fun a b c d e f => by simp [partA]
  have a1 : ∀ a b c d e f : Value, partA Try.prog 3 [a, b, c, d, e, f] 1 = some b := fun a b c d e f => by simp [partA]
  have a2 : ∀ a b c d e f : Value, partA Try.prog 3 [a, b, c, d, e, f] 2 = some c := fun a b c d e f => by simp [partA]
  have a3 : ∀ a b c d e f : Value, partA Try.prog 3 [a, b, c, d, e, f] 3 = some d := fun a b c d e f => by simp [partA]
  have a4 : ∀ a b c d e f : Value, partA Try.prog 3 [a, b, c, d, e, f] 4 = some e := fun a b c d e f => by simp [partA]
  have a5 : ∀ a b c d e f : Value, partA Try.prog 4 [a, b, c, d, e, f] 5 = some f := fun a b c d e f => by simp [partA]
  have h3 : eqA Try.prog (9999 + 1) 124 (.agg #[.int .u8 (s : Nat), .int .i64 t, .int .i64 b, .int .i64 si, .int .i64 c, .bool p]) (.agg #[.int .u8 (s : Nat), .int .i64 t, .int .i64 b, .int .i64 si, .int .i64 c, .bool p]) = some true := by
    unfold eqA
    simp [hh, eqFields, hi, hu, hb, a0, a1, a2, a3, a4, a5]
  have h4 : eqA Try.prog 10000 124 (.agg #[.int .u8 (s : Nat), .int .i64 t, .int .i64 b, .int .i64 si, .int .i64 c, .bool p]) (.agg #[.int .u8 (s : Nat), .int .i64 t, .int .i64 b, .int .i64 si, .int .i64 c, .bool p]) = some true := h3
  simp [binA, guardA, hg, h4]
section
variable {h h' : Hp} {l : List St}
theorem rsame_ev {u w : Value} (hu : TRow h 6 u l St.cells) (hw : TRow h 6 w l St.cells) (hl : l.length ≤ 24) :
    EvA Try.prog 97 [u, w] (fun r h' => h' = h ∧ r = .bool true) h := by
  refine EvA.body Try.func97 rfl (by kernel_rfl) (by simp) ?_
  apply Run.ok
  have lu := hu.len (P := Try.prog) (t := 119) (e := 124) (by simp)
  have lw := hw.len (P := Try.prog) (t := 119) (e := 124) (by simp)
  simp [lu, lw]
  refine WpA.loop (fun z fr g => ∃ i, z = l.length - i ∧ i ≤ l.length ∧ fr 0 = u ∧ fr 1 = w ∧ fr 5 = .int .i64 (i : Nat) ∧ g = h)
    (k := l.length) ⟨0, by simp, by omega, by simp, by simp, by simp, rfl⟩ ?_
  rintro z fr g ⟨i, rfl, hi, f0, f1, f5, rfl⟩
  apply Run.ok
  by_cases c : i < l.length
  · have c' : (i : Int) < l.length := by omega
    have w1 : IntKind.i64.wrap ((i : Int) + 1) = (i : Int) + 1 := wrap_i64 (by omega) (by omega)
    have ia := RS_ia hu c
    have ia2 := RS_ia hw c
    have ld := RS_ag hu c
    have ld2 := RS_ag hw c
    generalize l.getD i St.no = x at ld ld2
    rw [stA_cells] at ld ld2
    simp [f0, f1, f5, lu, c', -load_ptr]
    refine WpA.drawnA [0, 1, 2, 3, 4, 5, 6, 7, 8] [] (by kernel_rfl) (by decide +kernel) (by decide +kernel) ?_
    simp [f0, f1, f5, ia, ia2, ld, ld2, rst_neq, w1, -load_ptr, -roundQ_normal, ↓rq]
    refine stop_intro ⟨l.length - (i + 1), by omega, i + 1, rfl, by omega, by simp [f0], by simp [f1], by simp, rfl⟩
  · have c' : ¬ (i : Int) < l.length := by omega
    simp [f0, f1, f5, lu, c']
set_option maxHeartbeats 1000000 in
set_option maxRecDepth 6000 in
theorem jtell_ev {u : Value} (hu : TRow h 6 u l St.cells) (hl : l.length ≤ 24) :
    EvA Try.prog 98 [u] (fun r h' => Acc h.length h' 6 r l.length (l.flatMap St.cells) ∧ Same h h') h := by
  refine EvA.body Try.func98 rfl (by kernel_rfl) (by simp) ?_
  apply Run.ok
  simp
  refine WpA.loop (fun z fr g => ∃ (i : Nat) (a : Value), z = l.length - i ∧ i ≤ l.length ∧ fr 0 = u ∧ fr 3 = a ∧ fr 4 = .int .i64 (i : Nat) ∧ Same h g ∧ Acc h.length g 6 a i ((l.take i).flatMap St.cells))
    (k := l.length) ⟨0, _, by simp, by omega, by simp, rfl, by simp, Same.refl, by simpa using Acc.nil _⟩ ?_
  rintro z fr g ⟨i, a, rfl, hi, f0, f3, f4, sm, A⟩
  apply Run.ok
  have hg := hu.same sm
  have lu := SR_len hg
  by_cases c : i < l.length
  · have c' : (i : Int) < l.length := by omega
    have w1 : IntKind.i64.wrap ((i : Int) + 1) = (i : Int) + 1 := wrap_i64 (by omega) (by omega)
    have ia := SR_ia hg c
    have ag := SR_ag hg c
    have htk : l.take (i + 1) = l.take i ++ [l.getD i St.no] := by rw [List.take_add_one, List.getElem?_eq_getElem c, getD_at l St.no c]; rfl
    generalize l.getD i St.no = x at ag htk
    rw [stA_cells] at ag
    simp [f0, f3, f4, lu, c', ia, ag, cellsOf, spl, -load_ptr]
    have sA : Same g (g ++ [.cells x.cells false none]) := Same.new _
    have hsA : (g ++ [Blk.cells x.cells false none])[g.length]? = some (.cells x.cells false none) := by simp
    rw [stA_cells] at sA hsA
    generalize g ++ [Blk.cells [.int .u8 (x.s : Nat), .int .i64 x.tried, .int .i64 x.badge, .int .i64 x.since, .int .i64 x.code, .bool x.played] false none] = gA at sA hsA ⊢
    have k0 : loadA Try.prog 5 (.pointer (some ⟨g.length, 0, none⟩)) gA = some (.int .u8 (x.s : Nat)) := by rw [load_at hsA (by simp)]; rfl
    have k1 : loadA Try.prog 3 (.pointer (some ⟨g.length, 1, none⟩)) gA = some (.int .i64 x.tried) := by rw [load_at hsA (by simp)]; rfl
    have k2 : loadA Try.prog 3 (.pointer (some ⟨g.length, 2, none⟩)) gA = some (.int .i64 x.badge) := by rw [load_at hsA (by simp)]; rfl
    have k3 : loadA Try.prog 3 (.pointer (some ⟨g.length, 3, none⟩)) gA = some (.int .i64 x.since) := by rw [load_at hsA (by simp)]; rfl
    have k4 : loadA Try.prog 3 (.pointer (some ⟨g.length, 4, none⟩)) gA = some (.int .i64 x.code) := by rw [load_at hsA (by simp)]; rfl
    have k5 : loadA Try.prog 4 (.pointer (some ⟨g.length, 5, none⟩)) gA = some (.bool x.played) := by rw [load_at hsA (by simp)]; rfl
    have smA := sm.trans sA
    have sB : Same gA (gA ++ [.cells x.cells false none]) := Same.new _
    have hsB : srcA 6 (.slice (some ⟨gA.length, 0, none⟩) 1 1) (gA ++ [Blk.cells x.cells false none]) = some (1, x.cells) := by simp [srcA, stA_cells]
    have hfl : ((l.take i).flatMap St.cells).length = i * 6 := by rw [stCells_len, List.length_take]; congr 1; omega
    obtain ⟨v5, g3, q3, A3, u3, n3⟩ := ((A.same sA).same sB).append (P := Try.prog) (by_ := 48) (t := 119) (tx := 119) (e := 124) (x := .slice (some ⟨gA.length, 0, none⟩) 1 1) (m := 1) (ys := x.cells) (by have := (smA.trans sB).len; omega) (by simp) (by simp) (by simp; rfl) (by simp [isSrc]) hsB (by simp [stA_cells]) rfl (by omega) (by omega)
    have s3 : Same h g3 := Acc.since ((A.same sA).same sB) (smA.trans sB) u3
    rw [stA_cells] at q3
    simp [f0, f3, f4, k0, k1, k2, k3, k4, k5, q3, zeros, capO, spl, w1, -load_ptr, -roundQ_normal, ↓rq]
    refine stop_intro ⟨l.length - (i + 1), by omega, i + 1, v5, rfl, by omega, by simp [f0], by simp, by simp, s3, ?_⟩
    rw [htk, List.flatMap_append, List.flatMap_singleton]
    exact A3
  · have c' : ¬ (i : Int) < l.length := by omega
    have hil : i = l.length := by omega
    subst hil
    rw [List.take_length] at A
    simp [f0, f3, f4, lu]
    exact ⟨A, sm⟩
end
end Go.Proofs.Ytklhioaokogpdaa
