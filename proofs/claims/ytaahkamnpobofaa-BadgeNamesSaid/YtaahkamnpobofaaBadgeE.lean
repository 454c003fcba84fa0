/- Desks of badges: Save; no condition. -/
import Derived.Test.YtaahkamnpobofaaBadgeD
import Derived.Test.YtaahkamnpobofaaLay
namespace Go.Proofs.Ytaahkamnpobofaa
open Go.Ab
def bdN (x : Bd) : List Int := [x.no, x.pipe, x.job, x.runner, x.heard]
def bdB (x : Bd) : List UInt8 := (bdN x).flatMap cntB
def saveB (last : Int) (L : List Bd) : List UInt8 := cntB last ++ cntB (L.length : Nat) ++ L.flatMap bdB
theorem cntB_len (n : Int) : (cntB n).length ≤ 10 := by
  unfold cntB
  split
  · simp
  · rename_i h
    rw [enc_length]
    exact grps_le _ (by omega)
theorem cntBs_len : ∀ (l : List Int), (l.flatMap cntB).length ≤ 10 * l.length := by
  intro l
  induction l with
  | nil => simp
  | cons x l ih =>
    have := cntB_len x
    simp only [List.flatMap_cons, List.length_append, List.length_cons]
    omega
theorem bdBs_len : ∀ (L : List Bd), (L.flatMap bdB).length ≤ 50 * L.length := by
  intro L
  induction L with
  | nil => simp
  | cons x l ih =>
    have := cntBs_len (bdN x)
    have h5 : (bdN x).length = 5 := rfl
    have e : bdB x = (bdN x).flatMap cntB := rfl
    simp only [List.flatMap_cons, List.length_append, List.length_cons]
    rw [e]
    omega
theorem saveB_len (last : Int) (L : List Bd) : (saveB last L).length ≤ 20 + 50 * L.length := by
  have h1 := cntB_len last
  have h2 := cntB_len (L.length : Nat)
  have h3 := bdBs_len L
  simp only [saveB, List.length_append]
  omega
section
variable {h g : Hp} {k d b : Nat} {last : Int} {L : List Bd} {v : Value}
set_option maxHeartbeats 4000000 in
set_option maxRecDepth 6000 in
theorem save_ev (r : DeskR h k d b last L) : EvA Try.prog 28 [.pointer (some ⟨d, 0, none⟩)] (fun v h' => BAcc h.length h' v (saveB last L) ∧ Same h h') h := by
  refine EvA.body Try.func28 rfl (by kernel_rfl) (by simp) ?_
  apply Run.ok
  have few := r.ok.few
  have ll := r.ldl
  have lm := r.ldm
  have sz := fun {g : Hp} (s : Same h g) => (r.same s).mp.size (P := Try.prog) (t := 83) (kt := 3) (et := 74) (by simp)
  have sz0 := sz Same.refl
  simp only [List.length_map] at sz0
  simp
  refine WpA.drawnA [0, 1, 2, 3, 5, 6, 7, 8, 4, 9, 10, 11] [[], [], [], [], [0, 1, 2, 3], [], [], [], [], [], [0, 1, 2, 3, 4, 5, 6, 7, 8, 9]] (by kernel_rfl) (by decide +kernel) (by decide +kernel) ?_
  simp [ll, lm, -load_ptr]
  refine after_call (count_lay_ev (.slice none 0 0) [] last h Row.nil (by simp)) ?_
  rintro o1 g1 ⟨B1, s1⟩
  have r1 := r.same s1
  have ll1 := r1.ldl
  have lm1 := r1.ldm
  have sz1 := sz s1
  simp only [List.length_map] at sz1
  simp [ll1, lm1, sz1, -load_ptr]
  refine after_call (count_lay_ev o1 _ (L.length : Nat) g1 (BAcc.bytes B1) (by have := cntB_len last; simp; omega)) ?_
  rintro o2 g2 ⟨B2, s2⟩
  have r2 := r1.same s2
  have ll2 := r2.ldl
  have lm2 := r2.ldm
  have sz2 := sz (s1.trans s2)
  simp only [List.length_map] at sz2
  simp [ll2, lm2, sz2, -load_ptr]
  refine after_call (badges_ev r2) ?_
  rintro v g3 ⟨A, s3⟩
  have sm3 := (s1.trans s2).trans s3
  have B3 : BAcc h.length g3 o2 (cntB last ++ cntB (L.length : Nat)) := BAcc.down s1.len (by simpa using B2.same s3)
  have wl := NLen A
  simp [wl]
  clear ll lm sz0 ll1 lm1 sz1 ll2 lm2 sz2 B1 B2
  refine WpA.loop (fun z fr g => ∃ i o, z = L.length - i ∧ i ≤ L.length ∧ fr 0 = .pointer (some ⟨d, 0, none⟩) ∧ fr 3 = o ∧ fr 23 = v ∧ fr 24 = .int .i64 (L.length : Nat) ∧ fr 25 = .int .i64 (i : Nat) ∧ Same g3 g ∧ BAcc h.length g o (cntB last ++ cntB (L.length : Nat) ++ (L.take i).flatMap bdB))
    (k := L.length) ⟨0, o2, by simp, by omega, by simp, by simp, by simp, by simp, by simp, Same.refl, by simpa using B3⟩ ?_
  rintro z fr g ⟨i, o, rfl, hi, f0, f3, f23, f24, f25, s, B⟩
  apply Run.ok
  have r3 := r.same (sm3.trans s)
  have A2 := A.same s
  by_cases c : i < L.length
  · have c' : (i : Int) < L.length := by omega
    have w1 : IntKind.i64.wrap ((i : Int) + 1) = (i : Int) + 1 := wrap_i64 (by omega) (by omega)
    have ia := NIA A2 c
    have ld := NLD A2 c
    rw [List.getElem?_map, List.getElem?_eq_getElem c, Option.map_some] at ld
    have lm := r3.ldm
    have lk := r3.lookAt c
    have hnx : (L.take (i + 1)).flatMap bdB = (L.take i).flatMap bdB ++ bdB L[i] := by rw [List.take_add_one, List.getElem?_eq_getElem c, List.flatMap_append]; simp
    have hpl := bdBs_len (L.take i)
    have hpt : (L.take i).length ≤ 4 := by simp; omega
    have hp1 := cntB_len last
    have hp2 := cntB_len (L.length : Nat)
    generalize L[i] = x at ld lk hnx
    have ea : ∀ z : Bd, z.agg = .agg #[.int .i64 z.pipe, .int .i64 z.job, .int .i64 z.runner, .int .i64 z.heard] := fun _ => rfl
    rw [ea] at lk
    have hx1 : (g ++ [Blk.cells x.cells false none])[g.length]? = some (.cells x.cells false none) := by simp
    have l0 := load_at (P := Try.prog) (t := 3) (o := 0) hx1 (by simp)
    have l1 := load_at (P := Try.prog) (t := 3) (o := 1) hx1 (by simp)
    have l2 := load_at (P := Try.prog) (t := 3) (o := 2) hx1 (by simp)
    have l3 := load_at (P := Try.prog) (t := 3) (o := 3) hx1 (by simp)
    simp only [Bd.cells, List.getElem?_cons_zero, List.getElem?_cons_succ] at l0 l1 l2 l3
    have five : ∀ G, lenA Try.prog 22 (.slice (some ⟨g.length + 1, 0, none⟩) 5 5) G = some (.int .i64 5) := fun G => by simp [lenA]
    simp [f0, f23, f24, f25, c', ia, ld, lm, lk, l0, l1, l2, l3, five, zeros, spl, capO, -load_ptr]
    have sn : Same g (g ++ [Blk.cells [.int .i64 x.pipe, .int .i64 x.job, .int .i64 x.runner, .int .i64 x.heard] false none, Blk.cells [.int .i64 x.no, .int .i64 x.pipe, .int .i64 x.job, .int .i64 x.runner, .int .i64 x.heard] false none]) := Same.new _
    have R5 : Row (g ++ [Blk.cells [.int .i64 x.pipe, .int .i64 x.job, .int .i64 x.runner, .int .i64 x.heard] false none, Blk.cells [.int .i64 x.no, .int .i64 x.pipe, .int .i64 x.job, .int .i64 x.runner, .int .i64 x.heard] false none]) 1 (.slice (some ⟨g.length + 1, 0, none⟩) 5 5) 5 ((bdN x).map fun n => .int .i64 n) := ⟨⟨_, _, rfl⟩, by simp [srcA, bdN], by simp [bdN]⟩
    have B2 := B.same sn
    have s2 := s.trans sn
    generalize g ++ [Blk.cells [Value.int .i64 x.pipe, .int .i64 x.job, .int .i64 x.runner, .int .i64 x.heard] false none, Blk.cells [.int .i64 x.no, .int .i64 x.pipe, .int .i64 x.job, .int .i64 x.runner, .int .i64 x.heard] false none] = G at R5 B2 s2 ⊢
    generalize Value.slice (some ⟨g.length + 1, 0, none⟩) 5 5 = sv at R5 ⊢
    refine WpA.loop (fun z fr g => ∃ j o, z = 5 - j ∧ j ≤ 5 ∧ fr 0 = .pointer (some ⟨d, 0, none⟩) ∧ fr 3 = o ∧ fr 23 = v ∧ fr 24 = .int .i64 (L.length : Nat) ∧ fr 25 = .int .i64 (i : Nat) ∧ fr 44 = sv ∧ fr 45 = .int .i64 5 ∧ fr 46 = .int .i64 (j : Nat) ∧ Same G g ∧ BAcc h.length g o (cntB last ++ cntB (L.length : Nat) ++ (L.take i).flatMap bdB ++ ((bdN x).take j).flatMap cntB))
      (k := 5) ⟨0, o, by omega, by omega, by simp [f0], by simp [f3], by simp [f23], by simp [f24], by simp [f25], by simp, by simp, by simp, Same.refl, by simpa using B2⟩ ?_
    clear f0 f3 f23 f24 f25
    rintro z fr g' ⟨j, o', rfl, hj, f0, f3, f23, f24, f25, f44, f45, f46, s', B'⟩
    apply Run.ok
    have h5 : (bdN x).length = 5 := rfl
    by_cases e : j < 5
    · have e' : (j : Int) < 5 := by omega
      have w2 : IntKind.i64.wrap ((j : Int) + 1) = (j : Int) + 1 := wrap_i64 (by omega) (by omega)
      have ib := Row.ia1 (P := Try.prog) (t := 22) (e := 3) (R5.same s') (by simp) (by simp) e .i64
      have lb := Row.ld1 (P := Try.prog) (f := 3) (R5.same s') (by simp) e
      have ej : j < (bdN x).length := by omega
      rw [List.getElem?_map, List.getElem?_eq_getElem ej, Option.map_some] at lb
      have hq := cntBs_len ((bdN x).take j)
      have hqt : ((bdN x).take j).length ≤ 5 := by simp; omega
      have hny : ((bdN x).take (j + 1)).flatMap cntB = ((bdN x).take j).flatMap cntB ++ cntB (bdN x)[j] := by rw [List.take_add_one, List.getElem?_eq_getElem ej, List.flatMap_append]; simp
      simp [f3, f44, f45, f46, e', ib, lb, -load_ptr]
      refine after_call (count_lay_ev o' _ (bdN x)[j] g' (BAcc.bytes B') (by simp only [List.length_append]; omega)) ?_
      rintro o3 g4 ⟨B4, s4⟩
      simp [f46, w2, -roundQ_normal, ↓rq]
      have hle := (sm3.trans (s2.trans s')).len
      refine stop_intro ⟨5 - (j + 1), by omega, j + 1, o3, rfl, by omega, by simp [f0], by simp, by simp [f23], by simp [f24], by simp [f25], by simp [f44], by simp [f45], by simp, s'.trans s4, ?_⟩
      rw [hny, ← List.append_assoc]
      exact BAcc.down hle B4
    · have e' : ¬ (j : Int) < 5 := by omega
      rw [List.take_of_length_le (l := bdN x) (by omega)] at B'
      simp [f25, f45, f46, e', w1, -roundQ_normal, ↓rq]
      refine stop_intro ⟨L.length - (i + 1), by omega, i + 1, o', rfl, by omega, by simp [f0], by simp [f3], by simp [f23], by simp [f24], by simp, s2.trans s', ?_⟩
      rw [hnx, ← List.append_assoc]
      exact B'
  · have c' : ¬ (i : Int) < L.length := by omega
    rw [List.take_of_length_le (by omega)] at B
    simp [f3, f24, f25, c']
    exact ⟨B, sm3.trans s⟩
end
end Go.Proofs.Ytaahkamnpobofaa
