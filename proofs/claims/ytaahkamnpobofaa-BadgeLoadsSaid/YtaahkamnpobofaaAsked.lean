/- Does a desk answer as the document's does? no condition. -/
import Derived.Test.YtaahkamnpobofaaRDeskE
import Derived.Test.YtaahkamnpobofaaLawBack
import Derived.Test.YtaahkamnpobofaaDraws
namespace Go.Proofs.Ytaahkamnpobofaa
open Go.Ab
theorem cutW {P : Program} {n : Nat} {C : Code} {Q : QA} {F : Fr → Hp → Prop} {G : Prop} (main : (∀ fr g, F fr g → WpA P n C Q fr g) → G) (key : ∀ fr g, F fr g → WpA P n C Q fr g) : G := main key
/-- ahead of the comparison of what Check told -/
inductive AskF (h : Hp) (L : List Bd) (d d2 : Nat) (p q : Int) (fr : Fr) (g : Hp) : Prop
  | mk (c : Nat) (x : Bd) (e kk : Int) (f0 : fr 0 = .pointer (some ⟨d, 0, none⟩)) (f1 : fr 1 = .pointer (some ⟨d2, 0, none⟩)) (f2 : fr 2 = .int .i64 p) (f3 : fr 3 = .int .i64 q) (f9 : fr 9 = .pointer (some ⟨c, 0, none⟩)) (f10 : fr 10 = .int .i64 e) (f11 : fr 11 = .int .i64 kk)
    (sm : Same h g) (hc : g[c]? = some (.cells x.cells false none)) (hk : kk = -1 ∨ ∃ i, ∃ hi : i < L.length, kk = (i : Nat) ∧ e = 0 ∧ x = L[i])
/-- the loop over what expired -/
inductive AskL (h : Hp) (d d2 k : Nat) (p q : Int) (w : Value) (n : Nat) (z : Nat) (fr : Fr) (g : Hp) : Prop
  | mk (i : Nat) (ys : List Value) (hz : z = n - i) (hi : i ≤ n) (f0 : fr 0 = .pointer (some ⟨d, 0, none⟩)) (f1 : fr 1 = .pointer (some ⟨d2, 0, none⟩)) (f2 : fr 2 = .int .i64 p) (f3 : fr 3 = .int .i64 q) (f16 : fr 16 = w) (f17 : fr 17 = .int .i64 (i : Nat))
    (sm : Same h g) (W : Wr k g 1 w n ys)
/-- the loop over what was saved -/
inductive AskB (h : Hp) (d d2 k : Nat) (p q : Int) (w : Value) (n : Nat) (z : Nat) (fr : Fr) (g : Hp) : Prop
  | mk (i : Nat) (ys : List Value) (hz : z = n - i) (hi : i ≤ n) (f0 : fr 0 = .pointer (some ⟨d, 0, none⟩)) (f1 : fr 1 = .pointer (some ⟨d2, 0, none⟩)) (f2 : fr 2 = .int .i64 p) (f3 : fr 3 = .int .i64 q) (f18 : fr 18 = w) (f19 : fr 19 = .int .i64 (i : Nat))
    (sm : Same h g) (W : Wr k g 1 w n ys)
theorem ofV (o : Option Bd) : ∃ (n : Int) (b : Bool), (match o with | some x => Value.tuple #[.int .i64 x.no, .bool true] | none => .tuple #[.int .i64 0, .bool false]) = .tuple #[.int .i64 n, .bool b] := by
  cases o with
  | none => exact ⟨0, false, rfl⟩
  | some x => exact ⟨x.no, true, rfl⟩
section
variable {h g : Hp} {k k2 d b d2 : Nat} {T : Int} {L : List Bd} {v : Value}
set_option maxHeartbeats 8000000 in
set_option maxRecDepth 10000 in
theorem asked_ev (r : DeskR h k d b T L) (r2 : RefD h k2 d2 v T L) (p q : Int) (hp : p ≤ 9223372036854775807) :
    EvA Try.prog 27 [.pointer (some ⟨d, 0, none⟩), .pointer (some ⟨d2, 0, none⟩), .int .i64 p, .int .i64 q] (fun w h' => Same h h' ∧ w = .bool true) h := by
  refine EvA.body Try.func27 rfl (by kernel_rfl) (by simp) ?_
  apply Run.ok
  have few := r.ok.few
  simp
  refine after_call (checkC_ev r p) ?_
  rintro w g1 ⟨rfl, s1⟩
  obtain ⟨x, hx, hxy⟩ := checkV_is (atL L p)
  rw [hx]
  have sn : Same g1 (g1 ++ [Blk.cells x.cells false none]) := Same.new _
  have hn : (g1 ++ [Blk.cells x.cells false none])[g1.length]? = some (.cells x.cells false none) := by simp
  obtain ⟨g2, hg2⟩ : ∃ g2, g2 = g1 ++ [Blk.cells x.cells false none] := ⟨_, rfl⟩
  rw [← hg2] at sn hn
  have hg2' : g1 ++ [Blk.cells [.int .i64 x.pipe, .int .i64 x.job, .int .i64 x.runner, .int .i64 x.heard] false none] = g2 := hg2.symm
  have sm2 := s1.trans sn
  have lx := ldH hn
  have ea : x.agg = .agg #[.int .i64 x.pipe, .int .i64 x.job, .int .i64 x.runner, .int .i64 x.heard] := rfl
  rw [ea] at lx
  simp [spl, hg2', -load_ptr]
  refine after_call (rat_ev (r2.same sm2) p) ?_
  rintro w g3 ⟨hg3, hcase⟩
  subst hg3
  apply cutW (F := AskF h L d d2 p q)
  · intro key
    rcases hcase with ⟨i, hi, hno, rfl⟩ | ⟨hq, rfl⟩
    · have hat := atL_get r.ok hi
      rw [hno] at hat
      have hxi := hxy _ hat
      have he : checkE (atL L p) = 0 := by rw [hat]; rfl
      have hi0 : ¬ (i : Int) < 0 := by omega
      simp [hi0, he]
      refine key _ _ ?_
      exact ⟨g1.length, x, 0, (i : Nat), by simp, by simp, by simp, by simp, by simp, by simp [he], by simp, sm2, hn, .inr ⟨i, hi, rfl, rfl, hxi⟩⟩
    · have he : checkE (atL L p) = 60 := by rw [hq]; rfl
      have hx0 : x = ⟨x.no, 0, 0, 0, 0⟩ := by
        rw [hq] at hx
        have h0 : checkV none = .tuple #[.agg #[.int .i64 0, .int .i64 0, .int .i64 0, .int .i64 0], .int .i64 60] := rfl
        rw [h0] at hx
        simp at hx
        obtain ⟨⟨q1, q2, q3, q4⟩, _⟩ := hx
        cases x
        simp_all
      have hne := heq4 x ⟨x.no, 0, 0, 0, 0⟩
      rw [← hx0] at hne
      simp at hne
      have hx1 : x.pipe = 0 := by rw [hx0]
      have hx2 : x.job = 0 := by rw [hx0]
      have hx3 : x.runner = 0 := by rw [hx0]
      have hx4 : x.heard = 0 := by rw [hx0]
      rw [hx1, hx2, hx3, hx4] at hne
      rw [hx1, hx2, hx3, hx4] at lx
      simp [he, lx, hne, -load_ptr]
      refine key _ _ ?_
      exact ⟨g1.length, x, 60, -1, by simp, by simp, by simp, by simp, by simp, by simp [he], by simp, sm2, hn, .inl rfl⟩
  clear hcase lx hn hg2' hg2 sm2 sn hx hxy s1
  rintro fr g ⟨c, x, e, kk, f0, f1, f2, f3, f9, f10, f11, sm, hc, hk⟩
  have rB := r2.same sm
  refine WpA.mono (Q := fun e fr' h' => e = .normal ∧ fr' 0 = .pointer (some ⟨d, 0, none⟩) ∧ fr' 1 = .pointer (some ⟨d2, 0, none⟩) ∧ fr' 2 = .int .i64 p ∧ fr' 3 = .int .i64 q ∧ fr' 97 = .bool false ∧ h' = g) ?_ ?_
  · refine WpA.drawnT [0, 1, 2, 3, 4, 5, 6, 7, 8, 9, 10, 11, 12, 13, 14, 15, 16, 17, 18, 19, 20, 21, 22, 23, 24, 25, 26, 27, 28, 29, 30, 31, 32, 33, 34, 35, 36, 37, 38, 39, 40, 41, 42, 43, 44, 45, 46, 47, 48, 49, 50, 51, 52, 53, 54, 55, 56, 57] [] [[], [0], [0, 1], [0, 1, 2], [0, 1, 2, 3], [0, 1, 2, 3, 4], [0, 1, 2, 3, 4, 5], [0, 1, 2, 3, 4, 5, 6], [0, 1, 2, 3, 4, 5], [0, 1, 2, 3, 4, 5, 8], [0, 1, 2, 3, 4, 5, 8, 9], [0, 1, 2, 3, 4, 5, 8, 9, 10], [0, 1, 2, 3, 4, 5], [0, 1, 2, 3, 4, 5, 8, 9, 10, 11, 12], [0, 1, 2, 3, 4, 5, 8, 9, 10, 11, 12, 13], [0, 1, 2, 3, 4, 5, 8, 9, 10, 11, 12, 13, 14], [0, 1, 2, 3, 4, 5, 6, 7, 8, 9, 10, 11, 12, 13, 14, 15], [0, 1, 2, 3, 4, 5, 6, 7, 8, 9, 10, 11, 12, 13, 14, 15, 16], [0, 1, 2, 3, 4, 5, 6, 7, 8, 9, 10, 11, 12, 13, 14, 15, 16, 17], [0, 1, 2, 3, 4, 5, 6, 7, 8, 9, 10, 11, 12, 13, 14, 15, 16, 17, 18], [0, 1, 2, 3, 4, 5, 6, 7, 8, 9, 10, 11, 12, 13, 14, 15, 16, 17, 18, 19], [0, 1, 2, 3, 4, 5, 6, 7, 8, 9, 10, 11, 12, 13, 14, 15, 16, 17, 18], [0, 1, 2, 3, 4, 5, 6, 7, 8, 9, 10, 11, 12, 13, 14, 15, 16, 17, 18, 21], [0, 1, 2, 3, 4, 5, 6, 7, 8, 9, 10, 11, 12, 13, 14, 15, 16, 17, 18, 21, 22], [0, 1, 2, 3, 4, 5, 6, 7, 8, 9, 10, 11, 12, 13, 14, 15, 16, 17, 18, 21, 22, 23], [0, 1, 2, 3, 4, 5, 6, 7, 8, 9, 10, 11, 12, 13, 14, 15, 16, 17, 18], [0, 1, 2, 3, 4, 5, 6, 7, 8, 9, 10, 11, 12, 13, 14, 15, 16, 17, 18, 21, 22, 23, 24, 25], [0, 1, 2, 3, 4, 5, 6, 7, 8, 9, 10, 11, 12, 13, 14, 15, 16, 17, 18, 21, 22, 23, 24, 25, 26], [0, 1, 2, 3, 4, 5, 6, 7, 8, 9, 10, 11, 12, 13, 14, 15, 16, 17, 18, 21, 22, 23, 24, 25, 26, 27], [0, 1, 2, 3, 4, 5, 6, 7, 8, 9, 10, 11, 12, 13, 14, 15, 16, 17, 18, 19, 20, 21, 22, 23, 24, 25, 26, 27, 28], [0, 1, 2, 3, 4, 5, 6, 7, 8, 9, 10, 11, 12, 13, 14, 15, 16, 17, 18, 19, 20, 21, 22, 23, 24, 25, 26, 27, 28, 29], [0, 1, 2, 3, 4, 5, 6, 7, 8, 9, 10, 11, 12, 13, 14, 15, 16, 17, 18, 19, 20, 21, 22, 23, 24, 25, 26, 27, 28, 29, 30], [0, 1, 2, 3, 4, 5, 6, 7, 8, 9, 10, 11, 12, 13, 14, 15, 16, 17, 18, 19, 20, 21, 22, 23, 24, 25, 26, 27, 28, 29, 30, 31], [0, 1, 2, 3, 4, 5, 6, 7, 8, 9, 10, 11, 12, 13, 14, 15, 16, 17, 18, 19, 20, 21, 22, 23, 24, 25, 26, 27, 28, 29, 30, 31, 32], [0, 1, 2, 3, 4, 5, 6, 7, 8, 9, 10, 11, 12, 13, 14, 15, 16, 17, 18, 19, 20, 21, 22, 23, 24, 25, 26, 27, 28, 29, 30, 31], [0, 1, 2, 3, 4, 5, 6, 7, 8, 9, 10, 11, 12, 13, 14, 15, 16, 17, 18, 19, 20, 21, 22, 23, 24, 25, 26, 27, 28, 29, 30, 31, 34], [0, 1, 2, 3, 4, 5, 6, 7, 8, 9, 10, 11, 12, 13, 14, 15, 16, 17, 18, 19, 20, 21, 22, 23, 24, 25, 26, 27, 28, 29, 30, 31, 34, 35], [0, 1, 2, 3, 4, 5, 6, 7, 8, 9, 10, 11, 12, 13, 14, 15, 16, 17, 18, 19, 20, 21, 22, 23, 24, 25, 26, 27, 28, 29, 30, 31, 34, 35, 36], [0, 1, 2, 3, 4, 5, 6, 7, 8, 9, 10, 11, 12, 13, 14, 15, 16, 17, 18, 19, 20, 21, 22, 23, 24, 25, 26, 27, 28, 29, 30, 31], [0, 1, 2, 3, 4, 5, 6, 7, 8, 9, 10, 11, 12, 13, 14, 15, 16, 17, 18, 19, 20, 21, 22, 23, 24, 25, 26, 27, 28, 29, 30, 31, 34, 35, 36, 37, 38], [0, 1, 2, 3, 4, 5, 6, 7, 8, 9, 10, 11, 12, 13, 14, 15, 16, 17, 18, 19, 20, 21, 22, 23, 24, 25, 26, 27, 28, 29, 30, 31, 34, 35, 36, 37, 38, 39], [0, 1, 2, 3, 4, 5, 6, 7, 8, 9, 10, 11, 12, 13, 14, 15, 16, 17, 18, 19, 20, 21, 22, 23, 24, 25, 26, 27, 28, 29, 30, 31, 34, 35, 36, 37, 38, 39, 40], [0, 1, 2, 3, 4, 5, 6, 7, 8, 9, 10, 11, 12, 13, 14, 15, 16, 17, 18, 19, 20, 21, 22, 23, 24, 25, 26, 27, 28, 29, 30, 31, 32, 33, 34, 35, 36, 37, 38, 39, 40, 41], [0, 1, 2, 3, 4, 5, 6, 7, 8, 9, 10, 11, 12, 13, 14, 15, 16, 17, 18, 19, 20, 21, 22, 23, 24, 25, 26, 27, 28, 29, 30, 31, 32, 33, 34, 35, 36, 37, 38, 39, 40, 41, 42], [0, 1, 2, 3, 4, 5, 6, 7, 8, 9, 10, 11, 12, 13, 14, 15, 16, 17, 18, 19, 20, 21, 22, 23, 24, 25, 26, 27, 28, 29, 30, 31, 32, 33, 34, 35, 36, 37, 38, 39, 40, 41, 42, 43], [0, 1, 2, 3, 4, 5, 6, 7, 8, 9, 10, 11, 12, 13, 14, 15, 16, 17, 18, 19, 20, 21, 22, 23, 24, 25, 26, 27, 28, 29, 30, 31, 32, 33, 34, 35, 36, 37, 38, 39, 40, 41, 42, 43, 44], [0, 1, 2, 3, 4, 5, 6, 7, 8, 9, 10, 11, 12, 13, 14, 15, 16, 17, 18, 19, 20, 21, 22, 23, 24, 25, 26, 27, 28, 29, 30, 31, 32, 33, 34, 35, 36, 37, 38, 39, 40, 41, 42, 43, 44, 45], [0, 1, 2, 3, 4, 5, 6, 7, 8, 9, 10, 11, 12, 13, 14, 15, 16, 17, 18, 19, 20, 21, 22, 23, 24, 25, 26, 27, 28, 29, 30, 31, 32, 33, 34, 35, 36, 37, 38, 39, 40, 41, 42, 43, 44], [0, 1, 2, 3, 4, 5, 6, 7, 8, 9, 10, 11, 12, 13, 14, 15, 16, 17, 18, 19, 20, 21, 22, 23, 24, 25, 26, 27, 28, 29, 30, 31, 32, 33, 34, 35, 36, 37, 38, 39, 40, 41, 42, 43, 44, 47], [0, 1, 2, 3, 4, 5, 6, 7, 8, 9, 10, 11, 12, 13, 14, 15, 16, 17, 18, 19, 20, 21, 22, 23, 24, 25, 26, 27, 28, 29, 30, 31, 32, 33, 34, 35, 36, 37, 38, 39, 40, 41, 42, 43, 44, 47, 48], [0, 1, 2, 3, 4, 5, 6, 7, 8, 9, 10, 11, 12, 13, 14, 15, 16, 17, 18, 19, 20, 21, 22, 23, 24, 25, 26, 27, 28, 29, 30, 31, 32, 33, 34, 35, 36, 37, 38, 39, 40, 41, 42, 43, 44, 47, 48, 49], [0, 1, 2, 3, 4, 5, 6, 7, 8, 9, 10, 11, 12, 13, 14, 15, 16, 17, 18, 19, 20, 21, 22, 23, 24, 25, 26, 27, 28, 29, 30, 31, 32, 33, 34, 35, 36, 37, 38, 39, 40, 41, 42, 43, 44], [0, 1, 2, 3, 4, 5, 6, 7, 8, 9, 10, 11, 12, 13, 14, 15, 16, 17, 18, 19, 20, 21, 22, 23, 24, 25, 26, 27, 28, 29, 30, 31, 32, 33, 34, 35, 36, 37, 38, 39, 40, 41, 42, 43, 44, 47, 48, 49, 50, 51], [0, 1, 2, 3, 4, 5, 6, 7, 8, 9, 10, 11, 12, 13, 14, 15, 16, 17, 18, 19, 20, 21, 22, 23, 24, 25, 26, 27, 28, 29, 30, 31, 32, 33, 34, 35, 36, 37, 38, 39, 40, 41, 42, 43, 44, 47, 48, 49, 50, 51, 52], [0, 1, 2, 3, 4, 5, 6, 7, 8, 9, 10, 11, 12, 13, 14, 15, 16, 17, 18, 19, 20, 21, 22, 23, 24, 25, 26, 27, 28, 29, 30, 31, 32, 33, 34, 35, 36, 37, 38, 39, 40, 41, 42, 43, 44, 47, 48, 49, 50, 51, 52, 53], [0, 1, 2, 3, 4, 5, 6, 7, 8, 9, 10, 11, 12, 13, 14, 15, 16, 17, 18, 19, 20, 21, 22, 23, 24, 25, 26, 27, 28, 29, 30, 31, 32, 33, 34, 35, 36, 37, 38, 39, 40, 41, 42, 43, 44, 45, 46, 47, 48, 49, 50, 51, 52, 53, 54], [0, 1, 2, 3, 4, 5, 6, 7, 8, 9, 10, 11, 12, 13, 14, 15, 16, 17, 18, 19, 20, 21, 22, 23, 24, 25, 26, 27, 28, 29, 30, 31, 32, 33, 34, 35, 36, 37, 38, 39, 40, 41, 42, 43, 44, 45, 46, 47, 48, 49, 50, 51, 52, 53, 54, 55], [0, 1, 2, 3, 4, 5, 6, 7, 8, 9, 10, 11, 12, 13, 14, 15, 16, 17, 18, 19, 20, 21, 22, 23, 24, 25, 26, 27, 28, 29, 30, 31, 32, 33, 34, 35, 36, 37, 38, 39, 40, 41, 42, 43, 44, 45, 46, 47, 48, 49, 50, 51, 52, 53, 54, 55, 56]] (by kernel_rfl) (by decide +kernel) (by decide +kernel) (by decide +kernel) ?_
    rcases hk with rfl | ⟨i, hi, rfl, rfl, rfl⟩
    · simp [f0, f1, f2, f3, f11]
    · have hi0 : (0 : Int) ≤ (i : Int) := by omega
      have k0 := load_at (P := Try.prog) (t := 3) (o := 0) hc (by simp)
      have k1 := load_at (P := Try.prog) (t := 3) (o := 1) hc (by simp)
      have k2 := load_at (P := Try.prog) (t := 3) (o := 2) hc (by simp)
      have k3 := load_at (P := Try.prog) (t := 3) (o := 3) hc (by simp)
      simp only [Bd.cells, List.getElem?_cons_zero, List.getElem?_cons_succ] at k0 k1 k2 k3
      have l1 := rB.l1
      have ia := FIA rB.fr hi
      have c1 := FC1 rB.fr hi
      have c2 := FC2 rB.fr hi
      have c3 := FC3 rB.fr hi
      have c4 := FC4 rB.fr hi
      generalize L[i] = y at k0 k1 k2 k3 c1 c2 c3 c4
      simp [f0, f1, f2, f3, f9, f10, f11, hi0, k0, k1, k2, k3, l1, ia, c1, c2, c3, c4, -load_ptr]
  clear hk hc f0 f1 f2 f3 f9 f10 f11
  rintro e' fr gz ⟨rfl, f0, f1, f2, f3, f97, rfl⟩
  have rA := r.same sm
  simp [f0, f2, f3, f97]
  refine after_call (of_ev rA p q) ?_
  rintro w g5 ⟨s5, hw⟩
  have rA5 := rA.same s5
  have rB5 := rB.same s5
  have sm5 := sm.trans s5
  obtain ⟨no, ok, hv⟩ : ∃ (n : Int) (b : Bool), w = .tuple #[.int .i64 n, .bool b] := by rw [hw]; exact ofV _
  rw [hv]
  simp [f1, f2, f3]
  refine after_call (rof_ev rB5 p q) ?_
  rintro w' g6 ⟨hg6, hw'⟩
  subst hg6
  have hww : w' = .tuple #[.int .i64 no, .bool ok] := (hw'.trans hw.symm).trans hv
  rw [hww]
  simp [f0, f2, f3]
  refine after_call (expired_ev rA5 p q hp) ?_
  rintro w1 g7 ⟨A7, s7⟩
  have rA7 := rA5.same s7
  have rB7 := rB5.same s7
  simp [f1, f2, f3]
  refine after_call (rexpired_ev rB7 p q hp) ?_
  rintro w2 g8 ⟨A8, s8⟩
  have hle := lateL_le L p q
  simp
  refine after_call (ints26_ev (A7.same s8).row A8.row (by omega)) ?_
  rintro w3 g9 ⟨hg9, rfl⟩
  subst hg9
  have sm8 := (sm5.trans s7).trans s8
  have hk5 := sm5.len
  have W8 := (A7.same s8).wr
  generalize lateL L p q = LL at W8 hle
  simp
  refine WpA.loop (AskL h d d2 g6.length p q w1 LL.length) (k := LL.length) ⟨0, _, by simp, by omega, by simp [f0], by simp [f1], by simp [f2], by simp [f3], by simp, by simp, sm8, W8⟩ ?_
  clear f0 f1 f2 f3 f97 A7 A8 W8 rA5 rB5 rA7 rB7 s5 s7 s8 sm8 rA rB sm
  rintro z fr g ⟨i, ys, rfl, hi, f0, f1, f2, f3, f16, f17, sm, W⟩
  apply Run.ok
  have l3 := W.row.len (P := Try.prog) (t := 22) (e := 3) (by simp)
  by_cases c : i < LL.length
  · have c' : (i : Int) < LL.length := by omega
    have w4 : IntKind.i64.wrap ((i : Int) + 1) = (i : Int) + 1 := wrap_i64 (by omega) (by omega)
    have ia := Row.ia1 (P := Try.prog) (t := 22) (e := 3) W.row (by simp) (by simp) c .i64
    obtain ⟨g4, p1, p2, p3, p4⟩ := W.store1 (P := Try.prog) (e := 3) (x := .int .i64 (-7)) (by simp) rfl c
    have hab := W.above (by omega)
    simp [f16, f17, l3, c', ia, p1, w4, -load_ptr, -store_ptr, -roundQ_normal, ↓rq]
    exact stop_intro ⟨LL.length - (i + 1), by omega, i + 1, _, rfl, by omega, by simp [f0], by simp [f1], by simp [f2], by simp [f3], by simp [f16], by simp, Upd.trans sm p3 fun j hj e => by omega, p2⟩
  have c' : ¬ (i : Int) < LL.length := by omega
  have rA := r.same sm
  have rB := r2.same sm
  simp [f0, f16, f17, l3, c', -load_ptr]
  refine after_call (save_ev rA) ?_
  rintro w4 gB ⟨B, sB⟩
  have rA1 := rA.same sB
  have rB1 := rB.same sB
  have smB := sm.trans sB
  have k0 := rB1.l0
  have l1 := rB1.l1
  have fl := FLen rB1.fr
  have cB := (BAcc.bytes B).str (P := Try.prog) (t := 42) (u := 9) (e := 5) (by simp) (by simp) (by simp)
  have hsl := saveB_len T L
  have hkB := sm.len
  simp [-load_ptr]
  refine WpA.drawnT [0, 2, 3, 4, 5, 1, 6, 7, 8, 10, 11, 12, 13, 14, 9, 15, 16, 17, 18, 19, 20, 21, 22, 23, 24] [[], [0], [], [], [], [], [], [], [], [0, 1, 2, 3, 4, 5, 6, 7, 8], [], [], [], [], [], [], [], [], [], [], [], [0, 1, 2, 3, 4, 5, 6, 7, 8, 9, 10, 11, 12, 13, 14, 15, 16, 17, 20]] [[], [0], [], [2], [2, 3], [2, 3, 4], [0, 1, 2, 3, 4, 5], [0, 1, 2, 3, 4, 5, 6], [0, 1, 2, 3, 4, 5, 6, 7], [0, 1, 2, 3, 4, 5, 6, 7, 8], [0, 1, 2, 3, 4, 5, 6, 7], [0, 1, 2, 3, 4, 5, 6, 7, 10], [0, 1, 2, 3, 4, 5, 6, 7, 10, 11], [0, 1, 2, 3, 4, 5, 6, 7, 10, 11, 12], [0, 1, 2, 3, 4, 5, 6, 7, 10, 11, 12, 13], [0, 1, 2, 3, 4, 5, 6, 7, 8, 9, 10, 11, 12, 13, 14], [0, 1, 2, 3, 4, 5, 6, 7, 8, 9, 10, 11, 12, 13, 14, 15], [0, 1, 2, 3, 4, 5, 6, 7, 8, 9, 10, 11, 12, 13, 14, 15, 16], [0, 1, 2, 3, 4, 5, 6, 7, 8, 9, 10, 11, 12, 13, 14, 15, 16, 17], [0, 1, 2, 3, 4, 5, 6, 7, 8, 9, 10, 11, 12, 13, 14, 15, 16, 17, 18], [0, 1, 2, 3, 4, 5, 6, 7, 8, 9, 10, 11, 12, 13, 14, 15, 16, 17], [0, 1, 2, 3, 4, 5, 6, 7, 8, 9, 10, 11, 12, 13, 14, 15, 16, 17, 20], [0, 1, 2, 3, 4, 5, 6, 7, 8, 9, 10, 11, 12, 13, 14, 15, 16, 17, 20, 21], [0, 1, 2, 3, 4, 5, 6, 7, 8, 9, 10, 11, 12, 13, 14, 15, 16, 17, 18, 19, 20, 21, 22], [0, 1, 2, 3, 4, 5, 6, 7, 8, 9, 10, 11, 12, 13, 14, 15, 16, 17, 18, 19, 20, 21, 22, 23]] (by kernel_rfl) (by decide +kernel) (by decide +kernel) (by decide +kernel) ?_
  simp [f0, f1, k0, -load_ptr]
  refine after_call (last26_ev rA1) ?_
  rintro w5 gC ⟨hgC, rfl⟩
  subst hgC
  simp [f0, f1, k0, l1, fl, -load_ptr]
  refine after_call (count26_ev rA1) ?_
  rintro w5 gC ⟨hgC, rfl⟩
  subst hgC
  simp [f1, k0, l1, fl, cB, -load_ptr]
  refine after_call (rsave_ev rB1) ?_
  rintro w6 gD ⟨D, sD⟩
  have cD := (BAcc.bytes D).str (P := Try.prog) (t := 42) (u := 9) (e := 5) (by simp) (by simp) (by simp)
  have cB' := (BAcc.bytes (B.same sD)).str (P := Try.prog) (t := 42) (u := 9) (e := 5) (by simp) (by simp) (by simp)
  have smD := smB.trans sD
  have WD := (B.same sD).wr
  simp [cD, cB', -load_ptr]
  generalize saveB T L = SS at WD hsl
  refine WpA.loop (AskB h d d2 g.length p q w4 SS.length) (k := SS.length) ⟨0, _, by simp, by omega, by simp [f0], by simp [f1], by simp [f2], by simp [f3], by simp, by simp, smD, WD⟩ ?_
  clear f0 f1 f2 f3 f16 f17 cD cB' smD WD D sD k0 l1 fl cB rA1 rB1 smB B sB rA rB sm W l3
  rintro z fr gE ⟨i, ys, rfl, hi, f0, f1, f2, f3, f18, f19, sm, W⟩
  apply Run.ok
  have l3 := W.row.len (P := Try.prog) (t := 42) (e := 5) (by simp)
  by_cases c : i < SS.length
  · have c' : (i : Int) < SS.length := by omega
    have w4 : IntKind.i64.wrap ((i : Int) + 1) = (i : Int) + 1 := wrap_i64 (by omega) (by omega)
    have ia := Row.ia1 (P := Try.prog) (t := 42) (e := 5) W.row (by simp) (by simp) c .i64
    obtain ⟨g4, p1, p2, p3, p4⟩ := W.store1 (P := Try.prog) (e := 5) (x := .int .u8 255) (by simp) rfl c
    have hab := W.above (by omega)
    simp [f18, f19, l3, c', ia, p1, w4, -load_ptr, -store_ptr, -roundQ_normal, ↓rq]
    exact stop_intro ⟨SS.length - (i + 1), by omega, i + 1, _, rfl, by omega, by simp [f0], by simp [f1], by simp [f2], by simp [f3], by simp [f18], by simp, Upd.trans sm p3 fun j hj e => by omega, p2⟩
  have c' : ¬ (i : Int) < SS.length := by omega
  have rA := r.same sm
  have rB := r2.same sm
  simp [f0, f2, f3, f18, f19, l3, c', -load_ptr]
  refine after_call (expired_ev rA p q hp) ?_
  rintro w1 g7 ⟨A7, s7⟩
  have rB7 := rB.same s7
  simp [f1, f2, f3]
  refine after_call (rexpired_ev rB7 p q hp) ?_
  rintro w2 g8 ⟨A8, s8⟩
  have hle := lateL_le L p q
  simp
  refine after_call (ints26_ev (A7.same s8).row A8.row (by omega)) ?_
  rintro w3 g9 ⟨hg9, rfl⟩
  subst hg9
  simp
  exact (sm.trans s7).trans s8
end
end Go.Proofs.Ytaahkamnpobofaa
