/- Desks of badges: those that count, one by one; no condition. -/
import Derived.Test.YtaahkamnpobofaaBadgeH
namespace Go.Proofs.Ytaahkamnpobofaa
open Go.Ab
def below (L : List Bd) (n : Int) : List Bd := L.filter fun x => decide (x.no < n)
theorem below_next (n : Int) : ∀ (L : List Bd), (L.Pairwise fun x y => x.no < y.no) → below L (n + 1) = below L n ++ (atL L n).toList := by
  intro L
  induction L with
  | nil => intro _; rfl
  | cons x L ih =>
    intro hp
    obtain ⟨h1, h2⟩ := List.pairwise_cons.1 hp
    have ih := ih h2
    unfold below atL at ih ⊢
    simp only [List.filter_cons, List.find?_cons]
    by_cases c : x.no < n
    · have c1 : x.no < n + 1 := by omega
      have c2 : ¬ x.no = n := by omega
      simp only [c, c1, c2, decide_true, decide_false, if_true, List.cons_append]
      rw [ih]
    · have e : ∀ q : Int, q ≤ x.no + 1 → L.filter (fun y => decide (y.no < q)) = [] := by
        intro q hq
        rw [List.filter_eq_nil_iff]
        intro y hy
        have := h1 y hy
        simp; omega
      by_cases c1 : x.no = n
      · have c2 : x.no < n + 1 := by omega
        simp only [c1, decide_true]
        rw [e n (by omega), e (n + 1) (by omega)]
        simp [Option.toList]; omega
      · have c2 : ¬ x.no < n + 1 := by omega
        simp only [c, c1, c2, decide_false]
        rw [e n (by omega)] at ih
        have e2 := e (n + 1) (by omega)
        rw [e2] at ih
        simp [e n (by omega), e2]
        intro y hy
        have := h1 y hy
        omega
theorem below_all {last : Int} {L : List Bd} (o : DeskOk last L) : below L (last + 1) = L := by
  rw [below, List.filter_eq_self]
  intro x hx
  have := o.nos x hx
  simp; omega
theorem below_one {last : Int} {L : List Bd} (o : DeskOk last L) : below L 1 = [] := by
  rw [below, List.filter_eq_nil_iff]
  intro x hx
  have := o.nos x hx
  simp; omega
theorem below_le (L : List Bd) (n : Int) : (below L n).length ≤ L.length := List.length_filter_le _ _
theorem appH4 {k : Nat} {h : Hp} {v : Value} {n : Nat} {xs : List Value} (A : Acc k h 4 v n xs) (hk : k ≤ h.length) (hn : n ≤ 1000000000) (x : Bd) :
    ∃ v' h', appendA Try.prog 79 79 v (.slice (some ⟨h.length, 0, none⟩) 1 1) (h ++ [.cells [.int .i64 x.pipe, .int .i64 x.job, .int .i64 x.runner, .int .i64 x.heard] false none]) = some (v', h') ∧ Acc k h' 4 v' (n + 1) (xs ++ x.cells) ∧ Upd (inRow v) (h ++ [.cells x.cells false none]) h' ∧ ∀ j, inRow v' j → inRow v j ∨ h.length ≤ j := by
  obtain ⟨v', h', e1, e2, e3, e4⟩ := Acc.append (P := Try.prog) (t := 79) (tx := 79) (e := 74) (by_ := 32) (dx := .slice 74) (A.same (Same.new [.cells x.cells false none])) (by simp; omega) (by simp) (by simp) (by simp) rfl
    (show srcA 4 (.slice (some ⟨h.length, 0, none⟩) 1 1) (h ++ [.cells x.cells false none]) = some (1, x.cells) by simp [srcA, Bd.cells]) (by simp [Bd.cells]) (by simp [oneA, Bd.cells]) (by omega) (by omega)
  exact ⟨v', h', e1, e2, e3, fun j hj => (e4 j hj).imp id fun h1 => by simp at h1; omega⟩
section
variable {h g : Hp} {k d b : Nat} {last : Int} {L : List Bd} {v : Value}
inductive CntInv (h : Hp) (last : Int) (L : List Bd) (d z : Nat) (fr : Fr) (g : Hp) : Prop
  | mk (n : Int) (a c : Value) (hz : z = (last + 1 - n).toNat) (h1 : 1 ≤ n) (h2 : n ≤ last + 1) (f0 : fr 0 = .pointer (some ⟨d, 0, none⟩)) (f2 : fr 2 = .int .i64 last) (f8 : fr 8 = a) (f9 : fr 9 = c) (f10 : fr 10 = .int .i64 n)
      (A : Acc h.length g 1 a (below L n).length ((below L n).map fun x => .int .i64 x.no)) (C : Acc h.length g 4 c (below L n).length ((below L n).flatMap Bd.cells)) (ne : ∀ j, inRow a j → inRow c j → False) (sm : Same h g)
set_option maxHeartbeats 2000000 in
theorem counting_ev (r : DeskR h k d b last L) : EvA Try.prog 47 [.pointer (some ⟨d, 0, none⟩), .int .i64 1, .int .i64 last]
    (fun v h' => ∃ a c, v = .tuple #[a, c] ∧ Acc h.length h' 1 a L.length (L.map fun x => .int .i64 x.no) ∧ Acc h.length h' 4 c L.length (L.flatMap Bd.cells) ∧ Same h h') h := by
  refine EvA.body Try.func47 rfl (by kernel_rfl) (by simp) ?_
  apply Run.ok
  have l0 := r.ok.l0
  have l1 := r.ok.l1
  have few := r.ok.few
  simp
  refine WpA.loop (CntInv h last L d) (k := last.toNat) ⟨1, .slice none 0 0, .slice none 0 0, by omega, by omega, by omega, by simp, by simp, by simp, by simp, by simp, by rw [below_one r.ok]; exact Acc.nil _, by rw [below_one r.ok]; exact Acc.nil _, fun j hj => (by obtain ⟨a, n, c, he, _⟩ := hj; cases he), Same.refl⟩ ?_
  rintro z fr g ⟨n, a, c, rfl, h1, h2, f0, f2, f8, f9, f10, A, C, ne, sm⟩
  apply Run.ok
  by_cases e : n ≤ last
  · have w1 : IntKind.i64.wrap (n + 1) = n + 1 := wrap_i64 (by omega) (by omega)
    have hnx := below_next n L r.ok.rising
    have hle := below_le L n
    simp [f0, f2, f10, e]
    refine after_call (checkC_ev (r.same sm) n) ?_
    rintro w g1 ⟨rfl, s1⟩
    have A1 := A.same s1
    have C1 := C.same s1
    have sm1 := sm.trans s1
    cases hq : atL L n with
    | none =>
      rw [hq] at hnx
      simp only [Option.toList, List.append_nil] at hnx
      have hz : checkV none = .tuple #[.agg #[.int .i64 0, .int .i64 0, .int .i64 0, .int .i64 0], .int .i64 60] := rfl
      rw [hz]
      have sn : Same g1 (g1 ++ [Blk.cells [.int .i64 0, .int .i64 0, .int .i64 0, .int .i64 0] false none]) := Same.new _
      simp [spl, f10, w1, -roundQ_normal, ↓rq]
      exact stop_intro ⟨(last + 1 - (n + 1)).toNat, by omega, n + 1, a, c, rfl, by omega, by omega, by simp [f0], by simp [f2], by simp [f8], by simp [f9], by simp, by rw [hnx]; exact A1.same sn, by rw [hnx]; exact C1.same sn, ne, sm1.trans sn⟩
    | some x =>
      rw [hq] at hnx
      simp only [Option.toList] at hnx
      have hx := atL_mem hq
      have hz : checkV (some x) = .tuple #[.agg #[.int .i64 x.pipe, .int .i64 x.job, .int .i64 x.runner, .int .i64 x.heard], .int .i64 0] := rfl
      rw [hz]
      have sn : Same g1 (g1 ++ [Blk.cells x.cells false none]) := Same.new _
      have hn : (g1 ++ [Blk.cells x.cells false none])[g1.length]? = some (.cells x.cells false none) := by simp
      obtain ⟨g2, hg2⟩ : ∃ g2, g2 = g1 ++ [Blk.cells x.cells false none] := ⟨_, rfl⟩
      rw [← hg2] at sn hn
      have hg2' : g1 ++ [Blk.cells [.int .i64 x.pipe, .int .i64 x.job, .int .i64 x.runner, .int .i64 x.heard] false none] = g2 := hg2.symm
      have A2 := A1.same sn
      have C2 := C1.same sn
      have sm2 := sm1.trans sn
      have hsl2 := sm2.len
      obtain ⟨a', g3, e3, A3, u3, n3⟩ := appI4 A2 (by omega) (by omega) n
      have sx : Same g2 (g2 ++ [.cells [.int .i64 n] false none]) := Same.new _
      have u3l := u3.len
      have sm3 : Same h g3 := Upd.trans (sm2.trans sx) u3 fun j hj e => by have := (A2.above j e).1; omega
      have C3 := (C2.same sx).upd u3 (fun j hj e => ne j e hj)
      have hn3 := u3.at (sx.at hn) (fun e => by have := (A1.above _ e).2; omega)
      have lx := ldH hn3
      have ea : x.agg = .agg #[.int .i64 x.pipe, .int .i64 x.job, .int .i64 x.runner, .int .i64 x.heard] := rfl
      rw [ea] at lx
      obtain ⟨c', g4, e4, C4, u4, n4⟩ := appH4 C3 (by have := sm3.len; omega) (by omega) x
      have sy : Same g3 (g3 ++ [.cells x.cells false none]) := Same.new _
      have sm4 : Same h g4 := Upd.trans (sm3.trans sy) u4 fun j hj e => by have := (C3.above j e).1; omega
      have ne3 : ∀ j, inRow a' j → inRow c j → False := fun j hj hc => by
        rcases n3 j hj with e | e
        · exact ne j e hc
        · have := (C2.above j hc).2; omega
      have A4 := (A3.same sy).upd u4 (fun j hj e => ne3 j hj e)
      have ne4 : ∀ j, inRow a' j → inRow c' j → False := fun j hj hc => by
        rcases n4 j hc with e | e
        · exact ne3 j hj e
        · have := (A3.above j hj).2; omega
      simp [zeros, spl, capO, hg2', f8, f9, f10, e3, lx, e4, w1, -load_ptr, -roundQ_normal, ↓rq]
      exact stop_intro ⟨(last + 1 - (n + 1)).toNat, by omega, n + 1, a', c', rfl, by omega, by omega, by simp [f0], by simp [f2], by simp, by simp, by simp, by rw [hnx]; simpa [hx.2] using A4, by rw [hnx]; simpa using C4, ne4, sm4⟩
  · simp [f2, f8, f9, f10, e]
    have hn : n = last + 1 := by omega
    rw [hn, below_all r.ok] at A C
    exact ⟨a, c, by simp, A, C, sm⟩
end
end Go.Proofs.Ytaahkamnpobofaa
