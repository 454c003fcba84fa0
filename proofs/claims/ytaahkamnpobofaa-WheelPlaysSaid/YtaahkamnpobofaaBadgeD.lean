/- Desks of badges: Expired; no condition. -/
import Derived.Test.YtaahkamnpobofaaBadgeC
namespace Go.Proofs.Ytaahkamnpobofaa
open Go.Ab
theorem appI {k : Nat} {h : Hp} {v : Value} {n : Nat} {xs : List Value} (A : Acc k h 1 v n xs) (hk : k ≤ h.length) (hn : n ≤ 1000000000) (x : Int) :
    ∃ v' h', appendA Try.prog 22 22 v (.slice (some ⟨h.length, 0, none⟩) 1 1) (h ++ [.cells [.int .i64 x] false none]) = some (v', h') ∧ Acc k h' 1 v' (n + 1) (xs ++ [.int .i64 x]) ∧ Upd (inRow v) (h ++ [.cells [.int .i64 x] false none]) h' := by
  obtain ⟨v', h', e1, e2, e3, _⟩ := Acc.append (P := Try.prog) (t := 22) (tx := 22) (e := 3) (by_ := 8) (dx := .slice 3) (A.same (Same.new [.cells [.int .i64 x] false none])) (by simp; omega) (by simp) (by simp) (by simp) rfl
    (show srcA 1 (.slice (some ⟨h.length, 0, none⟩) 1 1) (h ++ [.cells [.int .i64 x] false none]) = some (1, [.int .i64 x]) by simp [srcA]) (by simp) (by simp [oneA]) (by omega) (by omega)
  exact ⟨v', h', e1, e2, e3⟩
theorem appI4 {k : Nat} {h : Hp} {v : Value} {n : Nat} {xs : List Value} (A : Acc k h 1 v n xs) (hk : k ≤ h.length) (hn : n ≤ 1000000000) (x : Int) :
    ∃ v' h', appendA Try.prog 22 22 v (.slice (some ⟨h.length, 0, none⟩) 1 1) (h ++ [.cells [.int .i64 x] false none]) = some (v', h') ∧ Acc k h' 1 v' (n + 1) (xs ++ [.int .i64 x]) ∧ Upd (inRow v) (h ++ [.cells [.int .i64 x] false none]) h' ∧ ∀ j, inRow v' j → inRow v j ∨ h.length ≤ j := by
  obtain ⟨v', h', e1, e2, e3, e4⟩ := Acc.append (P := Try.prog) (t := 22) (tx := 22) (e := 3) (by_ := 8) (dx := .slice 3) (A.same (Same.new [.cells [.int .i64 x] false none])) (by simp; omega) (by simp) (by simp) (by simp) rfl
    (show srcA 1 (.slice (some ⟨h.length, 0, none⟩) 1 1) (h ++ [.cells [.int .i64 x] false none]) = some (1, [.int .i64 x]) by simp [srcA]) (by simp) (by simp [oneA]) (by omega) (by omega)
  exact ⟨v', h', e1, e2, e3, fun j hj => (e4 j hj).imp id fun h1 => by simp at h1; omega⟩
section
variable {h g : Hp} {k d b : Nat} {last : Int} {L : List Bd} {v : Value}
def lateF (L : List Bd) (now lease : Int) : List Int := (L.filter fun x => lateB now lease x).map (·.no)
theorem lateF_next {L : List Bd} {i : Nat} (c : i < L.length) (now lease : Int) : lateF (L.take (i + 1)) now lease = lateF (L.take i) now lease ++ (if lateB now lease L[i] then [L[i].no] else []) := by
  rw [List.take_add_one, List.getElem?_eq_getElem c, lateF, List.filter_append, List.map_append]
  congr 1
  by_cases h : lateB now lease L[i] = true <;> simp [h]
theorem lateF_le (L : List Bd) (now lease : Int) : (lateF L now lease).length ≤ L.length := by
  rw [lateF, List.length_map]; exact List.length_filter_le _ _
set_option maxHeartbeats 2000000 in
theorem expired_ev (r : DeskR h k d b last L) (now lease : Int) (hn : now ≤ 9223372036854775807) : EvA Try.prog 16 [.pointer (some ⟨d, 0, none⟩), .int .i64 now, .int .i64 lease]
    (fun v h' => Acc h.length h' 1 v (lateL L now lease).length ((lateL L now lease).map fun n => .int .i64 n) ∧ Same h h') h := by
  refine EvA.body Try.func16 rfl (by kernel_rfl) (by simp) ?_
  apply Run.ok
  by_cases c0 : lease < 1
  · simp [c0, lateL]
    exact ⟨Acc.nil _, Same.refl⟩
  have hL : lateL L now lease = lateF L now lease := by unfold lateL; rw [if_neg c0]; rfl
  rw [hL]
  simp [c0]
  refine after_call (badges_ev r) ?_
  rintro v g1 ⟨A, s1⟩
  have wl := NLen A
  have few := r.ok.few
  simp [wl]
  refine WpA.loop (fun z fr g => ∃ i o, z = L.length - i ∧ i ≤ L.length ∧ fr 0 = .pointer (some ⟨d, 0, none⟩) ∧ fr 1 = .int .i64 now ∧ fr 2 = .int .i64 lease ∧ fr 7 = o ∧ fr 18 = v ∧ fr 19 = .int .i64 (L.length : Nat) ∧ fr 20 = .int .i64 (i : Nat) ∧ Same g1 g ∧
      Acc g1.length g 1 o (lateF (L.take i) now lease).length ((lateF (L.take i) now lease).map fun n => .int .i64 n))
    (k := L.length) ⟨0, _, by simp, by omega, by simp, by simp, by simp, rfl, by simp, by simp, by simp, Same.refl, by rw [List.take_zero]; exact Acc.nil _⟩ ?_
  rintro z fr g ⟨i, o, rfl, hi, f0, f1, f2, f7, f18, f19, f20, s, AO⟩
  apply Run.ok
  have r2 := r.same (s1.trans s)
  have A2 := A.same s
  by_cases c : i < L.length
  · have c' : (i : Int) < L.length := by omega
    have w1 : IntKind.i64.wrap ((i : Int) + 1) = (i : Int) + 1 := wrap_i64 (by omega) (by omega)
    have ia := NIA A2 c
    have ld := NLD A2 c
    rw [List.getElem?_map, List.getElem?_eq_getElem c, Option.map_some] at ld
    have lm := r2.ldm
    have lk := r2.lookAt c
    have hgood := (Bd.good_iff L[i]).1 (r.ok.good L[i] (List.getElem_mem _))
    have hnx := lateF_next c now lease
    have hle := Nat.le_trans (lateF_le (L.take i) now lease) (show (L.take i).length ≤ 4 by simp; omega)
    generalize L[i] = x at ld lk hgood hnx
    have ea : ∀ z : Bd, z.agg = .agg #[.int .i64 z.pipe, .int .i64 z.job, .int .i64 z.runner, .int .i64 z.heard] := fun _ => rfl
    rw [ea] at lk
    have hx1 : (g ++ [Blk.cells x.cells false none])[g.length]? = some (.cells x.cells false none) := by simp
    have l3 := ldH3 hx1
    simp only [Bd.cells] at l3
    have sn : Same g (g ++ [Blk.cells [.int .i64 x.pipe, .int .i64 x.job, .int .i64 x.runner, .int .i64 x.heard] false none]) := Same.new _
    have hgl := s.len
    by_cases c1 : x.heard ≤ now
    · have w2 : IntKind.i64.wrap (now - x.heard) = now - x.heard := wrap_i64 (by omega) (by omega)
      by_cases c2 : lease ≤ now - x.heard
      · have hlb : lateB now lease x = true := by simp [lateB, c1, c2]
        rw [hlb] at hnx
        simp only [if_true] at hnx
        have AO2 := AO.same sn
        have s2 := s.trans sn
        have hg2 : (g ++ [Blk.cells [.int .i64 x.pipe, .int .i64 x.job, .int .i64 x.runner, .int .i64 x.heard] false none]).length = g.length + 1 := by simp
        obtain ⟨o', g', e1, A', u'⟩ := appI AO2 (by omega) (by omega) x.no
        have s' := Acc.since (AO2.same (Same.new _)) (s2.trans (Same.new _)) u'
        rw [hg2] at e1
        simp only [List.append_assoc, List.cons_append, List.nil_append] at e1
        have A3 : Acc g1.length g' 1 o' (lateF (L.take (i + 1)) now lease).length ((lateF (L.take (i + 1)) now lease).map fun n => .int .i64 n) := by
          rw [hnx]; simpa using A'
        simp [f0, f1, f2, f7, f18, f19, f20, c', ia, ld, lm, lk, l3, c1, c2, w1, w2, e1, zeros, spl, capO, -load_ptr, -roundQ_normal, ↓rq]
        exact stop_intro ⟨L.length - (i + 1), by omega, i + 1, o', rfl, by omega, by simp [f0], by simp [f1], by simp [f2], by simp, by simp [f18], by simp [f19], by simp, s', A3⟩
      · have hlb : lateB now lease x = false := by simp [lateB, c2]
        rw [hlb] at hnx
        simp only [Bool.false_eq_true, if_false, List.append_nil] at hnx
        simp [f0, f1, f2, f18, f19, f20, c', ia, ld, lm, lk, l3, c1, c2, w1, w2, spl, -load_ptr, -roundQ_normal, ↓rq]
        exact stop_intro ⟨L.length - (i + 1), by omega, i + 1, o, rfl, by omega, by simp [f0], by simp [f1], by simp [f2], by simp [f7], by simp [f18], by simp [f19], by simp, s.trans sn, by rw [hnx]; exact AO.same sn⟩
    · have hlb : lateB now lease x = false := by simp [lateB, c1]
      rw [hlb] at hnx
      simp only [Bool.false_eq_true, if_false, List.append_nil] at hnx
      simp [f0, f1, f18, f19, f20, c', ia, ld, lm, lk, l3, c1, w1, spl, -load_ptr, -roundQ_normal, ↓rq]
      exact stop_intro ⟨L.length - (i + 1), by omega, i + 1, o, rfl, by omega, by simp [f0], by simp [f1], by simp [f2], by simp [f7], by simp [f18], by simp [f19], by simp, s.trans sn, by rw [hnx]; exact AO.same sn⟩
  · have c' : ¬ (i : Int) < L.length := by omega
    rw [List.take_of_length_le (by omega)] at AO
    simp [f7, f19, f20, c']
    have := AO.down (j := h.length) s1.len
    exact ⟨by simpa using this, s1.trans s⟩
end
end Go.Proofs.Ytaahkamnpobofaa
