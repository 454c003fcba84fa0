/- The document's free map: Free, List, Ints, Copy, Bytes; no condition. -/
import Derived.Test.YtklhioaokogpdaaRef05A
import Derived.Test.YtklhioaokogpdaaRefA
namespace Go.Proofs.Ytklhioaokogpdaa
open Go.Ab Go.Free
theorem rfree_ev {h : Hp} {k b : Nat} {v : Value} {T : List Bool} (m : RM h k b v T) :
    EvA Try.prog 17 [.pointer (some ⟨b, 0, none⟩)] (fun r h' => h' = h ∧ r = .int .i64 ((T.length : Int) - cnt T)) h := by
  refine EvA.body Try.func17 rfl (by kernel_rfl) (by simp) ?_
  apply Run.ok
  have l0 := m.l0
  have tl := m.tl
  have hlen := m.len
  simp
  refine WpA.loop (fun q fr g => ∃ i p, q = T.length - i ∧ i ≤ T.length ∧ fr 0 = .pointer (some ⟨b, 0, none⟩) ∧ fr 3 = .int .i64 (p : Nat) ∧ fr 4 = .int .i64 (i : Nat) ∧ g = h ∧ p + (T.take i).count true = i)
    (k := T.length) ⟨0, 0, by simp, by omega, by simp, by simp, by simp, rfl, by simp⟩ ?_
  rintro q fr g ⟨i, p, rfl, hi, f0, f3, f4, rfl, hp⟩
  apply Run.ok
  by_cases c : i < T.length
  · have c' : (i : Int) < T.length := by omega
    have w1 : IntKind.i64.wrap ((i : Int) + 1) = (i : Int) + 1 := wrap_i64 (by omega) (by omega)
    have w2 : IntKind.i64.wrap ((p : Int) + 1) = (p : Int) + 1 := wrap_i64 (by omega) (by omega)
    have ia := m.ia c
    have ld := m.ld c
    have hct := count_take T i
    rw [List.getD_eq_getElem?_getD, List.getElem?_eq_getElem c, Option.getD_some] at hct
    cases hT : T[i] with
    | true =>
      rw [hT] at ld hct
      simp [f0, f3, f4, l0, tl, c', ia, ld, w1, -load_ptr, -roundQ_normal, ↓rq]
      refine stop_intro ⟨T.length - (i + 1), by omega, i + 1, p, rfl, by omega, by simp [f0], by simp [f3], by simp, rfl, by simp at hct; omega⟩
    | false =>
      rw [hT] at ld hct
      simp [f0, f3, f4, l0, tl, c', ia, ld, w1, w2, -load_ptr, -roundQ_normal, ↓rq]
      refine stop_intro ⟨T.length - (i + 1), by omega, i + 1, p + 1, rfl, by omega, by simp [f0], by simp, by simp, rfl, by simp at hct; omega⟩
  · have c' : ¬ (i : Int) < T.length := by omega
    rw [List.take_of_length_le (by omega)] at hp
    have he : (p : Int) = (T.length : Int) - cnt T := by unfold cnt; omega
    simp [f0, f3, f4, l0, tl, c', he, -load_ptr]
theorem rints_ev {h : Hp} {u w : Value} {L : List Nat} (hu : Row h 1 u L.length (L.map intV)) (hw : Row h 1 w L.length (L.map intV)) (hl : L.length ≤ 1000000000) :
    EvA Try.prog 18 [u, w] (fun r h' => h' = h ∧ r = .bool true) h := by
  refine EvA.body Try.func18 rfl (by kernel_rfl) (by simp) ?_
  apply Run.ok
  have lu := hu.len (P := Try.prog) (t := 35) (e := 3) (by simp)
  have lw := hw.len (P := Try.prog) (t := 35) (e := 3) (by simp)
  simp [lu, lw]
  refine WpA.loop (fun q fr g => ∃ i, q = L.length - i ∧ i ≤ L.length ∧ fr 0 = u ∧ fr 1 = w ∧ fr 5 = .int .i64 (i : Nat) ∧ g = h)
    (k := L.length) ⟨0, by simp, by omega, by simp, by simp, by simp, rfl⟩ ?_
  rintro q fr g ⟨i, rfl, hi, f0, f1, f5, rfl⟩
  apply Run.ok
  by_cases c : i < L.length
  · have c' : (i : Int) < L.length := by omega
    have w1 : IntKind.i64.wrap ((i : Int) + 1) = (i : Int) + 1 := wrap_i64 (by omega) (by omega)
    have ia := Row.ia1 (P := Try.prog) (t := 35) (e := 3) hu (by simp) (by simp) c .i64
    have ld := Row.ld1 (P := Try.prog) (f := 3) hu (by simp) c
    have ia2 := Row.ia1 (P := Try.prog) (t := 35) (e := 3) hw (by simp) (by simp) c .i64
    have ld2 := Row.ld1 (P := Try.prog) (f := 3) hw (by simp) c
    rw [List.getElem?_map, List.getElem?_eq_getElem c] at ld ld2
    simp only [Option.map_some, intV] at ld ld2
    generalize L[i] = x at ld ld2
    simp [f0, f1, f5, lu, c', -load_ptr]
    refine WpA.drawnA [0, 1, 2, 3, 4, 5, 6, 7, 8] [] (by kernel_rfl) (by decide +kernel) (by decide +kernel) ?_
    simp [f0, f1, f5, ia, ld, ia2, ld2, w1, -load_ptr, -roundQ_normal, ↓rq]
    refine stop_intro ⟨L.length - (i + 1), by omega, i + 1, rfl, by omega, by simp [f0], by simp [f1], by simp, rfl⟩
  · have c' : ¬ (i : Int) < L.length := by omega
    simp [f0, f1, f5, lu, c']
theorem rlist_ev {h : Hp} {k b : Nat} {v : Value} {T : List Bool} (m : RM h k b v T) :
    EvA Try.prog 20 [.pointer (some ⟨b, 0, none⟩)] (fun r h' => Acc h.length h' 1 r (idxs T T.length).length ((idxs T T.length).map intV) ∧ Same h h') h := by
  refine EvA.body Try.func20 rfl (by kernel_rfl) (by simp) ?_
  apply Run.ok
  have hlen := m.len
  simp
  refine WpA.loop (fun q fr g => ∃ i a, q = T.length - i ∧ i ≤ T.length ∧ fr 0 = .pointer (some ⟨b, 0, none⟩) ∧ fr 3 = a ∧ fr 4 = .int .i64 (i : Nat) ∧ Same h g ∧ Acc h.length g 1 a (idxs T i).length ((idxs T i).map intV))
    (k := T.length) ⟨0, _, by simp, by omega, by simp, rfl, by simp, Same.refl, by simp [idxs]; exact Acc.nil _⟩ ?_
  rintro q fr g ⟨i, a, rfl, hi, f0, f3, f4, sm, ha⟩
  apply Run.ok
  have mg := m.same sm
  have l0 := mg.l0
  have tl := mg.tl
  by_cases c : i < T.length
  · have c' : (i : Int) < T.length := by omega
    have w1 : IntKind.i64.wrap ((i : Int) + 1) = (i : Int) + 1 := wrap_i64 (by omega) (by omega)
    have ia := mg.ia c
    have ld := mg.ld c
    have hs := idxs_succ T i
    rw [List.getD_eq_getElem?_getD, List.getElem?_eq_getElem c, Option.getD_some] at hs
    cases hT : T[i] with
    | false =>
      rw [hT] at ld hs
      simp only [Bool.false_eq_true, if_false] at hs
      simp [f0, f3, f4, l0, tl, c', ia, ld, w1, -load_ptr, -roundQ_normal, ↓rq]
      refine stop_intro ⟨T.length - (i + 1), by omega, i + 1, a, rfl, by omega, by simp [f0], by simp [f3], by simp, sm, by rw [hs]; exact ha⟩
    | true =>
      rw [hT] at ld hs
      simp only [if_true] at hs
      have hin := idxs_len T i
      have hgl := sm.len
      obtain ⟨a', g4, e4, a4, u4, n4⟩ := Acc.append (P := Try.prog) (t := 35) (tx := 35) (e := 3) (by_ := 8) (dx := .slice 3) (m := 1) (ys := [intV i]) (x := .slice (some ⟨g.length, 0, none⟩) 1 1) (ha.same (Same.new [.cells [.int .i64 (i : Int)] false none])) (by simp; omega) (by simp) (by simp) (by simp) rfl (by simp [srcA, intV]) (by simp) rfl (by omega) (by omega)
      simp [f0, f3, f4, l0, tl, c', ia, ld, w1, zeros, capO, spl, e4, -load_ptr, -roundQ_normal, ↓rq]
      refine stop_intro ⟨T.length - (i + 1), by omega, i + 1, a', rfl, by omega, by simp [f0], by simp, by simp, ?_, ?_⟩
      · exact Upd.trans (Same.trans sm (Same.new _)) u4 fun j hj hin => by have := (ha.above j hin).1; omega
      · rw [hs, List.length_append, List.map_append]; exact a4
  · have c' : ¬ (i : Int) < T.length := by omega
    have he : i = T.length := by omega
    subst he
    simp [f0, f3, f4, l0, tl, -load_ptr]
    exact ⟨ha, sm⟩
theorem rcopy_ev {h : Hp} {k b : Nat} {v : Value} {T : List Bool} (m : RM h k b v T) :
    EvA Try.prog 44 [.pointer (some ⟨b, 0, none⟩)] (fun r h' => Same h h' ∧ ∃ b' v', r = .pointer (some ⟨b', 0, none⟩) ∧ RM h' h.length b' v' T) h := by
  refine EvA.body Try.func44 rfl (by kernel_rfl) (by simp) ?_
  apply Run.ok
  have hlen := m.len
  have m1 := m.same (Same.new [.cells [] false none])
  have l0 := m1.l0
  by_cases h0 : T.length = 0
  · have : T = [] := List.eq_nil_of_length_eq_zero h0
    subst this
    have hz : srcA 1 v (h ++ [.cells [] false none]) = some (0, []) := m1.bits.row.2.1
    have e1 : appendA Try.prog 31 31 (.slice (some ⟨h.length, 0, none⟩) 0 0) v (h ++ [.cells [] false none]) = some (.slice (some ⟨h.length, 0, none⟩) 0 0, h ++ [.cells [] false none]) := by
      simp [appendA, hz]
      rfl
    simp [zeros, capO, l0, e1, cellsOf, spl, -load_ptr]
    exact ⟨Same.new _, .slice (some ⟨h.length, 0, none⟩) 0 0, RM.mk (by simp) (by omega) ⟨by simp, .inr (.inl ⟨h.length, 0, rfl, by simp [capO], rfl⟩)⟩ hlen (fun h => by simp at h) (fun _ => .inr ⟨h.length, 0, rfl, by simp [capO]⟩)⟩
  · obtain ⟨v', h', e1, e2, e3, e4⟩ := Acc.appendLit (P := Try.prog) (h := h ++ [.cells [] false none]) (z := 1) (k := h.length) (b := h.length) (t := 31) (tx := 31) (e := 4) (by_ := 1) (dx := .slice 4) (Nat.le_refl _) (by simp) (by simp) (by simp) (by simp) rfl m1.bits.row.2.1 (by simp) (by omega) (by omega)
    have hc := (Row.one e2.row).1
    simp [zeros, capO, l0, e1, hc, spl, -load_ptr]
    have s1 : Same h h' := Same.trans (Same.new _) e3
    have e2' := e2.same (Same.new [.cells [v'] false none])
    refine ⟨Same.trans s1 (Same.new _), v', RM.mk (by simp) s1.len e2'.wr hlen (fun h0 => ?_) (fun hh => absurd hh h0)⟩
    have := (e2.above _ (Row.inRow (k := 0) e2.row h0)).2
    omega
def psum (T : List Bool) (j : Nat) : Nat → Nat
  | 0 => 0
  | m + 1 => psum T j m + (bt T j m).toNat * 2 ^ m
theorem psum_8 (T : List Bool) (j : Nat) : psum T j 8 = byteN T j := by
  simp only [psum, byteN, sum8]; omega
theorem psum_end (T : List Bool) (j m : Nat) (h : T.length ≤ 8 * j + m) : ∀ d, psum T j (m + d) = psum T j m := by
  intro d
  induction d with
  | zero => rfl
  | succ d ih =>
    have : bt T j (m + d) = false := by
      unfold bt; rw [List.getD_eq_getElem?_getD, List.getElem?_eq_none (by omega)]; rfl
    rw [← Nat.add_assoc, psum, ih, this]; simp
theorem psum_lt (T : List Bool) (j : Nat) : ∀ m, psum T j m < 2 ^ m := by
  intro m
  induction m with
  | zero => simp [psum]
  | succ m ih =>
    have : (bt T j m).toNat ≤ 1 := by cases bt T j m <;> simp
    have h2 : (bt T j m).toNat * 2 ^ m ≤ 1 * 2 ^ m := Nat.mul_le_mul_right _ this
    rw [psum, Nat.pow_succ]; omega
end Go.Proofs.Ytklhioaokogpdaa
