/- Things that are due: slices.Compact at them; no condition. -/
import Derived.Test.YtaahkamnpobofaaWheelF
namespace Go.Ab
section
variable {P : Program} {h h' : Hp} {n z k : Nat}
/-- from a place on -/
theorem Ow.tail {t e : TypeId} {v : Value} {xs : List Value} {q : IntKind} {m : Nat} (ha : Ow k h z v n xs) (ht : P.underlying t = some (.slice e)) (he : sizeT P e = some z) (hm : m < n) :
    ∃ c', sliceA P t v (some (.int q (m : Int))) none none h = some (.slice (some ⟨rbl v, m * z, none⟩) (n - m) c') := by
  obtain ⟨hl, ⟨rfl, rfl⟩ | ⟨b, rfl, rfl, hk, hb⟩ | ⟨b, c, rest, op, rfl, hk, hB, hc⟩⟩ := ha
  · omega
  · omega
  · have h3 : (m : Int) ≤ n := by omega
    rcases hc with ⟨h1, h2, _⟩ | ⟨h1, rfl⟩
    · have hcm : ¬ c = m := by omega
      refine ⟨c - m, ?_⟩
      simp [sliceA, ht, he, h2, h3, rbl, hcm]
    · have hnc : ¬ c < capO := by omega
      refine ⟨capO + (c - capO - m), ?_⟩
      simp [sliceA, ht, he, hnc, h3, hB, rbl]
theorem Ow.tailRow {v : Value} {xs : List Value} {m : Nat} (ha : Ow k h z v n xs) (hm : m < n) (c' : Nat) : Row h z (.slice (some ⟨rbl v, m * z, none⟩) (n - m) c') (n - m) (xs.drop (m * z)) := by
  obtain ⟨hl, ⟨rfl, rfl⟩ | ⟨b, rfl, rfl, hk, hb⟩ | ⟨b, c, rest, op, rfl, hk, hB, hc⟩⟩ := ha
  · omega
  · omega
  · have h1 : m * z ≤ n * z := Nat.mul_le_mul_right z (by omega)
    have h2 : (n - m) * z = n * z - m * z := Nat.sub_mul _ _ _
    refine ⟨⟨_, _, rfl⟩, ?_, by simp; omega⟩
    have h0 : n - m ≠ 0 := by omega
    have h5 : m * z + (n - m) * z ≤ (xs ++ rest).length := by simp; omega
    have h6 : ((xs ++ rest).drop (m * z)).take ((n - m) * z) = xs.drop (m * z) := by
      rw [List.drop_append_of_le_length (by omega), List.take_append_of_le_length (by simp; omega), List.take_of_length_le (by simp; omega)]
    simp only [srcA, rbl, h0, if_false, hB]
    rw [if_pos h5, h6]
end
end Go.Ab
namespace Go.Proofs.Ytaahkamnpobofaa
open Go.Ab
theorem eqTh (x y : Th) (o q : Operand) : binA Try.prog .eql 93 o q (.agg #[.int .i64 x.due, .int .i64 x.key]) (.agg #[.int .i64 y.due, .int .i64 y.key]) = some (.bool (decide (x = y))) ∧
    binA Try.prog .neq 93 o q (.agg #[.int .i64 x.due, .int .i64 x.key]) (.agg #[.int .i64 y.due, .int .i64 y.key]) = some (.bool (!decide (x = y))) := by
  have hg : (Try.prog).eqGuardType (Try.prog).depth 93 = false := by kernel_rfl
  have hh : (Try.prog).stoodInHeld 93 = false := by kernel_rfl
  have hs : ∀ x y : Int, eqA Try.prog 9999 3 (.int .i64 x) (.int .i64 y) = some (decide (x = y)) := fun x y => by
    have : eqA Try.prog (9998 + 1) 3 (.int .i64 x) (.int .i64 y) = some (decide (x = y)) := by simp [eqA]; rw [Bool.eq_iff_iff]; simp
    exact this
  have a0 : ∀ a b : Value, partA Try.prog 3 [a, b] 0 = some a := fun a b => by simp [partA]
  have a1 : ∀ a b : Value, partA Try.prog 3 [a, b] 1 = some b := fun a b => by simp [partA]
  have hd : decide (x = y) = (decide (x.due = y.due) && decide (x.key = y.key)) := by
    rw [Bool.eq_iff_iff]
    cases x; cases y; simp
  rw [hd]
  have h3 : eqA Try.prog (9999 + 1) 93 (.agg #[.int .i64 x.due, .int .i64 x.key]) (.agg #[.int .i64 y.due, .int .i64 y.key]) = some (decide (x.due = y.due) && decide (x.key = y.key)) := by
    unfold eqA
    generalize hE1 : decide (x.due = y.due) = E1
    generalize hE2 : decide (x.key = y.key) = E2
    cases E1 <;> cases E2 <;> simp [hh, eqFields, hs, a0, a1, hE1, hE2]
  have h4 : eqA Try.prog 10000 93 (.agg #[.int .i64 x.due, .int .i64 x.key]) (.agg #[.int .i64 y.due, .int .i64 y.key]) = some (decide (x.due = y.due) && decide (x.key = y.key)) := h3
  constructor <;> simp [binA, guardA, hg, h4]
theorem flatDrop {α : Type} {cells : α → List Value} {z : Nat} : ∀ (l : List α) (k : Nat), (∀ x ∈ l, (cells x).length = z) → (l.flatMap cells).drop (k * z) = (l.drop k).flatMap cells := by
  intro l
  induction l with
  | nil => intro k _; simp
  | cons x l ih =>
    intro k hz
    have hx := hz x (by simp)
    cases k with
    | zero => simp
    | succ k =>
      have := ih k (fun y hy => hz y (by simp [hy]))
      simp only [List.flatMap_cons, List.drop_succ_cons]
      rw [show (k + 1) * z = (cells x).length + k * z by rw [hx, Nat.add_mul]; omega, List.drop_length_add_append, this]
section
variable {k d b : Nat} {h g : Hp} {v gv : Value} {H : List Th} {M : List (Int × Int)} {L : List Th} {S : Nat → Prop}
theorem TO.tail (t : TO k h v H) {m : Nat} (hm : m < H.length) : ∃ c', sliceA Try.prog 89 v (some (.int .i64 (m : Int))) none none h = some (.slice (some ⟨rbl v, m * 2, none⟩) (H.length - m) c') :=
  Ow.tail (P := Try.prog) (t := 89) (e := 93) (q := .i64) t (by simp) (by simp) hm
theorem TO.tailRow (t : TO k h v H) {m : Nat} (hm : m < H.length) (c' : Nat) : TR h (.slice (some ⟨rbl v, m * 2, none⟩) (H.length - m) c') (H.drop m) := by
  refine ⟨?_, thz⟩
  have := Ow.tailRow t hm c'
  rw [flatDrop H m thz] at this
  rw [List.length_drop]
  exact this
theorem nth_drop (H : List Th) (m j : Nat) : nth (H.drop m) j = nth H (m + j) := by simp [nth, List.getD_eq_getElem?_getD, List.getElem?_drop]
inductive CpLoop (h : Hp) (v : Value) (H : List Th) (z : Nat) (fr : Fr) (g : Hp) : Prop
  | mk (i : Nat) (hz : z = H.length - (i + 1)) (hi : i + 1 ≤ H.length) (f0 : fr 0 = v) (f3 : fr 3 = .int .i64 ((i + 1 : Nat) : Int)) (e : g = h)
inductive CpLoop2 (h : Hp) (k : Nat) (v w : Value) (m : Nat) (H : List Th) (z : Nat) (fr : Fr) (g : Hp) : Prop
  | mk (i q : Nat) (H1 : List Th) (hz : z = H.length - (m + q + 1)) (hij : i ≤ m + q) (hj : m + q + 1 ≤ H.length) (f0 : fr 0 = v) (f3 : fr 3 = .int .i64 (i : Nat)) (f4 : fr 4 = w) (f5 : fr 5 = .int .i64 ((q + 1 : Nat) : Int))
      (t : TO k g v H1) (u : Upd (inRow v) h g) (hl : H1.length = H.length) (hs : (H1.take i).Sublist (H.take (m + q + 1))) (hm : ∀ x ∈ H.take (m + q + 1), x ∈ H1.take i) (hd : H1.drop (m + q) = H.drop (m + q))
set_option maxHeartbeats 4000000 in
set_option maxRecDepth 8000 in
theorem compact_ev (t : TO k h v H) (hl : H.length ≤ 1000000000) :
    EvA Try.prog 60 [v] (fun r h' => ∃ H', TO k h' r H' ∧ H'.Sublist H ∧ (∀ x ∈ H, x ∈ H') ∧ Upd (inRow v) h h' ∧ ∀ j, inRow r j → inRow v j) h := by
  refine EvA.body Try.func60 rfl (by kernel_rfl) (by simp) ?_
  apply Run.ok
  have tl := TLen t.tr
  by_cases c2 : H.length < 2
  · have c2' : (H.length : Int) < 2 := by omega
    simp [tl, c2']
    exact ⟨H, t, List.Sublist.refl _, fun _ h => h, Upd.refl⟩
  have c2' : ¬ (H.length : Int) < 2 := by omega
  simp [tl, c2']
  refine WpA.loop (CpLoop h v H) (k := H.length - 1) ⟨0, by omega, by omega, by simp, by simp, rfl⟩ ?_
  rintro z fr g ⟨i, rfl, hi, f0, f3, rfl⟩
  apply Run.ok
  have f3' : fr 3 = .int .i64 ((i : Int) + 1) := by simpa using f3
  by_cases c : i + 1 < H.length
  · have c' : (i : Int) + 1 < H.length := by omega
    have w1 : IntKind.i64.wrap ((i : Int) + 1 + 1) = (i : Int) + 1 + 1 := wrap_i64 (by omega) (by omega)
    have w0 : IntKind.i64.wrap (i : Int) = i := wrap_i64 (by omega) (by omega)
    have ci : i < H.length := by omega
    have ia := TIA t.tr ci
    have ld := TAG t.tr ci
    have ja := TIA t.tr c
    have jd := TAG t.tr c
    rw [show ((i + 1 : Nat) : Int) = (i : Int) + 1 by omega] at ja
    simp [f0, f3', tl, c', -load_ptr]
    refine WpA.drawnA [0, 1, 2, 3, 4, 5, 6, 7, 8, 9] [] (by kernel_rfl) (by decide +kernel) (by decide +kernel) ?_
    by_cases e : nth H (i + 1) = nth H i
    · obtain ⟨c', e1⟩ := t.tail c
      rw [show ((i + 1 : Nat) : Int) = (i : Int) + 1 by omega] at e1
      obtain ⟨w, hw⟩ : ∃ w, w = Value.slice (some ⟨rbl v, (i + 1) * 2, none⟩) (H.length - (i + 1)) c' := ⟨_, rfl⟩
      rw [← hw] at e1
      simp [f0, f3', w0, ia, ld, ja, jd, eqTh, e, e1, -load_ptr]
      refine WpA.loop (CpLoop2 g k v w (i + 1) H) (k := H.length - (i + 1 + 0 + 1)) ⟨i + 1, 0, H, by omega, by omega, by omega, by simp [f0], by simp [f3'], by simp, by simp, t, Upd.refl, rfl, ?_, ?_, rfl⟩ ?_
      · rw [Nat.add_zero, take_next c]; exact List.sublist_append_left _ _
      · intro x hx
        rw [Nat.add_zero, take_next c] at hx
        rcases List.mem_append.1 hx with hx | hx
        · exact hx
        · simp only [List.mem_singleton] at hx
          subst hx
          rw [e, take_next ci]
          simp
      clear f0 f3 f3'
      rintro z fr gx ⟨i2, q, H1, rfl, hij, hj, f0, f3, f4, f5, t1, u1, hl1, hs, hm, hd⟩
      apply Run.ok
      have f5' : fr 5 = .int .i64 ((q : Int) + 1) := by simpa using f5
      have hml : i + 1 < H1.length := by omega
      have tr := t1.tailRow hml c'
      rw [hl1, ← hw] at tr
      have tl2 := TLen tr
      have tl1 := TLen t1.tr
      have hdl : (H1.drop (i + 1)).length = H.length - (i + 1) := by rw [List.length_drop, hl1]
      rw [hdl] at tl2
      by_cases cq : i + 1 + q + 1 < H.length
      · have cq' : (q : Int) + 1 < ((H.length - (i + 1) : Nat) : Int) := by omega
        have wq0 : IntKind.i64.wrap (q : Int) = q := wrap_i64 (by omega) (by omega)
        have wq1 : IntKind.i64.wrap ((q : Int) + 1 + 1) = (q : Int) + 1 + 1 := wrap_i64 (by omega) (by omega)
        have wi1 : IntKind.i64.wrap ((i2 : Int) + 1) = (i2 : Int) + 1 := wrap_i64 (by omega) (by omega)
        have qa := TIA tr (i := q) (by omega)
        have qd := TAG tr (i := q) (by omega)
        have pa := TIA tr (i := q + 1) (by omega)
        have pd := TAG tr (i := q + 1) (by omega)
        rw [show ((q + 1 : Nat) : Int) = (q : Int) + 1 by omega] at pa
        have hn0 : nth (H1.drop (i + 1)) q = nth H (i + 1 + q) := by rw [nth_drop]; exact nth_drop_eq hd
        have hn1 : nth (H1.drop (i + 1)) (q + 1) = nth H (i + 1 + q + 1) := by
          rw [nth_drop]
          have : H1.drop (i + 1 + (q + 1)) = H.drop (i + 1 + (q + 1)) := by
            rw [show i + 1 + (q + 1) = (i + 1 + q) + 1 by omega, ← List.drop_drop, hd, List.drop_drop]
          exact nth_drop_eq this
        rw [hn0] at qd
        rw [hn1] at pd
        have hd' : H1.drop (i + 1 + (q + 1)) = H.drop (i + 1 + (q + 1)) := by
          rw [show i + 1 + (q + 1) = (i + 1 + q) + 1 by omega, ← List.drop_drop, hd, List.drop_drop]
        have htk : H.take (i + 1 + (q + 1) + 1) = H.take (i + 1 + q + 1) ++ [nth H (i + 1 + q + 1)] := take_next cq
        have hcq : i + 1 + q < H.length := by omega
        have hin : nth H (i + 1 + q) ∈ H.take (i + 1 + q + 1) := by rw [take_next hcq]; simp
        simp [f4, f5', tl2, cq', -load_ptr]
        refine WpA.drawnA [0, 1, 2, 3, 4, 5, 6, 7, 8, 9] [] (by kernel_rfl) (by decide +kernel) (by decide +kernel) ?_
        by_cases e2 : nth H (i + 1 + q + 1) = nth H (i + 1 + q)
        · simp [f4, f5', wq0, wq1, qa, qd, pa, pd, eqTh, e2, -load_ptr, -roundQ_normal, ↓rq]
          refine stop_intro ⟨H.length - (i + 1 + (q + 1) + 1), by omega, i2, q + 1, H1, rfl, by omega, by omega, by simp [f0], by simp [f3], by simp [f4], by simp, t1, u1, hl1, ?_, ?_, hd'⟩
          · rw [htk]; exact hs.trans (List.sublist_append_left _ _)
          · intro x hx
            rw [htk] at hx
            rcases List.mem_append.1 hx with hx | hx
            · exact hm x hx
            · simp only [List.mem_singleton] at hx
              subst hx
              rw [e2]; exact hm _ hin
        · have ci2 : i2 < H1.length := by omega
          have ii := TIA t1.tr ci2
          obtain ⟨g3, e3, t3, u3, _⟩ := t1.put ci2 (nth H (i + 1 + q + 1))
          simp [f0, f3, f4, f5', wq0, wq1, wi1, qa, qd, pa, pd, eqTh, e2, ii, e3, -load_ptr, -store_ptr, -roundQ_normal, ↓rq]
          have hst : (H1.set i2 (nth H (i + 1 + q + 1))).take (i2 + 1) = H1.take i2 ++ [nth H (i + 1 + q + 1)] := by
            rw [take_next (by simpa using ci2), nth_set ci2, if_pos rfl, List.take_set_of_le (Nat.le_refl i2)]
          refine stop_intro ⟨H.length - (i + 1 + (q + 1) + 1), by omega, i2 + 1, q + 1, _, rfl, by omega, by omega, by simp [f0], by simp, by simp [f4], by simp, t3, u1.trans u3 fun _ _ e => e, by simpa using hl1, ?_, ?_, ?_⟩
          · rw [htk, hst]; exact hs.append (List.Sublist.refl _)
          · intro x hx
            rw [htk] at hx
            rw [hst]
            rcases List.mem_append.1 hx with hx | hx
            · exact List.mem_append.2 (.inl (hm x hx))
            · exact List.mem_append.2 (.inr hx)
          · rw [List.drop_set_of_lt (by omega)]; exact hd'
      · have cq' : ¬ (q : Int) + 1 < ((H.length - (i + 1) : Nat) : Int) := by omega
        have hfull : H.take (i + 1 + q + 1) = H := List.take_of_length_le (by omega)
        rw [hfull] at hs hm
        obtain ⟨v4, g4, e4, e5, ⟨ys, t4⟩, u4⟩ := Ow.clearFrom (P := Try.prog) (t := 89) (e := 93) (q := .i64) (m := i2) (by decide) t1 (by simp) (by simp) zeroTh rfl rfl (by omega)
        obtain ⟨v5, e6, t5, n5⟩ := Ow.hi (P := Try.prog) (t := 89) (e := 93) (q := .i64) (m := i2) t4 (by simp) (by simp) (by omega)
        have hT : TO k g4 v5 (H1.take i2) := by
          unfold TO
          have q1 : ((H1.flatMap Th.cells).take (i2 * 2) ++ ys).take (i2 * 2) = (H1.take i2).flatMap Th.cells := by
            have := t1.1
            rw [List.take_append_of_le_length (by rw [List.length_take]; omega), List.take_take, Nat.min_self, flatTake H1 i2 thz]
          rw [q1] at t5
          have hlen : (H1.take i2).length = i2 := by rw [List.length_take]; omega
          rw [hlen]
          exact t5
        simp [f0, f3, f4, f5', tl2, cq', e4, e5, e6]
        exact ⟨_, hT, hs, hm, u1.trans u4 fun _ _ e => e, n5⟩
    · simp [f0, f3', w0, w1, ia, ld, ja, jd, eqTh, e, -load_ptr, -roundQ_normal, ↓rq]
      exact stop_intro ⟨H.length - (i + 1 + 1), by omega, i + 1, rfl, by omega, by simp [f0], by simp, rfl⟩
  · have c' : ¬ (i : Int) + 1 < H.length := by omega
    simp [f0, f3', tl, c']
    exact ⟨H, t, List.Sublist.refl _, fun _ h => h, Upd.refl⟩
end
end Go.Proofs.Ytaahkamnpobofaa
