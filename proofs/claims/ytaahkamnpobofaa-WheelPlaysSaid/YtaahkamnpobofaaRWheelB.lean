/- The document's wheel: Set, Due; no condition. -/
import Derived.Test.YtaahkamnpobofaaRWheelA
namespace Go.Proofs.Ytaahkamnpobofaa
open Go.Ab
theorem ins_at {x : Th} : ∀ {R : List Th} {i : Nat}, i ≤ R.length → (∀ j, j < i → Th.lt (nth R j) x) → (i = R.length ∨ ¬ Th.lt (nth R i) x) → ins x R = R.take i ++ x :: R.drop i := by
  intro R
  induction R with
  | nil => intro i hi _ _; simp at hi; subst hi; rfl
  | cons y R ih =>
    intro i hi h1 h2
    cases i with
    | zero =>
      have hn : ¬ Th.lt y x := by
        rcases h2 with e | e
        · simp at e
        · exact e
      simp [ins, hn]
    | succ i =>
      have hy : Th.lt y x := h1 0 (by omega)
      have := ih (i := i) (by simpa using hi) (fun j hj => h1 (j + 1) (by omega)) (h2.imp (fun e => by simpa using e) id)
      simp [ins, hy, this]
theorem kc_all (T : List Th) : (T.flatMap Th.kc).all oneA = true := by
  rw [List.all_flatMap, List.all_eq_true]
  intro x _; rfl
theorem kc_len (T : List Th) : (T.flatMap Th.kc).length = T.length * 2 := by
  induction T with
  | nil => rfl
  | cons x T ih => simp only [List.flatMap_cons, List.length_append, ih, List.length_cons]; simp [Th.kc]; omega
section
variable {k d : Nat} {h g : Hp} {v : Value} {L R : List Th} {i : Nat} {S : Nat → Prop}
theorem appRow {z : Nat} {vv x : Value} {n : Nat} {xs : List Value} {T : List Th} (A : Acc z h 2 vv n xs) (hk : z ≤ h.length) (hx : KRow h x T) (hn : n + T.length ≤ 1000000000) :
    ∃ v' g, appendA Try.prog 60 60 vv x h = some (v', g) ∧ Acc z g 2 v' (n + T.length) (xs ++ T.flatMap Th.kc) ∧ Upd (inRow vv) h g ∧ ∀ j, inRow v' j → inRow vv j ∨ h.length ≤ j :=
  Acc.append (P := Try.prog) (t := 60) (tx := 60) (e := 113) (by_ := 16) (dx := .slice 113) A hk (by simp) (by simp) (by simp) rfl hx.1.2.1 (kc_len T) (kc_all T) (by omega) (by omega)
theorem KHi (sl : Sl h 2 v R.length (R.flatMap Th.kc)) (hi : i ≤ R.length) : ∃ v2, sliceA Try.prog 60 v none (some (.int .i64 (i : Int))) none h = some v2 ∧ KRow h v2 (R.take i) ∧ ∀ j, inRow v2 j → inRow v j := by
  obtain ⟨v2, e1, e2, e3⟩ := Sl.cut (P := Try.prog) (t := 60) (e := 113) (lo := none) (hi := some (.int .i64 (i : Int))) (l := 0) (m := i) sl (by simp) (by simp) (fun c hc => by rw [bnds_h, if_pos (by omega)]; simp) (by omega) hi
  refine ⟨v2, e1 _ Same.refl, ⟨?_, kcz⟩, e3⟩
  have := e2.1
  rw [Nat.zero_mul, List.drop_zero, Nat.sub_zero, flatTake R i kcz] at this
  rw [List.length_take, Nat.min_eq_left hi]
  exact this
theorem KLo (sl : Sl h 2 v R.length (R.flatMap Th.kc)) (hi : i ≤ R.length) : ∃ v2, (∀ g, Same h g → sliceA Try.prog 60 v (some (.int .i64 (i : Int))) none none g = some v2) ∧ Sl h 2 v2 (R.drop i).length ((R.drop i).flatMap Th.kc) ∧ ∀ j, inRow v2 j → inRow v j := by
  obtain ⟨v2, e1, e2, e3⟩ := Sl.cut (P := Try.prog) (t := 60) (e := 113) (lo := some (.int .i64 (i : Int))) (hi := none) (l := i) (m := R.length) sl (by simp) (by simp) (fun c hc => by rw [bnds_l, if_pos (by omega)]; simp) hi (Nat.le_refl _)
  refine ⟨v2, e1, ?_, e3⟩
  rw [flatDrop R i kcz, List.take_of_length_le (by rw [kc_len, List.length_drop]; omega)] at e2
  rw [List.length_drop]
  exact e2
inductive RSet (d : Nat) (q n : Int) (R : List Th) (g0 : Hp) (z : Nat) (fr : Fr) (g : Hp) : Prop
  | mk (i : Nat) (hz : z = R.length - i) (hi : i ≤ R.length) (f0 : fr 0 = .pointer (some ⟨d, 0, none⟩)) (f1 : fr 1 = .int .i64 q) (f2 : fr 2 = .int .i64 n) (f6 : fr 6 = .int .i64 (i : Nat)) (hb : ∀ j, j < i → Th.lt (nth R j) ⟨n, q⟩) (e : g = g0)
set_option maxHeartbeats 4000000 in
theorem rset_ev (m : RWM h k d v L) (hl : L.length ≤ 100000000) (q n : Int) : EvA Try.prog 33 [.pointer (some ⟨d, 0, none⟩), .int .i64 q, .int .i64 n]
    (fun _ h' => ∃ v', RWM h' k d v' (setL q n L) ∧ Upd (fun j => j = d) h h' ∧ ∀ j, inRow v' j → inRow v j ∨ h.length ≤ j) h := by
  refine EvA.body Try.func33 rfl (by kernel_rfl) (by simp) ?_
  apply Run.ok
  have hdl := hp_lt m.at_
  simp
  refine after_call (rclear_ev m (by omega) q) ?_
  rintro r g1 ⟨rfl, v1, m1, u1, n1⟩
  have hrl := rem_le q L
  have hg1 := u1.len
  obtain ⟨R, hR⟩ : ∃ R, R = rem q L := ⟨_, rfl⟩
  rw [← hR] at m1 hrl
  have hset : setL q n L = ins ⟨n, q⟩ R := by rw [hR]; rfl
  rw [hset]
  simp
  refine WpA.loop (RSet d q n R g1) (k := R.length) ⟨0, by simp, by omega, by simp, by simp, by simp, by simp, by omega, rfl⟩ ?_
  rintro z fr gx ⟨i, rfl, hi, f0, f1, f2, f6, hb, ex⟩
  subst ex
  apply Run.ok
  have l0 := m1.l0
  have kl := KLen m1.kr
  by_cases c : i < R.length ∧ Th.lt (nth R i) ⟨n, q⟩
  · obtain ⟨c, hc⟩ := c
    have c' : (i : Int) < R.length := by omega
    have w1 : IntKind.i64.wrap ((i : Int) + 1) = (i : Int) + 1 := wrap_i64 (by omega) (by omega)
    have ia := KIA m1.kr c
    have c0 := KC0 m1.kr c
    have c1 := KC1 m1.kr c
    have hb' : ∀ j, j < i + 1 → Th.lt (nth R j) ⟨n, q⟩ := fun j hj => by
      by_cases e : j = i
      · subst e; exact hc
      · exact hb j (by omega)
    unfold Th.lt at hc
    simp only at hc
    rcases hc with h1 | ⟨h1, h2⟩
    · simp [f0, f2, f6, l0, kl, c', ia, c1, h1, w1, -load_ptr, -roundQ_normal, ↓rq]
      exact stop_intro ⟨R.length - (i + 1), by omega, i + 1, rfl, by omega, by simp [f0], by simp [f1], by simp [f2], by simp, hb', rfl⟩
    · simp [f0, f1, f2, f6, l0, kl, c', ia, c0, c1, h1, h2, w1, -load_ptr, -roundQ_normal, ↓rq]
      exact stop_intro ⟨R.length - (i + 1), by omega, i + 1, rfl, by omega, by simp [f0], by simp [f1], by simp [f2], by simp, hb', rfl⟩
  · have hex : i = R.length ∨ ¬ Th.lt (nth R i) ⟨n, q⟩ := by
      by_cases e : i < R.length
      · exact .inr fun h => c ⟨e, h⟩
      · exact .inl (by omega)
    have hins := ins_at hi hb hex
    obtain ⟨v2, e2, t2, n2⟩ := KHi m1.sl hi
    have htl : (R.take i).length ≤ R.length := by rw [List.length_take]; omega
    obtain ⟨v3, g3, e3, A3, u3, n3⟩ := appRow (Acc.nil gx.length) (Nat.le_refl _) t2 (by omega)
    have s3 : Same gx g3 := u3.mono fun j _ e => by obtain ⟨a, n, c, he, _⟩ := e; cases he
    rw [Nat.zero_add, List.nil_append] at A3
    have hg3 := s3.len
    obtain ⟨v4, g4, e4, A4, u4, n4⟩ := appK A3 hg3 (by omega) ⟨n, q⟩
    have sx : Same g3 (g3 ++ [.cells (Th.kc ⟨n, q⟩) false none]) := Same.new _
    have s4 : Same gx g4 := Upd.trans (s3.trans sx) u4 fun j hj e => by have := (A3.above j e).1; omega
    have hg4 := s4.len
    have m4 := m1.same s4
    have l03 := (m1.same s3).l0
    have l04 := m4.l0
    obtain ⟨v5, e5, t5, n5⟩ := KLo m4.sl hi
    have hdl2 : (R.drop i).length ≤ R.length := by rw [List.length_drop]; omega
    obtain ⟨v6, g6, e6, A6, u6, n6⟩ := appRow A4 hg4 ⟨t5.1, kcz⟩ (by rw [List.length_take, List.length_drop]; omega)
    have s6 : Same gx g6 := Upd.trans s4 u6 fun j hj e => by have := (A4.above j e).1; omega
    have e5' := e5 _ Same.refl
    have m6 := m1.same s6
    have hsl : Sl g6 2 v6 (ins ⟨n, q⟩ R).length ((ins ⟨n, q⟩ R).flatMap Th.kc) := by
      have q1 : (ins ⟨n, q⟩ R).length = (R.take i).length + 1 + (R.drop i).length := by rw [hins]; simp; omega
      have q2 : (ins ⟨n, q⟩ R).flatMap Th.kc = (R.take i).flatMap Th.kc ++ Th.kc ⟨n, q⟩ ++ (R.drop i).flatMap Th.kc := by rw [hins]; simp
      rw [q1, q2]
      exact A6.sl
    obtain ⟨g7, e7, m7, u7⟩ := m6.setv hsl (fun j hj => by have := A6.above j hj; have := m.kd; omega)
    have fin : ∃ v', RWM g7 k d v' (ins ⟨n, q⟩ R) ∧ Upd (fun j => j = d) h g7 ∧ ∀ j, inRow v' j → inRow v j ∨ h.length ≤ j :=
      ⟨v6, m7, Upd.trans (Upd.trans u1 (s6.mono (S' := fun _ => False) fun _ _ e => e) fun _ _ e => e.elim) u7 fun j hj e => e, fun j hj => .inr (by have := (A6.above j hj).1; omega)⟩
    simp only at e4
    by_cases ci : i < R.length
    · have c' : (i : Int) < R.length := by omega
      have ia := KIA m1.kr ci
      have c0 := KC0 m1.kr ci
      have c1 := KC1 m1.kr ci
      have hc : ¬ Th.lt (nth R i) ⟨n, q⟩ := fun h => c ⟨ci, h⟩
      unfold Th.lt at hc
      simp only at hc
      by_cases h1 : (nth R i).due = n
      · have h2 : ¬ (nth R i).key < q := by omega
        simp [f0, f1, f2, f6, l0, kl, c', ia, c0, c1, h1, h2, e2, e3, e4, l04, e5', e6, e7, zeros, spl, capO, -load_ptr, -store_ptr]
        exact fin
      · have h1' : ((nth R i).due == n) = false := by simpa using h1
        have h2 : ¬ (nth R i).due < n := by omega
        simp [f0, f1, f2, f6, l0, kl, c', ia, c1, h1', h2, e2, e3, e4, l04, e5', e6, e7, zeros, spl, capO, -load_ptr, -store_ptr]
        exact fin
    · have c' : ¬ (i : Int) < R.length := by omega
      simp [f0, f1, f2, f6, l0, kl, c', e2, e3, e4, l04, e5', e6, e7, zeros, spl, capO, -load_ptr, -store_ptr]
      exact fin
inductive RDue (h : Hp) (k d : Nat) (v : Value) (now : Int) (L : List Th) (z : Nat) (fr : Fr) (g : Hp) : Prop
  | mk (L1 : List Th) (out : List Int) (v1 o : Value) (hz : z = L1.length) (f0 : fr 0 = .pointer (some ⟨d, 0, none⟩)) (f1 : fr 1 = .int .i64 now) (f5 : fr 5 = o) (m : RWM g k d v1 L1) (u : Upd (fun j => j = d) h g) (n : ∀ j, inRow v1 j → inRow v j)
    (A : Acc h.length g 1 o out.length (intL out)) (ht : out ++ keysT (takeD now L1) = keysT (takeD now L)) (hd : dropD now L1 = dropD now L)
set_option maxHeartbeats 4000000 in
theorem rdue_ev (m : RWM h k d v L) (hl : L.length ≤ 100000000) (now : Int) : EvA Try.prog 35 [.pointer (some ⟨d, 0, none⟩), .int .i64 now]
    (fun r h' => Acc h.length h' 1 r (takeD now L).length (intL (keysT (takeD now L))) ∧ ∃ v', RWM h' k d v' (dropD now L) ∧ Upd (fun j => j = d) h h' ∧ ∀ j, inRow v' j → inRow v j) h := by
  refine EvA.body Try.func35 rfl (by kernel_rfl) (by simp) ?_
  apply Run.ok
  have hdl := hp_lt m.at_
  simp
  refine WpA.loop (RDue h k d v now L) (k := L.length) ⟨L, [], v, .slice none 0 0, rfl, by simp, by simp, by simp, m, Upd.refl, fun _ h => h, Acc.nil _, by simp, rfl⟩ ?_
  rintro z fr g ⟨L1, out, v1, o, rfl, f0, f1, f5, m1, u1, n1, A, ht, hd⟩
  apply Run.ok
  have hol : out.length ≤ 100000000 := by
    have := congrArg List.length ht
    have h2 := takeD_len now L
    simp [keysT] at this
    omega
  have l0 := m1.l0
  have kl := KLen m1.kr
  have hg1 := u1.len
  have nv : ∀ j, inRow v j → j < h.length := fun j hj => (m.nd j hj).2.2
  have fin : takeD now L1 = [] → dropD now L1 = L1 → Acc h.length g 1 o (takeD now L).length (intL (keysT (takeD now L))) ∧ ∃ v', RWM g k d v' (dropD now L) ∧ Upd (fun j => j = d) h g ∧ ∀ j, inRow v' j → inRow v j := by
    intro q1 q2
    rw [q1] at ht
    rw [q2] at hd
    simp only [keysT, List.map_nil, List.append_nil] at ht
    refine ⟨?_, v1, by rw [← hd]; exact m1, u1, n1⟩
    have e1 : (keysT (takeD now L)).length = (takeD now L).length := by simp [keysT]
    have e2 : List.map Th.key (takeD now L) = keysT (takeD now L) := rfl
    rw [e2] at ht
    rw [← e1, ← ht]
    exact A
  cases L1 with
  | nil =>
    simp at kl
    simp [f0, f5, l0, kl, -load_ptr]
    exact fin rfl rfl
  | cons x T =>
    have ia := KIA (i := 0) m1.kr (by simp)
    have c0 := KC0 (i := 0) m1.kr (by simp)
    have c1 := KC1 (i := 0) m1.kr (by simp)
    rw [show ((0 : Nat) : Int) = 0 from rfl, Nat.zero_mul, Nat.add_zero] at ia
    rw [Nat.zero_mul, Nat.add_zero] at c0 c1
    have e0 : nth (x :: T) 0 = x := rfl
    rw [e0] at c0 c1
    have hpos : (0 : Int) < (T.length : Int) + 1 := by omega
    simp only [List.length_cons, Int.natCast_add, Int.cast_ofNat_Int] at kl
    by_cases hx : x.due ≤ now
    · obtain ⟨q1, q2⟩ := takeD_cons (T := T) hx
      rw [q1] at ht
      rw [q2] at hd
      obtain ⟨o2, g2, e2, A2, u2, n2⟩ := appI4 A hg1 (by omega) x.key
      have sx : Same g (g ++ [Blk.cells [.int .i64 x.key] false none]) := Same.new _
      have s2 : Upd (fun j => j = d) h g2 := Upd.trans (Upd.trans u1 (sx.mono (S' := fun _ => False) fun _ _ e => e) fun _ _ e => e.elim) u2 fun j hj e => by have := (A.above j e).1; omega
      have na : ∀ j, inRow o j → h.length ≤ j := fun j hj => (A.above j hj).1
      have m2 := (m1.same sx).upd u2 (fun e => by have := na _ e; omega) (fun j hj e => by have := na _ e; have := nv _ (n1 j hj); omega)
      have l02 := m2.l0
      obtain ⟨v5, e5, t5, n5⟩ := KLo (i := 1) m2.sl (by simp)
      have e5' := e5 _ Same.refl
      rw [show ((1 : Nat) : Int) = 1 from rfl] at e5'
      rw [show (x :: T).drop 1 = T from rfl] at t5
      obtain ⟨g7, e7, m7, u7⟩ := m2.setv t5 (fun j hj => m2.nd j (n5 j hj))
      have A7 := A2.upd u7 (fun j hj e => by have := (A2.above j hj).1; omega)
      simp [f0, f1, f5, l0, kl, hpos, ia, c0, c1, hx, e2, l02, e5', e7, zeros, spl, capO, -load_ptr, -store_ptr, -roundQ_normal, ↓rq]
      exact stop_intro ⟨T.length, by simp, T, out ++ [x.key], v5, o2, rfl, by simp [f0], by simp [f1], by simp, m7, Upd.trans s2 u7 fun j hj e => e, fun j hj => n1 j (n5 j hj), by simpa [intL] using A7, by rw [← ht]; simp [keysT], hd⟩
    · have hn := takeD_none (now := now) (L := x :: T) (fun y S e => by obtain ⟨rfl, _⟩ := List.cons.inj e; omega)
      simp [f0, f1, f5, l0, kl, hpos, ia, c1, hx, -load_ptr]
      exact fin hn.1 hn.2
end
end Go.Proofs.Ytaahkamnpobofaa
