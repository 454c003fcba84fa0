/- The parser of conditions: lists, and what is made of them; no condition. -/
import Derived.Test.YtbamofeocfbjbaaExprB
namespace Go.Proofs.Ytbamofeocfbjbaa
open Go.Ab Go.Glob
section
variable {h h' g : Hp} {pb k d : Nat} {wv tv : Value} {ws ts : List Bs} {S : Nat → Prop}
/-- what a list leaves -/
def LPost (h : Hp) (pb k : Nat) (tv : Value) (ts : List Bs) (d : Nat) (o : LOut) (r : Value) (h' : Hp) : Prop :=
  ∃ (lv : Value) (e : Nat), r = .tuple #[lv, .int .i64 (e : Nat)] ∧ cellsOf lv = some [lv] ∧ oneA lv = true ∧ Upd (fun j => j = pb ∨ inRow tv j) h h' ∧
    match o with
    | .bad c => e = c ∧ ∃ wv' tv', h'[pb]? = some (.cells [wv', tv', .int .i64 (d : Nat)] false none)
    | .ok vs t rest => e = 0 ∧ ∃ wv' tv' xs, PS h' pb k wv' tv' rest (ts ++ t) d ∧ (∀ j, inRow tv' j → inRow tv j ∨ h.length ≤ j) ∧ vs.length = xs.length ∧ Acc h.length h' 1 lv xs.length xs ∧ (∀ j, inRow lv j → ¬ inRow tv' j) ∧ xs.length ≤ 1000000 ∧
        ∀ i (hi : i < xs.length), Means (fun j => h.length ≤ j ∧ j < h'.length ∧ ¬ inRow tv' j) h' xs[i] (vs.getD i false)
set_option maxHeartbeats 2000000 in
set_option maxRecDepth 6000 in
theorem list_ev (m : PS h pb k wv tv ws ts d) (w : Bs) (fn : FuncId) (first cap : Array Value) (st : List Bs → Out → Prop)
    (hst : ∀ ws v t r, st ws (.ok v t r) → r.length < ws.length) (hbad : ∀ ws c, st ws (.bad c) → c ≠ 0)
    (hof : ∀ g wv1 tv1 ws1 ts1, ws1.length ≤ ws.length → Upd (fun j => j = pb ∨ inRow tv j) h g → PS g pb k wv1 tv1 ws1 ts1 d → EvA Try.prog fn (first.toList ++ cap.toList) (fun r g' => ∃ out, st ws1 out ∧ Post g pb k tv1 ts1 d out r g') g) :
    EvA Try.prog 80 [.pointer (some ⟨pb, 0, none⟩), .string (bs w), .func (.func fn) first cap] (fun r h' => ∃ o, LR st w ws o ∧ LPost h pb k tv ts d o r h') h := by
  refine EvA.body Try.func80 rfl (by kernel_rfl) (by simp) ?_
  apply Run.ok
  have hkh := m.kh
  have hpk := m.pk
  simp
  refine WpA.loop (fun z fr g => ∃ (wv1 tv1 : Value) (ws1 t1 : List Bs) (vs : List Bool) (xs : List Value) (ov : Value), fr 0 = .pointer (some ⟨pb, 0, none⟩) ∧ fr 1 = .string (bs w) ∧ fr 2 = .func (.func fn) first cap ∧ fr 8 = ov ∧
      PS g pb k wv1 tv1 ws1 (ts ++ t1) d ∧ Upd (fun j => j = pb ∨ inRow tv j) h g ∧ (∀ j, inRow tv1 j → inRow tv j ∨ h.length ≤ j) ∧ vs.length = xs.length ∧ Acc h.length g 1 ov xs.length xs ∧ (∀ j, inRow ov j → ¬ inRow tv1 j) ∧ xs.length + ws1.length ≤ ws.length ∧
      (∀ i (hi : i < xs.length), Means (fun j => h.length ≤ j ∧ j < g.length ∧ ¬ inRow tv1 j ∧ ¬ inRow ov j) g xs[i] (vs.getD i false)) ∧
      ((fr 9 = .bool true ∧ z = ws1.length + 1 ∧ ∀ o, LR st w ws1 o → LR st w ws (o.preAll vs t1)) ∨ (fr 9 = .bool false ∧ z = 0 ∧ LR st w ws (.ok vs t1 ws1))))
    (k := ws.length + 1) ⟨wv, tv, ws, [], [], [], _, by simp, by simp, by simp, by simp, by simpa using m, Upd.refl, fun j hj => .inl hj, rfl, Acc.nil _, fun j hj => (by obtain ⟨a, n, c, he, _⟩ := hj; cases he), by simp, fun i hi => (by simp at hi), .inl ⟨by simp, rfl, fun o ho => by cases o <;> simpa [LOut.preAll] using ho⟩⟩ ?_
  rintro z fr g ⟨wv1, tv1, ws1, t1, vs, xs, ov, f0, f1, f2, f8, M, u, htv, hvl, A, hot, hlen, hmean, hcase⟩
  apply Run.ok
  rcases hcase with ⟨f9, rfl, hrel⟩ | ⟨f9, rfl, hrel⟩
  · simp [f0, f1, f2, f9]
    refine after_call (hof g wv1 tv1 ws1 (ts ++ t1) (by omega) u M) ?_
    rintro r g1 ⟨out, ho, x, e, rfl, hc, hone, hu, hq⟩
    have u1 : Upd (fun j => j = pb ∨ inRow tv j) h g1 := Upd.trans u hu fun j hj hin => by
      rcases hin with h1 | h1
      · exact .inl h1
      · rcases htv j h1 with h2 | h2
        · exact .inr h2
        · omega
    cases out with
    | bad c =>
      obtain ⟨rfl, wv', tv', hp⟩ := hq
      have hc0 := hbad _ _ ho
      have e' : ((e : Int) != 0) = true := by simp; omega
      simp [e']
      refine ⟨.bad e, ?_, .slice none 0 0, e, rfl, by simp, by simp, u1, rfl, wv', tv', hp⟩
      have := hrel _ (.bad ho)
      exact this
    | ok v t rest =>
      obtain ⟨rfl, wv2, tv2, M2, htv2, hmx⟩ := hq
      have hlt := hst _ _ _ _ ho
      have hg1 := hu.len
      have hh := u.len
      have A1 := A.upd hu fun j hj hin => by
        rcases hin with h1 | h1
        · have := (A.above j hj).1; omega
        · exact hot j hj h1
      have sB : Same g1 (g1 ++ [.cells [x] false none]) := Same.new _
      have hsB : srcA 1 (.slice (some ⟨g1.length, 0, none⟩) 1 1) (g1 ++ [Blk.cells [x] false none]) = some (1, [x]) := by simp [srcA]
      have hlB : (g1 ++ [Blk.cells [x] false none]).length = g1.length + 1 := by simp
      have hfew := m.few
      obtain ⟨ov', g3, e3, A3, u3, n3⟩ := (A1.same sB).append (P := Try.prog) (by_ := 16) (t := 102) (tx := 102) (e := 20) (x := .slice (some ⟨g1.length, 0, none⟩) 1 1) (m := 1) (ys := [x]) (by rw [hlB]; omega) (by simp) (by simp) (by simp; rfl) (by simp [isSrc]) hsB (by simp) (by simp [hone]) (by omega) (by omega)
      have hol : ∀ j, inRow ov j → h.length ≤ j ∧ j < g.length := fun j hj => A.above j hj
      have hot2 : ∀ j, inRow ov j → ¬ inRow tv2 j := fun j hj hin => by
        rcases htv2 j hin with h1 | h1
        · exact hot j hj h1
        · have := hol j hj; omega
      have M3 := (M2.same sB).upd u3 fun j hj => ⟨by have := hol j hj; omega, hot2 j hj⟩
      have u13 : Upd (fun j => j = pb ∨ inRow tv j) h g3 := Upd.trans (Upd.trans u1 (sB.mono fun _ _ h => h.elim) fun _ _ h => h) u3 fun j hj hin => by have := hol j hin; omega
      have htv3 : ∀ j, inRow tv2 j → inRow tv j ∨ h.length ≤ j := fun j hj => by
        rcases htv2 j hj with h1 | h1
        · exact htv j h1
        · exact .inr (by omega)
      have ht2 : ∀ j, inRow tv2 j → j < g1.length := fun j hj => (M2.tr.above j hj).2
      have hot3 : ∀ j, inRow ov' j → ¬ inRow tv2 j := fun j hj hin => by
        rcases n3 j hj with h1 | h1
        · exact hot2 j h1 hin
        · have := ht2 j hin; omega
      have hg3 := u3.len
      rw [hlB] at hg3 n3
      have mean3 : ∀ i (hi : i < (xs ++ [x]).length), Means (fun j => h.length ≤ j ∧ j < g3.length ∧ ¬ inRow tv2 j ∧ ¬ inRow ov' j) g3 (xs ++ [x])[i] ((vs ++ [v]).getD i false) := by
        intro i hi
        rcases Nat.lt_or_ge i xs.length with h1 | h1
        · rw [List.getElem_append_left h1]
          have hgv : (vs ++ [v]).getD i false = vs.getD i false := by rw [List.getD_eq_getElem?_getD, List.getElem?_append_left (by omega), ← List.getD_eq_getElem?_getD]
          rw [hgv]
          refine (((((hmean i h1).upd hu fun j hj hin => ?_).same sB).upd u3 fun j hj hin => hj.2.2.2 hin)).mono fun j hj => ⟨hj.1, by omega, fun hin => ?_, fun hin => ?_⟩
          · rcases hin with h2 | h2
            · omega
            · exact hj.2.2.1 h2
          · rcases htv2 j hin with h2 | h2
            · exact hj.2.2.1 h2
            · omega
          · rcases n3 j hin with h2 | h2
            · exact hj.2.2.2 h2
            · omega
        · have hi' : i = xs.length := by simp at hi; omega
          subst hi'
          rw [List.getElem_append_right (Nat.le_refl _)]
          have hgv : (vs ++ [v]).getD xs.length false = v := by rw [List.getD_eq_getElem?_getD, List.getElem?_append_right (by omega), hvl]; simp
          rw [hgv]
          simp only [Nat.sub_self, List.getElem_cons_zero]
          refine ((hmx.same sB).upd u3 fun j hj hin => by have := hol j hin; omega).mono fun j hj => ⟨by omega, by omega, hj.2.2, fun hin => ?_⟩
          rcases n3 j hin with h2 | h2
          · have := hol j h2; omega
          · omega
      rw [List.append_assoc] at M3
      simp [f0, f1, f2, f8, e3, hc, hone, zeros, capO, spl, -load_ptr]
      refine after_call (next_ev M3 w) ?_
      rintro r g4 hn
      rcases hn with ⟨q, wv4, rfl, rfl, M4, u4⟩ | ⟨hno, rfl, rfl⟩
      · simp [-roundQ_normal, ↓rq]
        have hg4 := u4.len
        refine stop_intro ⟨q.length + 1, by simp at hlt; omega, wv4, tv2, q, t1 ++ t, vs ++ [v], xs ++ [x], ov', by simp [f0], by simp [f1], by simp [f2], by simp, M4, Upd.trans u13 u4 fun _ _ h => .inl h, htv3, by simp [hvl], ?_, hot3, by simp at hlt ⊢; omega, fun i hi => ((mean3 i hi).upd u4 fun j hj e => by omega).mono fun j hj => ⟨hj.1, by omega, hj.2.2⟩, .inl ⟨by simp, rfl, fun o ho' => ?_⟩⟩
        · rw [List.length_append]
          exact A3.upd u4 fun j hj e => by have := (A3.above j hj).1; omega
        · have := hrel _ (.more ho ho')
          rwa [LOut.preAll_pre] at this
      · simp [-roundQ_normal, ↓rq]
        refine stop_intro ⟨0, by omega, wv2, tv2, rest, t1 ++ t, vs ++ [v], xs ++ [x], ov', by simp [f0], by simp [f1], by simp [f2], by simp, M3, u13, htv3, by simp [hvl], by rw [List.length_append]; exact A3, hot3, by simp at hlt ⊢; omega, mean3, .inr ⟨by simp, rfl, ?_⟩⟩
        have := hrel _ (.stop ho hno)
        simpa [LOut.preAll] using this
  · simp [f0, f1, f2, f8, f9]
    have hcv := (Row.one A.row).1
    have hov := (Row.one A.row).2
    have hfew := m.few
    exact ⟨.ok vs t1 ws1, hrel, ov, 0, rfl, hcv, hov, u, rfl, wv1, tv1, xs, M, htv, hvl, A, hot, by omega, fun i hi => (hmean i hi).mono fun j hj => ⟨hj.1, hj.2.1, hj.2.2.1⟩⟩
end
end Go.Proofs.Ytbamofeocfbjbaa
