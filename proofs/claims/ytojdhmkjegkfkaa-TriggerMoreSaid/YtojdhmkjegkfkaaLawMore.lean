/- The law TriggerMore: called, it comes to true; no condition. -/
import Derived.Test.YtojdhmkjegkfkaaLawFires
import Derived.Test.YtojdhmkjegkfkaaWorks29
namespace Go.Proofs.Ytojdhmkjegkfkaa
open Go.Ab Go.Glob
theorem fires_iff (l : List It) (w : List UInt8) (t : List (List UInt8)) : fires l w t = true ↔ (∀ x ∈ l, x.word ≠ w) ∨ ∃ x ∈ l, x.word = w ∧ ∃ s ∈ t, ∃ q ∈ x.args, M q s = true := by
  simp only [fires, thereW, hits, anyM, Bool.or_eq_true, Bool.not_eq_true', List.any_eq_true, List.any_eq_false, Bool.and_eq_true, decide_eq_true_eq, ne_eq]
theorem fires_t {l : List It} {w : List UInt8} {t : List (List UInt8)} (p : List UInt8) (hf : fires l w t = true) : fires l w (t ++ [p]) = true := by
  rw [fires_iff] at hf ⊢
  rcases hf with h1 | ⟨x, h1, h2, s, h3, h4⟩
  · exact .inl h1
  · exact .inr ⟨x, h1, h2, s, by simp [h3], h4⟩
theorem fires_app {l : List It} {w : List UInt8} {t : List (List UInt8)} (y : It) (hy : ∃ x ∈ l, x.word = y.word) (hf : fires l w t = true) : fires (l ++ [y]) w t = true := by
  rw [fires_iff] at hf ⊢
  obtain ⟨z, z1, z2⟩ := hy
  rcases hf with h1 | ⟨x, h1, h2, s, h3, h4⟩
  · refine .inl fun x hx => ?_
    rcases List.mem_append.1 hx with hx | hx
    · exact h1 x hx
    · simp at hx; subst hx; rw [← z2]; exact h1 z z1
  · exact .inr ⟨x, by simp [h1], h2, s, h3, h4⟩
theorem fires_set {l : List It} {w : List UInt8} {t : List (List UInt8)} {k : Nat} (hk : k < l.length) (y : It) (p : List UInt8) (hw : y.word = l[k].word) (ha : y.args = l[k].args ++ [p]) (hf : fires l w t = true) : fires (l.set k y) w t = true := by
  rw [fires_iff] at hf ⊢
  rcases hf with h1 | ⟨x, h1, h2, s, h3, q, h4, h5⟩
  · refine .inl fun x hx => ?_
    rcases List.mem_or_eq_of_mem_set hx with hx | rfl
    · exact h1 x hx
    · rw [hw]; exact h1 _ (List.getElem_mem _)
  · obtain ⟨i, hi, rfl⟩ := List.mem_iff_getElem.1 h1
    by_cases hik : i = k
    · subst hik
      exact .inr ⟨y, List.mem_set hi y, by rw [hw]; exact h2, s, h3, q, by rw [ha]; simp [h4], h5⟩
    · refine .inr ⟨l[i], ?_, h2, s, h3, q, h4, h5⟩
      refine List.mem_iff_getElem.2 ⟨i, by simpa using hi, ?_⟩
      rw [List.getElem_set_ne (fun h => hik h.symm)]
theorem flatMap_set {α : Type} {cells : α → List Value} {z : Nat} : ∀ (l : List α) (k j : Nat) (y : α) (v : Value), (∀ x ∈ l, (cells x).length = z) → (hk : k < l.length) → j < z → cells y = (cells l[k]).set j v → (l.flatMap cells).set (k * z + j) v = (l.set k y).flatMap cells := by
  intro l
  induction l with
  | nil => intro k j y v _ hk; simp at hk
  | cons x l ih =>
    intro k j y v hz hk hj hy
    have hx := hz x (by simp)
    cases k with
    | zero =>
      simp only [List.getElem_cons_zero] at hy
      simp only [List.flatMap_cons, List.set_cons_zero, Nat.zero_mul, Nat.zero_add]
      rw [List.set_append_left _ _ (by omega), hy]
    | succ k =>
      simp only [List.flatMap_cons, List.set_cons_succ]
      rw [List.set_append_right _ _ (by rw [hx, Nat.add_mul]; omega), hx, show (k + 1) * z + j - z = k * z + j by rw [Nat.add_mul]; omega,
        ih k j y v (fun w hw => hz w (by simp [hw])) (by simpa using hk) hj (by simpa using hy)]
set_option maxHeartbeats 2000000 in
theorem lawMore_ev {h : Hp} {v tv : Value} {l : List It} {t : List (List UInt8)} (ref : List UInt8) (at_ : Int) (pat path : List UInt8) (hat : -9223372036854775808 ≤ at_ ∧ at_ ≤ 9223372036854775807) (hv : InItems h v l) (ht : SRow h tv t) (htl : t.length ≤ 140737488351232) (hs : ∀ s ∈ t, s.length ≤ 140737488351232)
    (hrl : ref.length ≤ 140737488351232) (hpl : pat.length ≤ 140737488351232) (hql : path.length ≤ 140737488351232) :
    EvA Try.prog 10 [v, .string (bs ref), tv, .int .i64 at_, .string (bs pat), .string (bs path)] (fun r _ => r = .bool true) h := by
  refine EvA.body Try.func10 rfl (by kernel_rfl) (by simp) ?_
  apply Run.ok
  have w1 : IntKind.i64.wrap ((ref.length : Int) + pat.length) = (ref.length : Int) + pat.length := wrap_i64 (by omega) (by omega)
  have w2 : IntKind.i64.wrap ((ref.length : Int) + pat.length + path.length) = (ref.length : Int) + pat.length + path.length := wrap_i64 (by omega) (by omega)
  simp
  refine after_call (works29_ev _) ?_
  rintro r h0 ⟨rfl, rfl⟩
  simp
  refine after_call (large_ev hv.it ht hv.len hv.args htl hs) ?_
  rintro r h' ⟨rfl, b, rfl, hb⟩
  cases b with
  | true =>
    simp
    refine after_call (works29_ev _) ?_
    rintro r h0 ⟨rfl, rfl⟩
    simp
  | false =>
    obtain ⟨b1, b2, b3, b4⟩ := hb rfl
    by_cases hr : (500 : Int) < (ref.length : Int) + pat.length + path.length
    · simp [w1, w2, hr]
      refine after_call (works29_ev _) ?_
      rintro r h0 ⟨rfl, rfl⟩
      simp
    · simp [w1, w2, hr]
      have hlA : ∀ x ∈ l, x.args.length ≤ 1000000000 := fun x hx => by have := b4 x hx; omega
      refine after_call (to_ev hv.it (by omega) hlA) ?_
      rintro r h2 ⟨sm, l', tr⟩
      simp
      have hl' : l'.length = l.length := by have := congrArg List.length tr.key; simpa using this
      have ha' : ∀ (m : List It), m.map It.key = l.map It.key → ∀ x ∈ m, x.args.length ≤ 3000 := fun m hm x hx => by
        have : x.key ∈ l.map It.key := by rw [← hm]; exact List.mem_map.2 ⟨x, hx, rfl⟩
        obtain ⟨y, hy, he⟩ := List.mem_map.1 this
        have : y.args = x.args := congrArg (fun z => z.2.2) he
        rw [← this]; exact b4 y hy
      have hs' : ∀ s ∈ t, s.length < 1000000000 := fun s hs' => by have := b3 s hs'; omega
      refine after_call (fires_ev ref tr.items (ht.same sm) (by omega) (fun x hx => by have := ha' l' tr.key x hx; omega) (by omega) hs' (by omega)) ?_
      rintro r2 h3 ⟨rfl, rfl⟩
      cases hf : (fires l' [111, 110] [ref] && fires l' [112, 97, 116, 104, 115] t) with
      | false => simp
      | true =>
        simp only [Bool.and_eq_true] at hf
        obtain ⟨hf1, hf2⟩ := hf
        obtain ⟨v1, h4, e1, a1, u1⟩ := litStrs (ht.same sm) (by omega)
        have sm4 : Same h3 h4 := Same.trans (Same.new _) u1
        obtain ⟨v2, h5, e2, a2, u2⟩ := appStrs (m := [path]) (a1.same (Same.new _)) (by have := sm4.len; simp; omega) (SRow.lit h4 path) (by simp; omega)
        have sm5 : Same h3 h5 := Acc.since (a1.same (Same.new _)) (sm4.trans (Same.new _)) u2
        simp [e1, e2, zeros, capO, spl]
        have tr5 := tr.same sm5
        refine after_call (fires_ev (t := t ++ [path]) ref tr5.items a2.row (by omega) (fun x hx => by have := ha' l' tr.key x hx; omega) (by simp; omega) (fun s hs'' => by
          rcases List.mem_append.1 hs'' with h1 | h1
          · exact hs' s h1
          · simp at h1; subst h1; omega) (by omega)) ?_
        rintro r6 h6 ⟨rfl, rfl⟩
        simp [hf1, fires_t path hf2]
        have hlen5 := tr5.items.1.len (P := Try.prog) (t := 26) (e := 53) (by simp)
        simp [hlen5]
        by_cases h0 : l'.length = 0
        · have h0' : ((l'.length : Int) == 0) = true := by simp; exact List.eq_nil_of_length_eq_zero h0
          simp [h0']
        · have h0' : ((l'.length : Int) == 0) = false := by simp; intro he; simp [he] at h0
          have wl : IntKind.u64.wrap (l'.length : Int) = (l'.length : Int) := wrap_u64 (by omega) (by omega)
          have hne : ¬ ((l'.length : Int) = 0) := by omega
          have hau : IntKind.u64.wrap at_ = at_ % 18446744073709551616 := wrap_u64_mod at_
          obtain ⟨k, hk⟩ : ∃ k : Nat, (at_ % 18446744073709551616).tmod (l'.length : Int) = (k : Nat) := ⟨((at_ % 18446744073709551616).tmod (l'.length : Int)).toNat, by
            have : 0 ≤ (at_ % 18446744073709551616).tmod (l'.length : Int) := Int.tmod_nonneg _ (by omega)
            omega⟩
          have hkl : k < l'.length := by
            have : (at_ % 18446744073709551616).tmod (l'.length : Int) < l'.length := Int.tmod_lt_of_pos _ (by omega)
            omega
          have wk : IntKind.i64.wrap (k : Int) = (k : Int) := wrap_i64 (by omega) (by omega)
          have hnil : l' ≠ [] := by intro he; simp [he] at h0
          simp [hlen5, h0', wl, hau, hne, hk, wk, hnil]
          have hxm : l'[k] ∈ l' := List.getElem_mem _
          have ldw := fun (g : Hp) (u : Same h6 g) => (tr5.items.1.same u).cell (P := Try.prog) (f := 9) (j := 1) (by simp) hkl (by omega)
          have iak := tr5.items.1.ia (P := Try.prog) (t := 26) (e := 53) (by simp) (by simp) hkl .i64
          have hxget : l'[k]? = some l'[k] := List.getElem?_eq_getElem hkl
          generalize hx : l'[k] = x at ldw hxm hxget
          simp only [It.cells, List.getElem?_cons_succ, List.getElem?_cons_zero, str] at ldw
          have ld6 := ldw h6 Same.refl
          have ld6a := ldw (h6 ++ [.cells [.string (bs pat)] false none]) (Same.new _)
          have ld6b := ldw (h6 ++ [.cells [.string (bs pat)] false none, .cells [.int .i64 0, .string (bs x.word), .slice (some ⟨h6.length, 0, none⟩) 1 1] false none]) (Same.new _)
          refine WpA.drawnA [0, 2, 3, 4, 5, 6, 7, 8, 9, 10, 12, 13, 1, 11, 14, 15] [[], [0], [], [], [], [], [], [], [], [], [], [0, 1, 2, 3, 4, 5, 6, 7, 8, 9, 10], [], [], [0, 1, 2, 3, 4, 5, 6, 7, 8, 9, 10, 11, 12, 13]] (by kernel_rfl) (by decide +kernel) (by decide +kernel) ?_
          simp [iak, ld6, ld6a, ld6b, zeros, capO, spl, -load_ptr]
          have sm6 : Same h3 (h6 ++ [.cells [.string (bs pat)] false none, .cells [.int .i64 0, .string (bs x.word), .slice (some ⟨h6.length, 0, none⟩) 1 1] false none]) := sm5.trans (Same.new _)
          refine after_call (to_ev (hv.it.same (sm.trans sm6)) (by omega) hlA) ?_
          rintro r7 h7 ⟨sm7, l7, tr7⟩
          have hb7 : h7[h6.length]? = some (.cells [.string (bs pat)] false none) := sm7.at (by simp)
          have hb8 : h7[h6.length + 1]? = some (.cells [.int .i64 0, .string (bs x.word), .slice (some ⟨h6.length, 0, none⟩) 1 1] false none) := sm7.at (by simp)
          have s57 : Same h6 h7 := Same.trans (Same.new _) sm7
          have ld7 := ldw h7 s57
          have hl7 : l7.length = l.length := by have := congrArg List.length tr7.key; simpa using this
          obtain ⟨r8, h8, e8, a8, u8, n8⟩ := Acc.append (P := Try.prog) (t := 26) (tx := 26) (e := 53) (by_ := 48) (dx := .slice 53) tr7.acc sm7.len
            (by simp) (by simp) (by simp) rfl (x := .slice (some ⟨h6.length + 1, 0, none⟩) 1 1) (m := 1) (ys := [.int .i64 0, .string (bs x.word), .slice (some ⟨h6.length, 0, none⟩) 1 1]) (by simp [srcA, hb8]) (by simp) (by simp) (by omega) (by omega)
          have s78 : Same (h6 ++ [.cells [.string (bs pat)] false none, .cells [.int .i64 0, .string (bs x.word), .slice (some ⟨h6.length, 0, none⟩) 1 1] false none]) h8 := Acc.since tr7.acc sm7 u8
          have s58 : Same h6 h8 := Same.trans (Same.new _) s78
          simp [iak, ld7, hb7, hb8, e8, -load_ptr]
          have hy8 : h8[h6.length]? = some (.cells [.string (bs pat)] false none) := s78.at (by simp)
          have it8 : Items h8 r8 (l7 ++ [⟨0, x.word, [pat], .slice (some ⟨h6.length, 0, none⟩) 1 1⟩]) := by
            refine ⟨⟨?_, fun _ _ => rfl⟩, fun y hy => ?_⟩
            · have := a8.row
              simpa [List.flatMap_append, It.cells, str] using this
            · rcases List.mem_append.1 hy with hy | hy
              · exact ((tr7.args y hy).upd u8 (tr7.sep y hy)).row
              · simp at hy; subst hy
                refine ⟨⟨_, _, rfl⟩, ?_, by simp⟩
                simp [srcA, hy8, str]
          have key7 : l7.map It.key = l'.map It.key := by rw [tr7.key, tr.key]
          have hx7 : ∃ z ∈ l7, z.word = x.word := by
            have : x.key ∈ l7.map It.key := by rw [key7]; exact List.mem_map.2 ⟨x, hxm, rfl⟩
            obtain ⟨z, hz, he⟩ := List.mem_map.1 this
            exact ⟨z, hz, congrArg (fun q => q.2.1) he⟩
          have g1 := fires_app ⟨0, x.word, [pat], .slice (some ⟨h6.length, 0, none⟩) 1 1⟩ hx7 ((fires_key key7 _ _).trans hf1)
          have g2 := fires_app ⟨0, x.word, [pat], .slice (some ⟨h6.length, 0, none⟩) 1 1⟩ hx7 ((fires_key key7 _ _).trans hf2)
          refine after_call (fires_ev ref it8 (ht.same ((sm.trans sm5).trans s58)) (by simp; omega) (fun y hy => by
            rcases List.mem_append.1 hy with hy | hy
            · have := ha' l7 tr7.key y hy; omega
            · simp at hy; subst hy; simp) (by omega) hs' (by omega)) ?_
          rintro r9 h9 ⟨rfl, rfl⟩
          have tr9 := tr5.same s58
          have ia9 := tr9.items.1.ia (P := Try.prog) (t := 26) (e := 53) (by simp) (by simp) hkl .i64
          have ldv := tr9.items.1.cell (P := Try.prog) (f := 23) (j := 2) (by simp) hkl (by omega)
          rw [hx] at ldv
          simp only [It.cells, List.getElem?_cons_succ, List.getElem?_cons_zero] at ldv
          obtain ⟨v10, h10, e10, a10, u10, n10⟩ := appStrs4 (m := [pat]) ((tr9.args x hxm).same (Same.new [.cells [.string (bs pat)] false none])) (by have := (sm.trans (sm5.trans s58)).len; simp; omega) (SRow.lit h9 pat) (by have := ha' l' tr.key x hxm; simp; omega)
          have w10 : Wr h'.length h10 3 r l'.length (l'.flatMap It.cells) := ((tr9.acc.same (Same.new _)).upd u10 fun j hj hin => tr9.sep x hxm j hin hj).wr
          obtain ⟨h11, e11, a11, u11, _⟩ := w10.storec (P := Try.prog) (e := 23) (x := v10) (i := k) (j := 2) (by simp) (Row.one a10.row).2 hkl (by omega)
          simp only [g1, g2, Bool.and_self]
          simp [iak, ld7, hb7, hb8, ldv, e10, e11, zeros, capO, spl, -load_ptr, -store_ptr]
          have hset := flatMap_set (cells := It.cells) (z := 3) l' k 2 { x with args := x.args ++ [pat], av := v10 } v10 (fun _ _ => rfl) hkl (by omega) (by rw [hx]; rfl)
          rw [hset] at a11
          have rbr : rbl r < h10.length ∧ ∀ j, inRow v10 j → ¬ j = rbl r := by
            have hrr := w10.above (by omega)
            refine ⟨hrr.2, fun j hj he => ?_⟩
            subst he
            rcases n10 _ hj with h1 | h1
            · exact tr9.sep x hxm _ h1 (w10.row.inRow (by omega))
            · have := (tr9.acc.above _ (w10.row.inRow (by omega))).2
              simp at h1; omega
          have it11 : Items h11 r (l'.set k { x with args := x.args ++ [pat], av := v10 }) := by
            refine ⟨⟨by simpa using a11.row, fun _ _ => rfl⟩, fun y hy => ?_⟩
            obtain ⟨i, hi, rfl⟩ := List.mem_iff_getElem.1 hy
            by_cases hik : k = i
            · subst hik
              rw [List.getElem_set_self]
              exact SRow.upd (l := x.args ++ [pat]) a10.row u11 rbr.2
            · rw [List.getElem_set_ne hik]
              have hi' : i < l'.length := by simpa using hi
              have hm : l'[i] ∈ l' := List.getElem_mem _
              refine SRow.upd (SRow.upd (((tr9.args _ hm).same (Same.new _)).row) u10 fun j hj hin => ?_) u11 fun j hj he => ?_
              · have hp := List.pairwise_iff_getElem.1 tr.two
                rcases Nat.lt_or_gt_of_ne hik with h1 | h1
                · exact hp k i hkl hi' h1 j (by rw [hx]; exact hin) hj
                · exact hp i k hi' hkl h1 j hj (by rw [hx]; exact hin)
              · refine tr9.sep _ hm j hj ?_
                rw [he]; exact w10.row.inRow (by omega)
          have s9 := sm.trans (sm5.trans s58)
          have s10 := Acc.since ((tr9.args x hxm).same (Same.new _)) (s9.trans (Same.new _)) u10
          have s911 := Wr.since (w10.above (by omega)).1 s10 u11
          refine after_call (fires_ev ref it11 (ht.same s911) (by simp; omega) (fun y hy => by
            rcases List.mem_or_eq_of_mem_set hy with hy | rfl
            · have := ha' l' tr.key y hy; omega
            · have := ha' l' tr.key x hxm; simp; omega) (by omega) hs' (by omega)) ?_
          rintro r12 h12 ⟨rfl, rfl⟩
          have f1 := fires_set (w := [111, 110]) (t := [ref]) hkl { x with args := x.args ++ [pat], av := v10 } pat (by rw [hx]) (by rw [hx]) hf1
          have f2 := fires_set (w := [112, 97, 116, 104, 115]) (t := t) hkl { x with args := x.args ++ [pat], av := v10 } pat (by rw [hx]) (by rw [hx]) hf2
          simp [f1, f2]
theorem triggerMore_ev (h : Hp) (vs : List Value) (dts : List Dt) (hr : RepAll Try.prog h 6 [22, 9, 23, 3, 9, 9] vs dts) : EvA Try.prog 10 vs (fun r _ => r = .bool true) h := by
  obtain ⟨a, vs, d, ds, rfl, rfl, h1, hr⟩ := hr.cons
  obtain ⟨b, vs, e, ds, rfl, rfl, h2, hr⟩ := hr.cons
  obtain ⟨c, vs, f, ds, rfl, rfl, h3, hr⟩ := hr.cons
  obtain ⟨a4, vs, d4, ds, rfl, rfl, h4, hr⟩ := hr.cons
  obtain ⟨a5, vs, d5, ds, rfl, rfl, h5, hr⟩ := hr.cons
  obtain ⟨a6, vs, d6, ds, rfl, rfl, h6, hr⟩ := hr.cons
  rw [hr.nil]
  obtain ⟨l, hl⟩ := inItems h1
  obtain ⟨ref, rfl, r1⟩ := h2.str (by simp)
  obtain ⟨t, t1, t2, t3⟩ := h3.strs (e := 9) (by simp) (by simp) (by kernel_rfl)
  obtain ⟨n, rfl, n1, n2⟩ := h4.int (q := .i64) (by simp)
  obtain ⟨p, rfl, p1⟩ := h5.str (by simp)
  obtain ⟨q, rfl, q1⟩ := h6.str (by simp)
  exact lawMore_ev ref n p q ⟨n1, n2⟩ hl t1.strs t2 t3 r1 p1 q1
end Go.Proofs.Ytojdhmkjegkfkaa
