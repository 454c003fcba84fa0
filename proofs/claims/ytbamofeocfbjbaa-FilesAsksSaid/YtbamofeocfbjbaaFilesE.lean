/- Lists of files: what stands at a path, what is the same, what patterns match; no condition. -/
import Derived.Test.YtbamofeocfbjbaaFilesD
import Derived.Test.YtbamofeocfbjbaaPick
import Derived.Test.YtbamofeocfbjbaaDraws
namespace Go.Proofs.Ytbamofeocfbjbaa
open Go.Ab Go.Glob
def getS (l : List Fl) (p : Bs) : Bs := match l.findIdx? (fun f => decide (f.1 = p)) with | some i => (l.getD i ([], [])).2 | none => []
def getB (l : List Fl) (p : Bs) : Bool := (l.findIdx? (fun f => decide (f.1 = p))).isSome
section
variable {h g : Hp} {v w : Value} {l m : List Fl} {i : Nat}
theorem isPath_ev (x : Fl) (s : Bs) (b : Nat) (h : Hp) (hb : h[b]? = some (.cells [.string (bs s)] false none)) :
    EvA Try.prog 54 [.agg #[.string (bs x.1), .string (bs x.2)], .pointer (some ⟨b, 0, none⟩)] (fun r h' => h' = h ∧ r = .bool (decide (x.1 = s))) h := by
  refine EvA.forget (Q := fun r => r = .bool (decide (x.1 = s))) ?_
  refine EvA.body Try.func54 rfl (by kernel_rfl) (by simp) ?_
  apply Run.ok
  have hb' : (h ++ [Blk.cells [.string (bs x.1), .string (bs x.2)] false none])[b]? = some (.cells [.string (bs s)] false none) := Same.at (Same.new _) hb
  simp [hb', flat, ground]
theorem indexF_ev (s : Bs) (b : Nat) (hb : h[b]? = some (.cells [.string (bs s)] false none)) (hv : FRow h v l) (hl : l.length ≤ 1000000000) :
    EvA Try.prog 53 [v, .func (.func 54) #[] #[.pointer (some ⟨b, 0, none⟩)]] (fun r h' => h' = h ∧ r = .int .i64 (match l.findIdx? (fun x => decide (x.1 = s)) with | some i => (i : Int) | none => -1)) h := by
  refine EvA.body Try.func53 rfl (by kernel_rfl) (by simp) ?_
  apply Run.ok
  have hlen := FLen hv
  simp [hlen]
  refine WpA.loop (fun k fr h' => ∃ i, k = l.length - i ∧ i ≤ l.length ∧ fr 0 = v ∧ fr 1 = .func (.func 54) #[] #[.pointer (some ⟨b, 0, none⟩)] ∧ fr 7 = .int .i64 (l.length : Nat) ∧ fr 8 = .int .i64 (i : Nat) ∧ h' = h ∧ ∀ x ∈ l.take i, x.1 ≠ s)
    (k := l.length) ⟨0, by simp, by omega, by simp, by simp, by simp, by simp, rfl, by simp⟩ ?_
  rintro k fr h' ⟨i, rfl, hi, f0, f1, f7, f8, rfl, hp⟩
  apply Run.ok
  by_cases c : i < l.length
  · have c' : (i : Int) < l.length := by omega
    have w1 : IntKind.i64.wrap ((i : Int) + 1) = (i : Int) + 1 := wrap_i64 (by omega) (by omega)
    have ia := FIA hv c
    have ld' := FAG hv c
    have htk := take_next c
    simp [f0, f1, f7, f8, c', ia, ld', -load_ptr]
    refine after_call (isPath_ev l[i] s b _ hb) ?_
    rintro r h2 ⟨rfl, rfl⟩
    by_cases hpx : l[i].1 = s
    · simp [hpx]
      have : l.findIdx? (fun x => decide (x.1 = s)) = some i := by
        rw [List.findIdx?_eq_some_iff_getElem]
        refine ⟨c, by simpa using hpx, fun j hj => ?_⟩
        have := hp l[j] (List.mem_take_iff_getElem.2 ⟨j, by omega, by simp⟩)
        simp [this]
      simp [this]
    · simp [f8, w1, hpx, -roundQ_normal, ↓rq]
      refine stop_intro ⟨l.length - (i + 1), by omega, i + 1, rfl, by omega, by simp [f0], by simp [f1], by simp [f7], by simp, rfl, fun x hx => ?_⟩
      rw [htk] at hx
      rcases List.mem_append.1 hx with hx | hx
      · exact hp x hx
      · simp at hx; subst hx; exact hpx
  · have c' : ¬ (i : Int) < l.length := by omega
    simp [f7, f8, c']
    have : l.findIdx? (fun x => decide (x.1 = s)) = none := by
      rw [List.findIdx?_eq_none_iff]
      intro x hx
      rw [List.take_of_length_le (by omega)] at hp
      simpa using hp x hx
    simp [this]
theorem get_ev (hv : FRow h v l) (hl : l.length ≤ 1000000000) (p : Bs) : EvA Try.prog 29 [v, .string (bs p)] (fun r h' => h' = h ∧ r = .tuple #[.string (bs (getS l p)), .bool (getB l p)]) h := by
  refine EvA.forget (Q := fun r => r = .tuple #[.string (bs (getS l p)), .bool (getB l p)]) ?_
  refine EvA.body Try.func29 rfl (by kernel_rfl) (by simp) ?_
  apply Run.ok
  have s1 : Same h (h ++ [Blk.cells [.string (bs p)] false none]) := Same.new _
  simp
  refine after_call (indexF_ev p h.length (by simp) (hv.same s1) hl) ?_
  rintro r h' ⟨rfl, rfl⟩
  unfold getS getB
  cases hf : l.findIdx? (fun x => decide (x.1 = p)) with
  | none =>
    simp [flat, ground, show (ByteArray.mk #[] : ByteArray) = bs [] from rfl]
  | some i =>
    have hi : i < l.length := by rw [List.findIdx?_eq_some_iff_getElem] at hf; exact hf.1
    have hn : ¬ (i : Int) < 0 := by omega
    have ia := FIA (hv.same s1) hi
    have c1 := FC1 (hv.same s1) hi
    have hgd : l.getD i ([], []) = l[i] := by rw [List.getD_eq_getElem?_getD, List.getElem?_eq_getElem hi]; rfl
    simp [hn, ia, c1, flat, ground, hi, -load_ptr]
theorem rget_ev (hv : FRow h v l) (hl : l.length ≤ 1000000000) (p : Bs) : EvA Try.prog 30 [v, .string (bs p)] (fun r h' => h' = h ∧ r = .tuple #[.string (bs (getS l p)), .bool (getB l p)]) h := by
  refine EvA.body Try.func30 rfl (by kernel_rfl) (by simp) ?_
  apply Run.ok
  have wl := FLen hv
  simp
  refine WpA.loop (fun k fr h' => ∃ i, k = l.length - i ∧ i ≤ l.length ∧ fr 0 = v ∧ fr 1 = .string (bs p) ∧ fr 6 = .int .i64 (i : Nat) ∧ h' = h ∧ ∀ x ∈ l.take i, x.1 ≠ p)
    (k := l.length) ⟨0, by simp, by omega, by simp, by simp, by simp, rfl, by simp⟩ ?_
  rintro k fr h' ⟨i, rfl, hi, f0, f1, f6, rfl, hp⟩
  apply Run.ok
  unfold getS getB
  by_cases c : i < l.length
  · have c' : (i : Int) < l.length := by omega
    have w1 : IntKind.i64.wrap ((i : Int) + 1) = (i : Int) + 1 := wrap_i64 (by omega) (by omega)
    have ia := FIA hv c
    have c0 := FC0 hv c
    have c1 := FC1 hv c
    have htk := take_next c
    by_cases hpx : l[i].1 = p
    · have : l.findIdx? (fun x => decide (x.1 = p)) = some i := by
        rw [List.findIdx?_eq_some_iff_getElem]
        refine ⟨c, by simpa using hpx, fun j hj => ?_⟩
        have := hp l[j] (List.mem_take_iff_getElem.2 ⟨j, by omega, by simp⟩)
        simp [this]
      have hgd : l.getD i ([], []) = l[i] := by rw [List.getD_eq_getElem?_getD, List.getElem?_eq_getElem c]; rfl
      simp [f0, f1, f6, wl, c', ia, c0, c1, hpx, this, c, -load_ptr]
    · simp [f0, f1, f6, wl, c', ia, c0, hpx, w1, -load_ptr, -roundQ_normal, ↓rq]
      refine stop_intro ⟨l.length - (i + 1), by omega, i + 1, rfl, by omega, by simp [f0], by simp [f1], by simp, rfl, fun x hx => ?_⟩
      rw [htk] at hx
      rcases List.mem_append.1 hx with hx | hx
      · exact hp x hx
      · simp at hx; subst hx; exact hpx
  · have c' : ¬ (i : Int) < l.length := by omega
    have : l.findIdx? (fun x => decide (x.1 = p)) = none := by
      rw [List.findIdx?_eq_none_iff]
      intro x hx
      rw [List.take_of_length_le (by omega)] at hp
      simpa using hp x hx
    simp [f0, f6, wl, c', this, show (ByteArray.mk #[] : ByteArray) = bs [] from rfl]
theorem toL (x : Bs) : (bs x).toList = x := by rw [ByteArray.toList_eq, bs_list]
theorem feq (a b c d : Bs) (o q : Operand) : binA Try.prog .neq 57 o q (.agg #[.string (bs a), .string (bs b)]) (.agg #[.string (bs c), .string (bs d)]) = some (.bool (!(decide (a = c) && decide (b = d)))) := by
  have hg : (Try.prog).eqGuardType (Try.prog).depth 57 = false := by kernel_rfl
  have hh : (Try.prog).stoodInHeld 57 = false := by kernel_rfl
  have hs : ∀ x y : Bs, eqA Try.prog 9999 9 (.string (bs x)) (.string (bs y)) = some (decide (x = y)) := fun x y => by
    have : eqA Try.prog (9998 + 1) 9 (.string (bs x)) (.string (bs y)) = some (decide (x = y)) := by simp [eqA, toL]; rw [Bool.eq_iff_iff]; simp
    exact this
  have a0 : ∀ a b : Value, partA Try.prog 9 [a, b] 0 = some a := fun a b => by simp [partA]
  have a1 : ∀ a b : Value, partA Try.prog 9 [a, b] 1 = some b := fun a b => by simp [partA]
  have h3 : eqA Try.prog (9999 + 1) 57 (.agg #[.string (bs a), .string (bs b)]) (.agg #[.string (bs c), .string (bs d)]) = some (decide (a = c) && decide (b = d)) := by
    unfold eqA
    generalize hE1 : decide (a = c) = E1
    generalize hE2 : decide (b = d) = E2
    cases E1 <;> cases E2 <;> simp [hh, eqFields, hs, a0, a1, hE1, hE2]
  have h4 : eqA Try.prog 10000 57 (.agg #[.string (bs a), .string (bs b)]) (.agg #[.string (bs c), .string (bs d)]) = some (decide (a = c) && decide (b = d)) := h3
  simp [binA, guardA, hg, h4]
theorem same_ev (hv : FRow h v l) (hw : FRow h w m) (hl : l.length ≤ 1000000000) (hm : m.length ≤ 1000000000) : EvA Try.prog 40 [v, w] (fun r h' => h' = h ∧ r = .bool (decide (l = m))) h := by
  refine EvA.body Try.func40 rfl (by kernel_rfl) (by simp) ?_
  apply Run.ok
  simp
  refine after_call (EvA.body Try.func63 (Q := fun r h' => h' = h ∧ r = .bool (decide (l = m))) rfl (by kernel_rfl) (by simp) ?_) ?_
  · apply Run.ok
    have wl := FLen hv
    have wm := FLen hw
    by_cases c0 : l.length = m.length
    · have c0' : (((l.length : Nat) : Int) != (m.length : Nat)) = false := by simp [c0]
      simp [wl, wm, c0', -bne_iff_ne]
      refine WpA.loop (fun z fr g => ∃ i, z = l.length - i ∧ i ≤ l.length ∧ fr 0 = v ∧ fr 1 = w ∧ fr 12 = .int .i64 (l.length : Nat) ∧ fr 13 = .int .i64 (i : Nat) ∧ g = h ∧ l.take i = m.take i)
        (k := l.length) ⟨0, by simp, by omega, by simp, by simp, by simp, by simp, rfl, by simp⟩ ?_
      rintro z fr g ⟨i, rfl, hi, f0, f1, f12, f13, rfl, hp⟩
      apply Run.ok
      by_cases c : i < l.length
      · have c' : (i : Int) < l.length := by omega
        have d : i < m.length := by omega
        have w1 : IntKind.i64.wrap ((i : Int) + 1) = (i : Int) + 1 := wrap_i64 (by omega) (by omega)
        have ia := FIA hv c
        have ag := FAG hv c
        have ib := FIA hw d
        have bg := FAG hw d
        have htk := take_next c
        have hmk := take_next d
        simp [f12, f13, c']
        refine WpA.drawnA [0, 1, 2, 3, 4, 5, 6, 7, 8] [] (by kernel_rfl) (by decide +kernel) (by decide +kernel) ?_
        by_cases hx : l[i] = m[i]
        · simp [f0, f1, f13, ia, ag, ib, bg, feq, hx, w1, -load_ptr, -roundQ_normal, ↓rq]
          exact stop_intro ⟨l.length - (i + 1), by omega, i + 1, rfl, by omega, by simp [f0], by simp [f1], by simp [f12], by simp, rfl, by rw [htk, hmk, hp, hx]⟩
        · have hne : ¬ l = m := by rintro rfl; exact hx rfl
          have hb : (!(decide (l[i].1 = m[i].1) && decide (l[i].2 = m[i].2))) = true := by
            simp only [Bool.not_eq_true', Bool.and_eq_false_iff, decide_eq_false_iff_not]
            by_cases h1 : l[i].1 = m[i].1
            · right; intro h2; exact hx (Prod.ext h1 h2)
            · left; exact h1
          have fq := fun o q => (feq l[i].1 l[i].2 m[i].1 m[i].2 o q).trans (by rw [hb])
          simp [f0, f1, ia, ag, ib, bg, fq, hne, -load_ptr]
      · have c' : ¬ (i : Int) < l.length := by omega
        rw [List.take_of_length_le (by omega), List.take_of_length_le (by omega)] at hp
        subst hp
        simp [f12, f13, c']
    · have c0' : (((l.length : Nat) : Int) != (m.length : Nat)) = true := by simp; omega
      have hne : ¬ l = m := fun e => c0 (by rw [e])
      simp [wl, wm, c0', hne]
  · rintro r g ⟨rfl, rfl⟩
    simp
theorem rsame_ev (hv : FRow h v l) (hw : FRow h w m) (hl : l.length ≤ 1000000000) (hm : m.length ≤ 1000000000) : EvA Try.prog 37 [v, w] (fun r h' => h' = h ∧ r = .bool (decide (l = m))) h := by
  refine EvA.body Try.func37 rfl (by kernel_rfl) (by simp) ?_
  apply Run.ok
  have wl := FLen hv
  have wm := FLen hw
  by_cases c0 : l.length = m.length
  · have c0' : (((l.length : Nat) : Int) != (m.length : Nat)) = false := by simp [c0]
    simp [wl, wm, c0', -bne_iff_ne]
    refine WpA.loop (fun z fr g => ∃ i, z = l.length - i ∧ i ≤ l.length ∧ fr 0 = v ∧ fr 1 = w ∧ fr 5 = .int .i64 (i : Nat) ∧ g = h ∧ l.take i = m.take i)
      (k := l.length) ⟨0, by simp, by omega, by simp, by simp, by simp, rfl, by simp⟩ ?_
    rintro z fr g ⟨i, rfl, hi, f0, f1, f5, rfl, hp⟩
    apply Run.ok
    by_cases c : i < l.length
    · have c' : (i : Int) < l.length := by omega
      have d : i < m.length := by omega
      have w1 : IntKind.i64.wrap ((i : Int) + 1) = (i : Int) + 1 := wrap_i64 (by omega) (by omega)
      have ia := FIA hv c
      have a0 := FC0 hv c
      have a1 := FC1 hv c
      have ib := FIA hw d
      have b0 := FC0 hw d
      have b1 := FC1 hw d
      have htk := take_next c
      have hmk := take_next d
      by_cases h1 : l[i].1 = m[i].1
      · by_cases h2 : l[i].2 = m[i].2
        · have hx : l[i] = m[i] := Prod.ext h1 h2
          simp [f0, f5, wl, c', -load_ptr]
          refine WpA.drawnT [0, 1, 2, 3, 4, 5, 6, 7, 8, 9, 10, 11, 12, 13, 14, 15, 16, 17, 18, 19, 20, 21, 22, 23] [] [[], [], [0, 1], [0, 1, 2], [0, 1, 2, 3], [], [], [5, 6], [5, 6, 7], [5, 6, 7, 8], [0, 1, 2, 3, 4, 5, 6, 7, 8, 9], [0, 1, 2, 3, 4, 5, 6, 7, 8, 9, 10], [0, 1, 2, 3, 4, 5, 6, 7, 8, 9, 10, 11], [0, 1, 2, 3, 4, 5, 6, 7, 8, 9, 10, 11], [0, 1, 2, 3, 4, 5, 6, 7, 8, 9, 10, 11, 12, 13], [0, 1, 2, 3, 4, 5, 6, 7, 8, 9, 10, 11, 12, 13, 14], [0, 1, 2, 3, 4, 5, 6, 7, 8, 9, 10, 11, 12, 13, 14, 15], [0, 1, 2, 3, 4, 5, 6, 7, 8, 9, 10, 11], [0, 1, 2, 3, 4, 5, 6, 7, 8, 9, 10, 11], [0, 1, 2, 3, 4, 5, 6, 7, 8, 9, 10, 11, 17, 18], [0, 1, 2, 3, 4, 5, 6, 7, 8, 9, 10, 11, 17, 18, 19], [0, 1, 2, 3, 4, 5, 6, 7, 8, 9, 10, 11, 17, 18, 19, 20], [0, 1, 2, 3, 4, 5, 6, 7, 8, 9, 10, 11, 12, 13, 14, 15, 16, 17, 18, 19, 20, 21], [0, 1, 2, 3, 4, 5, 6, 7, 8, 9, 10, 11, 12, 13, 14, 15, 16, 17, 18, 19, 20, 21, 22]] (by kernel_rfl) (by decide +kernel) (by decide +kernel) (by decide +kernel) ?_
          simp [f0, f1, f5, ia, a0, a1, ib, b0, b1, h1, h2, w1, -load_ptr, -roundQ_normal, ↓rq]
          exact stop_intro ⟨l.length - (i + 1), by omega, i + 1, rfl, by omega, by simp [f0], by simp [f1], by simp, rfl, by rw [htk, hmk, hp, hx]⟩
        · have hne : ¬ l = m := by rintro rfl; exact h2 rfl
          simp [f0, f5, wl, c', -load_ptr]
          refine WpA.drawnT [0, 1, 2, 3, 4, 5, 6, 7, 8, 9, 10, 11, 12, 13, 14, 15, 16, 17, 18, 19, 20, 21, 22, 23] [] [[], [], [0, 1], [0, 1, 2], [0, 1, 2, 3], [], [], [5, 6], [5, 6, 7], [5, 6, 7, 8], [0, 1, 2, 3, 4, 5, 6, 7, 8, 9], [0, 1, 2, 3, 4, 5, 6, 7, 8, 9, 10], [0, 1, 2, 3, 4, 5, 6, 7, 8, 9, 10, 11], [0, 1, 2, 3, 4, 5, 6, 7, 8, 9, 10, 11], [0, 1, 2, 3, 4, 5, 6, 7, 8, 9, 10, 11, 12, 13], [0, 1, 2, 3, 4, 5, 6, 7, 8, 9, 10, 11, 12, 13, 14], [0, 1, 2, 3, 4, 5, 6, 7, 8, 9, 10, 11, 12, 13, 14, 15], [0, 1, 2, 3, 4, 5, 6, 7, 8, 9, 10, 11], [0, 1, 2, 3, 4, 5, 6, 7, 8, 9, 10, 11], [0, 1, 2, 3, 4, 5, 6, 7, 8, 9, 10, 11, 17, 18], [0, 1, 2, 3, 4, 5, 6, 7, 8, 9, 10, 11, 17, 18, 19], [0, 1, 2, 3, 4, 5, 6, 7, 8, 9, 10, 11, 17, 18, 19, 20], [0, 1, 2, 3, 4, 5, 6, 7, 8, 9, 10, 11, 12, 13, 14, 15, 16, 17, 18, 19, 20, 21], [0, 1, 2, 3, 4, 5, 6, 7, 8, 9, 10, 11, 12, 13, 14, 15, 16, 17, 18, 19, 20, 21, 22]] (by kernel_rfl) (by decide +kernel) (by decide +kernel) (by decide +kernel) ?_
          simp [f0, f1, f5, ia, a0, a1, ib, b0, b1, h1, h2, hne, -load_ptr]
      · have hne : ¬ l = m := by rintro rfl; exact h1 rfl
        simp [f0, f5, wl, c', -load_ptr]
        refine WpA.drawnT [0, 1, 2, 3, 4, 5, 6, 7, 8, 9, 10, 11, 12, 13, 14, 15, 16, 17, 18, 19, 20, 21, 22, 23] [] [[], [], [0, 1], [0, 1, 2], [0, 1, 2, 3], [], [], [5, 6], [5, 6, 7], [5, 6, 7, 8], [0, 1, 2, 3, 4, 5, 6, 7, 8, 9], [0, 1, 2, 3, 4, 5, 6, 7, 8, 9, 10], [0, 1, 2, 3, 4, 5, 6, 7, 8, 9, 10, 11], [0, 1, 2, 3, 4, 5, 6, 7, 8, 9, 10, 11], [0, 1, 2, 3, 4, 5, 6, 7, 8, 9, 10, 11, 12, 13], [0, 1, 2, 3, 4, 5, 6, 7, 8, 9, 10, 11, 12, 13, 14], [0, 1, 2, 3, 4, 5, 6, 7, 8, 9, 10, 11, 12, 13, 14, 15], [0, 1, 2, 3, 4, 5, 6, 7, 8, 9, 10, 11], [0, 1, 2, 3, 4, 5, 6, 7, 8, 9, 10, 11], [0, 1, 2, 3, 4, 5, 6, 7, 8, 9, 10, 11, 17, 18], [0, 1, 2, 3, 4, 5, 6, 7, 8, 9, 10, 11, 17, 18, 19], [0, 1, 2, 3, 4, 5, 6, 7, 8, 9, 10, 11, 17, 18, 19, 20], [0, 1, 2, 3, 4, 5, 6, 7, 8, 9, 10, 11, 12, 13, 14, 15, 16, 17, 18, 19, 20, 21], [0, 1, 2, 3, 4, 5, 6, 7, 8, 9, 10, 11, 12, 13, 14, 15, 16, 17, 18, 19, 20, 21, 22]] (by kernel_rfl) (by decide +kernel) (by decide +kernel) (by decide +kernel) ?_
        simp [f0, f1, f5, ia, a0, ib, b0, h1, hne, -load_ptr]
    · have c' : ¬ (i : Int) < l.length := by omega
      rw [List.take_of_length_le (by omega), List.take_of_length_le (by omega)] at hp
      subst hp
      simp [f0, f5, wl, c']
  · have c0' : (((l.length : Nat) : Int) != (m.length : Nat)) = true := by simp; omega
    have hne : ¬ l = m := fun e => c0 (by rw [e])
    simp [wl, wm, c0', hne]
end
end Go.Proofs.Ytbamofeocfbjbaa
