/- bastionlaw29.to; the law TriggerFires; no condition. -/
import Derived.Test.YtojdhmkjegkfkaaFiresC
namespace Go.Proofs.Ytojdhmkjegkfkaa
open Go.Ab Go.Glob
def It.key (x : It) : Int × List UInt8 × List (List UInt8) := (x.no, x.word, x.args)
theorem fires_key {l m : List It} (h : l.map It.key = m.map It.key) (w : List UInt8) (t : List (List UInt8)) : fires l w t = fires m w t := by
  have h1 : ∀ l : List It, thereW l w = (l.map It.key).any fun x => decide (x.2.1 = w) := fun l => by simp only [thereW, List.any_map]; rfl
  have h2 : ∀ l : List It, hits l w t = (l.map It.key).any fun x => decide (x.2.1 = w) && t.any (anyM x.2.2) := fun l => by simp only [hits, List.any_map]; rfl
  simp only [fires, h1, h2, h]
structure ToR (h0 h' : Hp) (r : Value) (l l' : List It) : Prop where
  key : l'.map It.key = l.map It.key
  acc : Acc h0.length h' 3 r l'.length (l'.flatMap It.cells)
  args : ∀ x ∈ l', Acc h0.length h' 1 x.av x.args.length (x.args.map str)
  sep : ∀ x ∈ l', ∀ j, inRow x.av j → ¬ inRow r j
  two : l'.Pairwise fun x y => ∀ j, inRow x.av j → ¬ inRow y.av j
theorem ToR.same {h0 h' h'' : Hp} {r : Value} {l l' : List It} (t : ToR h0 h' r l l') (u : Same h' h'') : ToR h0 h'' r l l' := ⟨t.key, t.acc.same u, fun x hx => (t.args x hx).same u, t.sep, t.two⟩
theorem ToR.items {h0 h' : Hp} {r : Value} {l l' : List It} (t : ToR h0 h' r l l') : Items h' r l' := ⟨⟨t.acc.row, fun _ _ => rfl⟩, fun x hx => (t.args x hx).row⟩
theorem cells_len (l : List It) : (l.flatMap It.cells).length = l.length * 3 := by
  induction l with
  | nil => rfl
  | cons x l ih => simp [List.flatMap_cons, ih, It.cells]; omega
set_option maxHeartbeats 1000000 in
theorem to_ev {h : Hp} {v : Value} {l : List It} (hv : Items h v l) (hl : l.length ≤ 1000000000) (ha : ∀ x ∈ l, x.args.length ≤ 1000000000) :
    EvA Try.prog 16 [v] (fun r h' => Same h h' ∧ ∃ l', ToR h h' r l l') h := by
  refine EvA.body Try.func16 rfl (by kernel_rfl) (by simp) ?_
  apply Run.ok
  simp
  refine WpA.loop (fun k fr h' => ∃ i d a, k = l.length - i ∧ i ≤ l.length ∧ fr 0 = v ∧ fr 3 = a ∧ fr 4 = .int .i64 (i : Nat) ∧ Same h h' ∧ ToR h h' a (l.take i) d ∧ ∀ x ∈ d, ∀ j, inRow x.av j → j < h'.length)
    (k := l.length) ⟨0, [], _, by simp, by omega, by simp, rfl, by simp, Same.refl, ⟨rfl, Acc.nil _, by simp, by simp, List.Pairwise.nil⟩, by simp⟩ ?_
  rintro k fr h2 ⟨i, d, a, rfl, hi, f0, f3, f4, sm, tr, hd⟩
  apply Run.ok
  have hlen := (hv.1.same sm).len (P := Try.prog) (t := 22) (e := 70) (by simp)
  by_cases c : i < l.length
  · have c' : (i : Int) < l.length := by omega
    have w1 : IntKind.i64.wrap ((i : Int) + 1) = (i : Int) + 1 := wrap_i64 (by omega) (by omega)
    have ia := hv.1.ia (P := Try.prog) (t := 22) (e := 70) (by simp) (by simp) c .i64
    have ld0 := fun (g : Hp) (u : Same h g) => (hv.1.same u).cell0 (P := Try.prog) (f := 3) (by simp) c (by omega)
    have ld1 := fun (g : Hp) (u : Same h g) => (hv.1.same u).cell (P := Try.prog) (f := 9) (j := 1) (by simp) c (by omega)
    have ld2 := fun (g : Hp) (u : Same h g) => (hv.1.same u).cell (P := Try.prog) (f := 23) (j := 2) (by simp) c (by omega)
    have htk := take_snoc c
    have hxm : l[i] ∈ l := List.getElem_mem _
    generalize l[i] = x at ld0 ld1 ld2 htk hxm
    simp only [It.cells, List.getElem?_cons_succ, List.getElem?_cons_zero, str] at ld0 ld1 ld2
    have hdl : d.length = i := by have := congrArg List.length tr.key; simp at this; omega
    -- the arguments' copy
    obtain ⟨v1, h3, e1, a1, u1⟩ := litStrs ((hv.2 x hxm).same sm) (by have := ha x hxm; omega)
    have sm3 : Same h2 h3 := Same.trans (Same.new _) u1
    have hlit : h3[h2.length]? = some (.cells [] false none) := u1.at (by simp)
    have sh3 := sm.trans sm3
    have hv1 : ∀ j, inRow v1 j → h2.length ≤ j ∧ j < h3.length := fun j hj => a1.above j hj
    have tr3 := tr.same sm3
    have hone := (Row.one a1.row).2
    -- the item behind the others
    obtain ⟨a', h4, e4, a4, u4, n4⟩ := Acc.append (P := Try.prog) (t := 26) (tx := 26) (e := 53) (by_ := 48) (dx := .slice 53) (tr3.acc.same (Same.new [.cells [.int .i64 x.no, .string (bs x.word), v1] false none])) (by have := sh3.len; simp; omega)
      (by simp) (by simp) (by simp) rfl (x := .slice (some ⟨h3.length, 0, none⟩) 1 1) (m := 1) (ys := [.int .i64 x.no, .string (bs x.word), v1]) (by simp [srcA]) (by simp) (by simp [hone]) (by omega) (by omega)
    have sm4 : Same h h4 := Acc.since (tr3.acc.same (Same.new _)) (sh3.trans (Same.new _)) u4
    have hl4 : h3.length < h4.length := by have := u4.len; simp at this; omega
    have ld0s := ld0 h3 sh3
    have ld1s := ld1 h3 sh3
    have ld0r := ld0 h2 sm
    have ld1r := ld1 h2 sm
    have ld2r := ld2 h2 sm
    have n1 : Same h (h2 ++ [.cells [] false none]) := sm.trans (Same.new _)
    have ld2n := ld2 _ n1
    have ld0n := ld0 _ n1
    have ld1n := ld1 _ n1
    have hcel := (Row.one a1.row).1
    have n3 : Same h (h3 ++ [.cells [.int .i64 x.no, .string (bs x.word), v1] false none]) := sh3.trans (Same.new _)
    have ld0m := ld0 _ n3
    have ld1m := ld1 _ n3
    have ld2m := ld2 _ n3
    have hlit2 : (h3 ++ [.cells [.int .i64 x.no, .string (bs x.word), v1] false none])[h2.length]? = some (.cells [] false none) := Same.at (Same.new _) hlit
    simp [f0, f3, f4, hlen, c']
    refine WpA.drawnA [0, 1, 2, 3, 4, 5, 6, 7, 8, 9, 10, 11, 12, 13, 14, 15, 16, 17, 18, 19, 20, 21] [[], [], [], [], [], [], [], [], [], [], [], [], [], [], [], [], [], [11, 12, 13, 14, 15, 16], [], [], [0, 1, 2, 3, 4, 5, 6, 7, 8, 9, 10, 11, 12, 13, 14, 15, 16, 17, 18, 19]] (by kernel_rfl) (by decide +kernel) (by decide +kernel) ?_
    simp [f0, f3, f4, ia, ld0r, ld1r, ld2r, ld2n, ld0n, ld1n, ld0s, ld1s, ld0m, ld1m, ld2m, hlit, hlit2, hcel, zeros, capO, spl, e1, e4, hone, w1, f0, -load_ptr, -roundQ_normal, ↓rq]
    refine stop_intro ⟨l.length - (i + 1), by omega, i + 1, d ++ [{ x with av := v1 }], a', rfl, by omega, by simp [f0], by simp, by simp, sm4, ⟨?_, ?_, ?_, ?_, ?_⟩, ?_⟩
    · rw [htk, List.map_append, List.map_append, tr.key]; rfl
    · rw [List.flatMap_append]
      simpa [It.cells, str] using a4
    · intro y hy
      rcases List.mem_append.1 hy with hy | hy
      · exact ((tr3.args y hy).same (Same.new _)).upd u4 (tr.sep y hy)
      · simp at hy; subst hy
        exact (Acc.down (by have := sm.len; omega) (a1.same (Same.new _))).upd u4 fun j hj hin => by
          have h1 := hv1 j hj
          have h2' := (tr.acc.above j hin).2
          omega
    · intro y hy j hj hin
      rcases n4 j hin with h1 | h1
      · rcases List.mem_append.1 hy with hy | hy
        · exact tr.sep y hy j hj h1
        · simp at hy; subst hy
          have h2' := (hv1 j hj).1
          have h3' := (tr.acc.above j h1).2
          omega
      · rcases List.mem_append.1 hy with hy | hy
        · have h2' := hd y hy j hj
          have h3' := sm3.len
          simp at h1; omega
        · simp at hy; subst hy
          have h2' := (hv1 j hj).2
          simp at h1; omega
    · rw [List.pairwise_append]
      refine ⟨tr.two, List.pairwise_singleton _ _, fun y hy z hz j hj hin => ?_⟩
      simp at hz; subst hz
      have h1 := hd y hy j hj
      have h2' := (hv1 j hin).1
      omega
    · intro y hy j hj
      rcases List.mem_append.1 hy with hy | hy
      · have h1 := hd y hy j hj
        have h2' := sm3.len
        omega
      · simp at hy; subst hy
        have h1 := (hv1 j hj).2
        omega
  · have c' : ¬ (i : Int) < l.length := by omega
    rw [List.take_of_length_le (by omega)] at tr
    simp [f0, f3, f4, hlen, c']
    exact ⟨sm, d, tr⟩
end Go.Proofs.Ytojdhmkjegkfkaa
