/- Lists of files: what patterns pick; how large; no condition. -/
import Derived.Test.YtbamofeocfbjbaaFilesE
namespace Go.Proofs.Ytbamofeocfbjbaa
open Go.Ab Go.Glob
abbrev FAcc (k : Nat) (h : Hp) (v : Value) (l : List Fl) : Prop := Acc k h 2 v l.length (l.flatMap cellF)
theorem cellsF_len (l : List Fl) : (l.flatMap cellF).length = l.length * 2 := by
  induction l with
  | nil => rfl
  | cons f l ih => simp only [List.flatMap_cons, List.length_append, ih, List.length_cons, cellF, List.length_nil]; omega
theorem cellsF_one (l : List Fl) : (l.flatMap cellF).all oneA = true := by
  rw [List.all_eq_true]
  intro x hx
  rw [List.mem_flatMap] at hx
  obtain ⟨f, _, hx⟩ := hx
  simp only [cellF, List.mem_cons, List.not_mem_nil, or_false] at hx
  rcases hx with rfl | rfl <;> rfl
theorem FAcc.row {k : Nat} {h : Hp} {v : Value} {l : List Fl} (a : FAcc k h v l) : FRow h v l := ⟨Acc.row a, fun _ _ => rfl⟩
theorem appFs {k : Nat} {h : Hp} {v x : Value} {l m : List Fl} (ha : FAcc k h v l) (hk : k ≤ h.length) (hx : FRow h x m) (hb : l.length + m.length ≤ 1000000000000) :
    ∃ v' h', appendA Try.prog 44 44 v x h = some (v', h') ∧ FAcc k h' v' (l ++ m) ∧ Upd (inRow v) h h' := by
  obtain ⟨v', h', e1, e2, e3, _⟩ := Acc.append (P := Try.prog) (t := 44) (tx := 44) (e := 57) (by_ := 32) (dx := .slice 57) ha hk (by simp) (by simp) (by simp) rfl hx.1.2.1 (cellsF_len m) (cellsF_one m) (by omega) (by omega)
  exact ⟨v', h', e1, by simpa [FAcc] using e2, e3⟩
theorem litF (h : Hp) (f : Fl) : FRow (h ++ [.cells [.string (bs f.1), .string (bs f.2)] false none]) (.slice (some ⟨h.length, 0, none⟩) 1 1) [f] := by
  refine ⟨⟨⟨_, _, rfl⟩, ?_, by simp [cellF]⟩, fun _ _ => rfl⟩
  simp [srcA, cellF]
section
variable {h g : Hp} {v w : Value} {l m : List Fl} {i : Nat} {ps : List Bs}
noncomputable def pickF (ps : List Bs) (l : List Fl) : List Fl := l.filter fun f => anyM ps f.1
theorem pickF_next {l : List Fl} {i : Nat} (c : i < l.length) : pickF ps (l.take (i + 1)) = pickF ps (l.take i) ++ (if anyM ps l[i].1 then [l[i]] else []) := by
  rw [take_next c, pickF, List.filter_append]
  congr 1
  by_cases h : anyM ps l[i].1 = true <;> simp [h]
theorem pickF_le (ps : List Bs) (l : List Fl) : (pickF ps l).length ≤ l.length := List.length_filter_le _ _
theorem pick_ev (hv : FRow h v l) (hw : SRow h w ps) (hs : Small l) (hp : ps.length ≤ 1000000000) :
    EvA Try.prog 38 [v, w] (fun r h' => FAcc h.length h' r (pickF ps l) ∧ Same h h') h := by
  refine EvA.body Try.func38 rfl (by kernel_rfl) (by simp) ?_
  apply Run.ok
  have wl := FLen hv
  simp [wl]
  refine WpA.loop (fun z fr g => ∃ i o, z = l.length - i ∧ i ≤ l.length ∧ fr 1 = w ∧ fr 5 = o ∧ fr 8 = v ∧ fr 9 = .int .i64 (l.length : Nat) ∧ fr 10 = .int .i64 (i : Nat) ∧ Same h g ∧ FAcc h.length g o (pickF ps (l.take i)))
    (k := l.length) ⟨0, _, by simp, by omega, by simp, rfl, by simp, by simp, by simp, Same.refl, by rw [List.take_zero]; exact Acc.nil _⟩ ?_
  rintro z fr g ⟨i, o, rfl, hi, f1, f5, f8, f9, f10, s, A⟩
  apply Run.ok
  by_cases c : i < l.length
  · have c' : (i : Int) < l.length := by omega
    have w1 : IntKind.i64.wrap ((i : Int) + 1) = (i : Int) + 1 := wrap_i64 (by have := hs.1; omega) (by have := hs.1; omega)
    have ia := FIA (hv.same s) c
    have ag := FAG (hv.same s) c
    have hn := pickF_next (ps := ps) c
    have hx := hs.2 l[i] (List.getElem_mem _)
    have hle : (pickF ps (l.take i)).length ≤ 1000 := Nat.le_trans (pickF_le _ _) (by have := hs.1; simp; omega)
    generalize l[i] = x at ag hn hx
    have n0 := new0 g (.string (bs x.1)) (.string (bs x.2))
    have sn : Same g (g ++ [Blk.cells [.string (bs x.1), .string (bs x.2)] false none]) := Same.new _
    have s2 := s.trans sn
    have A2 := A.same sn
    have hB : (g ++ [Blk.cells [.string (bs x.1), .string (bs x.2)] false none])[g.length]? = some (.cells [.string (bs x.1), .string (bs x.2)] false none) := by simp
    have hlen2 : (g ++ [Blk.cells [.string (bs x.1), .string (bs x.2)] false none]).length = g.length + 1 := by simp
    have hgl := s.len
    simp [f1, f8, f9, f10, c', ia, ag, n0, spl, -load_ptr]
    refine after_call (any_ev x.1 (hw.same s2) (by omega) (by omega)) ?_
    rintro r h2 ⟨rfl, rfl⟩
    generalize g ++ [Blk.cells [Value.string (bs x.1), .string (bs x.2)] false none] = g2 at sn s2 A2 hB hlen2 ⊢
    cases hm : anyM ps x.1 with
    | false =>
      rw [hm] at hn
      simp only [Bool.false_eq_true, if_false, List.append_nil] at hn
      simp [f10, w1, -roundQ_normal, ↓rq]
      exact stop_intro ⟨l.length - (i + 1), by omega, i + 1, o, rfl, by omega, by simp [f1], by simp [f5], by simp [f8], by simp [f9], by simp, s2, by rw [hn]; exact A2⟩
    | true =>
      rw [hm] at hn
      simp only [if_true] at hn
      have lg : loadA Try.prog 57 (.pointer (some ⟨g.length, 0, none⟩)) g2 = some (.agg #[.string (bs x.1), .string (bs x.2)]) := by
        simp [loadA, hB]
      obtain ⟨o', g', e1, A', u'⟩ := appFs (A2.same (Same.new _)) (by simp; omega) (litF g2 x) (by simp; omega)
      have s' := Acc.since (A2.same (Same.new _)) (s2.trans (Same.new _)) u'
      rw [← hn] at A'
      simp [f5, f10, w1, lg, zeros, capO, spl, e1, -load_ptr, -roundQ_normal, ↓rq]
      exact stop_intro ⟨l.length - (i + 1), by omega, i + 1, o', rfl, by omega, by simp [f1], by simp, by simp [f8], by simp [f9], by simp, s', A'⟩
  · have c' : ¬ (i : Int) < l.length := by omega
    rw [List.take_of_length_le (by omega)] at A
    simp [f5, f9, f10, c']
    exact ⟨A, s⟩
theorem rpick17_ev (hv : FRow h v l) (hw : SRow h w ps) (hs : Small l) (hp : ps.length ≤ 1000000000) :
    EvA Try.prog 39 [v, w] (fun r h' => FAcc h.length h' r (pickF ps l) ∧ Same h h') h := by
  refine EvA.body Try.func39 rfl (by kernel_rfl) (by simp) ?_
  apply Run.ok
  simp
  refine WpA.loop (fun z fr g => ∃ i o, z = l.length - i ∧ i ≤ l.length ∧ fr 0 = v ∧ fr 1 = w ∧ fr 5 = o ∧ fr 6 = .int .i64 (i : Nat) ∧ Same h g ∧ FAcc h.length g o (pickF ps (l.take i)))
    (k := l.length) ⟨0, _, by simp, by omega, by simp, by simp, rfl, by simp, Same.refl, by rw [List.take_zero]; exact Acc.nil _⟩ ?_
  rintro z fr g ⟨i, o, rfl, hi, f0, f1, f5, f6, s, A⟩
  apply Run.ok
  have wl := FLen (hv.same s)
  by_cases c : i < l.length
  · have c' : (i : Int) < l.length := by omega
    have w1 : IntKind.i64.wrap ((i : Int) + 1) = (i : Int) + 1 := wrap_i64 (by have := hs.1; omega) (by have := hs.1; omega)
    have ia := FIA (hv.same s) c
    have ag := FAG (hv.same s) c
    have c0 := FC0 (hv.same s) c
    have hn := pickF_next (ps := ps) c
    have hx := hs.2 l[i] (List.getElem_mem _)
    have hle : (pickF ps (l.take i)).length ≤ 1000 := Nat.le_trans (pickF_le _ _) (by have := hs.1; simp; omega)
    generalize l[i] = x at ag c0 hn hx
    have hgl := s.len
    simp [f0, f1, f6, wl, c', ia, c0, -load_ptr]
    refine after_call (rany_ev x.1 (hw.same s) (by omega) (by omega)) ?_
    rintro r h2 ⟨rfl, rfl⟩
    cases hm : anyM ps x.1 with
    | false =>
      rw [hm] at hn
      simp only [Bool.false_eq_true, if_false, List.append_nil] at hn
      simp [f6, w1, -roundQ_normal, ↓rq]
      exact stop_intro ⟨l.length - (i + 1), by omega, i + 1, o, rfl, by omega, by simp [f0], by simp [f1], by simp [f5], by simp, s, by rw [hn]; exact A⟩
    | true =>
      rw [hm] at hn
      simp only [if_true] at hn
      obtain ⟨o', g', e1, A', u'⟩ := appFs (A.same (Same.new _)) (by simp; omega) (litF h2 x) (by simp; omega)
      have s' := Acc.since (A.same (Same.new _)) (s.trans (Same.new _)) u'
      rw [← hn] at A'
      simp [f0, f5, f6, w1, ia, ag, zeros, capO, spl, e1, -load_ptr, -roundQ_normal, ↓rq]
      exact stop_intro ⟨l.length - (i + 1), by omega, i + 1, o', rfl, by omega, by simp [f0], by simp [f1], by simp, by simp, s', A'⟩
  · have c' : ¬ (i : Int) < l.length := by omega
    rw [List.take_of_length_le (by omega)] at A
    simp [f0, f5, f6, wl, c']
    exact ⟨A, s⟩
theorem large17_ev (hv : FRow h v l) (hl : l.length ≤ 140737488355328) (hx : ∀ f ∈ l, f.1.length ≤ 140737488355328 ∧ f.2.length ≤ 140737488355328) :
    EvA Try.prog 28 [v] (fun r h' => (∃ b, r = .bool b ∧ (b = false → l.length ≤ 70 ∧ ∀ f ∈ l, f.1.length ≤ 70000 ∧ f.2.length ≤ 70000)) ∧ h' = h) h := by
  refine EvA.body Try.func28 rfl (by kernel_rfl) (by simp) ?_
  apply Run.ok
  have wl := FLen hv
  simp [wl]
  refine WpA.loop (fun z fr g => ∃ (i n : Nat), z = l.length - i ∧ i ≤ l.length ∧ n ≤ 500000000000000 ∧ fr 0 = v ∧ fr 3 = .int .i64 (n : Nat) ∧ fr 4 = .int .i64 (i : Nat) ∧ g = h ∧ ∀ f ∈ l.take i, f.1.length ≤ n ∧ f.2.length ≤ n)
    (k := l.length) ⟨0, l.length, by simp, by omega, by omega, by simp, by simp, by simp, rfl, by simp⟩ ?_
  rintro z fr g ⟨i, n, rfl, hi, hn, f0, f3, f4, rfl, hp⟩
  apply Run.ok
  by_cases c : i < l.length
  · have c' : (i : Int) < l.length := by omega
    by_cases d : n < 70000
    · have d' : (n : Int) < 70000 := by omega
      have w1 : IntKind.i64.wrap ((i : Int) + 1) = (i : Int) + 1 := wrap_i64 (by omega) (by omega)
      have ia := FIA hv c
      have c0 := FC0 hv c
      have c1 := FC1 hv c
      have htk := take_next c
      have hxi := hx l[i] (List.getElem_mem _)
      generalize l[i] = x at c0 c1 htk hxi
      have w2 : IntKind.i64.wrap ((n : Int) + (x.1.length : Nat)) = (n : Int) + (x.1.length : Nat) := wrap_i64 (by omega) (by omega)
      obtain ⟨q, hq⟩ : ∃ q : Nat, q = n + x.1.length + x.2.length := ⟨_, rfl⟩
      have w3 : IntKind.i64.wrap ((n : Int) + (x.1.length : Nat) + (x.2.length : Nat)) = (q : Int) := by rw [wrap_i64 (by omega) (by omega)]; omega
      simp [f0, f3, f4, wl, c', d', -load_ptr]
      refine WpA.drawnA [0, 1, 2, 3, 4, 5, 6, 7, 8, 9, 10, 11, 12, 13, 14, 15] [] (by kernel_rfl) (by decide +kernel) (by decide +kernel) ?_
      simp [f0, f3, f4, ia, c0, c1, w1, w2, w3, -load_ptr, -roundQ_normal, ↓rq]
      refine stop_intro ⟨l.length - (i + 1), by omega, i + 1, q, rfl, by omega, by omega, by simp [f0], by simp, by simp, rfl, fun f hf => ?_⟩
      rw [htk] at hf
      rcases List.mem_append.1 hf with h1 | h1
      · have := hp f h1; omega
      · simp only [List.mem_singleton] at h1; subst h1; omega
    · have d' : ¬ (n : Int) < 70000 := by omega
      have d2 : (70000 : Int) ≤ n := by omega
      by_cases e : 70 < l.length
      · have e' : (70 : Int) < l.length := by omega
        simp [f0, f3, f4, wl, c', d', e', -load_ptr]
      · have e' : ¬ (70 : Int) < l.length := by omega
        simp [f0, f3, f4, wl, c', d', d2, e', -load_ptr]
  · have c' : ¬ (i : Int) < l.length := by omega
    rw [List.take_of_length_le (by omega)] at hp
    by_cases e : 70 < l.length
    · have e' : (70 : Int) < l.length := by omega
      simp [f0, f4, wl, c', e', -load_ptr]
    · have e' : ¬ (70 : Int) < l.length := by omega
      by_cases d : 70000 ≤ n
      · have d' : (70000 : Int) ≤ n := by omega
        simp [f0, f3, f4, wl, c', d', e', -load_ptr]
      · have d' : ¬ (70000 : Int) ≤ n := by omega
        simp [f0, f3, f4, wl, c', d', e', -load_ptr]
        exact ⟨by omega, fun a b hf => by have := hp _ hf; simp at this; omega⟩
end
end Go.Proofs.Ytbamofeocfbjbaa
