/- Lists of files: size, what stands at a path, what is the same, what is picked; no condition. -/
import Derived.Test.YtbamofeocfbjbaaFilesC
import Derived.Test.YtbamofeocfbjbaaStrs
namespace Go.Proofs.Ytbamofeocfbjbaa
open Go.Ab Go.Glob
def cellF (f : Fl) : List Value := [.string (bs f.1), .string (bs f.2)]
abbrev FRow (h : Hp) (v : Value) (l : List Fl) : Prop := TRow h 2 v l cellF
theorem same_tail {h g : Hp} (s : Same h g) : ∃ t, g = h ++ t := by
  refine ⟨g.drop h.length, ?_⟩
  have h1 : g.take h.length = h := by
    apply List.ext_getElem?
    intro i
    rw [List.getElem?_take]
    split
    · rename_i hi
      exact s.2 i hi (fun h => h)
    · rename_i hi
      rw [List.getElem?_eq_none (by omega)]
  conv => lhs; rw [← List.take_append_drop h.length g, h1]
section
variable {h g : Hp} {v w : Value} {l m : List Fl} {i : Nat}
theorem FLen (hv : FRow h v l) : lenA Try.prog 44 v h = some (.int .i64 (l.length : Nat)) := hv.len (e := 57) (by simp)
theorem FIA (hv : FRow h v l) (hi : i < l.length) : indexAddrA Try.prog 44 v (.int .i64 (i : Nat)) = some (.pointer (some ⟨rbl v, rof v + i * 2, none⟩)) := hv.ia (e := 57) (by simp) (by simp) hi .i64
theorem FAG (hv : FRow h v l) (hi : i < l.length) : loadA Try.prog 57 (.pointer (some ⟨rbl v, rof v + i * 2, none⟩)) h = some (.agg #[.string (bs l[i].1), .string (bs l[i].2)]) := hv.agg (by simp) (by simp) hi
theorem FC0 (hv : FRow h v l) (hi : i < l.length) : loadA Try.prog 9 (.pointer (some ⟨rbl v, rof v + i * 2, none⟩)) h = some (.string (bs l[i].1)) := hv.cell0 (by simp) hi (by omega)
theorem FC1 (hv : FRow h v l) (hi : i < l.length) : loadA Try.prog 9 (.pointer (some ⟨rbl v, rof v + i * 2 + 1, none⟩)) h = some (.string (bs l[i].2)) := hv.cell (j := 1) (by simp) hi (by omega)
theorem new0 (g : Hp) (a b : Value) : loadA Try.prog 9 (.pointer (some ⟨g.length, 0, none⟩)) (g ++ [Blk.cells [a, b] false none]) = some a := by
  have hB : (g ++ [Blk.cells [a, b] false none])[g.length]? = some (.cells [a, b] false none) := by simp
  rw [load_at hB (by simp)]; rfl
theorem new1 (g : Hp) (a b : Value) : loadA Try.prog 9 (.pointer (some ⟨g.length, 1, none⟩)) (g ++ [Blk.cells [a, b] false none]) = some b := by
  have hB : (g ++ [Blk.cells [a, b] false none])[g.length]? = some (.cells [a, b] false none) := by simp
  rw [load_at hB (by simp)]; rfl
theorem take_next {α : Type} {l : List α} {i : Nat} (c : i < l.length) : l.take (i + 1) = l.take i ++ [l[i]] := by rw [List.take_add_one, List.getElem?_eq_getElem c]; rfl
/-- lists that a statement goes through -/
def Small (l : List Fl) : Prop := l.length ≤ 1000 ∧ ∀ f ∈ l, f.1.length ≤ 1000000 ∧ f.2.length ≤ 1000000
theorem sizeL_le (hs : ∀ f ∈ l, f.1.length ≤ 1000000 ∧ f.2.length ≤ 1000000) : sizeL l ≤ l.length * 1000000 := by
  induction l with
  | nil => simp [sizeL]
  | cons f l ih =>
    have h1 := hs f (by simp)
    have h2 := ih fun x hx => hs x (by simp [hx])
    simp only [sizeL, List.length_cons]
    omega
theorem size_ev (hv : FRow h v l) (hs : Small l) : EvA Try.prog 35 [v] (fun r h' => h' = h ∧ r = .int .i64 (sizeL l : Nat)) h := by
  refine EvA.forget (Q := fun r => r = .int .i64 (sizeL l : Nat)) ?_
  refine EvA.body Try.func35 rfl (by kernel_rfl) (by simp) ?_
  apply Run.ok
  have wl := FLen hv
  simp [wl]
  refine WpA.loop (fun z fr g => ∃ i, z = l.length - i ∧ i ≤ l.length ∧ fr 3 = .int .i64 (sizeL (l.take i) : Nat) ∧ fr 6 = v ∧ fr 7 = .int .i64 (l.length : Nat) ∧ fr 8 = .int .i64 (i : Nat) ∧ Same h g)
    (k := l.length) ⟨0, by simp, by omega, by simp [sizeL], by simp, by simp, by simp, Same.refl⟩ ?_
  rintro z fr g ⟨i, rfl, hi, f3, f6, f7, f8, s⟩
  apply Run.ok
  by_cases c : i < l.length
  · have c' : (i : Int) < l.length := by omega
    have w1 : IntKind.i64.wrap ((i : Int) + 1) = (i : Int) + 1 := wrap_i64 (by have := hs.1; omega) (by have := hs.1; omega)
    have ia := FIA (hv.same s) c
    have ag := FAG (hv.same s) c
    have htk := take_next c
    have hx := hs.2 l[i] (List.getElem_mem _)
    have hle : sizeL (l.take i) ≤ 1000000000 := by
      have := sizeL_le (l := l.take i) fun f hf => hs.2 f (List.mem_of_mem_take hf)
      have h2 : (l.take i).length ≤ 1000 := by have := hs.1; simp; omega
      omega
    generalize l[i] = x at ag htk hx
    have hsz : sizeL (l.take (i + 1)) = sizeL (l.take i) + x.2.length := by rw [htk, sizeL_append]; simp [sizeL]
    have w2 : IntKind.i64.wrap (((sizeL (l.take i) : Nat) : Int) + (x.2.length : Nat)) = ((sizeL (l.take (i + 1)) : Nat) : Int) := by rw [hsz, wrap_i64 (by omega) (by omega)]; simp
    have n1 := new1 g (.string (bs x.1)) (.string (bs x.2))
    simp [f3, f6, f7, f8, c', ia, ag, n1, w1, w2, spl, -load_ptr, -roundQ_normal, ↓rq]
    exact stop_intro ⟨l.length - (i + 1), by omega, i + 1, rfl, by omega, by simp, by simp [f6], by simp [f7], by simp, s.trans (Same.new _)⟩
  · have c' : ¬ (i : Int) < l.length := by omega
    rw [List.take_of_length_le (by omega)] at f3
    simp [f3, f7, f8, c', flat, ground]
    exact same_tail s
theorem rsize_ev (hv : FRow h v l) (hs : Small l) : EvA Try.prog 36 [v] (fun r h' => h' = h ∧ r = .int .i64 (sizeL l : Nat)) h := by
  refine EvA.body Try.func36 rfl (by kernel_rfl) (by simp) ?_
  apply Run.ok
  have wl := FLen hv
  simp
  refine WpA.loop (fun z fr g => ∃ i, z = l.length - i ∧ i ≤ l.length ∧ fr 0 = v ∧ fr 3 = .int .i64 (sizeL (l.take i) : Nat) ∧ fr 4 = .int .i64 (i : Nat) ∧ g = h)
    (k := l.length) ⟨0, by simp, by omega, by simp, by simp [sizeL], by simp, rfl⟩ ?_
  rintro z fr g ⟨i, rfl, hi, f0, f3, f4, rfl⟩
  apply Run.ok
  by_cases c : i < l.length
  · have c' : (i : Int) < l.length := by omega
    have w1 : IntKind.i64.wrap ((i : Int) + 1) = (i : Int) + 1 := wrap_i64 (by have := hs.1; omega) (by have := hs.1; omega)
    have ia := FIA hv c
    have c1 := FC1 hv c
    have htk := take_next c
    have hx := hs.2 l[i] (List.getElem_mem _)
    have hle : sizeL (l.take i) ≤ 1000000000 := by
      have := sizeL_le (l := l.take i) fun f hf => hs.2 f (List.mem_of_mem_take hf)
      have h2 : (l.take i).length ≤ 1000 := by have := hs.1; simp; omega
      omega
    generalize l[i] = x at c1 htk hx
    have hsz : sizeL (l.take (i + 1)) = sizeL (l.take i) + x.2.length := by rw [htk, sizeL_append]; simp [sizeL]
    have w2 : IntKind.i64.wrap (((sizeL (l.take i) : Nat) : Int) + (x.2.length : Nat)) = ((sizeL (l.take (i + 1)) : Nat) : Int) := by rw [hsz, wrap_i64 (by omega) (by omega)]; simp
    simp [f0, f3, f4, wl, c', ia, c1, w1, w2, -load_ptr, -roundQ_normal, ↓rq]
    exact stop_intro ⟨l.length - (i + 1), by omega, i + 1, rfl, by omega, by simp [f0], by simp, by simp, rfl⟩
  · have c' : ¬ (i : Int) < l.length := by omega
    rw [List.take_of_length_le (by omega)] at f3
    simp [f0, f3, f4, wl, c']
theorem full_ev (hv : FRow h v l) (hs : Small l) : EvA Try.prog 58 [v] (fun r h' => h' = h ∧ r = .int .i64 (fullE l : Nat)) h := by
  refine EvA.body Try.func58 rfl (by kernel_rfl) (by simp) ?_
  apply Run.ok
  have wl := FLen hv
  unfold fullE
  by_cases c : 64 < l.length
  · have c' : (64 : Int) < l.length := by omega
    simp [wl, c, c']
  · have c' : ¬ (64 : Int) < l.length := by omega
    simp [wl, c']
    refine after_call (size_ev hv hs) ?_
    rintro r h' ⟨rfl, rfl⟩
    by_cases d : 16384 < sizeL l
    · have d' : (16384 : Int) < (sizeL l : Nat) := by omega
      simp [d, d']
    · have d' : ¬ (16384 : Int) < (sizeL l : Nat) := by omega
      simp [c, d, d']
theorem file_ev (f : Fl) (h : Hp) : EvA Try.prog 57 [.agg #[.string (bs f.1), .string (bs f.2)]] (fun r h' => h' = h ∧ r = .int .i64 (fileE f : Nat)) h := by
  refine EvA.forget (Q := fun r => r = .int .i64 (fileE f : Nat)) ?_
  refine EvA.body Try.func57 rfl (by kernel_rfl) (by simp) ?_
  apply Run.ok
  simp
  refine after_call (path_ev f.1 _) ?_
  rintro r h' ⟨rfl, rfl⟩
  unfold fileE
  cases hp : pathB f.1 with
  | false => simp [flat, ground]
  | true =>
    by_cases c : 4096 < f.2.length
    · have c' : (4096 : Int) < f.2.length := by omega
      simp [c, c', flat, ground]
    · have c' : ¬ (4096 : Int) < f.2.length := by omega
      simp [c, c', flat, ground]
theorem rfile_ev (f : Fl) (h : Hp) : EvA Try.prog 59 [.agg #[.string (bs f.1), .string (bs f.2)]] (fun r h' => h' = h ∧ r = .int .i64 (fileE f : Nat)) h := by
  refine EvA.forget (Q := fun r => r = .int .i64 (fileE f : Nat)) ?_
  refine EvA.body Try.func59 rfl (by kernel_rfl) (by simp) ?_
  apply Run.ok
  simp
  refine after_call (rpath_ev f.1 _) ?_
  rintro r h' ⟨rfl, rfl⟩
  unfold fileE
  cases hp : pathB f.1 with
  | false => simp [flat, ground]
  | true =>
    by_cases c : 4096 < f.2.length
    · have c' : (4096 : Int) < f.2.length := by omega
      simp [c, c', flat, ground]
    · have c' : ¬ (4096 : Int) < f.2.length := by omega
      simp [c, c', flat, ground]
end
end Go.Proofs.Ytbamofeocfbjbaa
