/- Statements whose order is drawn, with a table of what each operation comes behind; no condition. -/
import Derived.Test.YtaahkamnpobofaaAb32
namespace Go.Ab
section
variable {P : Program} {n : Nat} {ops : Array Oper}
def tabOk (ops : Array Oper) (tab : List (List Nat)) : Bool := (List.range ops.size).all fun i => (tab.getD i []).all fun j => (preds ops i).contains j || (preds ops i).any fun k => decide (k < i) && (tab.getD k []).contains j
theorem tabOk_spec {tab : List (List Nat)} (h : tabOk ops tab = true) : ∀ i, i < ops.size → ∀ fuel, i < fuel → ∀ j, j ∈ tab.getD i [] → j ∈ ancs ops fuel i := by
  intro i
  induction i using Nat.strongRecOn with
  | _ i ih =>
    intro hi fuel hf j hj
    obtain ⟨f, rfl⟩ : ∃ f, fuel = f + 1 := ⟨fuel - 1, by omega⟩
    have h1 := List.all_eq_true.1 (List.all_eq_true.1 h i (List.mem_range.2 hi)) j hj
    simp only [Bool.or_eq_true, List.contains_iff_mem, List.any_eq_true, Bool.and_eq_true, decide_eq_true_eq] at h1
    simp only [ancs, List.mem_flatMap, List.mem_cons]
    rcases h1 with h1 | ⟨k, hk, hki, hkj⟩
    · exact ⟨j, h1, .inl rfl⟩
    · exact ⟨k, hk, .inr (ih k hki (by omega) f (by omega) j hkj)⟩
def planOk2 (n : Nat) (ops : Array Oper) (c : List Nat) (tab : List (List Nat)) : Bool :=
  c.length == ops.size && decide c.Nodup && c.all (fun i => decide (i < ops.size)) && (List.range ops.size).all (fun i => c.contains i) &&
  c.all (fun i => (preds ops i).all fun j => c.idxOf j < c.idxOf i) &&
  c.all (fun e => !(((ops[e]?).map fun o => isEff o.op).getD false) || c.all fun j => c.idxOf j ≤ c.idxOf e || (preds ops j).any fun k => c.idxOf e ≤ c.idxOf k) &&
  (List.range ops.size).all (fun i => (dstOf ops i).all fun d => d < n) &&
  (List.range ops.size).all (fun i => (List.range ops.size).all fun j => i == j || (dstOf ops i).isNone || dstOf ops i != dstOf ops j) &&
  (List.range ops.size).all (fun i => (looks ops i).all fun t => (List.range ops.size).all fun j => dstOf ops j != some t || (c.idxOf j < c.idxOf i && (tab.getD i []).contains j) || (c.idxOf i < c.idxOf j && (tab.getD j []).contains i))
theorem planOk2_ok {c : List Nat} {tab : List (List Nat)} (ht : tabOk ops tab = true) (h : planOk2 n ops c tab = true) : planOk n ops c = true := by
  unfold planOk2 at h
  unfold planOk
  rw [Bool.and_eq_true] at h ⊢
  refine ⟨h.1, ?_⟩
  rw [List.all_eq_true]
  intro i hi
  rw [List.all_eq_true]
  intro t htt
  rw [List.all_eq_true]
  intro j hj
  have h2 := List.all_eq_true.1 (List.all_eq_true.1 (List.all_eq_true.1 h.2 i hi) t htt) j hj
  simp only [Bool.or_eq_true, Bool.and_eq_true, List.contains_iff_mem] at h2 ⊢
  have hi' := List.mem_range.1 hi
  have hj' := List.mem_range.1 hj
  rcases h2 with (h2 | ⟨h3, h4⟩) | ⟨h3, h4⟩
  · exact .inl (.inl h2)
  · exact .inl (.inr ⟨h3, tabOk_spec ht i hi' _ hi' j h4⟩)
  · exact .inr ⟨h3, tabOk_spec ht j hj' _ hj' i h4⟩
def ancOk2 (anc tab : List (List Nat)) (m : Nat) : Bool := (List.range m).all fun i => (anc.getD i []).all fun j => (tab.getD i []).contains j
theorem ancOk2_ok {anc tab : List (List Nat)} (ht : tabOk ops tab = true) (h : ancOk2 anc tab ops.size = true) : ancOk ops anc = true := by
  unfold ancOk
  rw [List.all_eq_true]
  intro i hi
  rw [List.all_eq_true]
  intro j hj
  have h2 := List.all_eq_true.1 (List.all_eq_true.1 h i hi) j hj
  rw [List.contains_iff_mem] at h2 ⊢
  exact tabOk_spec ht i (List.mem_range.1 hi) _ (List.mem_range.1 hi) j h2
/-- a statement whose order is drawn: with the table -/
theorem WpA.drawnT {id : Nat} {Q : QA} {fr : Fr} {h : Hp} (c : List Nat) (anc tab : List (List Nat)) (hm : P.follows .mixedOrders = true) (ht : tabOk ops tab = true) (hpl : planOk2 n ops c tab = true) (hanc : ancOk2 anc tab ops.size = true) (hc : drC P n ops anc (normK Q) c fr h (fun _ _ => True)) : WpA P n (.region id ops true) Q fr h :=
  WpA.drawnA c anc hm (planOk2_ok ht hpl) (ancOk2_ok ht hanc) hc
end
end Go.Ab
