/- A statement whose operations may come in several orders, on abstract values and blocks, and that the model's does the same in each of them; no condition. -/
import Derived.Test.YtojdhmkjegkfkaaAb11
import Derived.Orders
namespace Go.Ab
open Go.RowKit

/-- what an operation makes anew: the block, and the value by the block's number -/
def newA (P : Program) (ρ : Operand → Value) : Op → Option (Blk × (Nat → Value))
  | .alloc t => (zeroT P t).map fun cs => (.cells cs false none, fun i => .pointer (some ⟨i, 0, none⟩))
  | .box _ x => (cellsOf (ρ x)).map fun cs => (.cells cs false none, fun i => .pointer (some ⟨i, 0, none⟩))
  | .buildSlice t n parts =>
    match buildSliceA P t n (parts.toList.map fun p => (p.1, ρ p.2)) [] with
    | some (_, [B]) => some (B, fun i => .slice (some ⟨i, 0, none⟩) n n)
    | _ => none
  | .makeSlice t l c =>
    match makeSliceA P t (ρ l) (ρ c) [] with
    | some (.slice _ n m, [B]) => some (B, fun i => .slice (some ⟨i, 0, none⟩) n m)
    | _ => none
  | .makeMap _ none => some (.map [], fun i => .map (some i))
  | .convert s d x =>
    match P.underlying s, P.underlying d, ρ x with
    | some .string, some (.slice e), .string s =>
      match P.underlying e with
      | some (.int .u8) => if s.size < 4611686018427387904 then some (.cells (s.data.toList.map byteV) false (some 1), fun i => .slice (some ⟨i, 0, none⟩) s.size (capO + s.size)) else none
      | _ => none
    | _, _, _ => none
  | _ => none
section
variable {P : Program} {μ : Emb} {h : Hp} {w : World} {n : Nat}

theorem buildSliceA_heap {t : TypeId} {len : Nat} {parts : List (Nat × Value)} {v : Value} {B : Blk} (hA : buildSliceA P t len parts [] = some (v, [B])) (h : Hp) :
    buildSliceA P t len parts h = some (.slice (some ⟨h.length, 0, none⟩) len len, h ++ [B]) := by
  unfold buildSliceA at hA ⊢
  split at hA <;> try (simp at hA; done)
  rename_i e he
  try simp only [he]
  split at hA <;> try (simp at hA; done)
  rename_i sz z hs hz
  try simp only [hs, hz]
  split at hA <;> try (simp at hA; done)
  rename_i hc
  try rw [if_pos hc]
  split at hA <;> try (simp at hA; done)
  rename_i cs hcs
  simp at hA
  simp [hA.2]
theorem makeSliceA_heap {t : TypeId} {l c : Value} {a : Option Addr} {i j : Nat} {B : Blk} (hA : makeSliceA P t l c [] = some (.slice a i j, [B])) (h : Hp) :
    makeSliceA P t l c h = some (.slice (some ⟨h.length, 0, none⟩) i j, h ++ [B]) := by
  unfold makeSliceA at hA ⊢
  split at hA <;> try (simp at hA; done)
  rename_i e k1 l k2 c he
  try simp only [he]
  split at hA <;> try (simp at hA; done)
  rename_i sz by' zs z hs hz
  try simp only [hs, hz]
  split at hA <;> try (simp at hA; done)
  rename_i hc
  try rw [if_pos hc]
  simp at hA
  obtain ⟨⟨_, rfl, rfl⟩, rfl⟩ := hA
  rfl
theorem newA_op {ρ : Operand → Value} {o : Op} {B : Blk} {f : Nat → Value} (hA : newA P ρ o = some (B, f)) (h : Hp) : opA P ρ o h = some (.val (f h.length) (h ++ [B])) := by
  unfold newA at hA
  split at hA
  · obtain ⟨cs, hc, he⟩ := Option.map_eq_some_iff.1 hA
    simp at he
    obtain ⟨rfl, rfl⟩ := he
    simp [allocA, hc]
  · obtain ⟨cs, hc, he⟩ := Option.map_eq_some_iff.1 hA
    simp at he
    obtain ⟨rfl, rfl⟩ := he
    simp [boxA, hc]
  · split at hA
    · rename_i hb
      simp at hA
      obtain ⟨rfl, rfl⟩ := hA
      rw [opA_buildSlice, buildSliceA_heap hb h]
      rfl
    · simp at hA
  · split at hA
    · rename_i hb
      simp at hA
      obtain ⟨rfl, rfl⟩ := hA
      rw [opA_makeSlice, makeSliceA_heap hb h]
      rfl
    · simp at hA
  · simp at hA
    obtain ⟨rfl, rfl⟩ := hA
    rfl
  · split at hA
    · rename_i e s h1 h2 h3
      split at hA
      · rename_i he
        split at hA
        · rename_i hs
          simp at hA
          obtain ⟨rfl, rfl⟩ := hA
          simp [convA, h1, h2, h3, he, hs]
        · simp at hA
      · simp at hA
    · simp at hA
  · simp at hA

/-- each cell of the block stands for something -/
def GoodB (μ : Emb) : Blk → Prop
  | .cells cs _ _ => ∀ v ∈ cs, ∃ x, VRel μ v x
  | .map es => es = []
  | _ => False
theorem good_of_rel {cs : List Value} {vs : List Value} (hr : LRel μ cs vs) {ro : Bool} {op : Option Nat} : GoodB μ (.cells cs ro op) := by
  intro v hv
  obtain ⟨i, hi⟩ := List.mem_iff_getElem?.1 hv
  obtain ⟨y, _, hy⟩ := hr.get hi
  exact ⟨y, hy⟩
theorem gr_good (μ : Emb) (v : Value) : ∃ x, VRel μ (gr v) x := ⟨v, VRel.gr μ v⟩
theorem zeroT_good {t : TypeId} {cs : List Value} (hz : zeroT P t = some cs) : ∀ v ∈ cs, ∃ x, VRel μ v x := by
  obtain ⟨z, _, rfl⟩ := zeroT_run hz
  intro v hv
  obtain ⟨u, _, rfl⟩ := List.mem_map.1 hv
  exact gr_good μ u
theorem zeros_good {z : List Value} (hz : ∀ v ∈ z, ∃ x, VRel μ v x) (n : Nat) : ∀ v ∈ zeros z n, ∃ x, VRel μ v x := by
  induction n with
  | zero => intro v hv; simp [zeros] at hv
  | succ n ih =>
    intro v hv
    simp only [zeros, List.mem_append] at hv
    rcases hv with hv | hv
    · exact hz v hv
    · exact ih v hv
theorem spl_mem {xs : List Value} : ∀ {cs : List Value} {o : Nat} {v : Value}, v ∈ spl cs o xs → v ∈ cs ∨ v ∈ xs := by
  induction xs with
  | nil => intro cs o v hv; exact .inl hv
  | cons x xs ih =>
    intro cs o v hv
    rcases ih (cs := cs.set o x) hv with h1 | h1
    · rcases List.mem_or_eq_of_mem_set h1 with h2 | rfl
      · exact .inl h2
      · exact .inr (by simp)
    · exact .inr (by simp [h1])
theorem fillA_good {place : Nat → Option (Nat × Nat)} : ∀ (ps : List (Nat × Value)) (cs r : List Value), (∀ v ∈ cs, ∃ x, VRel μ v x) → (∀ p ∈ ps, ∃ x, VRel μ p.2 x) → fillA place cs ps = some r → ∀ v ∈ r, ∃ x, VRel μ v x := by
  intro ps
  induction ps with
  | nil => intro cs r hc _ hA; simp [fillA] at hA; subst hA; exact hc
  | cons p ps ih =>
    intro cs r hc hp hA
    obtain ⟨i, u⟩ := p
    simp only [fillA] at hA
    split at hA
    · rename_i off size xs hpl hxs
      split at hA
      · refine ih _ _ ?_ (fun q hq => hp q (by simp [hq])) hA
        intro v hv
        rcases spl_mem hv with h1 | h1
        · exact hc v h1
        · obtain ⟨x, hx⟩ := hp (i, u) (by simp)
          exact good_of_rel (ro := false) (op := none) (hx.cells hxs) v h1
      · simp at hA
    · simp at hA
theorem newA_good {fr : Fr} {a : Act} (hf : FRel μ n fr a.tmps) {o : Op} {B : Blk} {f : Nat → Value} (hA : newA P (evalA fr) o = some (B, f)) : GoodB μ B := by
  have ev : ∀ x, ∃ y, VRel μ (evalA fr x) y := fun x => ⟨_, VRel.eval hf x⟩
  unfold newA at hA
  split at hA
  · obtain ⟨cs, hc, he⟩ := Option.map_eq_some_iff.1 hA
    simp at he
    obtain ⟨rfl, rfl⟩ := he
    exact zeroT_good hc
  · obtain ⟨cs, hc, he⟩ := Option.map_eq_some_iff.1 hA
    simp at he
    obtain ⟨rfl, rfl⟩ := he
    obtain ⟨y, hy⟩ := ev ‹_›
    exact good_of_rel (hy.cells hc)
  · split at hA
    · rename_i hb
      simp at hA
      obtain ⟨rfl, rfl⟩ := hA
      unfold buildSliceA at hb
      split at hb <;> try (simp at hb; done)
      split at hb <;> try (simp at hb; done)
      rename_i hz
      split at hb <;> try (simp at hb; done)
      split at hb <;> try (simp at hb; done)
      rename_i cs hcs
      simp at hb
      obtain ⟨_, rfl⟩ := hb
      refine fillA_good _ _ _ (zeros_good (zeroT_good hz) _) ?_ hcs
      intro p hp
      obtain ⟨q, _, rfl⟩ := List.mem_map.1 hp
      exact ev q.2
    · simp at hA
  · split at hA
    · rename_i hb
      simp at hA
      obtain ⟨rfl, rfl⟩ := hA
      unfold makeSliceA at hb
      split at hb <;> try (simp at hb; done)
      split at hb <;> try (simp at hb; done)
      rename_i hz
      split at hb <;> try (simp at hb; done)
      simp at hb
      obtain ⟨_, rfl⟩ := hb
      exact zeros_good (zeroT_good hz) _
    · simp at hA
  · simp at hA
    obtain ⟨rfl, rfl⟩ := hA
    rfl
  · split at hA
    · split at hA
      · split at hA
        · simp at hA
          obtain ⟨rfl, rfl⟩ := hA
          intro v hv
          obtain ⟨b, _, rfl⟩ := List.mem_map.1 hv
          exact ⟨_, VRel.int _ _⟩
        · simp at hA
      · simp at hA
    · simp at hA
  · simp at hA
theorem newA_shape {ρ : Operand → Value} {o : Op} {B : Blk} {f : Nat → Value} (hA : newA P ρ o = some (B, f)) :
    (f = fun i => .pointer (some ⟨i, 0, none⟩)) ∨ (∃ n m, f = fun i => .slice (some ⟨i, 0, none⟩) n m) ∨ (f = fun i => .map (some i)) := by
  unfold newA at hA
  split at hA
  · obtain ⟨cs, hc, he⟩ := Option.map_eq_some_iff.1 hA; simp at he; exact .inl he.2.symm
  · obtain ⟨cs, hc, he⟩ := Option.map_eq_some_iff.1 hA; simp at he; exact .inl he.2.symm
  · split at hA <;> simp at hA; exact .inr (.inl ⟨_, _, hA.2.symm⟩)
  · split at hA <;> simp at hA; exact .inr (.inl ⟨_, _, hA.2.symm⟩)
  · simp at hA; exact .inr (.inr hA.2.symm)
  · split at hA <;> try (simp at hA; done)
    split at hA <;> try (simp at hA; done)
    split at hA <;> simp at hA
    exact .inr (.inl ⟨_, _, hA.2.symm⟩)
  · simp at hA
end
end Go.Ab
