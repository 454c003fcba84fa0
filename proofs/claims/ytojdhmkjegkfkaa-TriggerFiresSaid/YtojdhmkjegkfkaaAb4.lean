/- What an operation does to abstract values and blocks, and that the model's operation does the same: literals, make, conversions, append, copy; no condition. -/
import Derived.Test.YtojdhmkjegkfkaaAb3
import Derived.Laws.BytesString
import Derived.Laws.Append
namespace Go.Ab
open Go.RowKit
section
variable {P : Program} {μ : Emb} {h : Hp} {w : World}

/-! ### struct and slice literals -/
def fillA (place : Nat → Option (Nat × Nat)) : List Value → List (Nat × Value) → Option (List Value)
  | cs, [] => some cs
  | cs, (i, v) :: rest =>
    match place i, cellsOf v with
    | some (off, size), some xs => if xs.length = size ∧ off + xs.length ≤ cs.length then fillA place (spl cs off xs) rest else none
    | _, _ => none
def PRel (μ : Emb) (xs ys : List (Nat × Value)) : Prop := xs.length = ys.length ∧ ∀ (i : Nat) (x y : Nat × Value), xs[i]? = some x → ys[i]? = some y → x.1 = y.1 ∧ VRel μ x.2 y.2
theorem PRel.cons_inv {x : Nat × Value} {xs ys' : List (Nat × Value)} (h : PRel μ (x :: xs) ys') : ∃ y ys, ys' = y :: ys ∧ x.1 = y.1 ∧ VRel μ x.2 y.2 ∧ PRel μ xs ys := by
  cases ys' with
  | nil => simp [PRel] at h
  | cons y ys =>
    refine ⟨y, ys, rfl, (h.2 0 x y rfl rfl).1, (h.2 0 x y rfl rfl).2, by simpa using h.1, ?_⟩
    intro i a b ha hb
    exact h.2 (i + 1) a b (by simpa using ha) (by simpa using hb)
theorem foldl_spl (xs : List Value) : ∀ (cs : Array Value) (off k : Nat), (xs.zipIdx k).foldl (fun cs (p : Value × Nat) => cs.setIfInBounds (off + p.2) p.1) cs = (spl cs.toList (off + k) xs).toArray := by
  induction xs with
  | nil => intro cs off k; simp [spl]
  | cons x xs ih =>
    intro cs off k
    simp only [List.zipIdx_cons, List.foldl_cons]
    rw [ih]
    simp [spl, Array.toList_setIfInBounds, Nat.add_assoc]
theorem fillA_ok {place : Nat → Option (Nat × Nat)} : ∀ (ps ps' : List (Nat × Value)) (cs : List Value) (cs' : Array Value) (r : List Value), LRel μ cs cs'.toList → PRel μ ps ps' → fillA place cs ps = some r →
    ∃ r', Instr.fill place cs' ps' = some r' ∧ LRel μ r r'.toList := by
  intro ps
  induction ps with
  | nil =>
    intro ps' cs cs' r hc hp hA
    cases ps' with
    | nil => simp [fillA] at hA; subst hA; exact ⟨cs', rfl, hc⟩
    | cons _ _ => simp [PRel] at hp
  | cons p ps ih =>
    intro ps' cs cs' r hc hp hA
    obtain ⟨q, qs, rfl, h1, h2, h3⟩ := PRel.cons_inv hp
    obtain ⟨i, v⟩ := p
    obtain ⟨i', v'⟩ := q
    simp at h1 h2; subst h1
    simp only [fillA] at hA
    split at hA
    · rename_i off size xs hpl hxs
      split at hA
      · rename_i hc2
        have hrel := h2.cells hxs
        have hsz : v'.cells.size = xs.length := by have := hrel.1; simp at this; omega
        have hcs : cs.length = cs'.size := by have := hc.1; simpa using this
        have hf : (v'.cells.zipIdx.foldl (fun cs (p : Value × Nat) => cs.setIfInBounds (off + p.2) p.1) cs') = (spl cs'.toList off v'.cells.toList).toArray := by
          rw [← Array.foldl_toList, Array.toList_zipIdx]
          exact foldl_spl _ cs' off 0
        obtain ⟨r', e1, e2⟩ := ih qs (spl cs off xs) (spl cs'.toList off v'.cells.toList).toArray r (by simpa using LRel.spl off hc hrel) h3 hA
        refine ⟨r', ?_, e2⟩
        simp only [Instr.fill, hpl]
        rw [if_neg (by simp; omega)]
        rw [← hf] at e1
        exact e1
      · simp at hA
    · simp at hA

def placesA (P : Program) : List Field → Option (List (Nat × Nat))
  | [] => some []
  | f :: fs => match sizeT P f.type, placesA P fs with
    | some n, some l => some ((f.offset, n) :: l)
    | _, _ => none
theorem placesA_ok : ∀ (fs : List Field) (l : List (Nat × Nat)), placesA P fs = some l → ∀ w, (fs.mapM fun f => (do pure (f.offset, ← sizeOf f.type) : Sem (Nat × Nat))).run P w = .ok l w := by
  intro fs
  induction fs with
  | nil => intro l h w; simp [placesA] at h; subst h; simp
  | cons f fs ih =>
    intro l h w
    simp only [placesA] at h
    split at h
    · rename_i n l' hn hl
      simp at h; subst h
      rw [List.mapM_cons]
      simp only [Sem.run_bind, sizeT_run hn, Result.andThen_ok, Sem.run_pure, ih l' hl]
    · simp at h

def buildA (P : Program) (t : TypeId) (parts : List (Nat × Value)) : Option Value :=
  match P.underlying t, zeroT P t with
  | some (.struct fields), some zero =>
    match placesA P fields.toList with
    | some places => (fillA (places[·]?) zero parts).map fun cs => .agg cs.toArray
    | none => none
  | some (.array _ elem), some zero =>
    match sizeT P elem with
    | some size => (fillA (fun i => some (i * size, size)) zero parts).map fun cs => .agg cs.toArray
    | none => none
  | _, _ => none
theorem buildA_ok {t : TypeId} {parts : List (Nat × Value)} {parts' : Array (Nat × Value)} {v : Value} (hp : PRel μ parts parts'.toList) (hA : buildA P t parts = some v) (w : World) :
    ∃ v', (Instr.build t parts').run P w = .ok v' w ∧ VRel μ v v' := by
  unfold buildA at hA
  split at hA
  · rename_i fields zero hu hz
    obtain ⟨z, hzr, rfl⟩ := zeroT_run hz
    split at hA
    · rename_i places hpl
      obtain ⟨cs, hcs, rfl⟩ := Option.map_eq_some_iff.1 hA
      obtain ⟨r', e1, e2⟩ := fillA_ok (μ := μ) parts parts'.toList _ z.cells cs (LRel.grs μ _) hp hcs
      have hm := placesA_ok (P := P) fields.toList places hpl
      have hm' : ∀ w, (fields.mapM fun f => (do pure (f.offset, ← sizeOf f.type) : Sem (Nat × Nat))).run P w = .ok places.toArray w := by
        intro w
        rw [Array.mapM_eq_mapM_toList]
        simp only [Sem.run_map, hm w, Result.andThen_ok]
      refine ⟨.agg r', ?_, LRel.agg (by simpa [ARel] using e2)⟩
      have e1' : Instr.fill (fun x => places[x]?) z.cells parts'.toList = some r' := e1
      simp only [Instr.build, Sem.run_bind, hzr, Result.andThen_ok, run_underlying hu, hm']
      simp [e1']
    · simp at hA
  · rename_i n elem zero hu hz
    obtain ⟨z, hzr, rfl⟩ := zeroT_run hz
    split at hA
    · rename_i size hs
      obtain ⟨cs, hcs, rfl⟩ := Option.map_eq_some_iff.1 hA
      obtain ⟨r', e1, e2⟩ := fillA_ok (μ := μ) parts parts'.toList _ z.cells cs (LRel.grs μ _) hp hcs
      exact ⟨.agg r', by simp [Instr.build, hzr, run_underlying hu, sizeT_run hs, e1], LRel.agg (by simpa [ARel] using e2)⟩
    · simp at hA
  · simp at hA

/-- n elements of zero cells -/
def zeros (z : List Value) : Nat → List Value
  | 0 => []
  | n + 1 => z ++ zeros z n
theorem zeros_length (z : List Value) (n : Nat) : (zeros z n).length = n * z.length := by
  induction n with
  | zero => simp [zeros]
  | succ n ih => simp [zeros, ih, Nat.succ_mul, Nat.add_comm]
theorem zeros_get (z : List Value) : ∀ (n i : Nat), i < n * z.length → (zeros z n)[i]? = z[i % z.length]? := by
  intro n
  induction n with
  | zero => intro i hi; simp at hi
  | succ n ih =>
    intro i hi
    simp only [zeros, List.getElem?_append]
    split
    · rename_i h; rw [Nat.mod_eq_of_lt h]
    · rename_i h
      have h' : z.length ≤ i := Nat.le_of_not_lt h
      rw [ih (i - z.length) (by rw [Nat.succ_mul] at hi; omega), Nat.mod_eq_sub_mod h']
theorem zeros_rel (z : Array Value) (n m : Nat) (hm : m = n * z.size) : LRel μ (zeros (z.toList.map gr) n) (((Array.range m).map (z[· % z.size]!)).toList) := by
  refine ⟨by simp [zeros_length, hm], ?_⟩
  intro i x y hx hy
  have hi : i < m := by
    rcases Nat.lt_or_ge i m with h' | h'
    · exact h'
    · simp [h'] at hy
  rw [zeros_get _ _ _ (by simp; omega)] at hx
  simp at hx
  obtain ⟨a, ha, rfl⟩ := hx
  simp only [Array.toList_map, List.getElem?_map, Array.toList_range, List.getElem?_range hi, Option.map_some, Option.some.injEq] at hy
  subst hy
  have : z[i % z.size]! = a := by
    rw [Array.getElem!_eq_getD, Array.getD_eq_getD_getElem?, ha]; rfl
  rw [this]
  exact VRel.gr μ a

def buildSliceA (P : Program) (t : TypeId) (len : Nat) (parts : List (Nat × Value)) (h : Hp) : Option (Value × Hp) :=
  match P.underlying t with
  | some (.slice elem) =>
    match sizeT P elem, zeroT P elem with
    | some size, some zero =>
      if len * size ≤ 16777216 ∧ zero.length = size ∧ len < capO then
        match fillA (fun i => some (i * size, size)) (zeros zero len) parts with
        | some cs => some (.slice (some ⟨h.length, 0, none⟩) len len, h ++ [.cells cs false none])
        | none => none
      else none
    | _, _ => none
  | _ => none
theorem buildSliceA_ok (hr : HRel μ h w) {t : TypeId} {len : Nat} {parts : List (Nat × Value)} {parts' : Array (Nat × Value)} {v : Value} {h' : Hp} (hp : PRel μ parts parts'.toList)
    (hA : buildSliceA P t len parts h = some (v, h')) : Ran P μ h w (Instr.buildSlice t len parts') v h' := by
  unfold buildSliceA at hA
  split at hA
  · rename_i elem hu
    split at hA
    · rename_i size zero hs hz
      obtain ⟨z, hzr, rfl⟩ := zeroT_run hz
      split at hA
      · rename_i hc
        obtain ⟨c1, c2, c3⟩ := hc
        split at hA
        · rename_i cs hcs
          simp at hA
          obtain ⟨rfl, rfl⟩ := hA
          have hzs : z.cells.size = size := by simpa using c2
          obtain ⟨r', e1, e2⟩ := fillA_ok (μ := μ) parts parts'.toList _ _ cs (zeros_rel (μ := μ) z.cells len (len * size) (by rw [hzs])) hp hcs
          obtain ⟨n1, μ', n2, n3⟩ := ran_newRow (P := P) hr elem e2
          have hv := VRel.sl (μ := μ') 0 len len n3 c3 (Nat.le_refl _)
          refine ⟨μ', .slice (some ⟨w.heap.size, 0, none⟩) len len, _, ?_, by simpa using hv, n2⟩
          by_cases h0 : len * size = 0
          · have h0' : len = 0 ∨ size = 0 := Nat.mul_eq_zero.1 h0
            rw [h0] at e1
            simp only [Array.range_zero', Array.map_empty] at e1
            simp only [Instr.buildSlice, Sem.run_bind, run_underlying hu, Result.andThen_ok, sizeT_run hs]
            rw [h0]
            simp [Array.range_zero', e1, n1]
          · simp only [Instr.buildSlice, Sem.run_bind, run_underlying hu, Result.andThen_ok, sizeT_run hs]
            rw [if_neg (by omega), if_neg h0]
            simp [hzr, e1, n1]
        · simp at hA
      · simp at hA
    · simp at hA
  · simp at hA

def makeSliceA (P : Program) (t : TypeId) (l c : Value) (h : Hp) : Option (Value × Hp) :=
  match P.underlying t, l, c with
  | some (.slice elem), .int _ l, .int _ c =>
    match infoT P elem, zeroT P elem with
    | some (sz, bytes, _), some zero =>
      if 0 ≤ l ∧ l ≤ c ∧ bytes * c ≤ 281474976710656 ∧ zero.length = sz ∧ c < 4611686018427387904 then
        some (.slice (some ⟨h.length, 0, none⟩) l.toNat c.toNat, h ++ [.cells (zeros zero c.toNat) false none])
      else none
    | _, _ => none
  | _, _, _ => none
theorem wrap_i64_id {n : Int} (h0 : 0 ≤ n) (h1 : n < 4611686018427387904) : IntKind.i64.wrap n = n := by
  simp only [IntKind.wrap, IntKind.signed, IntKind.bits, IntKind.min, IntKind.max]
  simp
  omega
theorem makeSliceA_ok (hr : HRel μ h w) {t : TypeId} {l c l' c' v : Value} {h' : Hp} (hl : VRel μ l l') (hc : VRel μ c c') (hA : makeSliceA P t l c h = some (v, h')) :
    Ran P μ h w (Instr.makeSlice t l' c') v h' := by
  unfold makeSliceA at hA
  split at hA
  · rename_i elem kl l kc c hu
    split at hA
    · rename_i sz bytes zs zero hinf hz
      obtain ⟨i, zz, hi, _, rfl, rfl, _⟩ := infoT_inv hinf
      obtain ⟨z, hzr, rfl⟩ := zeroT_run hz
      split at hA
      · rename_i hb
        obtain ⟨b1, b2, b3, b4, b5⟩ := hb
        simp at hA
        obtain ⟨rfl, rfl⟩ := hA
        cases hl; cases hc
        have hzs : z.cells.size = i.size := by simpa using b4
        have hrel := zeros_rel (μ := μ) z.cells c.toNat (c.toNat * i.size) (by rw [hzs])
        obtain ⟨n1, μ', n2, n3⟩ := ran_newRow (P := P) hr elem hrel
        have hv := VRel.sl (μ := μ') 0 l.toNat c.toNat n3 (by simp [capO]; omega) (by omega)
        refine ⟨μ', .slice (some ⟨w.heap.size, 0, none⟩) l.toNat c.toNat, _, ?_, by simpa using hv, n2⟩
        have w1 := wrap_i64_id b1 (by omega : l < 4611686018427387904)
        have w2 := wrap_i64_id (by omega : 0 ≤ c) b5
        have g1 : ¬ (c < 0) := by omega
        have g2 : ¬ (281474976710656 < (i.bytes : Int) * c) := by omega
        have g3 : ¬ (l < 0) := by omega
        have g4 : ¬ (c < l) := by omega
        simp only [Instr.makeSlice, Sem.run_bind, run_underlying hu, Result.andThen_ok, asInt, asIntOf, Sem.run_pure, run_typeInfo hi, w1, w2]
        simp only [g1, g2, g3, g4, decide_false, Bool.or_false, Bool.false_eq_true, if_false, gt_iff_lt, Int.reducePow]
        simp only [Sem.run_bind, run_askRoom, Result.andThen_ok, run_sizeOf hi]
        by_cases h0 : c.toNat * i.size = 0
        · rw [if_pos h0]
          rw [h0] at n1
          simp only [Array.range_zero', Array.map_empty] at n1
          simp [h0, Array.range_zero', n1]
        · rw [if_neg h0]
          simp [hzr, n1]
      · simp at hA
    · simp at hA
  · simp at hA

def makeMapA (h : Hp) : Value × Hp := (.map (some h.length), h ++ [.map []])
theorem makeMapA_ok (hr : HRel μ h w) (t : TypeId) : Ran P μ h w (Instr.makeMap t none) (.map (some h.length)) (h ++ [.map []]) := by
  refine ⟨μ.put h.length ⟨w.heap.size, 0, 0, 0⟩, .map (some w.heap.size), w.alloc (.map #[] 0), by simp [Instr.makeMap], VRel.map (Emb.put_new _ _ _), Step.new hr _ _ _ rfl ⟨rfl, #[], 0, ?_, ?_⟩⟩
  · show (w.heap.push _)[w.heap.size]? = _
    simp
  · exact ⟨rfl, by simp, by simp, by simp⟩
end
end Go.Ab
