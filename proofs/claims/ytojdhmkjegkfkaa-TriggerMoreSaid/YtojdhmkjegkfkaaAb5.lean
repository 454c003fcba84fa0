/- What an operation does to abstract values and blocks, and that the model's operation does the same: append, copy, conversions; no condition. -/
import Derived.Test.YtojdhmkjegkfkaaAb4
namespace Go.Ab
open Go.RowKit
section
variable {P : Program} {μ : Emb} {h : Hp} {w : World}

theorem set_same {b : Nat} {B : Blk} (hB : h[b]? = some B) : h.set b B = h := by
  apply List.ext_getElem?
  intro j
  rw [List.getElem?_set]
  split
  · rename_i hj; subst hj
    split
    · exact hB.symm
    · rename_i hj; simp [List.getElem?_eq_none (Nat.le_of_not_lt hj)] at hB
  · rfl
theorem spl_tail (xs : List Value) : ∀ (a b : List Value), b.length = xs.length → spl (a ++ b) a.length xs = a ++ xs := by
  induction xs with
  | nil => intro a b hb; simp at hb; subst hb; simp [spl]
  | cons x xs ih =>
    intro a b hb
    cases b with
    | nil => simp at hb
    | cons y b =>
      have := ih (a ++ [x]) b (by simpa using hb)
      simp only [List.length_append, List.length_cons, List.length_nil, List.append_assoc, List.singleton_append] at this
      simp only [spl]
      rw [List.set_append_right _ _ (Nat.le_refl _), Nat.sub_self, List.set_cons_zero]
      exact this

/-- Less is known of a block's cells; more of them are told. -/
theorem Step.pad (hr : HRel μ h w) {b : Nat} {e : Place} {cs cs' : List Value} {k : Nat} (hb : μ b = some e) (hB : h[b]? = some (.cells cs false (some k))) (hl : cs'.length ≤ e.ext)
    (hc : ∀ (o : Nat) (v : Value), cs'[o]? = some v → v = any ∨ cs[o]? = some v) : Step μ h w μ (h.set b (.cells cs' false (some k))) w := by
  obtain ⟨g1, g2, g3, g4, g5⟩ := hr.obj b e _ hb hB
  refine Step.write hr hb hB rfl _ (fun _ => rfl) rfl rfl rfl rfl (fun _ _ => rfl) ⟨hl, by simp, g3, ?_, g5⟩
  intro o v hv
  rcases hc o v hv with rfl | h1
  · have ho : o < e.ext := by
      rcases Nat.lt_or_ge o cs'.length with h' | h'
      · omega
      · simp [List.getElem?_eq_none h'] at hv
    obtain ⟨y, hy⟩ := Option.isSome_iff_exists.1 (rwcell (g5 rfl) o ho).1
    exact ⟨y, hy, .any y⟩
  · exact g4 o v h1

/-- A block goes on under a new number, from one of its cells on. -/
theorem Step.shift (hr : HRel μ h w) {b o : Nat} {e : Place} {cs cs' : List Value} {k : Nat} (hb : μ b = some e) (hB : h[b]? = some (.cells cs false (some k))) (ho : o ≤ e.ext) (hl : cs' = cs.drop o) :
    Step μ h w (μ.put h.length ⟨e.block, e.off + o, e.ext - o, e.esz⟩) (h.set b .dead ++ [.cells cs' false (some k)]) w := by
  obtain ⟨g1, g2, g3, g4, g5⟩ := hr.obj b e _ hb hB
  refine Step.move hr hb hB rfl _ _ rfl (fun _ => rfl) rfl rfl rfl rfl (fun _ _ => rfl) ⟨by subst hl; simp; omega, by simp, g3, ?_, ?_⟩
  · intro i v hv
    subst hl
    rw [List.getElem?_drop] at hv
    obtain ⟨v', h1, h2⟩ := g4 _ v hv
    refine ⟨v', ?_, h2.mono (Emb.put_old hr _)⟩
    rw [Nat.add_assoc]; exact h1
  · intro _
    obtain ⟨C, t, lo, hi, q1, q2, q3⟩ := g5 rfl
    exact ⟨C, t, lo, hi, q1, by simp; omega, q3⟩

/-! ### what is appended, or copied -/
def byteV (b : UInt8) : Value := .int .u8 b.toNat
def srcA (z : Nat) (x : Value) (h : Hp) : Option (Nat × List Value) :=
  match x with
  | .slice none 0 0 => some (0, [])
  | .slice (some ⟨_, _, some _⟩) 0 0 => some (0, [])
  | .slice (some ⟨b, o, none⟩) n _ =>
    if n = 0 then some (0, []) else
    match h[b]? with
    | some (.cells cs _ _) => if o + n * z ≤ cs.length then some (n, (cs.drop o).take (n * z)) else none
    | _ => none
  | .string s => if z = 1 then some (s.size, s.data.toList.map byteV) else none
  | _ => none
/-- a slice's value, as it stands: where it begins (if it has elements), and how long it is -/
theorem VRel.slice_inv {b o n c : Nat} {x' : Value} (hx : VRel μ (.slice (some ⟨b, o, none⟩) n c) x') :
    ∃ e a c', μ b = some e ∧ x' = .slice (some a) n c' ∧ n ≤ c' ∧ (n ≠ 0 → a = ⟨e.block, e.off + o, none⟩) := by
  cases hx with
  | sl o n c hb hc hn => exact ⟨_, _, _, hb, rfl, hn, fun _ => rfl⟩
  | slO o n l c hb hn hl hx => exact ⟨_, _, _, hb, rfl, by omega, fun _ => rfl⟩
  | slE o o' hb => exact ⟨_, _, _, hb, rfl, by omega, fun h => absurd rfl h⟩
  | slZ o o' hb => exact ⟨_, _, _, hb, rfl, by omega, fun h => absurd rfl h⟩
theorem VRel.slice_inv2 {b o n c : Nat} {x' : Value} (hx : VRel μ (.slice (some ⟨b, o, none⟩) n c) x') : ∃ e o' c', μ b = some e ∧ x' = .slice (some ⟨e.block, o', none⟩) n c' := by
  cases hx with
  | sl o n c hb hc hn => exact ⟨_, _, _, hb, rfl⟩
  | slO o n l c hb hn hl hx => exact ⟨_, _, _, hb, rfl⟩
  | slE o o' hb => exact ⟨_, _, _, hb, rfl⟩
  | slZ o o' hb => exact ⟨_, _, _, hb, rfl⟩
theorem srcA_ok (hr : HRel μ h w) {z n : Nat} {x x' : Value} {xs : List Value} (hx : VRel μ x x') (hA : srcA z x h = some (n, xs)) :
    (∀ w', (Builtin.lenOf x').run P w' = .ok n w') ∧ xs.length = n * z ∧ ∀ k, k ≤ n → ∃ arr : Array Value, (∀ w', (∀ i, i < w.heap.size → w'.heap[i]? = w.heap[i]?) → (Builtin.firstCells z k x').run P w' = .ok arr w') ∧
      LRel μ (xs.take (k * z)) arr.toList := by
  unfold srcA at hA
  split at hA
  · simp at hA
    obtain ⟨rfl, rfl⟩ := hA
    cases hx
    exact ⟨fun w' => by simp [Builtin.lenOf], by simp, fun k hk => ⟨#[], fun w' _ => by simp [Builtin.firstCells], by simpa using LRel.nil⟩⟩
  · simp at hA
    obtain ⟨rfl, rfl⟩ := hA
    cases hx with
    | slD a =>
      refine ⟨fun w' => by simp [Builtin.lenOf], by simp, fun k hk => ⟨#[], fun w' _ => ?_, by simpa using LRel.nil⟩⟩
      have : k = 0 := by omega
      subst this
      simp [Builtin.firstCells, loadCells, loadCellsFrom]
  · rename_i b o n' c
    obtain ⟨e, a, c', hb, rfl, hc, ha⟩ := hx.slice_inv
    split at hA
    · rename_i h0
      simp at hA
      obtain ⟨rfl, rfl⟩ := hA
      subst h0
      refine ⟨fun w' => by simp [Builtin.lenOf], by simp, fun k hk => ⟨#[], fun w' _ => ?_, by simpa using LRel.nil⟩⟩
      have : k = 0 := by omega
      subst this
      simp [Builtin.firstCells, loadCells, loadCellsFrom]
    · rename_i h0
      split at hA
      · rename_i cs ro op hB
        split at hA
        · rename_i hle
          simp at hA
          obtain ⟨rfl, rfl⟩ := hA
          have ha' := ha h0
          subst ha'
          refine ⟨fun w' => by simp [Builtin.lenOf], by simp; omega, fun k hk => ?_⟩
          have hkz : k * z ≤ n' * z := Nat.mul_le_mul_right _ hk
          obtain ⟨vs, h1, h2⟩ := hr.cells (P := P) (o := o) (n := k * z) hb hB (by omega)
          refine ⟨vs.toArray, fun w' hw' => ?_, ?_⟩
          · simp only [Builtin.firstCells]
            exact h1 w' (hw' _ (hr.dom _ _ hb).2)
          · rw [List.take_take, Nat.min_eq_left hkz]
            simpa using h2
        · simp at hA
      · simp at hA
  · rename_i s
    split at hA
    · rename_i hz
      simp at hA
      obtain ⟨rfl, rfl⟩ := hA
      cases hx
      subst hz
      refine ⟨fun w' => by simp [Builtin.lenOf], by simp, fun k hk => ⟨(s.extract 0 k).data.map byteV, fun w' _ => by simp [Builtin.firstCells, byteV]; rfl, ?_⟩⟩
      have : (s.extract 0 k).data.toList = s.data.toList.take k := by
        rw [ByteArray.data_extract]
        simp [List.extract_eq_take_drop]
      rw [Nat.mul_one, Array.toList_map, this, ← List.map_take]
      refine ⟨rfl, fun i p q hp hq => ?_⟩
      have hpq : p = q := Option.some.inj (hp.symm.trans hq)
      subst hpq
      rw [List.getElem?_map] at hp
      obtain ⟨q, _, rfl⟩ := Option.map_eq_some_iff.1 hp
      exact .int _ _
    · simp at hA
  · simp at hA

/-! ### append -/
def oldsA (z n b o : Nat) (h : Hp) : Option (List Value) :=
  if n = 0 then some [] else
  match h[b]? with
  | some (.cells cs _ _) => if o + n * z ≤ cs.length then some ((cs.drop o).take (n * z)) else none
  | _ => none
def growA (z : Nat) (xs : List Value) (n : Nat) (h : Hp) : Value × Hp := (.slice (some ⟨h.length, 0, none⟩) n (capO + n), h ++ [.cells xs false (some z)])
def isSrc : TypeDesc → Bool
  | .slice _ | .string => true
  | _ => false
def appendA (P : Program) (t tx : TypeId) (s x : Value) (h : Hp) : Option (Value × Hp) :=
  match P.underlying t with
  | some (.slice e) =>
    match infoT P e, P.underlying tx with
    | some (sz, bytes, zs), some dx =>
      if isSrc dx = false then none else
      if zs ≠ sz then none else
      match srcA sz x h with
      | some (m, news) =>
        match s with
        | .slice none 0 0 => if m = 0 then some (.slice none 0 0, h) else if m * bytes ≤ 140737488355328 ∧ m < 4611686018427387904 then some (growA sz news m h) else none
        | .slice (some ⟨b, o, none⟩) n c =>
          if m = 0 then some (s, h) else
          if (n + m) * bytes ≤ 140737488355328 ∧ n + m < 4611686018427387904 then
            if c < capO then
              if n + m ≤ c then
                match h[b]? with
                | some (.cells cs false op) => if o + (n + m) * sz ≤ cs.length ∧ news.all oneA = true then some (.slice (some ⟨b, o, none⟩) (n + m) c, h.set b (.cells (spl cs (o + n * sz) news) false op)) else none
                | _ => none
              else
                match oldsA sz n b o h with
                | some olds => some (growA sz (olds ++ news) (n + m) h)
                | none => none
            else
              match h[b]? with
              | some (.cells cs false (some k)) =>
                if k = sz ∧ o + n * sz ≤ cs.length ∧ news.all oneA = true then
                  if n + m ≤ c - capO ∧ o + (n + m) * sz ≤ cs.length then some (.slice (some ⟨b, o, none⟩) (n + m) c, h.set b (.cells (spl cs (o + n * sz) news) false (some k)))
                  else some (growA sz ((cs.drop o).take (n * sz) ++ news) (n + m) (h.set b .dead))
                else none
              | _ => none
          else none
        | _ => none
      | none => none
    | _, _ => none
  | _ => none

theorem run_append_fits {t tx ty e : TypeId} {i : TypeInfo} {dx : TypeDesc} (hu : P.underlying t = some (.slice e)) (hi : P.info? e = some i) (hx : P.underlying tx = some dx) (hd : isSrc dx = true)
    {base : Option Addr} {n m c : Nat} {x' : Value} {arr : Array Value} {w' : World} (hl : (Builtin.lenOf x').run P w = .ok m w) (hfit : n + m ≤ c) (hf : (Builtin.firstCells i.size m x').run P w = .ok arr w)
    (hs : ∀ a, base = some a → (storeCells (a.add (n * i.size)) arr.toList).run P w = .ok () w') (hn : base = none → w' = w) :
    (Builtin.append_ #[t, tx] ty #[.slice base n c, x']).run P w = .ok (.slice base (n + m) c) w' := by
  cases dx <;> simp [isSrc] at hd
  all_goals
    cases base with
    | none =>
      have := hn rfl; subst this
      simp [Builtin.append_, run_underlying hu, run_underlying hx, run_sizeOf hi, hl, hfit, hf]
    | some a =>
      simp [Builtin.append_, run_underlying hu, run_underlying hx, run_sizeOf hi, hl, hfit, hf, hs a rfl]

theorem run_append_grows {t tx ty e : TypeId} {i : TypeInfo} {dx : TypeDesc} {z : Value} (hu : P.underlying t = some (.slice e)) (hi : P.info? e = some i) (hz : i.zero = some z) (hx : P.underlying tx = some dx) (hd : isSrc dx = true)
    {base : Option Addr} {n m c : Nat} {x' : Value} {olds news : Array Value} (hl : ∀ w, (Builtin.lenOf x').run P w = .ok m w) (hfit : ¬ n + m ≤ c)
    (hb1 : (n + m) * i.bytes ≤ 140737488355328) (hb2 : n + m < 4611686018427387904)
    (ho : (Builtin.firstCells i.size n (.slice base n c)).run P w.drew = .ok olds w.drew) (hf : (Builtin.firstCells i.size m x').run P w.drew = .ok news w.drew) :
    (Builtin.append_ #[t, tx] ty #[.slice base n c, x']).run P w =
      .ok (.slice (some ⟨w.heap.size, 0, none⟩) (n + m) (grownCap w (n + m) c e)) (w.drew.alloc (.cells (olds ++ news ++ Builtin.zeroCells z.cells (grownCap w (n + m) c e - (n + m))) e)) := by
  have h63 : ¬ (9223372036854775807 < ((n : Int) + (m : Int))) := by omega
  have hg := growslice_fits (old := c) (need := n + m) (bytes := i.bytes) (by omega) hb1
  have h48 : ¬ (281474976710656 < Builtin.nextslicecap (n + m) c * i.bytes) := by omega
  cases dx <;> simp [isSrc] at hd
  all_goals
    simp [Builtin.append_, run_underlying hu, run_underlying hx, run_sizeOf hi, run_typeInfo hi, run_zeroValue hi hz, hl, hfit, h63, h48, Question.forced, newRow, grownCap, ho, hf]

theorem grownCap_le' (w : World) (need old : Nat) (e : TypeId) : need ≤ grownCap w need old e := by
  simp only [grownCap, Question.cut]
  omega
/-- the step of an append that makes a new row -/
theorem Step.grow (hr : HRel μ h w) {e : TypeId} {z : Value} {n c size : Nat} {xs : List Value} {olds news : Array Value} (hzs : z.cells.size = size) (hlen : xs.length = n * size) (hx : LRel μ xs (olds ++ news).toList) :
    ∃ μ', Step μ h w μ' (growA size xs n h).2 (w.drew.alloc (.cells (olds ++ news ++ Builtin.zeroCells z.cells (grownCap w n c e - n)) e)) ∧
      VRel μ' (growA size xs n h).1 (.slice (some ⟨w.heap.size, 0, none⟩) n (grownCap w n c e)) := by
  have hsz : (olds ++ news ++ Builtin.zeroCells z.cells (grownCap w n c e - n)).size = grownCap w n c e * size := by
    have h1 : (olds ++ news).size = n * size := by have := hx.1; simp at this; simp; omega
    have h2 := grownCap_le' w n c e
    rw [Array.size_append, h1]
    simp only [Builtin.zeroCells, Array.size_map, Array.size_range, hzs]
    rw [← Nat.add_mul]; congr 1; omega
  have s2 := Step.row (Step.drew hr).rel (olds ++ news ++ Builtin.zeroCells z.cells (grownCap w n c e - n)) e xs (some size) size (by simp) (by simp) (by rw [hsz, hlen]; exact Nat.mul_le_mul_right _ (grownCap_le' w n c e)) (by
    intro o v hv
    obtain ⟨y, hy, hvy⟩ := hx.get hv
    refine ⟨y, ?_, hvy⟩
    rw [Array.getElem?_append_left (by
      rcases Nat.lt_or_ge o (olds ++ news).size with h' | h'
      · exact h'
      · rw [List.getElem?_eq_none (by simpa using h')] at hy; simp at hy)]
    rw [Array.getElem?_toList] at hy
    exact hy)
  refine ⟨_, (Step.drew hr).trans s2, ?_⟩
  have := VRel.slO (μ := μ.put h.length ⟨w.drew.heap.size, 0, (olds ++ news ++ Builtin.zeroCells z.cells (grownCap w n c e - n)).size, size⟩) (b := h.length) 0 n n (grownCap w n c e) (Emb.put_new _ _ _) (Nat.le_refl _) (grownCap_le' w n c e) (by simp only [hsz]; omega)
  simpa [growA] using this

theorem oldsA_ok (hr : HRel μ h w) {z n b o c : Nat} {e : Place} {a : Addr} {olds : List Value} (hb : μ b = some e) (ha : n ≠ 0 → a = ⟨e.block, e.off + o, none⟩) (hA : oldsA z n b o h = some olds) :
    olds.length = n * z ∧ ∃ arr : Array Value, (∀ w', (∀ i, i < w.heap.size → w'.heap[i]? = w.heap[i]?) → (Builtin.firstCells z n (.slice (some a) n c)).run P w' = .ok arr w') ∧ LRel μ olds arr.toList := by
  unfold oldsA at hA
  split at hA
  · rename_i h0
    subst h0
    simp at hA; subst hA
    exact ⟨by simp, #[], fun w' _ => by simp [Builtin.firstCells, loadCells, loadCellsFrom], by simpa using LRel.nil⟩
  · rename_i h0
    split at hA
    · rename_i cs ro op hB
      split at hA
      · rename_i hle
        simp at hA; subst hA
        obtain ⟨vs, h1, h2⟩ := hr.cells (P := P) (o := o) (n := n * z) hb hB hle
        refine ⟨by simp; omega, vs.toArray, fun w' hw' => ?_, by simpa using h2⟩
        rw [ha h0]
        simp only [Builtin.firstCells]
        exact h1 w' (hw' _ (hr.dom _ _ hb).2)
      · simp at hA
    · simp at hA

theorem step_draw_heap (w : World) : ∀ i, i < w.heap.size → w.drew.heap[i]? = w.heap[i]? := fun _ _ => rfl

theorem appendA_ok (hr : HRel μ h w) {t tx ty : TypeId} {s x s' x' v : Value} {h' : Hp} (hs : VRel μ s s') (hx : VRel μ x x') (hA : appendA P t tx s x h = some (v, h')) :
    Ran P μ h w (Builtin.append_ #[t, tx] ty #[s', x']) v h' := by
  unfold appendA at hA
  split at hA
  case h_2 => simp at hA
  rename_i e hu
  split at hA
  case h_2 => simp at hA
  rename_i sz bytes zs dx hinf htx
  obtain ⟨i, z, hi, hz, rfl, rfl, rfl⟩ := infoT_inv hinf
  split at hA
  case isTrue => simp at hA
  rename_i hd
  have hd : isSrc dx = true := by simpa using hd
  split at hA
  case isTrue => simp at hA
  rename_i hzz
  have hzs : z.cells.size = i.size := by simpa using hzz
  split at hA
  case h_2 => simp at hA
  rename_i m news hsrc
  obtain ⟨hl, hlen, hfc⟩ := srcA_ok (P := P) hr hx hsrc
  obtain ⟨arr, hf, hrel⟩ := hfc m (Nat.le_refl _)
  rw [List.take_of_length_le (by omega)] at hrel
  have hfw := hf w (fun _ _ => rfl)
  have hfd := hf w.drew (step_draw_heap w)
  split at hA
  case h_3 => simp at hA
  case h_1 =>
    cases hs
    split at hA
    · rename_i h0
      subst h0
      simp at hA
      obtain ⟨rfl, rfl⟩ := hA
      exact Ran.pure hr (v' := .slice none 0 0) (run_append_fits (n := 0) (m := 0) hu hi htx hd (hl w) (Nat.le_refl _) hfw (by simp) (fun _ => rfl)) .sl0
    · rename_i h0
      split at hA
      · rename_i hb
        simp only [Option.some.injEq] at hA
        have hrel' : LRel μ news (#[] ++ arr).toList := by simpa using hrel
        obtain ⟨μ', s1, s2⟩ := Step.grow (n := m) (c := 0) (e := e) hr hzs hlen hrel'
        rw [hA] at s1 s2
        refine ⟨μ', _, _, ?_, s2, s1⟩
        have := run_append_grows (P := P) (w := w) (ty := ty) (n := 0) (m := m) (c := 0) (base := none) (x' := x') (olds := #[]) (news := arr) hu hi hz htx hd hl (by omega) (by rw [Nat.zero_add]; exact hb.1) (by omega) (by simp [Builtin.firstCells]) hfd
        rw [Nat.zero_add] at this
        exact this
      · simp at hA
  case h_2 b o n c =>
    obtain ⟨p, a, c', hb, rfl, hc, ha⟩ := hs.slice_inv
    split at hA
    · rename_i h0
      subst h0
      simp at hA
      obtain ⟨rfl, rfl⟩ := hA
      have ha0 : arr.toList = [] := List.eq_nil_of_length_eq_zero (by rw [← hrel.1, hlen]; simp)
      exact Ran.pure hr (v' := .slice (some a) n c') (run_append_fits (n := n) (m := 0) hu hi htx hd (hl w) hc hfw (fun a' _ => by rw [ha0]; simp [storeCells]) (by simp)) hs
    · rename_i h0
      split at hA
      case isFalse => simp at hA
      rename_i hbd
      split at hA
      · rename_i hco
        split at hA
        · rename_i hfit
          split at hA
          · rename_i cs op hB
            split at hA
            · rename_i hok
              simp at hA
              obtain ⟨rfl, rfl⟩ := hA
              cases hs with
              | sl o n c hb' hc' hn =>
                have hbb := hb.symm.trans hb'
                simp at hbb
                subst hbb
                have haddr : (n + m) * i.size = n * i.size + m * i.size := Nat.add_mul _ _ _
                obtain ⟨w', r1, r2⟩ := ran_storeCells (P := P) news arr.toList (i := 0) (o := o + n * i.size) hr hb hB (by omega) hrel hok.2
                refine ⟨μ, .slice (some ⟨p.block, p.off + o, none⟩) (n + m) c, w', run_append_fits hu hi htx hd (hl w) hfit hfw (fun a' ha' => ?_) (by simp), .sl _ _ _ hb hc' hfit, r2⟩
                simp at ha'; subst ha'
                rw [Addr.add_lit, Nat.add_assoc]; exact r1
              | slO => omega
              | slE => omega
              | slZ => omega
            · simp at hA
          · simp at hA
        · rename_i hfit
          split at hA
          case h_2 => simp at hA
          rename_i olds holds
          simp only [Option.some.injEq] at hA
          obtain ⟨ol, oarr, of, orel⟩ := oldsA_ok (P := P) (c := c') hr hb ha holds
          have hcc : c' = c := by
            cases hs with
            | sl => rfl
            | slO => omega
            | slE => omega
            | slZ => rfl
          subst hcc
          have hrel' : LRel μ (olds ++ news) (oarr ++ arr).toList := by simpa using LRel.append orel hrel
          have haddr : (n + m) * i.size = n * i.size + m * i.size := Nat.add_mul _ _ _
          obtain ⟨μ', s1, s2⟩ := Step.grow (n := n + m) (c := c') (e := e) hr hzs (by simp; omega) hrel'
          rw [hA] at s1 s2
          exact ⟨μ', _, _, run_append_grows hu hi hz htx hd hl hfit hbd.1 hbd.2 (of _ (step_draw_heap w)) hfd, s2, s1⟩
      · rename_i hco
        split at hA
        case h_2 => simp at hA
        rename_i cs k hB
        split at hA
        case isFalse => simp at hA
        rename_i hok
        obtain ⟨hk, hle, hone⟩ := hok
        subst hk
        have hesz : p.esz = i.size := (hr.obj b p _ hb hB).2.2.1 _ rfl
        have haddr : (n + m) * i.size = n * i.size + m * i.size := Nat.add_mul _ _ _
        split at hA
        · rename_i hfit
          simp at hA
          obtain ⟨rfl, rfl⟩ := hA
          cases hs with
          | sl => omega
          | slZ => omega
          | slE => omega
          | slO o n l c' hb' hn hl' hx' =>
            have hbb := hb.symm.trans hb'
            simp at hbb
            subst hbb
            obtain ⟨w', r1, r2⟩ := ran_storeCells (P := P) news arr.toList (i := 0) (o := o + n * i.size) hr hb hB (by omega) hrel hone
            refine ⟨μ, .slice (some ⟨p.block, p.off + o, none⟩) (n + m) c', w', run_append_fits hu hi htx hd (hl w) (by omega) hfw (fun a' ha' => ?_) (by simp), .slO _ _ _ _ hb (by omega) hl' hx', r2⟩
            simp at ha'; subst ha'
            rw [Addr.add_lit, Nat.add_assoc]; exact r1
        · rename_i hfit
          simp only [Option.some.injEq] at hA
          have hold : oldsA i.size n b o h = some ((cs.drop o).take (n * i.size)) := by
            unfold oldsA
            split
            · rename_i h0; subst h0; simp
            · rw [hB]; simp [hle]
          obtain ⟨ol, oarr, of, orel⟩ := oldsA_ok (P := P) (c := c') hr hb ha hold
          have hrel' : LRel μ ((cs.drop o).take (n * i.size) ++ news) (oarr ++ arr).toList := by simpa using LRel.append orel hrel
          by_cases hroom : n + m ≤ c'
          · -- in place, beyond what is known of the block
            cases hs with
            | sl => omega
            | slZ => omega
            | slE => omega
            | slO o n l c' hb' hn hl' hx' =>
              have hbb := hb.symm.trans hb'
              simp at hbb
              subst hbb
              have hcm : (n + m) * i.size ≤ c' * i.size := Nat.mul_le_mul_right _ hroom
              rw [hesz] at hx'
              have s1 := Step.pad hr hb hB (cs' := cs.take (o + n * i.size) ++ List.replicate (m * i.size) any) (by simp; omega) (by
                intro j v hv
                rw [List.getElem?_append] at hv
                split at hv
                · rw [List.getElem?_take] at hv
                  split at hv
                  · exact .inr hv
                  · simp at hv
                · simp [List.getElem?_replicate] at hv
                  exact .inl hv.2.symm)
              have hlt : b < h.length := (hr.dom b p hb).1
              obtain ⟨w', r1, r2⟩ := ran_storeCells (P := P) news arr.toList (i := 0) (o := o + n * i.size) s1.rel hb (by rw [List.getElem?_set_self hlt]) (by simp; omega) hrel hone
              rw [List.set_set, Nat.add_zero] at r2
              have hspl : spl (cs.take (o + n * i.size) ++ List.replicate (m * i.size) any) (o + n * i.size) news = cs.take (o + n * i.size) ++ news := by
                have := spl_tail news (cs.take (o + n * i.size)) (List.replicate (m * i.size) any) (by simp; omega)
                rwa [List.length_take, Nat.min_eq_left hle] at this
              rw [hspl] at r2
              have s3 := Step.shift r2.rel hb (by rw [List.getElem?_set_self hlt]) (o := o) (cs' := (cs.drop o).take (n * i.size) ++ news) (by omega) (by
                rw [List.drop_append_of_le_length (by simp; omega), List.drop_take, Nat.add_sub_cancel_left])
              rw [List.set_set, List.length_set] at s3
              have s4 := (s1.trans r2).trans s3
              simp only [growA, Prod.mk.injEq] at hA
              obtain ⟨rfl, rfl⟩ := hA
              refine ⟨μ.put h.length ⟨p.block, p.off + o, p.ext - o, p.esz⟩, .slice (some ⟨p.block, p.off + o, none⟩) (n + m) c', w', run_append_fits hu hi htx hd (hl w) hroom hfw (fun a' ha' => ?_) (by simp), ?_, s4⟩
              · simp at ha'; subst ha'
                rw [Addr.add_lit, Nat.add_assoc]; exact r1
              · have := VRel.slO (μ := μ.put h.length ⟨p.block, p.off + o, p.ext - o, p.esz⟩) (b := h.length) 0 (n + m) (n + m) c' (Emb.put_new _ _ _) (Nat.le_refl _) hroom (by simp only [hesz]; omega)
                simpa using this
          · have s0 := Step.kill hr b
            obtain ⟨μ', s1, s2⟩ := Step.grow (n := n + m) (c := c') (e := e) s0.rel hzs (by simp; omega) hrel'
            rw [hA] at s1 s2
            exact ⟨μ', _, _, run_append_grows hu hi hz htx hd hl hroom hbd.1 hbd.2 (of _ (step_draw_heap w)) hfd, s2, s0.trans s1⟩
end
end Go.Ab
