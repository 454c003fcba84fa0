/- What an operation does to abstract values and blocks, and that the model's operation does the same: reading, writing, making memory; no condition. -/
import Derived.Test.YtojdhmkjegkfkaaAb0
import Derived.Laws.NewBlocks
namespace Go.Ab
open Go.RowKit

def ground : Value → Bool
  | .bool _ | .int .. | .string _ | .pointer none | .slice none 0 0 | .map none | .nilFunc | .nilIface => true
  | _ => false
def gr (v : Value) : Value := if ground v then v else any
theorem VRel.ground {μ : Emb} {v : Value} (h : ground v = true) : VRel μ v v := by
  unfold Ab.ground at h
  split at h <;> first | constructor | (simp at h)
theorem VRel.gr (μ : Emb) (v : Value) : VRel μ (gr v) v := by
  unfold Ab.gr
  split
  · exact VRel.ground ‹_›
  · exact .any v

abbrev Fr := Nat → Value
def evalA (fr : Fr) : Operand → Value
  | .tmp t => fr t
  | .const v => gr v
  | .global _ => any
  | .func f => .func (.func f) #[] #[]
/-- a frame of n slots -/
def FRel (μ : Emb) (n : Nat) (fr : Fr) (tmps : Array Value) : Prop := tmps.size = n ∧ ∀ i, VRel μ (fr i) (tmps.getD i undef)
theorem FRel.mono {μ μ' : Emb} (hm : ∀ b e, μ b = some e → μ' b = some e) {n : Nat} {fr : Fr} {tmps : Array Value} (h : FRel μ n fr tmps) : FRel μ' n fr tmps := ⟨h.1, fun i => (h.2 i).mono hm⟩
theorem VRel.eval {μ : Emb} {n : Nat} {fr : Fr} {a : Act} (h : FRel μ n fr a.tmps) (x : Operand) : VRel μ (evalA fr x) (a.eval x) := by
  cases x with
  | tmp t => exact h.2 t
  | const v => exact VRel.gr μ v
  | global g => exact .any _
  | func f => exact .func rfl rfl (by simp) (by simp)

/-- the cells of a value of which enough is known -/
def cellsOf : Value → Option (List Value)
  | .agg cs => some cs.toList
  | .tuple _ => none
  | .float _ _ => none
  | v => some [v]
/-- a value of one cell of which enough is known -/
def oneA : Value → Bool
  | .agg _ | .tuple _ | .float _ _ => false
  | _ => true
theorem VRel.cells {μ : Emb} {v v' : Value} {cs : List Value} (h : VRel μ v v') (hc : cellsOf v = some cs) : LRel μ cs v'.cells.toList := by
  cases h <;> simp [cellsOf] at hc <;> subst hc <;> try exact LRel.cons (by constructor <;> assumption) LRel.nil
  · rename_i h1 h3; exact ARel.of h1 h3
theorem VRel.one {μ : Emb} {v v' : Value} (h : VRel μ v v') (hc : oneA v = true) : v'.oneCell' = true := by
  cases h <;> simp_all [oneA, Value.oneCell']

/-- A value comes of it, or nothing does. -/
def Ran (P : Program) (μ : Emb) (h : Hp) (w : World) (s : Sem Value) (v : Value) (h' : Hp) : Prop :=
  ∃ μ' v' w', s.run P w = .ok v' w' ∧ VRel μ' v v' ∧ Step μ h w μ' h' w'
def RanU (P : Program) (μ : Emb) (h : Hp) (w : World) (s : Sem Unit) (h' : Hp) : Prop :=
  ∃ μ' w', s.run P w = .ok () w' ∧ Step μ h w μ' h' w'

section
variable {P : Program} {μ : Emb} {h : Hp} {w : World}

theorem Ran.pure (hr : HRel μ h w) {v v' : Value} {s : Sem Value} (hs : s.run P w = .ok v' w) (hv : VRel μ v v') : Ran P μ h w s v h :=
  ⟨μ, v', w, hs, hv, Step.refl hr⟩

theorem run_typeInfo {t : TypeId} {i : TypeInfo} (hi : P.info? t = some i) (w : World) : (typeInfo t).run P w = .ok i w := by
  simp [typeInfo, hi]
theorem run_sizeOf {t : TypeId} {i : TypeInfo} (hi : P.info? t = some i) (w : World) : (sizeOf t).run P w = .ok i.size w := by
  simp [sizeOf, run_typeInfo hi]
theorem run_zeroValue {t : TypeId} {i : TypeInfo} {z : Value} (hi : P.info? t = some i) (hz : i.zero = some z) (w : World) : (zeroValue t).run P w = .ok z w := by
  simp [zeroValue, run_typeInfo hi, hz]

/-- a type's cells, its bytes, its zero value's cells -/
def infoT (P : Program) (t : TypeId) : Option (Nat × Nat × Nat) := (P.info? t).bind fun i => i.zero.map fun z => (i.size, i.bytes, z.cells.size)
theorem infoT_inv {t : TypeId} {a b c : Nat} (hi : infoT P t = some (a, b, c)) : ∃ i z, P.info? t = some i ∧ i.zero = some z ∧ i.size = a ∧ i.bytes = b ∧ z.cells.size = c := by
  unfold infoT at hi
  obtain ⟨i, h1, h2⟩ := Option.bind_eq_some_iff.1 hi
  obtain ⟨z, h3, h4⟩ := Option.map_eq_some_iff.1 h2
  simp at h4
  exact ⟨i, z, h1, h3, h4.1, h4.2.1, h4.2.2⟩
def aggT (P : Program) (t : TypeId) : Option Bool :=
  match P.underlying t with
  | some (.struct _) | some (.array _ _) => some true
  | some _ => some false
  | none => none
def sizeT (P : Program) (t : TypeId) : Option Nat := (P.info? t).map (·.size)
theorem sizeT_run {t : TypeId} {n : Nat} (hs : sizeT P t = some n) (w : World) : (sizeOf t).run P w = .ok n w := by
  unfold sizeT at hs
  cases hi : P.info? t with
  | none => simp [hi] at hs
  | some i => simp [hi] at hs; subst hs; exact run_sizeOf hi w
theorem aggT_run {t : TypeId} {b : Bool} (hs : aggT P t = some b) (w : World) : (isAgg t).run P w = .ok b w := by
  unfold aggT at hs
  cases hu : P.underlying t with
  | none => simp [hu] at hs
  | some d =>
    rw [hu] at hs
    simp only [isAgg, Sem.run_bind, run_underlying hu, Result.andThen_ok]
    cases d <;> simp_all

/-! ### new rows -/
theorem Step.row (hr : HRel μ h w) (arr : Array Value) (elem : TypeId) (cs : List Value) (op : Option Nat) (k : Nat) (hlen : op = none → arr.size = cs.length)
    (hop : ∀ j, op = some j → k = j) (hle : cs.length ≤ arr.size) (hrel : ∀ (o : Nat) (v : Value), cs[o]? = some v → ∃ v', arr[o]? = some v' ∧ VRel μ v v') :
    Step μ h w (μ.put h.length ⟨w.heap.size, 0, arr.size, k⟩) (h ++ [.cells cs false op]) (w.alloc (.cells arr elem)) := by
  refine Step.new hr _ _ _ rfl ⟨hle, hlen, hop, ?_, ?_⟩
  · intro o v hv
    obtain ⟨v', h1, h2⟩ := hrel o v hv
    refine ⟨v', ?_, h2.mono (Emb.put_old hr _)⟩
    simp [h1]
  · intro _
    have hg : (w.alloc (.cells arr elem)).heap[w.heap.size]? = some (.cells arr elem (0, 0)) := by
      show (w.heap.push _)[w.heap.size]? = _
      simp
    exact ⟨arr, elem, 0, 0, hg, by simp, .inl rfl⟩

theorem ran_newRow (hr : HRel μ h w) (elem : TypeId) {cs : List Value} {arr : Array Value} (hrel : LRel μ cs arr.toList) :
    (newRow elem arr).run P w = .ok ⟨w.heap.size, 0, none⟩ (w.alloc (.cells arr elem)) ∧
    ∃ μ', Step μ h w μ' (h ++ [.cells cs false none]) (w.alloc (.cells arr elem)) ∧ μ' h.length = some ⟨w.heap.size, 0, arr.size, 0⟩ := by
  refine ⟨by simp [newRow], _, Step.row hr arr elem cs none 0 (fun _ => by have := hrel.1; simp at this; omega) (by simp) (by have := hrel.1; simp at this; omega) ?_, Emb.put_new _ _ _⟩
  intro o v hv
  obtain ⟨v', h1, h2⟩ := hrel.get hv
  exact ⟨v', by simpa using h1, h2⟩

theorem ran_newVar (hr : HRel μ h w) (elem : TypeId) {x x' : Value} {cs : List Value} (hv : VRel μ x x') (hc : cellsOf x = some cs) :
    Ran P μ h w (do Pure.pure (.pointer (some (← newVar elem x')))) (.pointer (some ⟨h.length, 0, none⟩)) (h ++ [.cells cs false none]) := by
  obtain ⟨h1, μ', h2, h3⟩ := ran_newRow (P := P) hr elem (hv.cells hc)
  have h4 := VRel.ptr (μ := μ') 0 h3
  exact ⟨μ', .pointer (some ⟨w.heap.size, 0, none⟩), _, by simp [newVar, h1], by simpa using h4, h2⟩

def boxA (x : Value) (h : Hp) : Option (Value × Hp) :=
  match cellsOf x with
  | some cs => some (.pointer (some ⟨h.length, 0, none⟩), h ++ [.cells cs false none])
  | none => none
theorem boxA_ok (hr : HRel μ h w) (elem : TypeId) {x x' v : Value} {h' : Hp} (hx : VRel μ x x') (hA : boxA x h = some (v, h')) : Ran P μ h w (Instr.box elem x') v h' := by
  unfold boxA at hA
  split at hA <;> simp at hA
  obtain ⟨rfl, rfl⟩ := hA
  exact ran_newVar hr elem hx ‹_›

def zeroT (P : Program) (t : TypeId) : Option (List Value) := ((P.info? t).bind (·.zero)).map fun z => z.cells.toList.map gr
theorem zeroT_run {t : TypeId} {cs : List Value} (hz : zeroT P t = some cs) : ∃ z, (∀ w, (zeroValue t).run P w = .ok z w) ∧ cs = z.cells.toList.map gr := by
  unfold zeroT at hz
  cases hi : P.info? t with
  | none => simp [hi] at hz
  | some i =>
    cases hz' : i.zero with
    | none => simp [hi, hz'] at hz
    | some z =>
      simp [hi, hz'] at hz
      exact ⟨z, fun w => run_zeroValue hi hz' w, hz.symm⟩
theorem LRel.grs (μ : Emb) (l : List Value) : LRel μ (l.map gr) l := by
  refine ⟨by simp, ?_⟩
  intro i x y hx hy
  simp [hy] at hx; subst hx; exact VRel.gr μ y

def allocA (P : Program) (t : TypeId) (h : Hp) : Option (Value × Hp) :=
  match zeroT P t with
  | some cs => some (.pointer (some ⟨h.length, 0, none⟩), h ++ [.cells cs false none])
  | none => none
theorem allocA_ok (hr : HRel μ h w) {t : TypeId} {v : Value} {h' : Hp} (hA : allocA P t h = some (v, h')) : Ran P μ h w (Instr.alloc t true (.tuple #[])) v h' := by
  unfold allocA at hA
  split at hA <;> simp at hA
  obtain ⟨rfl, rfl⟩ := hA
  obtain ⟨z, hz, hc⟩ := zeroT_run ‹_›
  obtain ⟨h1, μ', h2, h3⟩ := ran_newRow (P := P) hr t (LRel.grs μ z.cells.toList)
  subst hc
  have h4 := VRel.ptr (μ := μ') 0 h3
  exact ⟨μ', .pointer (some ⟨w.heap.size, 0, none⟩), _, by simp [Instr.alloc, hz, newVar, h1], by simpa using h4, h2⟩

/-! ### reading -/
theorem HRel.cell (hr : HRel μ h w) {b o : Nat} {e : Place} {cs : List Value} {ro : Bool} {op : Option Nat} {v : Value} (hb : μ b = some e) (hB : h[b]? = some (.cells cs ro op)) (hv : cs[o]? = some v) :
    ∃ v', w.cell? ⟨e.block, e.off + o, none⟩ = some v' ∧ VRel μ v v' :=
  (hr.obj b e _ hb hB).2.2.2.1 o v hv
theorem HRel.cells (hr : HRel μ h w) {b o n : Nat} {e : Place} {cs : List Value} {ro : Bool} {op : Option Nat} (hb : μ b = some e) (hB : h[b]? = some (.cells cs ro op)) (hn : o + n ≤ cs.length) :
    ∃ vs : List Value, (∀ w', w'.heap[e.block]? = w.heap[e.block]? → (loadCells ⟨e.block, e.off + o, none⟩ n).run P w' = .ok vs.toArray w') ∧ LRel μ ((cs.drop o).take n) vs := by
  have hall : ∀ j, j < n → ∃ v', w.cell? ⟨e.block, e.off + (o + j), none⟩ = some v' ∧ ∀ v, cs[o + j]? = some v → VRel μ v v' := by
    intro j hj
    have hlt : o + j < cs.length := by omega
    obtain ⟨v', h1, h2⟩ := hr.cell hb hB (List.getElem?_eq_getElem hlt)
    refine ⟨v', h1, fun v hv => ?_⟩
    rw [List.getElem?_eq_getElem hlt] at hv
    simp at hv; subst hv; exact h2
  let f : Nat → Value := fun j => (w.cell? ⟨e.block, e.off + (o + j), none⟩).getD any
  refine ⟨(List.range n).map f, ?_, ?_, ?_⟩
  · intro w' hw'
    refine run_loadCells w' _ n f fun j hj => ?_
    obtain ⟨v', h1, _⟩ := hall j hj
    rw [Addr.add_lit, cell?_congr (a := ⟨e.block, e.off + o + j, none⟩) hw']
    simp only [f, Nat.add_assoc, h1, Option.getD_some]
  · simp; omega
  · intro i x y hx hy
    have hi : i < n := by
      rcases Nat.lt_or_ge i n with h' | h'
      · exact h'
      · simp [h'] at hy
    rw [List.getElem?_take, if_pos hi, List.getElem?_drop] at hx
    obtain ⟨v', h1, h2⟩ := hall i hi
    simp [hi, f, h1] at hy
    subst hy
    exact h2 x hx

def loadA (P : Program) (t : TypeId) (p : Value) (h : Hp) : Option Value :=
  match p with
  | .pointer (some ⟨b, o, none⟩) =>
    match h[b]? with
    | some (.cells cs _ _) =>
      match aggT P t with
      | some false => cs[o]?
      | some true =>
        match sizeT P t with
        | some n => if o + n ≤ cs.length then some (.agg ((cs.drop o).take n).toArray) else none
        | none => none
      | none => none
    | _ => none
  | _ => none
theorem loadA_ok (hr : HRel μ h w) {t : TypeId} {p p' v : Value} (hp : VRel μ p p') (hA : loadA P t p h = some v) : ∃ v', (Instr.loadAt t p').run P w = .ok v' w ∧ VRel μ v v' := by
  unfold loadA at hA
  split at hA
  · rename_i b o
    split at hA
    · rename_i cs ro op hB
      cases hp with
      | ptr o hb =>
        rename_i e
        split at hA
        · rename_i ha
          obtain ⟨v', h1, h2⟩ := hr.cell hb hB hA
          refine ⟨v', ?_, h2⟩
          simp [Instr.loadAt, Instr.sureAddr, loadVar, aggT_run ha, h1]
        · rename_i ha
          split at hA
          · rename_i n hn
            split at hA
            · simp at hA; subst hA
              obtain ⟨vs, h1, h2⟩ := hr.cells (P := P) hb hB ‹_›
              refine ⟨.agg vs.toArray, ?_, LRel.agg (by simpa [ARel] using h2)⟩
              simp [Instr.loadAt, Instr.sureAddr, loadVar, aggT_run ha, sizeT_run hn, h1 w rfl]
            · simp at hA
          · simp at hA
        · simp at hA
    · simp at hA
  · simp at hA

/-! ### writing -/
theorem World.cell?_setCell' (w : World) (a c : Addr) (v : Value) (ha : a.spot = none) (hc : c.spot = none) (hs : (w.cell? a).isSome = true) :
    (w.setCell a v).cell? c = if c = a then some v else w.cell? c := by
  split
  · rename_i hca
    subst hca
    exact World.cell?_setCell_same' w c v hs
  · rename_i hca
    exact World.cell?_setCell_other w a c v (fun h => hca h.symm)
theorem World.frozen?_setCell' (w : World) (a c : Addr) (v : Value) : (w.setCell a v).frozen? c = w.frozen? c := by
  simp only [World.frozen?, World.setCell, Array.getElem?_modify]
  by_cases hb : a.block = c.block
  · rw [if_pos hb]
    cases hx : w.heap[c.block]? with
    | none => simp
    | some o => cases o <;> simp
  · rw [if_neg hb]

theorem HRel.set (hr : HRel μ h w) {b o : Nat} {e : Place} {cs : List Value} {op : Option Nat} {x x' : Value} (hb : μ b = some e) (hB : h[b]? = some (.cells cs false op)) (ho : o < cs.length)
    (hx : VRel μ x x') (h1 : x'.oneCell' = true) :
    (store ⟨e.block, e.off + o, none⟩ x').run P w = .ok () (w.setCell ⟨e.block, e.off + o, none⟩ x') ∧
    Step μ h w μ (h.set b (.cells (cs.set o x) false op)) (w.setCell ⟨e.block, e.off + o, none⟩ x') := by
  obtain ⟨g1, g2, g3, g4, g5⟩ := hr.obj b e _ hb hB
  have ho' : o < e.ext := by omega
  obtain ⟨s1, s2⟩ := rwcell (g5 rfl) o ho'
  obtain ⟨C, t, lo, hi, q1, q2, q3⟩ := g5 rfl
  refine ⟨?_, ?_⟩
  · rw [run_store P w _ x' .plain h1]
    obtain ⟨y, hy⟩ := Option.isSome_iff_exists.1 s1
    simp [hy, s2]
  · refine Step.write hr hb hB rfl _ (fun _ => rfl) rfl rfl rfl (by simp [World.setCell]) (fun k hk => Below.heap_setCell w _ _ k hk) ⟨by simpa using g1, by simpa using g2, g3, ?_, ?_⟩
    · intro i v hv
      rw [World.cell?_setCell' w _ _ x' rfl rfl s1]
      rw [List.getElem?_set] at hv
      by_cases hi : o = i
      · subst hi
        simp only [if_true] at hv
        rw [if_pos ho] at hv
        simp at hv; subst hv
        exact ⟨x', by simp, hx⟩
      · rw [if_neg hi] at hv
        obtain ⟨v', h2, h3⟩ := g4 i v hv
        refine ⟨v', ?_, h3⟩
        rw [if_neg (by simp; omega)]; exact h2
    · intro _
      refine ⟨C.setIfInBounds (e.off + o) x', t, lo, hi, ?_, by simpa using q2, by simpa using q3⟩
      simp [World.setCell, Array.getElem?_modify, q1]

/-- a row, some of its cells written over -/
def spl : List Value → Nat → List Value → List Value
  | cs, _, [] => cs
  | cs, o, x :: xs => spl (cs.set o x) (o + 1) xs
theorem spl_length (xs : List Value) : ∀ (cs : List Value) (o : Nat), (spl cs o xs).length = cs.length := by
  induction xs with
  | nil => intro cs o; rfl
  | cons x xs ih => intro cs o; simp [spl, ih]
theorem LRel.spl {μ : Emb} {xs xs' : List Value} : ∀ {cs cs' : List Value} (o : Nat), LRel μ cs cs' → LRel μ xs xs' → LRel μ (spl cs o xs) (spl cs' o xs') := by
  induction xs generalizing xs' with
  | nil => intro cs cs' o h hx; rw [LRel.nil_inv hx]; exact h
  | cons x xs ih =>
    intro cs cs' o h hx
    obtain ⟨y, ys, rfl, h1, h2⟩ := LRel.cons_inv hx
    exact ih (o + 1) (h.set o h1) h2

theorem ran_storeCells : ∀ (xs xs' : List Value) {h : Hp} {w : World} {cs : List Value} {b o i : Nat} {e : Place} {op : Option Nat}, HRel μ h w → μ b = some e → h[b]? = some (.cells cs false op) →
    o + i + xs.length ≤ cs.length → LRel μ xs xs' → xs.all oneA = true →
    ∃ w', (storeCells ⟨e.block, e.off + o, none⟩ xs' i).run P w = .ok () w' ∧ Step μ h w μ (h.set b (.cells (spl cs (o + i) xs) false op)) w' := by
  intro xs
  induction xs with
  | nil =>
    intro xs' h w cs b o i e op hr hb hB hl hx ho
    rw [LRel.nil_inv hx]
    refine ⟨w, by simp [storeCells], ?_⟩
    have : h.set b (.cells cs false op) = h := by
      apply List.ext_getElem?
      intro j
      rw [List.getElem?_set]
      split
      · rename_i hj; subst hj
        split
        · exact hB.symm
        · rename_i hj; simp [List.getElem?_eq_none (Nat.le_of_not_lt hj)] at hB
      · rfl
    simp only [spl, this]
    exact Step.refl hr
  | cons x xs ih =>
    intro xs' h w cs b o i e op hr hb hB hl hx ho
    obtain ⟨y, ys, rfl, h1, h2⟩ := LRel.cons_inv hx
    simp only [List.length_cons] at hl
    simp only [List.all_cons, Bool.and_eq_true] at ho
    obtain ⟨s1, s2⟩ := hr.set (P := P) hb hB (o := o + i) (by omega) h1 (h1.one ho.1)
    have hlt : b < h.length := (hr.dom b e hb).1
    obtain ⟨w', r1, r2⟩ := ih ys (h := h.set b (.cells (cs.set (o + i) x) false op)) (w := w.setCell ⟨e.block, e.off + (o + i), none⟩ y) (cs := cs.set (o + i) x) (b := b) (o := o) (i := i + 1) (e := e) (op := op)
      s2.rel hb (by rw [List.getElem?_set_self hlt]) (by simp; omega) h2 ho.2
    refine ⟨w', ?_, ?_⟩
    · simp only [storeCells, Sem.run_bind, Addr.add_lit]
      rw [Nat.add_assoc, s1, Result.andThen_ok]
      exact r1
    · have := s2.trans r2
      rw [List.set_set] at this
      simpa [spl, Nat.add_assoc] using this

def storeA (P : Program) (t : TypeId) (p x : Value) (h : Hp) : Option Hp :=
  match p with
  | .pointer (some ⟨b, o, none⟩) =>
    match h[b]? with
    | some (.cells cs false op) =>
      match cellsOf x with
      | some xs => if sizeT P t = some xs.length ∧ o + xs.length ≤ cs.length ∧ xs.all oneA = true then some (h.set b (.cells (spl cs o xs) false op)) else none
      | none => none
    | _ => none
  | _ => none
theorem storeA_ok (hr : HRel μ h w) {t : TypeId} {p p' x x' : Value} {h' : Hp} (hp : VRel μ p p') (hx : VRel μ x x') (hA : storeA P t p x h = some h') : RanU P μ h w (Instr.storeAt t p' x') h' := by
  unfold storeA at hA
  split at hA
  · split at hA
    · rename_i hB
      split at hA
      · rename_i xs hxs
        split at hA
        · rename_i hc
          obtain ⟨c1, c2, c3⟩ := hc
          simp at hA; subst hA
          cases hp with
          | ptr o hb =>
            have hrel := hx.cells hxs
            obtain ⟨w', r1, r2⟩ := ran_storeCells (P := P) xs x'.cells.toList (i := 0) hr hb hB (by simpa using c2) hrel c3
            refine ⟨μ, w', ?_, r2⟩
            have hsz : x'.cells.size = xs.length := by have := hrel.1; simp at this; omega
            simp [Instr.storeAt, Instr.sureAddr, storeVar, sizeT_run c1, hsz, r1]
        · simp at hA
      · simp at hA
    · simp at hA
  · simp at hA
end
end Go.Ab
