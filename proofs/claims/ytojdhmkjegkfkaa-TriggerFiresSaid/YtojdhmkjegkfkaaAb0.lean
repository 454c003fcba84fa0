/- Abstract worlds: values whose addresses are block numbers of a list of blocks, and how they stand for values and worlds of the model; no condition. -/
import Derived.Below
import Derived.Laws.Cells
import Derived.Laws.Entries
namespace Go.Ab
open Go.RowKit

/-- Where an abstract block lies: its block, its first cell, how many cells are its own, and how many cells an element has (of a row whose end is open). -/
structure Place where
  block : Nat
  off : Nat
  ext : Nat
  esz : Nat
abbrev Emb := Nat → Option Place
/-- nothing is known of it -/
def any : Value := .tuple #[]
/-- what a skipped operation leaves -/
def sk : Value := .float .f32 0
/-- from here on a capacity says: at least so many more, up to the open end of its block -/
def capO : Nat := 4611686018427387904

inductive VRel (μ : Emb) : Value → Value → Prop where
  | any (v : Value) : VRel μ (.tuple #[]) v
  | sk : VRel μ (.float .f32 0) (.tuple #[])
  | bool (b : Bool) : VRel μ (.bool b) (.bool b)
  | int (k : IntKind) (n : Int) : VRel μ (.int k n) (.int k n)
  | string (s : ByteArray) : VRel μ (.string s) (.string s)
  | ptr0 : VRel μ (.pointer none) (.pointer none)
  | ptr {b : Nat} {e : Place} (o : Nat) (h : μ b = some e) : VRel μ (.pointer (some ⟨b, o, none⟩)) (.pointer (some ⟨e.block, e.off + o, none⟩))
  | sl0 : VRel μ (.slice none 0 0) (.slice none 0 0)
  | sl {b : Nat} {e : Place} (o n c : Nat) (h : μ b = some e) (hc : c < capO) (hn : n ≤ c) : VRel μ (.slice (some ⟨b, o, none⟩) n c) (.slice (some ⟨e.block, e.off + o, none⟩) n c)
  | slO {b : Nat} {e : Place} (o n l c : Nat) (h : μ b = some e) (hn : n ≤ l) (hl : l ≤ c) (hx : o + c * e.esz ≤ e.ext) : VRel μ (.slice (some ⟨b, o, none⟩) n (capO + l)) (.slice (some ⟨e.block, e.off + o, none⟩) n c)
  | slE {b : Nat} {e : Place} (o o' : Nat) (h : μ b = some e) : VRel μ (.slice (some ⟨b, o, none⟩) 0 capO) (.slice (some ⟨e.block, o', none⟩) 0 0)
  | slZ {b : Nat} {e : Place} (o o' : Nat) (h : μ b = some e) : VRel μ (.slice (some ⟨b, o, none⟩) 0 0) (.slice (some ⟨e.block, o', none⟩) 0 0)
  | slD (a : Addr) : VRel μ (.slice (some ⟨0, 0, some 0⟩) 0 0) (.slice (some a) 0 0)
  | map0 : VRel μ (.map none) (.map none)
  | map {b : Nat} {e : Place} (h : μ b = some e) : VRel μ (.map (some b)) (.map (some e.block))
  | func {f : Nat} {xs ys xs' ys' : Array Value} (h1 : xs.size = xs'.size) (h2 : ys.size = ys'.size)
      (h3 : ∀ (i : Nat) (x y : Value), xs[i]? = some x → xs'[i]? = some y → VRel μ x y) (h4 : ∀ (i : Nat) (x y : Value), ys[i]? = some x → ys'[i]? = some y → VRel μ x y) :
      VRel μ (.func (.func f) xs ys) (.func (.func f) xs' ys')
  | yield {b : Nat} {e : Place} (h : μ b = some e) : VRel μ (.func (.yield b) #[] #[]) (.func (.yield e.block) #[] #[])
  | nilFunc : VRel μ .nilFunc .nilFunc
  | nilIface : VRel μ .nilIface .nilIface
  | iface (t : TypeId) {x y : Value} (h : VRel μ x y) : VRel μ (.iface t x) (.iface t y)
  | agg {xs xs' : Array Value} (h1 : xs.size = xs'.size) (h3 : ∀ (i : Nat) (x y : Value), xs[i]? = some x → xs'[i]? = some y → VRel μ x y) : VRel μ (.agg xs) (.agg xs')
  | tup {xs xs' : Array Value} (h1 : xs.size = xs'.size) (h3 : ∀ (i : Nat) (x y : Value), xs[i]? = some x → xs'[i]? = some y → VRel μ x y) : VRel μ (.tuple xs) (.tuple xs')

theorem VRel.mono {μ μ' : Emb} (hm : ∀ b e, μ b = some e → μ' b = some e) {v v' : Value} (h : VRel μ v v') : VRel μ' v v' := by
  induction h with
  | any v => exact .any v
  | sk => exact .sk
  | bool b => exact .bool b
  | int k n => exact .int k n
  | string s => exact .string s
  | ptr0 => exact .ptr0
  | ptr o h => exact .ptr o (hm _ _ h)
  | sl0 => exact .sl0
  | sl o n c h hc hn => exact .sl o n c (hm _ _ h) hc hn
  | slO o n l c h hn hl hx => exact .slO o n l c (hm _ _ h) hn hl hx
  | slE o o' h => exact .slE o o' (hm _ _ h)
  | slZ o o' h => exact .slZ o o' (hm _ _ h)
  | slD a => exact .slD a
  | map0 => exact .map0
  | map h => exact .map (hm _ _ h)
  | func h1 h2 _ _ i3 i4 => exact .func h1 h2 i3 i4
  | yield h => exact .yield (hm _ _ h)
  | nilFunc => exact .nilFunc
  | nilIface => exact .nilIface
  | iface t _ ih => exact .iface t ih
  | agg h1 _ ih => exact .agg h1 ih
  | tup h1 _ ih => exact .tup h1 ih

/-- lists of values, one by one -/
def LRel (μ : Emb) (xs ys : List Value) : Prop := xs.length = ys.length ∧ ∀ (i : Nat) (x y : Value), xs[i]? = some x → ys[i]? = some y → VRel μ x y
def ARel (μ : Emb) (xs ys : Array Value) : Prop := LRel μ xs.toList ys.toList

theorem LRel.nil {μ : Emb} : LRel μ [] [] := ⟨rfl, by simp⟩
theorem LRel.cons {μ : Emb} {x y : Value} {xs ys : List Value} (h : VRel μ x y) (hs : LRel μ xs ys) : LRel μ (x :: xs) (y :: ys) := by
  refine ⟨by simp [hs.1], ?_⟩
  intro i a b ha hb
  cases i with
  | zero => simp at ha hb; subst ha; subst hb; exact h
  | succ i => simp at ha hb; exact hs.2 i a b ha hb
theorem LRel.cons_inv {μ : Emb} {x : Value} {xs ys' : List Value} (h : LRel μ (x :: xs) ys') : ∃ y ys, ys' = y :: ys ∧ VRel μ x y ∧ LRel μ xs ys := by
  cases ys' with
  | nil => simp [LRel] at h
  | cons y ys =>
    refine ⟨y, ys, rfl, h.2 0 x y rfl rfl, by simpa using h.1, ?_⟩
    intro i a b ha hb
    exact h.2 (i + 1) a b (by simpa using ha) (by simpa using hb)
theorem LRel.nil_inv {μ : Emb} {ys : List Value} (h : LRel μ [] ys) : ys = [] := List.eq_nil_of_length_eq_zero h.1.symm
theorem LRel.mono {μ μ' : Emb} (hm : ∀ b e, μ b = some e → μ' b = some e) {v v' : List Value} (h : LRel μ v v') : LRel μ' v v' :=
  ⟨h.1, fun i x y hx hy => (h.2 i x y hx hy).mono hm⟩
theorem LRel.get {μ : Emb} {xs ys : List Value} (h : LRel μ xs ys) {i : Nat} {x : Value} (hx : xs[i]? = some x) : ∃ y, ys[i]? = some y ∧ VRel μ x y := by
  have hi : i < xs.length := by
    rcases Nat.lt_or_ge i xs.length with h' | h'
    · exact h'
    · simp [List.getElem?_eq_none h'] at hx
  have hj : i < ys.length := by rw [← h.1]; exact hi
  exact ⟨ys[i], List.getElem?_eq_getElem hj, h.2 i x _ hx (List.getElem?_eq_getElem hj)⟩
theorem LRel.append {μ : Emb} {a b c d : List Value} (h : LRel μ a b) (h' : LRel μ c d) : LRel μ (a ++ c) (b ++ d) := by
  refine ⟨by simp [h.1, h'.1], ?_⟩
  intro i x y hx hy
  rw [List.getElem?_append] at hx hy
  rw [h.1] at hx
  split at hx
  · rename_i hi; rw [if_pos hi] at hy; exact h.2 i x y hx hy
  · rename_i hi; rw [if_neg hi] at hy; exact h'.2 _ x y hx hy
theorem LRel.take {μ : Emb} {a b : List Value} (h : LRel μ a b) (n : Nat) : LRel μ (a.take n) (b.take n) := by
  refine ⟨by simp [h.1], ?_⟩
  intro i x y hx hy
  rw [List.getElem?_take] at hx hy
  split at hx
  · rename_i hi; rw [if_pos hi] at hy; exact h.2 i x y hx hy
  · simp at hx
theorem LRel.drop {μ : Emb} {a b : List Value} (h : LRel μ a b) (n : Nat) : LRel μ (a.drop n) (b.drop n) := by
  refine ⟨by simp [h.1], ?_⟩
  intro i x y hx hy
  rw [List.getElem?_drop] at hx hy
  exact h.2 _ x y hx hy
theorem LRel.set {μ : Emb} {a b : List Value} (h : LRel μ a b) (n : Nat) {x y : Value} (hv : VRel μ x y) : LRel μ (a.set n x) (b.set n y) := by
  refine ⟨by simp [h.1], ?_⟩
  intro i p q hp hq
  rw [List.getElem?_set] at hp hq
  by_cases hi : n = i
  · subst hi
    simp only [if_true] at hp hq
    split at hp
    · split at hq
      · simp at hp hq; subst hp; subst hq; exact hv
      · simp at hq
    · simp at hp
  · rw [if_neg hi] at hp hq; exact h.2 _ p q hp hq
theorem LRel.replicate {μ : Emb} {x y : Value} (h : VRel μ x y) (n : Nat) : LRel μ (List.replicate n x) (List.replicate n y) := by
  refine ⟨by simp, ?_⟩
  intro i p q hp hq
  simp [List.getElem?_replicate] at hp hq
  rw [← hp.2, ← hq.2]; exact h
theorem LRel.agg {μ : Emb} {xs ys : Array Value} (h : ARel μ xs ys) : VRel μ (.agg xs) (.agg ys) :=
  .agg (by simpa using h.1) (fun i x y hx hy => h.2 i x y (by simpa using hx) (by simpa using hy))
theorem LRel.tup {μ : Emb} {xs ys : Array Value} (h : ARel μ xs ys) : VRel μ (.tuple xs) (.tuple ys) :=
  .tup (by simpa using h.1) (fun i x y hx hy => h.2 i x y (by simpa using hx) (by simpa using hy))
theorem ARel.of {μ : Emb} {xs ys : Array Value} (h1 : xs.size = ys.size) (h : ∀ (i : Nat) (x y : Value), xs[i]? = some x → ys[i]? = some y → VRel μ x y) : ARel μ xs ys :=
  ⟨by simpa using h1, fun i x y hx hy => h i x y (by simpa using hx) (by simpa using hy)⟩

/-- a loop over a function: how it stands, and what a round of it runs -/
structure LoopA where
  st : LoopState
  pend : Option Code
  n : Nat
  fr : Nat → Value
  ps : Array Tmp
  assign : Code
  body : Code
/-- A block: rows of cells (ro: it came in, nobody writes there; op: its end is open, for elements of so many cells), maps, iterators over strings. -/
inductive Blk where
  | dead
  | cells (cs : List Value) (ro : Bool) (op : Option Nat)
  | map (es : List (Value × Value))
  | siter (s : ByteArray) (pos : Nat)
  | loop (L : LoopA)
abbrev Hp := List Blk
def Blk.rw : Blk → Bool
  | .dead => false
  | .cells _ ro _ => !ro
  | _ => true
def Blk.live : Blk → Bool
  | .dead => false
  | _ => true

/-- the entries of a map, one by one, in the order in which they were put -/
structure ERel (μ : Emb) (es : List (Value × Value)) (l : List MapEntry) (clock : Nat) : Prop where
  len : es.length = l.length
  each : ∀ (i : Nat) (x : Value × Value) (e : MapEntry), es[i]? = some x → l[i]? = some e → VRel μ x.1 e.key ∧ VRel μ x.2 e.val
  born : ∀ (i : Nat) (e : MapEntry), l[i]? = some e → e.born < clock
  once : ∀ (i j : Nat) (e f : MapEntry), i < j → l[i]? = some e → l[j]? = some f → e.born < f.born

def ORel (μ : Emb) (e : Place) (B : Blk) (w : World) : Prop :=
  match B with
  | .dead => True
  | .cells cs ro op =>
    cs.length ≤ e.ext ∧ (op = none → e.ext = cs.length) ∧ (∀ k, op = some k → e.esz = k) ∧
    (∀ (o : Nat) (v : Value), cs[o]? = some v → ∃ v', w.cell? ⟨e.block, e.off + o, none⟩ = some v' ∧ VRel μ v v') ∧
    (ro = false → ∃ C t lo hi, w.heap[e.block]? = some (.cells C t (lo, hi)) ∧ e.off + e.ext ≤ C.size ∧ (hi = lo ∨ C.size ≤ lo))
  | .map es => e.off = 0 ∧ ∃ l clock, w.heap[e.block]? = some (.map l clock) ∧ ERel μ es l.toList clock
  | .siter s pos => e.off = 0 ∧ w.heap[e.block]? = some (.stringIter s pos)
  | .loop L => e.off = 0 ∧ ∃ r : Loop, w.heap[e.block]? = some (.loop r) ∧ r.state = L.st ∧ r.pending = L.pend ∧ r.params = L.ps ∧ r.assign = L.assign ∧ r.body = L.body ∧ r.tmps.size = L.n ∧
      ∀ i, VRel μ (L.fr i) (r.tmps.getD i undef)

structure HRel (μ : Emb) (h : Hp) (w : World) : Prop where
  dom : ∀ b e, μ b = some e → b < h.length ∧ e.block < w.heap.size
  obj : ∀ b e B, μ b = some e → h[b]? = some B → ORel μ e B w
  sep : ∀ b c e f B C, b ≠ c → μ b = some e → μ c = some f → h[b]? = some B → h[c]? = some C → B.rw = true → C.live = true → e.block ≠ f.block

/-- a cell of a block of the call's own: there, and free -/
theorem rwcell {w : World} {e : Place} (h : ∃ C t lo hi, w.heap[e.block]? = some (.cells C t (lo, hi)) ∧ e.off + e.ext ≤ C.size ∧ (hi = lo ∨ C.size ≤ lo)) (o : Nat) (ho : o < e.ext) :
    (w.cell? ⟨e.block, e.off + o, none⟩).isSome = true ∧ w.frozen? ⟨e.block, e.off + o, none⟩ = false := by
  obtain ⟨C, t, lo, hi, h1, h2, h3⟩ := h
  constructor
  · simp only [World.cell?, h1]
    simp; omega
  · simp only [World.frozen?, h1]
    simp; omega

/-- the blocks of the world that are the call's own to write -/
def Own (μ : Emb) (h : Hp) (k : Nat) : Prop := ∃ b e B, μ b = some e ∧ h[b]? = some B ∧ B.rw = true ∧ e.block = k

structure Keeps (S : Nat → Prop) (w w' : World) : Prop where
  os : w'.os = w.os
  tape : w'.tape = w.tape
  output : w'.output = w.output
  size : w.heap.size ≤ w'.heap.size
  block : ∀ k, k < w.heap.size → ¬ S k → w'.heap[k]? = w.heap[k]?
theorem Keeps.refl (S : Nat → Prop) (w : World) : Keeps S w w := ⟨rfl, rfl, rfl, Nat.le_refl _, fun _ _ _ => rfl⟩

structure Step (μ : Emb) (h : Hp) (w : World) (μ' : Emb) (h' : Hp) (w' : World) : Prop where
  sub : ∀ b, b < h.length → μ' b = μ b
  len : h.length ≤ h'.length
  rel : HRel μ' h' w'
  keeps : Keeps (Own μ h) w w'
  own : ∀ k, Own μ' h' k → Own μ h k ∨ w.heap.size ≤ k
theorem Step.refl {μ : Emb} {h : Hp} {w : World} (hr : HRel μ h w) : Step μ h w μ h w :=
  ⟨fun _ _ => rfl, Nat.le_refl _, hr, Keeps.refl _ _, fun _ h => .inl h⟩
theorem Step.up {μ μ' : Emb} {h h' : Hp} {w w' : World} (hr : HRel μ h w) (s : Step μ h w μ' h' w') (b : Nat) (e : Place) (hb : μ b = some e) : μ' b = some e :=
  (s.sub b (hr.dom b e hb).1).trans hb
theorem Step.trans {μ μ' μ'' : Emb} {h h' h'' : Hp} {w w' w'' : World} (s : Step μ h w μ' h' w') (t : Step μ' h' w' μ'' h'' w'') : Step μ h w μ'' h'' w'' := by
  refine ⟨fun b hb => (t.sub b (Nat.lt_of_lt_of_le hb s.len)).trans (s.sub b hb), Nat.le_trans s.len t.len, t.rel, ?_, ?_⟩
  · refine ⟨t.keeps.os.trans s.keeps.os, t.keeps.tape.trans s.keeps.tape, t.keeps.output.trans s.keeps.output, Nat.le_trans s.keeps.size t.keeps.size, ?_⟩
    intro k hk hn
    refine (t.keeps.block k (Nat.lt_of_lt_of_le hk s.keeps.size) ?_).trans (s.keeps.block k hk hn)
    intro ho
    rcases s.own k ho with h1 | h1
    · exact hn h1
    · omega
  · intro k hk
    rcases t.own k hk with h1 | h1
    · exact s.own k h1
    · exact .inr (Nat.le_trans s.keeps.size h1)

theorem cell?_congr {w w' : World} {a : Addr} (h : w'.heap[a.block]? = w.heap[a.block]?) : w'.cell? a = w.cell? a := by simp [World.cell?, h]
theorem frozen?_congr {w w' : World} {a : Addr} (h : w'.heap[a.block]? = w.heap[a.block]?) : w'.frozen? a = w.frozen? a := by simp [World.frozen?, h]

theorem ERel.mono {μ μ' : Emb} (hm : ∀ b e, μ b = some e → μ' b = some e) {es l c} (h : ERel μ es l c) : ERel μ' es l c :=
  ⟨h.len, fun i x e hx he => ⟨(h.each i x e hx he).1.mono hm, (h.each i x e hx he).2.mono hm⟩, h.born, h.once⟩

theorem ORel.congr {μ μ' : Emb} {e : Place} {B : Blk} {w w' : World} (hm : ∀ b e, μ b = some e → μ' b = some e) (hb : B.live = true → w'.heap[e.block]? = w.heap[e.block]?)
    (h : ORel μ e B w) : ORel μ' e B w' := by
  cases B with
  | dead => trivial
  | cells cs ro op =>
    obtain ⟨h1, h2, h3, h4, h5⟩ := h
    have hb := hb rfl
    refine ⟨h1, h2, h3, ?_, ?_⟩
    · intro o v hv
      obtain ⟨v', hc, hv'⟩ := h4 o v hv
      exact ⟨v', (cell?_congr (a := ⟨e.block, e.off + o, none⟩) hb).trans hc, hv'.mono hm⟩
    · intro hro
      rw [hb]
      exact h5 hro
  | map es =>
    obtain ⟨h1, l, c, h2, h3⟩ := h
    exact ⟨h1, l, c, (hb rfl).trans h2, h3.mono hm⟩
  | siter s pos => exact ⟨h.1, (hb rfl).trans h.2⟩
  | loop L =>
    obtain ⟨h1, r, h2, h3, h4, h5, h6, h7, h8, h9⟩ := h
    exact ⟨h1, r, (hb rfl).trans h2, h3, h4, h5, h6, h7, h8, fun i => (h9 i).mono hm⟩

/-- The world has changed, but no live block. -/
theorem HRel.world {μ : Emb} {h : Hp} {w w' : World} (hr : HRel μ h w) (hs : w.heap.size ≤ w'.heap.size)
    (hb : ∀ b e B, μ b = some e → h[b]? = some B → B.live = true → w'.heap[e.block]? = w.heap[e.block]?) : HRel μ h w' :=
  ⟨fun b e he => ⟨(hr.dom b e he).1, Nat.lt_of_lt_of_le (hr.dom b e he).2 hs⟩,
   fun b e B he hB => (hr.obj b e B he hB).congr (fun _ _ h => h) (hb b e B he hB), hr.sep⟩

theorem Own.dom {μ : Emb} {h : Hp} {w : World} (hr : HRel μ h w) {k : Nat} (ho : Own μ h k) : k < w.heap.size := by
  obtain ⟨b, e, B, hb, _, _, rfl⟩ := ho
  exact (hr.dom b e hb).2

/-- A draw. -/
theorem Step.drew {μ : Emb} {h : Hp} {w : World} (hr : HRel μ h w) : Step μ h w μ h w.drew :=
  ⟨fun _ _ => rfl, Nat.le_refl _, hr.world (Nat.le_refl _) (fun _ _ _ _ _ _ => rfl), ⟨rfl, rfl, rfl, Nat.le_refl _, fun _ _ _ => rfl⟩, fun _ h => .inl h⟩

def Emb.put (μ : Emb) (n : Nat) (p : Place) : Emb := fun b => if b = n then some p else μ b
theorem Emb.put_old {μ : Emb} {h : Hp} {w : World} (hr : HRel μ h w) (p : Place) (b : Nat) (e : Place) (hb : μ b = some e) : Emb.put μ h.length p b = some e := by
  have := (hr.dom b e hb).1
  simp only [Emb.put]
  rw [if_neg (by omega)]; exact hb
theorem Emb.put_new (μ : Emb) (n : Nat) (p : Place) : Emb.put μ n p n = some p := by simp [Emb.put]

/-- A new block. -/
theorem Step.new {μ : Emb} {h : Hp} {w : World} (hr : HRel μ h w) (o : Obj) (B : Blk) (p : Place) (hp : p.block = w.heap.size)
    (hB : ORel (μ.put h.length p) p B (w.alloc o)) : Step μ h w (μ.put h.length p) (h ++ [B]) (w.alloc o) := by
  have hold : ∀ k, k < w.heap.size → (w.alloc o).heap[k]? = w.heap[k]? := fun k hk => Below.heap_alloc w o k hk
  have hsz : (w.alloc o).heap.size = w.heap.size + 1 := by simp
  have hup := Emb.put_old hr p
  have hget : ∀ b e C, (μ.put h.length p) b = some e → (h ++ [B])[b]? = some C → (b = h.length ∧ e = p ∧ C = B) ∨ (b ≠ h.length ∧ μ b = some e ∧ h[b]? = some C) := by
    intro b e C he hC
    by_cases hb : b = h.length
    · subst hb
      rw [Emb.put_new] at he
      simp at he hC
      exact .inl ⟨rfl, he.symm, hC.symm⟩
    · simp only [Emb.put, if_neg hb] at he
      have := (hr.dom b e he).1
      rw [List.getElem?_append_left this] at hC
      exact .inr ⟨hb, he, hC⟩
  refine ⟨?_, by simp, ⟨?_, ?_, ?_⟩, ⟨rfl, rfl, rfl, by omega, fun k hk _ => hold k hk⟩, ?_⟩
  · intro b hb; simp only [Emb.put]; rw [if_neg (by omega)]
  · intro b e he
    by_cases hb : b = h.length
    · subst hb; rw [Emb.put_new] at he; simp at he; subst he; simp; omega
    · simp only [Emb.put, if_neg hb] at he
      have := hr.dom b e he
      simp; omega
  · intro b e C he hC
    rcases hget b e C he hC with ⟨rfl, rfl, rfl⟩ | ⟨_, he', hC'⟩
    · exact hB
    · exact (hr.obj b e C he' hC').congr hup (fun _ => hold _ (hr.dom b e he').2)
  · intro b c e f C D hbc he hf hC hD hrw hlv
    rcases hget b e C he hC with ⟨rfl, rfl, rfl⟩ | ⟨_, he', hC'⟩ <;> rcases hget c f D hf hD with ⟨rfl, rfl, rfl⟩ | ⟨_, hf', hD'⟩
    · exact absurd rfl hbc
    · have := (hr.dom c f hf').2; omega
    · have := (hr.dom b e he').2; omega
    · exact hr.sep b c e f C D hbc he' hf' hC' hD' hrw hlv
  · rintro k ⟨b, e, C, he, hC, hrw, rfl⟩
    rcases hget b e C he hC with ⟨rfl, rfl, rfl⟩ | ⟨_, he', hC'⟩
    · exact .inr (by omega)
    · exact .inl ⟨b, e, C, he', hC', hrw, rfl⟩

/-- A block of the call's own is written. -/
theorem Step.write {μ : Emb} {h : Hp} {w w' : World} (hr : HRel μ h w) {b : Nat} {e : Place} {B : Blk} (hb : μ b = some e) (hB : h[b]? = some B) (hrw : B.rw = true) (B' : Blk)
    (hrw' : B'.live = true → B'.rw = true)
    (os : w'.os = w.os) (tape : w'.tape = w.tape) (output : w'.output = w.output) (size : w.heap.size = w'.heap.size)
    (hold : ∀ k, k ≠ e.block → w'.heap[k]? = w.heap[k]?) (hO : ORel μ e B' w') : Step μ h w μ (h.set b B') w' := by
  have hlt : b < h.length := (hr.dom b e hb).1
  have hget : ∀ c f C, μ c = some f → (h.set b B')[c]? = some C → (c = b ∧ f = e ∧ C = B') ∨ (c ≠ b ∧ h[c]? = some C) := by
    intro c f C hf hC
    by_cases hc : c = b
    · subst hc
      rw [List.getElem?_set_self hlt] at hC
      rw [hb] at hf
      simp at hC hf
      exact .inl ⟨rfl, hf.symm, hC.symm⟩
    · rw [List.getElem?_set_ne (fun h => hc h.symm)] at hC
      exact .inr ⟨hc, hC⟩
  refine ⟨fun _ _ => rfl, by simp, ⟨?_, ?_, ?_⟩, ⟨os, tape, output, by omega, ?_⟩, ?_⟩
  · intro c f hf
    have := hr.dom c f hf
    simp; omega
  · intro c f C hf hC
    rcases hget c f C hf hC with ⟨rfl, rfl, rfl⟩ | ⟨hc, hC'⟩
    · exact hO
    · refine (hr.obj c f C hf hC').congr (fun _ _ h => h) (fun hl => hold _ ?_)
      exact (hr.sep b c e f B C (fun h => hc h.symm) hb hf hB hC' hrw hl).symm
  · intro c d f g C D hcd hf hg hC hD hcrw hdl
    rcases hget c f C hf hC with ⟨rfl, rfl, rfl⟩ | ⟨hc, hC'⟩ <;> rcases hget d g D hg hD with ⟨rfl, rfl, rfl⟩ | ⟨hd, hD'⟩
    · exact absurd rfl hcd
    · exact hr.sep c d f g B D hcd hf hg hB hD' hrw hdl
    · have h1 : C.live = true := by cases C <;> simp_all [Blk.rw, Blk.live]
      exact (hr.sep d c g f B C (fun h => hcd h.symm) hg hf hB hC' hrw h1).symm
    · exact hr.sep c d f g C D hcd hf hg hC' hD' hcrw hdl
  · intro k hk hn
    refine hold k ?_
    rintro rfl
    exact hn ⟨b, e, B, hb, hB, hrw, rfl⟩
  · rintro k ⟨c, f, C, hf, hC, hcrw, rfl⟩
    rcases hget c f C hf hC with ⟨rfl, rfl, rfl⟩ | ⟨hc, hC'⟩
    · exact .inl ⟨c, f, B, hb, hB, hrw, rfl⟩
    · exact .inl ⟨c, f, C, hf, hC', hcrw, rfl⟩

/-- A block is forgotten. -/
theorem Step.kill {μ : Emb} {h : Hp} {w : World} (hr : HRel μ h w) (b : Nat) : Step μ h w μ (h.set b .dead) w := by
  have hget : ∀ (c : Nat) (C : Blk), (h.set b .dead)[c]? = some C → C = .dead ∨ h[c]? = some C := by
    intro c C hC
    rw [List.getElem?_set] at hC
    split at hC
    · split at hC
      · exact .inl (by simpa using hC.symm)
      · simp at hC
    · exact .inr hC
  refine ⟨fun _ _ => rfl, by simp, ⟨?_, ?_, ?_⟩, Keeps.refl _ _, ?_⟩
  · intro c f hf; have := hr.dom c f hf; simpa using this
  · intro c f C hf hC
    rcases hget c C hC with rfl | hC'
    · trivial
    · exact hr.obj c f C hf hC'
  · intro c d f g C D hcd hf hg hC hD h1 h2
    rcases hget c C hC with rfl | hC'
    · simp [Blk.rw] at h1
    · rcases hget d D hD with rfl | hD'
      · simp [Blk.live] at h2
      · exact hr.sep c d f g C D hcd hf hg hC' hD' h1 h2
  · rintro k ⟨c, f, C, hf, hC, hrw, rfl⟩
    rcases hget c C hC with rfl | hC'
    · simp [Blk.rw] at hrw
    · exact .inl ⟨c, f, C, hf, hC', hrw, rfl⟩

/-- A block of the call's own, written, goes on as a new one: what was there is forgotten. -/
theorem Step.move {μ : Emb} {h : Hp} {w w' : World} (hr : HRel μ h w) {b : Nat} {e : Place} {B : Blk} (hb : μ b = some e) (hB : h[b]? = some B) (hrw : B.rw = true) (B' : Blk) (p : Place)
    (hp : p.block = e.block) (hrw' : B'.live = true → B'.rw = true)
    (os : w'.os = w.os) (tape : w'.tape = w.tape) (output : w'.output = w.output) (size : w.heap.size = w'.heap.size)
    (hold : ∀ k, k ≠ e.block → w'.heap[k]? = w.heap[k]?) (hO : ORel (μ.put h.length p) p B' w') :
    Step μ h w (μ.put h.length p) (h.set b .dead ++ [B']) w' := by
  have hlt : b < h.length := (hr.dom b e hb).1
  have hup := Emb.put_old hr p
  have hget : ∀ c f C, (μ.put h.length p) c = some f → (h.set b .dead ++ [B'])[c]? = some C →
      (c = h.length ∧ f = p ∧ C = B') ∨ (c ≠ h.length ∧ μ c = some f ∧ (C = .dead ∨ (c ≠ b ∧ h[c]? = some C))) := by
    intro c f C hf hC
    by_cases hc : c = h.length
    · subst hc
      rw [Emb.put_new] at hf
      rw [List.getElem?_append_right (by simp)] at hC
      simp at hf hC
      exact .inl ⟨rfl, hf.symm, hC.symm⟩
    · simp only [Emb.put, if_neg hc] at hf
      have := (hr.dom c f hf).1
      rw [List.getElem?_append_left (by simpa using this), List.getElem?_set] at hC
      refine .inr ⟨hc, hf, ?_⟩
      split at hC
      · exact .inl (by simpa using (Option.some.inj hC).symm)
      · rename_i hne
        exact .inr ⟨fun h => hne h.symm, hC⟩
  refine ⟨?_, by simp, ⟨?_, ?_, ?_⟩, ⟨os, tape, output, by omega, ?_⟩, ?_⟩
  · intro c hc; simp only [Emb.put]; rw [if_neg (by omega)]
  · intro c f hf
    by_cases hc : c = h.length
    · subst hc; rw [Emb.put_new] at hf; simp at hf; subst hf
      have := (hr.dom b e hb).2
      simp; omega
    · simp only [Emb.put, if_neg hc] at hf
      have := hr.dom c f hf
      simp; omega
  · intro c f C hf hC
    rcases hget c f C hf hC with ⟨rfl, rfl, rfl⟩ | ⟨hc, hf', rfl | ⟨hcb, hC'⟩⟩
    · exact hO
    · trivial
    · refine (hr.obj c f C hf' hC').congr hup (fun hl => hold _ ?_)
      exact (hr.sep b c e f B C (fun h => hcb h.symm) hb hf' hB hC' hrw hl).symm
  · intro c d f g C D hcd hf hg hC hD hcrw hdl
    rcases hget c f C hf hC with ⟨rfl, rfl, rfl⟩ | ⟨hc, hf', rfl | ⟨hcb, hC'⟩⟩
    · rcases hget d g D hg hD with ⟨rfl, rfl, rfl⟩ | ⟨hd, hg', rfl | ⟨hdb, hD'⟩⟩
      · exact absurd rfl hcd
      · simp [Blk.live] at hdl
      · rw [hp]; exact hr.sep b d e g B D (fun h => hdb h.symm) hb hg' hB hD' hrw hdl
    · simp [Blk.rw] at hcrw
    · rcases hget d g D hg hD with ⟨rfl, rfl, rfl⟩ | ⟨hd, hg', rfl | ⟨hdb, hD'⟩⟩
      · rw [hp]
        have h1 : C.live = true := by cases C <;> simp_all [Blk.rw, Blk.live]
        exact (hr.sep b c e f B C (fun h => hcb h.symm) hb hf' hB hC' hrw h1).symm
      · simp [Blk.live] at hdl
      · exact hr.sep c d f g C D hcd hf' hg' hC' hD' hcrw hdl
  · intro k hk hn
    refine hold k ?_
    rintro rfl
    exact hn ⟨b, e, B, hb, hB, hrw, rfl⟩
  · rintro k ⟨c, f, C, hf, hC, hcrw, rfl⟩
    rcases hget c f C hf hC with ⟨rfl, rfl, rfl⟩ | ⟨hc, hf', rfl | ⟨hcb, hC'⟩⟩
    · exact .inl ⟨b, e, B, hb, hB, hrw, hp.symm⟩
    · simp [Blk.rw] at hcrw
    · exact .inl ⟨c, f, C, hf', hC', hcrw, rfl⟩
end Go.Ab
