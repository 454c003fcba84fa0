/- An abstract machine over values and blocks, and that the model's machine does what it does: operations, statements, calls; no condition. -/
import Derived.Below
import Derived.Laws.Cells
import Derived.Laws.Entries
import Derived.Laws.NewBlocks
import Derived.Laws.StructEq
import Derived.Laws.BytesString
import Derived.Laws.Append
import Derived.TacticsIn
import Derived.LoopNIn
import Derived.OrdersIn
import Derived.RangeFuncRecord
import Derived.RangeFuncLeaves
/- Abstract worlds: values whose addresses are block numbers of a list of blocks, and how they stand for values and worlds of the model; no condition. -/
namespace Go.Ab
open Go.RowKit

/-- Where an abstract block lies: its block, its first cell, how many cells are its own, and how many cells an element has (of a row whose end is open). -/
structure Place where
  block : Nat
  off : Nat
  ext : Nat
  esz : Nat
abbrev Emb := Nat → Option Place
/-- nothing is known of it -/
def any : Value := .tuple #[]
/-- what a skipped operation leaves -/
def sk : Value := .float .f32 0
/-- from here on a capacity says: at least so many more, up to the open end of its block -/
def capO : Nat := 4611686018427387904

inductive VRel (μ : Emb) : Value → Value → Prop where
  | any (v : Value) : VRel μ (.tuple #[]) v
  | sk : VRel μ (.float .f32 0) (.tuple #[])
  | bool (b : Bool) : VRel μ (.bool b) (.bool b)
  | int (k : IntKind) (n : Int) : VRel μ (.int k n) (.int k n)
  | string (s : ByteArray) : VRel μ (.string s) (.string s)
  | ptr0 : VRel μ (.pointer none) (.pointer none)
  | ptr {b : Nat} {e : Place} (o : Nat) (h : μ b = some e) : VRel μ (.pointer (some ⟨b, o, none⟩)) (.pointer (some ⟨e.block, e.off + o, none⟩))
  | sl0 : VRel μ (.slice none 0 0) (.slice none 0 0)
  | sl {b : Nat} {e : Place} (o n c : Nat) (h : μ b = some e) (hc : c < capO) (hn : n ≤ c) : VRel μ (.slice (some ⟨b, o, none⟩) n c) (.slice (some ⟨e.block, e.off + o, none⟩) n c)
  | slO {b : Nat} {e : Place} (o n l c : Nat) (h : μ b = some e) (hn : n ≤ l) (hl : l ≤ c) (hx : o + c * e.esz ≤ e.ext) : VRel μ (.slice (some ⟨b, o, none⟩) n (capO + l)) (.slice (some ⟨e.block, e.off + o, none⟩) n c)
  | slE {b : Nat} {e : Place} (o o' : Nat) (h : μ b = some e) : VRel μ (.slice (some ⟨b, o, none⟩) 0 capO) (.slice (some ⟨e.block, o', none⟩) 0 0)
  | slZ {b : Nat} {e : Place} (o o' : Nat) (h : μ b = some e) : VRel μ (.slice (some ⟨b, o, none⟩) 0 0) (.slice (some ⟨e.block, o', none⟩) 0 0)
  | slD (a : Addr) : VRel μ (.slice (some ⟨0, 0, some 0⟩) 0 0) (.slice (some a) 0 0)
  | map0 : VRel μ (.map none) (.map none)
  | map {b : Nat} {e : Place} (h : μ b = some e) : VRel μ (.map (some b)) (.map (some e.block))
  | func {f : Nat} {xs ys xs' ys' : Array Value} (h1 : xs.size = xs'.size) (h2 : ys.size = ys'.size)
      (h3 : ∀ (i : Nat) (x y : Value), xs[i]? = some x → xs'[i]? = some y → VRel μ x y) (h4 : ∀ (i : Nat) (x y : Value), ys[i]? = some x → ys'[i]? = some y → VRel μ x y) :
      VRel μ (.func (.func f) xs ys) (.func (.func f) xs' ys')
  | yield {b : Nat} {e : Place} (h : μ b = some e) : VRel μ (.func (.yield b) #[] #[]) (.func (.yield e.block) #[] #[])
  | nilFunc : VRel μ .nilFunc .nilFunc
  | nilIface : VRel μ .nilIface .nilIface
  | iface (t : TypeId) {x y : Value} (h : VRel μ x y) : VRel μ (.iface t x) (.iface t y)
  | agg {xs xs' : Array Value} (h1 : xs.size = xs'.size) (h3 : ∀ (i : Nat) (x y : Value), xs[i]? = some x → xs'[i]? = some y → VRel μ x y) : VRel μ (.agg xs) (.agg xs')
  | tup {xs xs' : Array Value} (h1 : xs.size = xs'.size) (h3 : ∀ (i : Nat) (x y : Value), xs[i]? = some x → xs'[i]? = some y → VRel μ x y) : VRel μ (.tuple xs) (.tuple xs')

theorem VRel.mono {μ μ' : Emb} (hm : ∀ b e, μ b = some e → μ' b = some e) {v v' : Value} (h : VRel μ v v') : VRel μ' v v' := by
  induction h with
  | any v => exact .any v
  | sk => exact .sk
  | bool b => exact .bool b
  | int k n => exact .int k n
  | string s => exact .string s
  | ptr0 => exact .ptr0
  | ptr o h => exact .ptr o (hm _ _ h)
  | sl0 => exact .sl0
  | sl o n c h hc hn => exact .sl o n c (hm _ _ h) hc hn
  | slO o n l c h hn hl hx => exact .slO o n l c (hm _ _ h) hn hl hx
  | slE o o' h => exact .slE o o' (hm _ _ h)
  | slZ o o' h => exact .slZ o o' (hm _ _ h)
  | slD a => exact .slD a
  | map0 => exact .map0
  | map h => exact .map (hm _ _ h)
  | func h1 h2 _ _ i3 i4 => exact .func h1 h2 i3 i4
  | yield h => exact .yield (hm _ _ h)
  | nilFunc => exact .nilFunc
  | nilIface => exact .nilIface
  | iface t _ ih => exact .iface t ih
  | agg h1 _ ih => exact .agg h1 ih
  | tup h1 _ ih => exact .tup h1 ih

/-- lists of values, one by one -/
def LRel (μ : Emb) (xs ys : List Value) : Prop := xs.length = ys.length ∧ ∀ (i : Nat) (x y : Value), xs[i]? = some x → ys[i]? = some y → VRel μ x y
def ARel (μ : Emb) (xs ys : Array Value) : Prop := LRel μ xs.toList ys.toList

theorem LRel.nil {μ : Emb} : LRel μ [] [] := ⟨rfl, by simp⟩
theorem LRel.cons {μ : Emb} {x y : Value} {xs ys : List Value} (h : VRel μ x y) (hs : LRel μ xs ys) : LRel μ (x :: xs) (y :: ys) := by
  refine ⟨by simp [hs.1], ?_⟩
  intro i a b ha hb
  cases i with
  | zero => simp at ha hb; subst ha; subst hb; exact h
  | succ i => simp at ha hb; exact hs.2 i a b ha hb
theorem LRel.cons_inv {μ : Emb} {x : Value} {xs ys' : List Value} (h : LRel μ (x :: xs) ys') : ∃ y ys, ys' = y :: ys ∧ VRel μ x y ∧ LRel μ xs ys := by
  cases ys' with
  | nil => simp [LRel] at h
  | cons y ys =>
    refine ⟨y, ys, rfl, h.2 0 x y rfl rfl, by simpa using h.1, ?_⟩
    intro i a b ha hb
    exact h.2 (i + 1) a b (by simpa using ha) (by simpa using hb)
theorem LRel.nil_inv {μ : Emb} {ys : List Value} (h : LRel μ [] ys) : ys = [] := List.eq_nil_of_length_eq_zero h.1.symm
theorem LRel.mono {μ μ' : Emb} (hm : ∀ b e, μ b = some e → μ' b = some e) {v v' : List Value} (h : LRel μ v v') : LRel μ' v v' :=
  ⟨h.1, fun i x y hx hy => (h.2 i x y hx hy).mono hm⟩
theorem LRel.get {μ : Emb} {xs ys : List Value} (h : LRel μ xs ys) {i : Nat} {x : Value} (hx : xs[i]? = some x) : ∃ y, ys[i]? = some y ∧ VRel μ x y := by
  have hi : i < xs.length := by
    rcases Nat.lt_or_ge i xs.length with h' | h'
    · exact h'
    · simp [List.getElem?_eq_none h'] at hx
  have hj : i < ys.length := by rw [← h.1]; exact hi
  exact ⟨ys[i], List.getElem?_eq_getElem hj, h.2 i x _ hx (List.getElem?_eq_getElem hj)⟩
theorem LRel.append {μ : Emb} {a b c d : List Value} (h : LRel μ a b) (h' : LRel μ c d) : LRel μ (a ++ c) (b ++ d) := by
  refine ⟨by simp [h.1, h'.1], ?_⟩
  intro i x y hx hy
  rw [List.getElem?_append] at hx hy
  rw [h.1] at hx
  split at hx
  · rename_i hi; rw [if_pos hi] at hy; exact h.2 i x y hx hy
  · rename_i hi; rw [if_neg hi] at hy; exact h'.2 _ x y hx hy
theorem LRel.take {μ : Emb} {a b : List Value} (h : LRel μ a b) (n : Nat) : LRel μ (a.take n) (b.take n) := by
  refine ⟨by simp [h.1], ?_⟩
  intro i x y hx hy
  rw [List.getElem?_take] at hx hy
  split at hx
  · rename_i hi; rw [if_pos hi] at hy; exact h.2 i x y hx hy
  · simp at hx
theorem LRel.drop {μ : Emb} {a b : List Value} (h : LRel μ a b) (n : Nat) : LRel μ (a.drop n) (b.drop n) := by
  refine ⟨by simp [h.1], ?_⟩
  intro i x y hx hy
  rw [List.getElem?_drop] at hx hy
  exact h.2 _ x y hx hy
theorem LRel.set {μ : Emb} {a b : List Value} (h : LRel μ a b) (n : Nat) {x y : Value} (hv : VRel μ x y) : LRel μ (a.set n x) (b.set n y) := by
  refine ⟨by simp [h.1], ?_⟩
  intro i p q hp hq
  rw [List.getElem?_set] at hp hq
  by_cases hi : n = i
  · subst hi
    simp only [if_true] at hp hq
    split at hp
    · split at hq
      · simp at hp hq; subst hp; subst hq; exact hv
      · simp at hq
    · simp at hp
  · rw [if_neg hi] at hp hq; exact h.2 _ p q hp hq
theorem LRel.replicate {μ : Emb} {x y : Value} (h : VRel μ x y) (n : Nat) : LRel μ (List.replicate n x) (List.replicate n y) := by
  refine ⟨by simp, ?_⟩
  intro i p q hp hq
  simp [List.getElem?_replicate] at hp hq
  rw [← hp.2, ← hq.2]; exact h
theorem LRel.agg {μ : Emb} {xs ys : Array Value} (h : ARel μ xs ys) : VRel μ (.agg xs) (.agg ys) :=
  .agg (by simpa using h.1) (fun i x y hx hy => h.2 i x y (by simpa using hx) (by simpa using hy))
theorem LRel.tup {μ : Emb} {xs ys : Array Value} (h : ARel μ xs ys) : VRel μ (.tuple xs) (.tuple ys) :=
  .tup (by simpa using h.1) (fun i x y hx hy => h.2 i x y (by simpa using hx) (by simpa using hy))
theorem ARel.of {μ : Emb} {xs ys : Array Value} (h1 : xs.size = ys.size) (h : ∀ (i : Nat) (x y : Value), xs[i]? = some x → ys[i]? = some y → VRel μ x y) : ARel μ xs ys :=
  ⟨by simpa using h1, fun i x y hx hy => h i x y (by simpa using hx) (by simpa using hy)⟩

/-- a loop over a function: how it stands, and what a round of it runs -/
structure LoopA where
  st : LoopState
  pend : Option Code
  n : Nat
  fr : Nat → Value
  ps : Array Tmp
  assign : Code
  body : Code
/-- A block: rows of cells (ro: it came in, nobody writes there; op: its end is open, for elements of so many cells), maps, iterators over strings. -/
inductive Blk where
  | dead
  | cells (cs : List Value) (ro : Bool) (op : Option Nat)
  | map (es : List (Value × Value))
  | siter (s : ByteArray) (pos : Nat)
  | loop (L : LoopA)
abbrev Hp := List Blk
def Blk.rw : Blk → Bool
  | .dead => false
  | .cells _ ro _ => !ro
  | _ => true
def Blk.live : Blk → Bool
  | .dead => false
  | _ => true

/-- the entries of a map, one by one, in the order in which they were put -/
structure ERel (μ : Emb) (es : List (Value × Value)) (l : List MapEntry) (clock : Nat) : Prop where
  len : es.length = l.length
  each : ∀ (i : Nat) (x : Value × Value) (e : MapEntry), es[i]? = some x → l[i]? = some e → VRel μ x.1 e.key ∧ VRel μ x.2 e.val
  born : ∀ (i : Nat) (e : MapEntry), l[i]? = some e → e.born < clock
  once : ∀ (i j : Nat) (e f : MapEntry), i < j → l[i]? = some e → l[j]? = some f → e.born < f.born

def ORel (μ : Emb) (e : Place) (B : Blk) (w : World) : Prop :=
  match B with
  | .dead => True
  | .cells cs ro op =>
    cs.length ≤ e.ext ∧ (op = none → e.ext = cs.length) ∧ (∀ k, op = some k → e.esz = k) ∧
    (∀ (o : Nat) (v : Value), cs[o]? = some v → ∃ v', w.cell? ⟨e.block, e.off + o, none⟩ = some v' ∧ VRel μ v v') ∧
    (ro = false → ∃ C t lo hi, w.heap[e.block]? = some (.cells C t (lo, hi)) ∧ e.off + e.ext ≤ C.size ∧ (hi = lo ∨ C.size ≤ lo))
  | .map es => e.off = 0 ∧ ∃ l clock, w.heap[e.block]? = some (.map l clock) ∧ ERel μ es l.toList clock
  | .siter s pos => e.off = 0 ∧ w.heap[e.block]? = some (.stringIter s pos)
  | .loop L => e.off = 0 ∧ ∃ r : Loop, w.heap[e.block]? = some (.loop r) ∧ r.state = L.st ∧ r.pending = L.pend ∧ r.params = L.ps ∧ r.assign = L.assign ∧ r.body = L.body ∧ r.tmps.size = L.n ∧
      ∀ i, VRel μ (L.fr i) (r.tmps.getD i undef)

structure HRel (μ : Emb) (h : Hp) (w : World) : Prop where
  dom : ∀ b e, μ b = some e → b < h.length ∧ e.block < w.heap.size
  obj : ∀ b e B, μ b = some e → h[b]? = some B → ORel μ e B w
  sep : ∀ b c e f B C, b ≠ c → μ b = some e → μ c = some f → h[b]? = some B → h[c]? = some C → B.rw = true → C.live = true → e.block ≠ f.block

/-- a cell of a block of the call's own: there, and free -/
theorem rwcell {w : World} {e : Place} (h : ∃ C t lo hi, w.heap[e.block]? = some (.cells C t (lo, hi)) ∧ e.off + e.ext ≤ C.size ∧ (hi = lo ∨ C.size ≤ lo)) (o : Nat) (ho : o < e.ext) :
    (w.cell? ⟨e.block, e.off + o, none⟩).isSome = true ∧ w.frozen? ⟨e.block, e.off + o, none⟩ = false := by
  obtain ⟨C, t, lo, hi, h1, h2, h3⟩ := h
  constructor
  · simp only [World.cell?, h1]
    simp; omega
  · simp only [World.frozen?, h1]
    simp; omega

/-- the blocks of the world that are the call's own to write -/
def Own (μ : Emb) (h : Hp) (k : Nat) : Prop := ∃ b e B, μ b = some e ∧ h[b]? = some B ∧ B.rw = true ∧ e.block = k

structure Keeps (S : Nat → Prop) (w w' : World) : Prop where
  os : w'.os = w.os
  tape : w'.tape = w.tape
  output : w'.output = w.output
  size : w.heap.size ≤ w'.heap.size
  block : ∀ k, k < w.heap.size → ¬ S k → w'.heap[k]? = w.heap[k]?
theorem Keeps.refl (S : Nat → Prop) (w : World) : Keeps S w w := ⟨rfl, rfl, rfl, Nat.le_refl _, fun _ _ _ => rfl⟩

structure Step (μ : Emb) (h : Hp) (w : World) (μ' : Emb) (h' : Hp) (w' : World) : Prop where
  sub : ∀ b, b < h.length → μ' b = μ b
  len : h.length ≤ h'.length
  rel : HRel μ' h' w'
  keeps : Keeps (Own μ h) w w'
  own : ∀ k, Own μ' h' k → Own μ h k ∨ w.heap.size ≤ k
theorem Step.refl {μ : Emb} {h : Hp} {w : World} (hr : HRel μ h w) : Step μ h w μ h w :=
  ⟨fun _ _ => rfl, Nat.le_refl _, hr, Keeps.refl _ _, fun _ h => .inl h⟩
theorem Step.up {μ μ' : Emb} {h h' : Hp} {w w' : World} (hr : HRel μ h w) (s : Step μ h w μ' h' w') (b : Nat) (e : Place) (hb : μ b = some e) : μ' b = some e :=
  (s.sub b (hr.dom b e hb).1).trans hb
theorem Step.trans {μ μ' μ'' : Emb} {h h' h'' : Hp} {w w' w'' : World} (s : Step μ h w μ' h' w') (t : Step μ' h' w' μ'' h'' w'') : Step μ h w μ'' h'' w'' := by
  refine ⟨fun b hb => (t.sub b (Nat.lt_of_lt_of_le hb s.len)).trans (s.sub b hb), Nat.le_trans s.len t.len, t.rel, ?_, ?_⟩
  · refine ⟨t.keeps.os.trans s.keeps.os, t.keeps.tape.trans s.keeps.tape, t.keeps.output.trans s.keeps.output, Nat.le_trans s.keeps.size t.keeps.size, ?_⟩
    intro k hk hn
    refine (t.keeps.block k (Nat.lt_of_lt_of_le hk s.keeps.size) ?_).trans (s.keeps.block k hk hn)
    intro ho
    rcases s.own k ho with h1 | h1
    · exact hn h1
    · omega
  · intro k hk
    rcases t.own k hk with h1 | h1
    · exact s.own k h1
    · exact .inr (Nat.le_trans s.keeps.size h1)

theorem cell?_congr {w w' : World} {a : Addr} (h : w'.heap[a.block]? = w.heap[a.block]?) : w'.cell? a = w.cell? a := by simp [World.cell?, h]
theorem frozen?_congr {w w' : World} {a : Addr} (h : w'.heap[a.block]? = w.heap[a.block]?) : w'.frozen? a = w.frozen? a := by simp [World.frozen?, h]

theorem ERel.mono {μ μ' : Emb} (hm : ∀ b e, μ b = some e → μ' b = some e) {es l c} (h : ERel μ es l c) : ERel μ' es l c :=
  ⟨h.len, fun i x e hx he => ⟨(h.each i x e hx he).1.mono hm, (h.each i x e hx he).2.mono hm⟩, h.born, h.once⟩

theorem ORel.congr {μ μ' : Emb} {e : Place} {B : Blk} {w w' : World} (hm : ∀ b e, μ b = some e → μ' b = some e) (hb : B.live = true → w'.heap[e.block]? = w.heap[e.block]?)
    (h : ORel μ e B w) : ORel μ' e B w' := by
  cases B with
  | dead => trivial
  | cells cs ro op =>
    obtain ⟨h1, h2, h3, h4, h5⟩ := h
    have hb := hb rfl
    refine ⟨h1, h2, h3, ?_, ?_⟩
    · intro o v hv
      obtain ⟨v', hc, hv'⟩ := h4 o v hv
      exact ⟨v', (cell?_congr (a := ⟨e.block, e.off + o, none⟩) hb).trans hc, hv'.mono hm⟩
    · intro hro
      rw [hb]
      exact h5 hro
  | map es =>
    obtain ⟨h1, l, c, h2, h3⟩ := h
    exact ⟨h1, l, c, (hb rfl).trans h2, h3.mono hm⟩
  | siter s pos => exact ⟨h.1, (hb rfl).trans h.2⟩
  | loop L =>
    obtain ⟨h1, r, h2, h3, h4, h5, h6, h7, h8, h9⟩ := h
    exact ⟨h1, r, (hb rfl).trans h2, h3, h4, h5, h6, h7, h8, fun i => (h9 i).mono hm⟩

/-- The world has changed, but no live block. -/
theorem HRel.world {μ : Emb} {h : Hp} {w w' : World} (hr : HRel μ h w) (hs : w.heap.size ≤ w'.heap.size)
    (hb : ∀ b e B, μ b = some e → h[b]? = some B → B.live = true → w'.heap[e.block]? = w.heap[e.block]?) : HRel μ h w' :=
  ⟨fun b e he => ⟨(hr.dom b e he).1, Nat.lt_of_lt_of_le (hr.dom b e he).2 hs⟩,
   fun b e B he hB => (hr.obj b e B he hB).congr (fun _ _ h => h) (hb b e B he hB), hr.sep⟩

theorem Own.dom {μ : Emb} {h : Hp} {w : World} (hr : HRel μ h w) {k : Nat} (ho : Own μ h k) : k < w.heap.size := by
  obtain ⟨b, e, B, hb, _, _, rfl⟩ := ho
  exact (hr.dom b e hb).2

/-- A draw. -/
theorem Step.drew {μ : Emb} {h : Hp} {w : World} (hr : HRel μ h w) : Step μ h w μ h w.drew :=
  ⟨fun _ _ => rfl, Nat.le_refl _, hr.world (Nat.le_refl _) (fun _ _ _ _ _ _ => rfl), ⟨rfl, rfl, rfl, Nat.le_refl _, fun _ _ _ => rfl⟩, fun _ h => .inl h⟩

def Emb.put (μ : Emb) (n : Nat) (p : Place) : Emb := fun b => if b = n then some p else μ b
theorem Emb.put_old {μ : Emb} {h : Hp} {w : World} (hr : HRel μ h w) (p : Place) (b : Nat) (e : Place) (hb : μ b = some e) : Emb.put μ h.length p b = some e := by
  have := (hr.dom b e hb).1
  simp only [Emb.put]
  rw [if_neg (by omega)]; exact hb
theorem Emb.put_new (μ : Emb) (n : Nat) (p : Place) : Emb.put μ n p n = some p := by simp [Emb.put]

/-- A new block. -/
theorem Step.new {μ : Emb} {h : Hp} {w : World} (hr : HRel μ h w) (o : Obj) (B : Blk) (p : Place) (hp : p.block = w.heap.size)
    (hB : ORel (μ.put h.length p) p B (w.alloc o)) : Step μ h w (μ.put h.length p) (h ++ [B]) (w.alloc o) := by
  have hold : ∀ k, k < w.heap.size → (w.alloc o).heap[k]? = w.heap[k]? := fun k hk => Below.heap_alloc w o k hk
  have hsz : (w.alloc o).heap.size = w.heap.size + 1 := by simp
  have hup := Emb.put_old hr p
  have hget : ∀ b e C, (μ.put h.length p) b = some e → (h ++ [B])[b]? = some C → (b = h.length ∧ e = p ∧ C = B) ∨ (b ≠ h.length ∧ μ b = some e ∧ h[b]? = some C) := by
    intro b e C he hC
    by_cases hb : b = h.length
    · subst hb
      rw [Emb.put_new] at he
      simp at he hC
      exact .inl ⟨rfl, he.symm, hC.symm⟩
    · simp only [Emb.put, if_neg hb] at he
      have := (hr.dom b e he).1
      rw [List.getElem?_append_left this] at hC
      exact .inr ⟨hb, he, hC⟩
  refine ⟨?_, by simp, ⟨?_, ?_, ?_⟩, ⟨rfl, rfl, rfl, by omega, fun k hk _ => hold k hk⟩, ?_⟩
  · intro b hb; simp only [Emb.put]; rw [if_neg (by omega)]
  · intro b e he
    by_cases hb : b = h.length
    · subst hb; rw [Emb.put_new] at he; simp at he; subst he; simp; omega
    · simp only [Emb.put, if_neg hb] at he
      have := hr.dom b e he
      simp; omega
  · intro b e C he hC
    rcases hget b e C he hC with ⟨rfl, rfl, rfl⟩ | ⟨_, he', hC'⟩
    · exact hB
    · exact (hr.obj b e C he' hC').congr hup (fun _ => hold _ (hr.dom b e he').2)
  · intro b c e f C D hbc he hf hC hD hrw hlv
    rcases hget b e C he hC with ⟨rfl, rfl, rfl⟩ | ⟨_, he', hC'⟩ <;> rcases hget c f D hf hD with ⟨rfl, rfl, rfl⟩ | ⟨_, hf', hD'⟩
    · exact absurd rfl hbc
    · have := (hr.dom c f hf').2; omega
    · have := (hr.dom b e he').2; omega
    · exact hr.sep b c e f C D hbc he' hf' hC' hD' hrw hlv
  · rintro k ⟨b, e, C, he, hC, hrw, rfl⟩
    rcases hget b e C he hC with ⟨rfl, rfl, rfl⟩ | ⟨_, he', hC'⟩
    · exact .inr (by omega)
    · exact .inl ⟨b, e, C, he', hC', hrw, rfl⟩

/-- A block of the call's own is written. -/
theorem Step.write {μ : Emb} {h : Hp} {w w' : World} (hr : HRel μ h w) {b : Nat} {e : Place} {B : Blk} (hb : μ b = some e) (hB : h[b]? = some B) (hrw : B.rw = true) (B' : Blk)
    (hrw' : B'.live = true → B'.rw = true)
    (os : w'.os = w.os) (tape : w'.tape = w.tape) (output : w'.output = w.output) (size : w.heap.size = w'.heap.size)
    (hold : ∀ k, k ≠ e.block → w'.heap[k]? = w.heap[k]?) (hO : ORel μ e B' w') : Step μ h w μ (h.set b B') w' := by
  have hlt : b < h.length := (hr.dom b e hb).1
  have hget : ∀ c f C, μ c = some f → (h.set b B')[c]? = some C → (c = b ∧ f = e ∧ C = B') ∨ (c ≠ b ∧ h[c]? = some C) := by
    intro c f C hf hC
    by_cases hc : c = b
    · subst hc
      rw [List.getElem?_set_self hlt] at hC
      rw [hb] at hf
      simp at hC hf
      exact .inl ⟨rfl, hf.symm, hC.symm⟩
    · rw [List.getElem?_set_ne (fun h => hc h.symm)] at hC
      exact .inr ⟨hc, hC⟩
  refine ⟨fun _ _ => rfl, by simp, ⟨?_, ?_, ?_⟩, ⟨os, tape, output, by omega, ?_⟩, ?_⟩
  · intro c f hf
    have := hr.dom c f hf
    simp; omega
  · intro c f C hf hC
    rcases hget c f C hf hC with ⟨rfl, rfl, rfl⟩ | ⟨hc, hC'⟩
    · exact hO
    · refine (hr.obj c f C hf hC').congr (fun _ _ h => h) (fun hl => hold _ ?_)
      exact (hr.sep b c e f B C (fun h => hc h.symm) hb hf hB hC' hrw hl).symm
  · intro c d f g C D hcd hf hg hC hD hcrw hdl
    rcases hget c f C hf hC with ⟨rfl, rfl, rfl⟩ | ⟨hc, hC'⟩ <;> rcases hget d g D hg hD with ⟨rfl, rfl, rfl⟩ | ⟨hd, hD'⟩
    · exact absurd rfl hcd
    · exact hr.sep c d f g B D hcd hf hg hB hD' hrw hdl
    · have h1 : C.live = true := by cases C <;> simp_all [Blk.rw, Blk.live]
      exact (hr.sep d c g f B C (fun h => hcd h.symm) hg hf hB hC' hrw h1).symm
    · exact hr.sep c d f g C D hcd hf hg hC' hD' hcrw hdl
  · intro k hk hn
    refine hold k ?_
    rintro rfl
    exact hn ⟨b, e, B, hb, hB, hrw, rfl⟩
  · rintro k ⟨c, f, C, hf, hC, hcrw, rfl⟩
    rcases hget c f C hf hC with ⟨rfl, rfl, rfl⟩ | ⟨hc, hC'⟩
    · exact .inl ⟨c, f, B, hb, hB, hrw, rfl⟩
    · exact .inl ⟨c, f, C, hf, hC', hcrw, rfl⟩

/-- A block is forgotten. -/
theorem Step.kill {μ : Emb} {h : Hp} {w : World} (hr : HRel μ h w) (b : Nat) : Step μ h w μ (h.set b .dead) w := by
  have hget : ∀ (c : Nat) (C : Blk), (h.set b .dead)[c]? = some C → C = .dead ∨ h[c]? = some C := by
    intro c C hC
    rw [List.getElem?_set] at hC
    split at hC
    · split at hC
      · exact .inl (by simpa using hC.symm)
      · simp at hC
    · exact .inr hC
  refine ⟨fun _ _ => rfl, by simp, ⟨?_, ?_, ?_⟩, Keeps.refl _ _, ?_⟩
  · intro c f hf; have := hr.dom c f hf; simpa using this
  · intro c f C hf hC
    rcases hget c C hC with rfl | hC'
    · trivial
    · exact hr.obj c f C hf hC'
  · intro c d f g C D hcd hf hg hC hD h1 h2
    rcases hget c C hC with rfl | hC'
    · simp [Blk.rw] at h1
    · rcases hget d D hD with rfl | hD'
      · simp [Blk.live] at h2
      · exact hr.sep c d f g C D hcd hf hg hC' hD' h1 h2
  · rintro k ⟨c, f, C, hf, hC, hrw, rfl⟩
    rcases hget c C hC with rfl | hC'
    · simp [Blk.rw] at hrw
    · exact .inl ⟨c, f, C, hf, hC', hrw, rfl⟩

/-- A block of the call's own, written, goes on as a new one: what was there is forgotten. -/
theorem Step.move {μ : Emb} {h : Hp} {w w' : World} (hr : HRel μ h w) {b : Nat} {e : Place} {B : Blk} (hb : μ b = some e) (hB : h[b]? = some B) (hrw : B.rw = true) (B' : Blk) (p : Place)
    (hp : p.block = e.block) (hrw' : B'.live = true → B'.rw = true)
    (os : w'.os = w.os) (tape : w'.tape = w.tape) (output : w'.output = w.output) (size : w.heap.size = w'.heap.size)
    (hold : ∀ k, k ≠ e.block → w'.heap[k]? = w.heap[k]?) (hO : ORel (μ.put h.length p) p B' w') :
    Step μ h w (μ.put h.length p) (h.set b .dead ++ [B']) w' := by
  have hlt : b < h.length := (hr.dom b e hb).1
  have hup := Emb.put_old hr p
  have hget : ∀ c f C, (μ.put h.length p) c = some f → (h.set b .dead ++ [B'])[c]? = some C →
      (c = h.length ∧ f = p ∧ C = B') ∨ (c ≠ h.length ∧ μ c = some f ∧ (C = .dead ∨ (c ≠ b ∧ h[c]? = some C))) := by
    intro c f C hf hC
    by_cases hc : c = h.length
    · subst hc
      rw [Emb.put_new] at hf
      rw [List.getElem?_append_right (by simp)] at hC
      simp at hf hC
      exact .inl ⟨rfl, hf.symm, hC.symm⟩
    · simp only [Emb.put, if_neg hc] at hf
      have := (hr.dom c f hf).1
      rw [List.getElem?_append_left (by simpa using this), List.getElem?_set] at hC
      refine .inr ⟨hc, hf, ?_⟩
      split at hC
      · exact .inl (by simpa using (Option.some.inj hC).symm)
      · rename_i hne
        exact .inr ⟨fun h => hne h.symm, hC⟩
  refine ⟨?_, by simp, ⟨?_, ?_, ?_⟩, ⟨os, tape, output, by omega, ?_⟩, ?_⟩
  · intro c hc; simp only [Emb.put]; rw [if_neg (by omega)]
  · intro c f hf
    by_cases hc : c = h.length
    · subst hc; rw [Emb.put_new] at hf; simp at hf; subst hf
      have := (hr.dom b e hb).2
      simp; omega
    · simp only [Emb.put, if_neg hc] at hf
      have := hr.dom c f hf
      simp; omega
  · intro c f C hf hC
    rcases hget c f C hf hC with ⟨rfl, rfl, rfl⟩ | ⟨hc, hf', rfl | ⟨hcb, hC'⟩⟩
    · exact hO
    · trivial
    · refine (hr.obj c f C hf' hC').congr hup (fun hl => hold _ ?_)
      exact (hr.sep b c e f B C (fun h => hcb h.symm) hb hf' hB hC' hrw hl).symm
  · intro c d f g C D hcd hf hg hC hD hcrw hdl
    rcases hget c f C hf hC with ⟨rfl, rfl, rfl⟩ | ⟨hc, hf', rfl | ⟨hcb, hC'⟩⟩
    · rcases hget d g D hg hD with ⟨rfl, rfl, rfl⟩ | ⟨hd, hg', rfl | ⟨hdb, hD'⟩⟩
      · exact absurd rfl hcd
      · simp [Blk.live] at hdl
      · rw [hp]; exact hr.sep b d e g B D (fun h => hdb h.symm) hb hg' hB hD' hrw hdl
    · simp [Blk.rw] at hcrw
    · rcases hget d g D hg hD with ⟨rfl, rfl, rfl⟩ | ⟨hd, hg', rfl | ⟨hdb, hD'⟩⟩
      · rw [hp]
        have h1 : C.live = true := by cases C <;> simp_all [Blk.rw, Blk.live]
        exact (hr.sep b c e f B C (fun h => hcb h.symm) hb hf' hB hC' hrw h1).symm
      · simp [Blk.live] at hdl
      · exact hr.sep c d f g C D hcd hf' hg' hC' hD' hcrw hdl
  · intro k hk hn
    refine hold k ?_
    rintro rfl
    exact hn ⟨b, e, B, hb, hB, hrw, rfl⟩
  · rintro k ⟨c, f, C, hf, hC, hcrw, rfl⟩
    rcases hget c f C hf hC with ⟨rfl, rfl, rfl⟩ | ⟨hc, hf', rfl | ⟨hcb, hC'⟩⟩
    · exact .inl ⟨b, e, B, hb, hB, hrw, hp.symm⟩
    · simp [Blk.rw] at hcrw
    · exact .inl ⟨c, f, C, hf', hC', hcrw, rfl⟩
end Go.Ab

/- What an operation does to abstract values and blocks, and that the model's operation does the same: reading, writing, making memory; no condition. -/
namespace Go.Ab
open Go.RowKit

def ground : Value → Bool
  | .bool _ | .int .. | .string _ | .pointer none | .slice none 0 0 | .map none | .nilFunc | .nilIface => true
  | _ => false
def gr (v : Value) : Value := if ground v then v else any
theorem VRel.ground {μ : Emb} {v : Value} (h : ground v = true) : VRel μ v v := by
  unfold Ab.ground at h
  split at h <;> first | constructor | (simp at h)
theorem VRel.gr (μ : Emb) (v : Value) : VRel μ (gr v) v := by
  unfold Ab.gr
  split
  · exact VRel.ground ‹_›
  · exact .any v

abbrev Fr := Nat → Value
def evalA (fr : Fr) : Operand → Value
  | .tmp t => fr t
  | .const v => gr v
  | .global _ => any
  | .func f => .func (.func f) #[] #[]
/-- a frame of n slots -/
def FRel (μ : Emb) (n : Nat) (fr : Fr) (tmps : Array Value) : Prop := tmps.size = n ∧ ∀ i, VRel μ (fr i) (tmps.getD i undef)
theorem FRel.mono {μ μ' : Emb} (hm : ∀ b e, μ b = some e → μ' b = some e) {n : Nat} {fr : Fr} {tmps : Array Value} (h : FRel μ n fr tmps) : FRel μ' n fr tmps := ⟨h.1, fun i => (h.2 i).mono hm⟩
theorem VRel.eval {μ : Emb} {n : Nat} {fr : Fr} {a : Act} (h : FRel μ n fr a.tmps) (x : Operand) : VRel μ (evalA fr x) (a.eval x) := by
  cases x with
  | tmp t => exact h.2 t
  | const v => exact VRel.gr μ v
  | global g => exact .any _
  | func f => exact .func rfl rfl (by simp) (by simp)

/-- the cells of a value of which enough is known -/
def cellsOf : Value → Option (List Value)
  | .agg cs => some cs.toList
  | .tuple _ => none
  | .float _ _ => none
  | v => some [v]
/-- a value of one cell of which enough is known -/
def oneA : Value → Bool
  | .agg _ | .tuple _ | .float _ _ => false
  | _ => true
theorem VRel.cells {μ : Emb} {v v' : Value} {cs : List Value} (h : VRel μ v v') (hc : cellsOf v = some cs) : LRel μ cs v'.cells.toList := by
  cases h <;> simp [cellsOf] at hc <;> subst hc <;> try exact LRel.cons (by constructor <;> assumption) LRel.nil
  · rename_i h1 h3; exact ARel.of h1 h3
theorem VRel.one {μ : Emb} {v v' : Value} (h : VRel μ v v') (hc : oneA v = true) : v'.oneCell' = true := by
  cases h <;> simp_all [oneA, Value.oneCell']

/-- A value comes of it, or nothing does. -/
def Ran (P : Program) (μ : Emb) (h : Hp) (w : World) (s : Sem Value) (v : Value) (h' : Hp) : Prop :=
  ∃ μ' v' w', s.run P w = .ok v' w' ∧ VRel μ' v v' ∧ Step μ h w μ' h' w'
def RanU (P : Program) (μ : Emb) (h : Hp) (w : World) (s : Sem Unit) (h' : Hp) : Prop :=
  ∃ μ' w', s.run P w = .ok () w' ∧ Step μ h w μ' h' w'

section
variable {P : Program} {μ : Emb} {h : Hp} {w : World}

theorem Ran.pure (hr : HRel μ h w) {v v' : Value} {s : Sem Value} (hs : s.run P w = .ok v' w) (hv : VRel μ v v') : Ran P μ h w s v h :=
  ⟨μ, v', w, hs, hv, Step.refl hr⟩

theorem run_typeInfo {t : TypeId} {i : TypeInfo} (hi : P.info? t = some i) (w : World) : (typeInfo t).run P w = .ok i w := by
  simp [typeInfo, hi]
theorem run_sizeOf {t : TypeId} {i : TypeInfo} (hi : P.info? t = some i) (w : World) : (sizeOf t).run P w = .ok i.size w := by
  simp [sizeOf, run_typeInfo hi]
theorem run_zeroValue {t : TypeId} {i : TypeInfo} {z : Value} (hi : P.info? t = some i) (hz : i.zero = some z) (w : World) : (zeroValue t).run P w = .ok z w := by
  simp [zeroValue, run_typeInfo hi, hz]

/-- a type's cells, its bytes, its zero value's cells -/
def infoT (P : Program) (t : TypeId) : Option (Nat × Nat × Nat) := (P.info? t).bind fun i => i.zero.map fun z => (i.size, i.bytes, z.cells.size)
theorem infoT_inv {t : TypeId} {a b c : Nat} (hi : infoT P t = some (a, b, c)) : ∃ i z, P.info? t = some i ∧ i.zero = some z ∧ i.size = a ∧ i.bytes = b ∧ z.cells.size = c := by
  unfold infoT at hi
  obtain ⟨i, h1, h2⟩ := Option.bind_eq_some_iff.1 hi
  obtain ⟨z, h3, h4⟩ := Option.map_eq_some_iff.1 h2
  simp at h4
  exact ⟨i, z, h1, h3, h4.1, h4.2.1, h4.2.2⟩
def aggT (P : Program) (t : TypeId) : Option Bool :=
  match P.underlying t with
  | some (.struct _) | some (.array _ _) => some true
  | some _ => some false
  | none => none
def sizeT (P : Program) (t : TypeId) : Option Nat := (P.info? t).map (·.size)
theorem sizeT_run {t : TypeId} {n : Nat} (hs : sizeT P t = some n) (w : World) : (sizeOf t).run P w = .ok n w := by
  unfold sizeT at hs
  cases hi : P.info? t with
  | none => simp [hi] at hs
  | some i => simp [hi] at hs; subst hs; exact run_sizeOf hi w
theorem aggT_run {t : TypeId} {b : Bool} (hs : aggT P t = some b) (w : World) : (isAgg t).run P w = .ok b w := by
  unfold aggT at hs
  cases hu : P.underlying t with
  | none => simp [hu] at hs
  | some d =>
    rw [hu] at hs
    simp only [isAgg, Sem.run_bind, run_underlying hu, Result.andThen_ok]
    cases d <;> simp_all

/-! ### new rows -/
theorem Step.row (hr : HRel μ h w) (arr : Array Value) (elem : TypeId) (cs : List Value) (op : Option Nat) (k : Nat) (hlen : op = none → arr.size = cs.length)
    (hop : ∀ j, op = some j → k = j) (hle : cs.length ≤ arr.size) (hrel : ∀ (o : Nat) (v : Value), cs[o]? = some v → ∃ v', arr[o]? = some v' ∧ VRel μ v v') :
    Step μ h w (μ.put h.length ⟨w.heap.size, 0, arr.size, k⟩) (h ++ [.cells cs false op]) (w.alloc (.cells arr elem)) := by
  refine Step.new hr _ _ _ rfl ⟨hle, hlen, hop, ?_, ?_⟩
  · intro o v hv
    obtain ⟨v', h1, h2⟩ := hrel o v hv
    refine ⟨v', ?_, h2.mono (Emb.put_old hr _)⟩
    simp [h1]
  · intro _
    have hg : (w.alloc (.cells arr elem)).heap[w.heap.size]? = some (.cells arr elem (0, 0)) := by
      show (w.heap.push _)[w.heap.size]? = _
      simp
    exact ⟨arr, elem, 0, 0, hg, by simp, .inl rfl⟩

theorem ran_newRow (hr : HRel μ h w) (elem : TypeId) {cs : List Value} {arr : Array Value} (hrel : LRel μ cs arr.toList) :
    (newRow elem arr).run P w = .ok ⟨w.heap.size, 0, none⟩ (w.alloc (.cells arr elem)) ∧
    ∃ μ', Step μ h w μ' (h ++ [.cells cs false none]) (w.alloc (.cells arr elem)) ∧ μ' h.length = some ⟨w.heap.size, 0, arr.size, 0⟩ := by
  refine ⟨by simp [newRow], _, Step.row hr arr elem cs none 0 (fun _ => by have := hrel.1; simp at this; omega) (by simp) (by have := hrel.1; simp at this; omega) ?_, Emb.put_new _ _ _⟩
  intro o v hv
  obtain ⟨v', h1, h2⟩ := hrel.get hv
  exact ⟨v', by simpa using h1, h2⟩

theorem ran_newVar (hr : HRel μ h w) (elem : TypeId) {x x' : Value} {cs : List Value} (hv : VRel μ x x') (hc : cellsOf x = some cs) :
    Ran P μ h w (do Pure.pure (.pointer (some (← newVar elem x')))) (.pointer (some ⟨h.length, 0, none⟩)) (h ++ [.cells cs false none]) := by
  obtain ⟨h1, μ', h2, h3⟩ := ran_newRow (P := P) hr elem (hv.cells hc)
  have h4 := VRel.ptr (μ := μ') 0 h3
  exact ⟨μ', .pointer (some ⟨w.heap.size, 0, none⟩), _, by simp [newVar, h1], by simpa using h4, h2⟩

def boxA (x : Value) (h : Hp) : Option (Value × Hp) :=
  match cellsOf x with
  | some cs => some (.pointer (some ⟨h.length, 0, none⟩), h ++ [.cells cs false none])
  | none => none
theorem boxA_ok (hr : HRel μ h w) (elem : TypeId) {x x' v : Value} {h' : Hp} (hx : VRel μ x x') (hA : boxA x h = some (v, h')) : Ran P μ h w (Instr.box elem x') v h' := by
  unfold boxA at hA
  split at hA <;> simp at hA
  obtain ⟨rfl, rfl⟩ := hA
  exact ran_newVar hr elem hx ‹_›

def zeroT (P : Program) (t : TypeId) : Option (List Value) := ((P.info? t).bind (·.zero)).map fun z => z.cells.toList.map gr
theorem zeroT_run {t : TypeId} {cs : List Value} (hz : zeroT P t = some cs) : ∃ z, (∀ w, (zeroValue t).run P w = .ok z w) ∧ cs = z.cells.toList.map gr := by
  unfold zeroT at hz
  cases hi : P.info? t with
  | none => simp [hi] at hz
  | some i =>
    cases hz' : i.zero with
    | none => simp [hi, hz'] at hz
    | some z =>
      simp [hi, hz'] at hz
      exact ⟨z, fun w => run_zeroValue hi hz' w, hz.symm⟩
theorem LRel.grs (μ : Emb) (l : List Value) : LRel μ (l.map gr) l := by
  refine ⟨by simp, ?_⟩
  intro i x y hx hy
  simp [hy] at hx; subst hx; exact VRel.gr μ y

def allocA (P : Program) (t : TypeId) (h : Hp) : Option (Value × Hp) :=
  match zeroT P t with
  | some cs => some (.pointer (some ⟨h.length, 0, none⟩), h ++ [.cells cs false none])
  | none => none
theorem allocA_ok (hr : HRel μ h w) {t : TypeId} {v : Value} {h' : Hp} (hA : allocA P t h = some (v, h')) : Ran P μ h w (Instr.alloc t true (.tuple #[])) v h' := by
  unfold allocA at hA
  split at hA <;> simp at hA
  obtain ⟨rfl, rfl⟩ := hA
  obtain ⟨z, hz, hc⟩ := zeroT_run ‹_›
  obtain ⟨h1, μ', h2, h3⟩ := ran_newRow (P := P) hr t (LRel.grs μ z.cells.toList)
  subst hc
  have h4 := VRel.ptr (μ := μ') 0 h3
  exact ⟨μ', .pointer (some ⟨w.heap.size, 0, none⟩), _, by simp [Instr.alloc, hz, newVar, h1], by simpa using h4, h2⟩

/-! ### reading -/
theorem HRel.cell (hr : HRel μ h w) {b o : Nat} {e : Place} {cs : List Value} {ro : Bool} {op : Option Nat} {v : Value} (hb : μ b = some e) (hB : h[b]? = some (.cells cs ro op)) (hv : cs[o]? = some v) :
    ∃ v', w.cell? ⟨e.block, e.off + o, none⟩ = some v' ∧ VRel μ v v' :=
  (hr.obj b e _ hb hB).2.2.2.1 o v hv
theorem HRel.cells (hr : HRel μ h w) {b o n : Nat} {e : Place} {cs : List Value} {ro : Bool} {op : Option Nat} (hb : μ b = some e) (hB : h[b]? = some (.cells cs ro op)) (hn : o + n ≤ cs.length) :
    ∃ vs : List Value, (∀ w', w'.heap[e.block]? = w.heap[e.block]? → (loadCells ⟨e.block, e.off + o, none⟩ n).run P w' = .ok vs.toArray w') ∧ LRel μ ((cs.drop o).take n) vs := by
  have hall : ∀ j, j < n → ∃ v', w.cell? ⟨e.block, e.off + (o + j), none⟩ = some v' ∧ ∀ v, cs[o + j]? = some v → VRel μ v v' := by
    intro j hj
    have hlt : o + j < cs.length := by omega
    obtain ⟨v', h1, h2⟩ := hr.cell hb hB (List.getElem?_eq_getElem hlt)
    refine ⟨v', h1, fun v hv => ?_⟩
    rw [List.getElem?_eq_getElem hlt] at hv
    simp at hv; subst hv; exact h2
  let f : Nat → Value := fun j => (w.cell? ⟨e.block, e.off + (o + j), none⟩).getD any
  refine ⟨(List.range n).map f, ?_, ?_, ?_⟩
  · intro w' hw'
    refine run_loadCells w' _ n f fun j hj => ?_
    obtain ⟨v', h1, _⟩ := hall j hj
    rw [Addr.add_lit, cell?_congr (a := ⟨e.block, e.off + o + j, none⟩) hw']
    simp only [f, Nat.add_assoc, h1, Option.getD_some]
  · simp; omega
  · intro i x y hx hy
    have hi : i < n := by
      rcases Nat.lt_or_ge i n with h' | h'
      · exact h'
      · simp [h'] at hy
    rw [List.getElem?_take, if_pos hi, List.getElem?_drop] at hx
    obtain ⟨v', h1, h2⟩ := hall i hi
    simp [hi, f, h1] at hy
    subst hy
    exact h2 x hx

def loadA (P : Program) (t : TypeId) (p : Value) (h : Hp) : Option Value :=
  match p with
  | .pointer (some ⟨b, o, none⟩) =>
    match h[b]? with
    | some (.cells cs _ _) =>
      match aggT P t with
      | some false => cs[o]?
      | some true =>
        match sizeT P t with
        | some n => if o + n ≤ cs.length then some (.agg ((cs.drop o).take n).toArray) else none
        | none => none
      | none => none
    | _ => none
  | _ => none
theorem loadA_ok (hr : HRel μ h w) {t : TypeId} {p p' v : Value} (hp : VRel μ p p') (hA : loadA P t p h = some v) : ∃ v', (Instr.loadAt t p').run P w = .ok v' w ∧ VRel μ v v' := by
  unfold loadA at hA
  split at hA
  · rename_i b o
    split at hA
    · rename_i cs ro op hB
      cases hp with
      | ptr o hb =>
        rename_i e
        split at hA
        · rename_i ha
          obtain ⟨v', h1, h2⟩ := hr.cell hb hB hA
          refine ⟨v', ?_, h2⟩
          simp [Instr.loadAt, Instr.sureAddr, loadVar, aggT_run ha, h1]
        · rename_i ha
          split at hA
          · rename_i n hn
            split at hA
            · simp at hA; subst hA
              obtain ⟨vs, h1, h2⟩ := hr.cells (P := P) hb hB ‹_›
              refine ⟨.agg vs.toArray, ?_, LRel.agg (by simpa [ARel] using h2)⟩
              simp [Instr.loadAt, Instr.sureAddr, loadVar, aggT_run ha, sizeT_run hn, h1 w rfl]
            · simp at hA
          · simp at hA
        · simp at hA
    · simp at hA
  · simp at hA

/-! ### writing -/
theorem World.cell?_setCell' (w : World) (a c : Addr) (v : Value) (ha : a.spot = none) (hc : c.spot = none) (hs : (w.cell? a).isSome = true) :
    (w.setCell a v).cell? c = if c = a then some v else w.cell? c := by
  split
  · rename_i hca
    subst hca
    exact World.cell?_setCell_same' w c v hs
  · rename_i hca
    exact World.cell?_setCell_other w a c v (fun h => hca h.symm)
theorem World.frozen?_setCell' (w : World) (a c : Addr) (v : Value) : (w.setCell a v).frozen? c = w.frozen? c := by
  simp only [World.frozen?, World.setCell, Array.getElem?_modify]
  by_cases hb : a.block = c.block
  · rw [if_pos hb]
    cases hx : w.heap[c.block]? with
    | none => simp
    | some o => cases o <;> simp
  · rw [if_neg hb]

theorem HRel.set (hr : HRel μ h w) {b o : Nat} {e : Place} {cs : List Value} {op : Option Nat} {x x' : Value} (hb : μ b = some e) (hB : h[b]? = some (.cells cs false op)) (ho : o < cs.length)
    (hx : VRel μ x x') (h1 : x'.oneCell' = true) :
    (store ⟨e.block, e.off + o, none⟩ x').run P w = .ok () (w.setCell ⟨e.block, e.off + o, none⟩ x') ∧
    Step μ h w μ (h.set b (.cells (cs.set o x) false op)) (w.setCell ⟨e.block, e.off + o, none⟩ x') := by
  obtain ⟨g1, g2, g3, g4, g5⟩ := hr.obj b e _ hb hB
  have ho' : o < e.ext := by omega
  obtain ⟨s1, s2⟩ := rwcell (g5 rfl) o ho'
  obtain ⟨C, t, lo, hi, q1, q2, q3⟩ := g5 rfl
  refine ⟨?_, ?_⟩
  · rw [run_store P w _ x' .plain h1]
    obtain ⟨y, hy⟩ := Option.isSome_iff_exists.1 s1
    simp [hy, s2]
  · refine Step.write hr hb hB rfl _ (fun _ => rfl) rfl rfl rfl (by simp [World.setCell]) (fun k hk => Below.heap_setCell w _ _ k hk) ⟨by simpa using g1, by simpa using g2, g3, ?_, ?_⟩
    · intro i v hv
      rw [World.cell?_setCell' w _ _ x' rfl rfl s1]
      rw [List.getElem?_set] at hv
      by_cases hi : o = i
      · subst hi
        simp only [if_true] at hv
        rw [if_pos ho] at hv
        simp at hv; subst hv
        exact ⟨x', by simp, hx⟩
      · rw [if_neg hi] at hv
        obtain ⟨v', h2, h3⟩ := g4 i v hv
        refine ⟨v', ?_, h3⟩
        rw [if_neg (by simp; omega)]; exact h2
    · intro _
      refine ⟨C.setIfInBounds (e.off + o) x', t, lo, hi, ?_, by simpa using q2, by simpa using q3⟩
      simp [World.setCell, Array.getElem?_modify, q1]

/-- a row, some of its cells written over -/
def spl : List Value → Nat → List Value → List Value
  | cs, _, [] => cs
  | cs, o, x :: xs => spl (cs.set o x) (o + 1) xs
theorem spl_length (xs : List Value) : ∀ (cs : List Value) (o : Nat), (spl cs o xs).length = cs.length := by
  induction xs with
  | nil => intro cs o; rfl
  | cons x xs ih => intro cs o; simp [spl, ih]
theorem LRel.spl {μ : Emb} {xs xs' : List Value} : ∀ {cs cs' : List Value} (o : Nat), LRel μ cs cs' → LRel μ xs xs' → LRel μ (spl cs o xs) (spl cs' o xs') := by
  induction xs generalizing xs' with
  | nil => intro cs cs' o h hx; rw [LRel.nil_inv hx]; exact h
  | cons x xs ih =>
    intro cs cs' o h hx
    obtain ⟨y, ys, rfl, h1, h2⟩ := LRel.cons_inv hx
    exact ih (o + 1) (h.set o h1) h2

theorem ran_storeCells : ∀ (xs xs' : List Value) {h : Hp} {w : World} {cs : List Value} {b o i : Nat} {e : Place} {op : Option Nat}, HRel μ h w → μ b = some e → h[b]? = some (.cells cs false op) →
    o + i + xs.length ≤ cs.length → LRel μ xs xs' → xs.all oneA = true →
    ∃ w', (storeCells ⟨e.block, e.off + o, none⟩ xs' i).run P w = .ok () w' ∧ Step μ h w μ (h.set b (.cells (spl cs (o + i) xs) false op)) w' := by
  intro xs
  induction xs with
  | nil =>
    intro xs' h w cs b o i e op hr hb hB hl hx ho
    rw [LRel.nil_inv hx]
    refine ⟨w, by simp [storeCells], ?_⟩
    have : h.set b (.cells cs false op) = h := by
      apply List.ext_getElem?
      intro j
      rw [List.getElem?_set]
      split
      · rename_i hj; subst hj
        split
        · exact hB.symm
        · rename_i hj; simp [List.getElem?_eq_none (Nat.le_of_not_lt hj)] at hB
      · rfl
    simp only [spl, this]
    exact Step.refl hr
  | cons x xs ih =>
    intro xs' h w cs b o i e op hr hb hB hl hx ho
    obtain ⟨y, ys, rfl, h1, h2⟩ := LRel.cons_inv hx
    simp only [List.length_cons] at hl
    simp only [List.all_cons, Bool.and_eq_true] at ho
    obtain ⟨s1, s2⟩ := hr.set (P := P) hb hB (o := o + i) (by omega) h1 (h1.one ho.1)
    have hlt : b < h.length := (hr.dom b e hb).1
    obtain ⟨w', r1, r2⟩ := ih ys (h := h.set b (.cells (cs.set (o + i) x) false op)) (w := w.setCell ⟨e.block, e.off + (o + i), none⟩ y) (cs := cs.set (o + i) x) (b := b) (o := o) (i := i + 1) (e := e) (op := op)
      s2.rel hb (by rw [List.getElem?_set_self hlt]) (by simp; omega) h2 ho.2
    refine ⟨w', ?_, ?_⟩
    · simp only [storeCells, Sem.run_bind, Addr.add_lit]
      rw [Nat.add_assoc, s1, Result.andThen_ok]
      exact r1
    · have := s2.trans r2
      rw [List.set_set] at this
      simpa [spl, Nat.add_assoc] using this

def storeA (P : Program) (t : TypeId) (p x : Value) (h : Hp) : Option Hp :=
  match p with
  | .pointer (some ⟨b, o, none⟩) =>
    match h[b]? with
    | some (.cells cs false op) =>
      match cellsOf x with
      | some xs => if sizeT P t = some xs.length ∧ o + xs.length ≤ cs.length ∧ xs.all oneA = true then some (h.set b (.cells (spl cs o xs) false op)) else none
      | none => none
    | _ => none
  | _ => none
theorem storeA_ok (hr : HRel μ h w) {t : TypeId} {p p' x x' : Value} {h' : Hp} (hp : VRel μ p p') (hx : VRel μ x x') (hA : storeA P t p x h = some h') : RanU P μ h w (Instr.storeAt t p' x') h' := by
  unfold storeA at hA
  split at hA
  · split at hA
    · rename_i hB
      split at hA
      · rename_i xs hxs
        split at hA
        · rename_i hc
          obtain ⟨c1, c2, c3⟩ := hc
          simp at hA; subst hA
          cases hp with
          | ptr o hb =>
            have hrel := hx.cells hxs
            obtain ⟨w', r1, r2⟩ := ran_storeCells (P := P) xs x'.cells.toList (i := 0) hr hb hB (by simpa using c2) hrel c3
            refine ⟨μ, w', ?_, r2⟩
            have hsz : x'.cells.size = xs.length := by have := hrel.1; simp at this; omega
            simp [Instr.storeAt, Instr.sureAddr, storeVar, sizeT_run c1, hsz, r1]
        · simp at hA
      · simp at hA
    · simp at hA
  · simp at hA
end
end Go.Ab

/- What an operation does to abstract values, and that the model's operation does the same: numbers, texts, addresses, structs, slices; no condition. -/
namespace Go.Ab
open Go.RowKit
section
variable {P : Program} {μ : Emb} {h : Hp} {w : World}

/-! ### numbers, texts, truth values -/
def intA (op : BinOp) (k : IntKind) (a b : Int) : Option Value :=
  match op with
  | .add => some (.int k (k.wrap (a + b)))
  | .sub => some (.int k (k.wrap (a - b)))
  | .mul => some (.int k (k.wrap (a * b)))
  | .quo => if b = 0 then none else some (.int k (k.wrap (a.tdiv b)))
  | .rem => if b = 0 then none else some (.int k (a.tmod b))
  | .and => some (.int k (k.wrap (BitVec.ofInt k.bits a &&& BitVec.ofInt k.bits b).toNat))
  | .or => some (.int k (k.wrap (BitVec.ofInt k.bits a ||| BitVec.ofInt k.bits b).toNat))
  | .xor => some (.int k (k.wrap (BitVec.ofInt k.bits a ^^^ BitVec.ofInt k.bits b).toNat))
  | .andNot => some (.int k (k.wrap (BitVec.ofInt k.bits a &&& ~~~BitVec.ofInt k.bits b).toNat))
  | .eql => some (.bool (a == b))
  | .neq => some (.bool (a != b))
  | .lss => some (.bool (decide (a < b)))
  | .leq => some (.bool (decide (a ≤ b)))
  | .gtr => some (.bool (decide (a > b)))
  | .geq => some (.bool (decide (a ≥ b)))
  | _ => none
def strA (op : BinOp) (x y : ByteArray) : Option Value :=
  match op with
  | .add => if x.size + y.size ≤ 9223372036854775807 then some (.string (x ++ y)) else none
  | .eql => some (.bool (x.toList == y.toList))
  | .neq => some (.bool (!(x.toList == y.toList)))
  | .lss => some (.bool (Op.bytesLess x.toList y.toList))
  | .leq => some (.bool (Op.bytesLess x.toList y.toList || (x.toList == y.toList)))
  | .gtr => some (.bool (!(Op.bytesLess x.toList y.toList || (x.toList == y.toList))))
  | .geq => some (.bool (!(Op.bytesLess x.toList y.toList)))
  | _ => none

/-- the cell of a struct -/
def partA (P : Program) (t : TypeId) (cs : List Value) (o : Nat) : Option Value :=
  match aggT P t with
  | some true => match sizeT P t with
    | some n => if o + n ≤ cs.length then some (.agg ((cs.drop o).take n).toArray) else none
    | none => none
  | some false => cs[o]?
  | none => none
theorem partA_ok {t : TypeId} {cs : Array Value} {cs' : Array Value} {o : Nat} {v : Value} (hc : ARel μ cs cs') (hA : partA P t cs.toList o = some v) (w : World) :
    ∃ v', (part t cs' o).run P w = .ok v' w ∧ VRel μ v v' := by
  unfold partA at hA
  split at hA
  · rename_i ha
    split at hA
    · rename_i n hn
      split at hA
      · simp at hA; subst hA
        refine ⟨_, by simp [part, aggT_run ha, sizeT_run hn]; rfl, ?_⟩
        refine LRel.agg ?_
        have := (LRel.drop hc o).take n
        simpa [ARel, List.extract_eq_take_drop] using this
      · simp at hA
    · simp at hA
  · rename_i ha
    obtain ⟨y, hy, hv⟩ := hc.get hA
    rw [Array.getElem?_toList] at hy
    exact ⟨y, by simp [part, aggT_run ha, hy], hv⟩
  · simp at hA

def eqFields (P : Program) (eq : TypeId → Value → Value → Option Bool) : List Field → List Value → List Value → Option Bool
  | [], _, _ => some true
  | f :: fs, xs, ys =>
    if f.name ≠ "_" then
      match partA P f.type xs f.offset, partA P f.type ys f.offset with
      | some a, some b =>
        match eq f.type a b with
        | some true => eqFields P eq fs xs ys
        | some false => some false
        | none => none
      | _, _ => none
    else eqFields P eq fs xs ys
def eqA (P : Program) : Nat → TypeId → Value → Value → Option Bool
  | 0, _, _, _ => none
  | d + 1, t, x, y =>
    match P.underlying t, x, y with
    | some .bool, .bool a, .bool b => some (a == b)
    | some (.int _), .int k a, .int k' b => if k = k' then some (a == b) else none
    | some .string, .string a, .string b => some (a.toList == b.toList)
    | some (.pointer _), .pointer none, .pointer b => some b.isNone
    | some (.pointer _), .pointer _, .pointer none => some false
    | some (.interface _), .nilIface, .nilIface => some true
    | some (.interface _), .nilIface, .iface _ _ => some false
    | some (.interface _), .iface _ _, .nilIface => some false
    | some (.interface _), .iface tx vx, .iface ty vy =>
      if tx ≠ ty then some false else
      match (P.info? tx).map (·.comparable) with
      | some true => eqA P d tx vx vy
      | _ => none
    | some (.struct fields), .agg xs, .agg ys => if P.stoodInHeld t then none else eqFields P (eqA P d) fields.toList xs.toList ys.toList
    | some (.slice _), .slice none _ _, .slice b _ _ => some b.isNone
    | some (.slice _), .slice _ _ _, .slice none _ _ => some false
    | some (.map _ _), .map none, .map b => some b.isNone
    | some (.map _ _), .map _, .map none => some false
    | some (.func _ _ _), .nilFunc, .nilFunc => some true
    | some (.func _ _ _), .nilFunc, .func _ _ _ => some false
    | some (.func _ _ _), .func _ _ _, .nilFunc => some false
    | _, _, _ => none

theorem eqFields_ok {eq : TypeId → Value → Value → Option Bool} {d : Nat}
    (ih : ∀ t x y x' y' b, VRel μ x x' → VRel μ y y' → eq t x y = some b → ∀ w, (Op.equalIn d t x' y').run P w = .ok b w) :
    ∀ (fs : List Field) (xs ys xs' ys' : Array Value) (b : Bool), ARel μ xs xs' → ARel μ ys ys' → eqFields P eq fs xs.toList ys.toList = some b → ∀ w, (Op.eqFields d xs' ys' fs).run P w = .ok b w := by
  intro fs
  induction fs with
  | nil => intro xs ys xs' ys' b _ _ h w; simp [eqFields] at h; subst h; simp [Op.eqFields]
  | cons f fs ihf =>
    intro xs ys xs' ys' b hx hy h w
    simp only [eqFields] at h
    simp only [Op.eqFields]
    split at h
    · rename_i hn
      rw [if_pos hn]
      split at h
      · rename_i a c ha hc
        obtain ⟨a', r1, v1⟩ := partA_ok (P := P) hx ha w
        obtain ⟨c', r2, v2⟩ := partA_ok (P := P) hy hc w
        simp only [Sem.run_bind, r1, Result.andThen_ok, r2]
        split at h
        · rename_i he
          simp only [ih _ _ _ _ _ _ v1 v2 he w, Result.andThen_ok]
          exact ihf xs ys xs' ys' b hx hy h w
        · rename_i he
          simp at h; subst h
          simp [ih _ _ _ _ _ _ v1 v2 he w]
        · simp at h
      · simp at h
    · rename_i hn
      rw [if_neg hn]
      exact ihf xs ys xs' ys' b hx hy h w

set_option maxHeartbeats 2000000 in
theorem eqA_ok : ∀ (d : Nat) (t : TypeId) (x y x' y' : Value) (b : Bool), VRel μ x x' → VRel μ y y' → eqA P d t x y = some b → ∀ w, (Op.equalIn d t x' y').run P w = .ok b w := by
  intro d
  induction d with
  | zero => intro t x y x' y' b _ _ h; simp [eqA] at h
  | succ d ih =>
    intro t x y x' y' b hx hy h w
    simp only [eqA] at h
    split at h <;> try (simp at h; done)
    · cases hx; cases hy; simp at h; subst h; simp [Op.equalIn, run_underlying (‹P.underlying t = some _›)]
    · cases hx; cases hy; split at h <;> simp at h; subst h; simp [Op.equalIn, run_underlying (‹P.underlying t = some _›), *]
    · cases hx; cases hy; simp at h; subst h; simp [Op.equalIn, run_underlying (‹P.underlying t = some _›), beq_toListBytes]
    · cases hx; cases hy <;> simp at h <;> subst h <;> simp [Op.equalIn, run_underlying (‹P.underlying t = some _›)]
    · cases hy; cases hx <;> simp at h <;> subst h <;> first | (simp [Op.equalIn, run_underlying (‹P.underlying t = some _›)]; done) | (exfalso; simp_all; done)
    · cases hx; cases hy; simp at h; subst h; simp [Op.equalIn, run_underlying (‹P.underlying t = some _›)]
    · cases hx; cases hy; simp at h; subst h; simp [Op.equalIn, run_underlying (‹P.underlying t = some _›)]
    · cases hx; cases hy; simp at h; subst h; simp [Op.equalIn, run_underlying (‹P.underlying t = some _›)]
    · have hu := ‹P.underlying t = some _›
      cases hx with
      | iface tx hx =>
      cases hy with
      | iface ty hy =>
      split at h
      · simp at h; subst h; simp [Op.equalIn, run_underlying hu, *]
      · rename_i htt
        split at h
        · rename_i hi
          have htt' := Decidable.not_not.1 htt
          subst htt'
          obtain ⟨i, hi', hi⟩ := Option.map_eq_some_iff.1 hi
          simp [Op.equalIn, run_underlying hu, run_typeInfo hi', hi, ih _ _ _ _ _ _ hx hy h w]
        · simp at h
    · rename_i fields xs ys hu
      split at h
      · simp at h
      · rename_i hst
        have hst' : P.stoodInHeld t = false := by simpa using hst
        cases hx with
        | agg h1 h3 =>
          cases hy with
          | agg h2 h4 =>
            have hf : P.fieldsOf t = fields := by simp [Program.fieldsOf, hu]
            rw [run_equalIn_struct w d t _ _ (by rw [hf]; exact hu) hst', hf]
            exact eqFields_ok (fun t x y x' y' b h1 h2 h3 w => ih t x y x' y' b h1 h2 h3 w) _ _ _ _ _ b (ARel.of h1 h3) (ARel.of h2 h4) h w
    · cases hx; cases hy <;> simp at h <;> subst h <;> simp [Op.equalIn, run_underlying (‹P.underlying t = some _›)]
    · cases hy; cases hx <;> simp at h <;> subst h <;> first | (simp [Op.equalIn, run_underlying (‹P.underlying t = some _›)]; done) | (exfalso; simp_all; done)
    · cases hx; cases hy <;> simp at h <;> subst h <;> simp [Op.equalIn, run_underlying (‹P.underlying t = some _›)]
    · cases hy; cases hx <;> simp at h <;> subst h <;> first | (simp [Op.equalIn, run_underlying (‹P.underlying t = some _›)]; done) | (exfalso; simp_all; done)
    · cases hx; cases hy; simp at h; subst h; simp [Op.equalIn, run_underlying (‹P.underlying t = some _›)]
    · cases hx; cases hy <;> simp at h <;> subst h <;> simp [Op.equalIn, run_underlying (‹P.underlying t = some _›)]
    · cases hy; cases hx <;> simp at h <;> subst h <;> first | (simp [Op.equalIn, run_underlying (‹P.underlying t = some _›)]; done) | (exfalso; simp_all; done)
end
end Go.Ab

/- What an operation does to abstract values, and that the model's operation does the same: binary operations, addresses, slices, structs; no condition. -/
namespace Go.Ab
open Go.RowKit
section
variable {P : Program} {μ : Emb} {h : Hp} {w : World}

theorem intA_ok {op : BinOp} {k : IntKind} {a b : Int} {v : Value} (hA : intA op k a b = some v) (t : TypeId) (hop : op ≠ .shl ∧ op ≠ .shr) (w : World) : (binOp op t (.int k a) (.int k b)).run P w = .ok v w := by
  cases op <;> simp [intA] at hA hop <;> (try subst hA) <;> (try simp [binOp, Op.intArith, Op.intCmp, Op.intBits])
  · obtain ⟨h1, rfl⟩ := hA; simp [binOp, Op.intDiv, h1]
  · obtain ⟨h1, rfl⟩ := hA; simp [binOp, Op.intDiv, h1]
theorem strA_ok {op : BinOp} {a b : ByteArray} {v : Value} (hA : strA op a b = some v) (t : TypeId) (w : World) : (binOp op t (.string a) (.string b)).run P w = .ok v w := by
  cases op <;> simp [strA] at hA <;> (try subst hA) <;> (try simp [binOp, Op.stringOp])
  · obtain ⟨h1, rfl⟩ := hA
    rw [if_neg (by omega)]
def isC : Operand → Bool
  | .const _ => true
  | _ => false
def guardA (P : Program) (t : TypeId) (x y : Operand) : Value → Value → Bool
  | .nilIface, .nilIface => isC x || isC y
  | .agg _, .agg _ => !P.eqGuardType P.depth t
  | .tuple _, _ | _, .tuple _ | .float _ _, _ | _, .float _ _ => false
  | _, _ => true
theorem eqGuard_other {t : TypeId} {x y : Operand} {a' b' : Value} (h1 : ¬ (a' = .nilIface ∧ b' = .nilIface)) (h2 : ¬ ∃ c d, a' = .agg c ∧ b' = .agg d) (op : BinOp) :
    eqGuard op t x y a' b' = pure () := by
  cases a' with
  | nilIface => cases b' <;> first | (cases op <;> rfl) | exact absurd ⟨rfl, rfl⟩ h1
  | agg c => cases b' <;> first | (cases op <;> rfl) | exact absurd ⟨_, _, rfl, rfl⟩ h2
  | _ => cases op <;> rfl
theorem eqGuard_nils {t : TypeId} {x y : Operand} (h : (isC x || isC y) = true) (op : BinOp) : eqGuard op t x y .nilIface .nilIface = pure () := by
  cases x <;> cases y <;> simp [isC] at h <;> cases op <;> rfl
theorem guardA_ok {t : TypeId} {x y : Operand} {a b a' b' : Value} (hg : guardA P t x y a b = true) (ha : VRel μ a a') (hb : VRel μ b b') (op : BinOp) (w : World) :
    (eqGuard op t x y a' b').run P w = .ok () w := by
  unfold guardA at hg
  split at hg
  · cases ha; cases hb
    simp [eqGuard_nils hg]
  · cases ha; cases hb
    exact run_eqGuard_agg w op t x y _ _ (by simpa using hg)
  · simp at hg
  · simp at hg
  · simp at hg
  · simp at hg
  · rename_i g1 g2 g3 g4 g5 g6
    rw [eqGuard_other ?_ ?_ op]
    · simp
    · rintro ⟨rfl, rfl⟩
      cases ha <;> cases hb <;> simp_all
    · rintro ⟨c, d, rfl, rfl⟩
      cases ha <;> cases hb <;> simp_all

def binA (P : Program) (op : BinOp) (t : TypeId) (x y : Operand) (a b : Value) : Option Value :=
  match op, a, b with
  | .shl, .int k n, .int _ m => if m < 0 then none else some (.int k (k.wrap (n * 2 ^ (min m.toNat k.bits))))
  | .shr, .int k n, .int _ m => if m < 0 then none else some (.int k (n.fdiv (2 ^ (min m.toNat k.bits))))
  | op, .int k n, .int k' m => if k = k' then intA op k n m else none
  | op, .string s, .string u => strA op s u
  | .eql, a, b => if guardA P t x y a b then (eqA P 10000 t a b).map .bool else none
  | .neq, a, b => if guardA P t x y a b then (eqA P 10000 t a b).map fun r => .bool (!r) else none
  | _, _, _ => none

theorem eqGuard_int (op : BinOp) (t : TypeId) (x y : Operand) (k : IntKind) (n : Int) (b : Value) : eqGuard op t x y (.int k n) b = pure () := by cases op <;> rfl
theorem eqGuard_string (op : BinOp) (t : TypeId) (x y : Operand) (s : ByteArray) (b : Value) : eqGuard op t x y (.string s) b = pure () := by cases op <;> rfl
theorem eqA_left {a b : Value} {d : Nat} {t : TypeId} (h : (∃ k, ∃ n, a = .float k n) ∨ (∃ c, a = .tuple c)) : eqA P d t a b = none := by
  cases d with
  | zero => rfl
  | succ d => rcases h with ⟨k, n, rfl⟩ | ⟨c, rfl⟩ <;> (simp only [eqA]; split <;> simp_all)
theorem eqA_right {a b : Value} {d : Nat} {t : TypeId} (h : (∃ k, ∃ n, b = .float k n) ∨ (∃ c, b = .tuple c)) : eqA P d t a b = none := by
  cases d with
  | zero => rfl
  | succ d => rcases h with ⟨k, n, rfl⟩ | ⟨c, rfl⟩ <;> (simp only [eqA]; split <;> simp_all)
set_option maxHeartbeats 1000000 in
theorem binOp_eq_ok {t : TypeId} {a b a' b' : Value} {r : Bool} (ha : VRel μ a a') (hb : VRel μ b b') (h1 : ¬ ∃ k n k' m, a = .int k n ∧ b = .int k' m) (h2 : ¬ ∃ s u, a = .string s ∧ b = .string u)
    (hA : eqA P 10000 t a b = some r) (w : World) :
    (binOp .eql t a' b').run P w = .ok (.bool r) w ∧ (binOp .neq t a' b').run P w = .ok (.bool (!r)) w := by
  have he := eqA_ok (P := P) 10000 t a b a' b' r ha hb hA w
  have hs : (∃ k, ∃ n, a = .float k n) ∨ (∃ c, a = .tuple c) → False := fun h => by rw [eqA_left h] at hA; simp at hA
  have hs' : (∃ k, ∃ n, b = .float k n) ∨ (∃ c, b = .tuple c) → False := fun h => by rw [eqA_right h] at hA; simp at hA
  have hbase : binOp .eql t a' b' = (do pure (.bool (← Op.equal t a' b'))) ∧ binOp .neq t a' b' = (do pure (.bool (!(← Op.equal t a' b')))) := by
    cases ha <;> cases hb <;> first
      | exact ⟨rfl, rfl⟩
      | (exfalso; exact h1 ⟨_, _, _, _, rfl, rfl⟩)
      | (exfalso; exact h2 ⟨_, _, rfl, rfl⟩)
      | (exfalso; exact hs (.inl ⟨_, _, rfl⟩))
      | (exfalso; exact hs (.inr ⟨_, rfl⟩))
      | (exfalso; exact hs' (.inl ⟨_, _, rfl⟩))
      | (exfalso; exact hs' (.inr ⟨_, rfl⟩))
  rw [hbase.1, hbase.2]
  simp [Op.equal, Op.maxDepth, he]

theorem binA_ok {op : BinOp} {t : TypeId} {x y : Operand} {a b a' b' v : Value} (ha : VRel μ a a') (hb : VRel μ b b') (hA : binA P op t x y a b = some v) (w : World) :
    (do eqGuard op t x y a' b'; binOp op t a' b').run P w = .ok v w ∧ VRel μ v v := by
  unfold binA at hA
  split at hA
  · cases ha; cases hb
    split at hA <;> simp at hA
    rename_i hm; subst hA
    exact ⟨by simp [eqGuard_int, binOp, Op.shift, hm], .int _ _⟩
  · cases ha; cases hb
    split at hA <;> simp at hA
    rename_i hm; subst hA
    exact ⟨by simp [eqGuard_int, binOp, Op.shift, hm], .int _ _⟩
  · rename_i k n k' m h1 h2
    cases ha; cases hb
    split at hA
    · rename_i hk; subst hk
      refine ⟨by simp [eqGuard_int, intA_ok hA t ⟨h1, h2⟩], ?_⟩
      cases op <;> simp [intA] at hA <;> first
        | (subst hA; constructor)
        | (obtain ⟨_, rfl⟩ := hA; constructor)
    · simp at hA
  · rename_i s u
    cases ha; cases hb
    refine ⟨by simp [eqGuard_string, strA_ok hA], ?_⟩
    cases op <;> simp [strA] at hA <;> first
        | (subst hA; constructor)
        | (obtain ⟨_, rfl⟩ := hA; constructor)
  · rename_i h1 h2
    split at hA
    · rename_i hg
      obtain ⟨r, hr, rfl⟩ := Option.map_eq_some_iff.1 hA
      have := binOp_eq_ok (P := P) ha hb (by rintro ⟨k, n, k', m, rfl, rfl⟩; exact h1 _ _ _ _ rfl rfl) (by rintro ⟨s, u, rfl, rfl⟩; exact h2 _ _ rfl rfl) hr w
      exact ⟨by simp [guardA_ok hg ha hb, this.1], .bool _⟩
    · simp at hA
  · rename_i h1 h2
    split at hA
    · rename_i hg
      obtain ⟨r, hr, rfl⟩ := Option.map_eq_some_iff.1 hA
      have := binOp_eq_ok (P := P) ha hb (by rintro ⟨k, n, k', m, rfl, rfl⟩; exact h1 _ _ _ _ rfl rfl) (by rintro ⟨s, u, rfl, rfl⟩; exact h2 _ _ rfl rfl) hr w
      exact ⟨by simp [guardA_ok hg ha hb, this.2], .bool _⟩
    · simp at hA
  · simp at hA

def unA (op : UnOp) (x : Value) : Option Value :=
  match op, x with
  | .neg, .int k n => some (.int k (k.wrap (0 - n)))
  | .xor, .int k n => intA .xor k (if k.signed then -1 else k.max) n
  | .not, .bool b => some (.bool (!b))
  | _, _ => none
theorem unA_ok {op : UnOp} {x x' v : Value} (hx : VRel μ x x') (hA : unA op x = some v) (w : World) : (Op.unary op x').run P w = .ok v w ∧ VRel μ v v := by
  unfold unA at hA
  split at hA
  · cases hx; simp at hA; subst hA; exact ⟨by simp [Op.unary, Op.intArith], .int _ _⟩
  · cases hx; simp [intA] at hA; subst hA; exact ⟨by simp [Op.unary, Op.intBits], .int _ _⟩
  · cases hx; simp at hA; subst hA; exact ⟨by simp [Op.unary], .bool _⟩
  · simp at hA

/-! ### addresses -/
def fieldAddrA (P : Program) (s : TypeId) (p : Value) (f : Nat) : Option Value :=
  match P.underlying s, p with
  | some (.struct fields), .pointer (some ⟨b, o, none⟩) =>
    match fields[f]? with
    | some fd => match sizeT P fd.type with
      | some (_ + 1) => some (.pointer (some ⟨b, o + fd.offset, none⟩))
      | _ => none
    | none => none
  | _, _ => none
theorem fieldAddrA_ok {s : TypeId} {p p' v : Value} {f : Nat} (hp : VRel μ p p') (hA : fieldAddrA P s p f = some v) (w : World) :
    ∃ v', (Instr.fieldAt s p' f).run P w = .ok v' w ∧ VRel μ v v' := by
  unfold fieldAddrA at hA
  split at hA
  · rename_i fields b o hu
    split at hA
    · rename_i fd hf
      split at hA
      · rename_i n hn
        simp at hA; subst hA
        cases hp with
        | ptr o hb =>
          refine ⟨_, by simp [Instr.fieldAt, run_underlying hu, hf, Instr.sureAddr, fieldPlace, sizeT_run hn, Addr.add_lit]; rfl, ?_⟩
          rw [Nat.add_assoc]; exact .ptr _ hb
      · simp at hA
    · simp at hA
  · simp at hA

def fieldA (P : Program) (s : TypeId) (x : Value) (f : Nat) : Option Value :=
  match P.underlying s, x with
  | some (.struct fields), .agg cs =>
    match fields[f]? with
    | some fd => partA P fd.type cs.toList fd.offset
    | none => none
  | _, _ => none
theorem fieldA_ok {s : TypeId} {x x' v : Value} {f : Nat} (hx : VRel μ x x') (hA : fieldA P s x f = some v) (w : World) :
    ∃ v', (Instr.field s x' f).run P w = .ok v' w ∧ VRel μ v v' := by
  unfold fieldA at hA
  split at hA
  · rename_i fields cs hu
    split at hA
    · rename_i fd hf
      cases hx with
      | agg h1 h3 =>
        obtain ⟨v', r, hv⟩ := partA_ok (P := P) (ARel.of h1 h3) hA w
        exact ⟨v', by simp [Instr.field, run_underlying hu, hf, asAgg, r], hv⟩
    · simp at hA
  · simp at hA

def indexAddrA (P : Program) (t : TypeId) (x i : Value) : Option Value :=
  match P.underlying t, x, i with
  | some (.slice elem), .slice (some ⟨b, o, none⟩) n _, .int _ i =>
    match sizeT P elem with
    | some z => if 0 ≤ i ∧ i < n then some (.pointer (some ⟨b, o + i.toNat * z, none⟩)) else none
    | none => none
  | some (.array n elem), .pointer (some ⟨b, o, none⟩), .int _ i =>
    match sizeT P elem with
    | some z => if 0 ≤ i ∧ i < n then some (.pointer (some ⟨b, o + i.toNat * z, none⟩)) else none
    | none => none
  | _, _, _ => none
theorem indexAddrA_ok {t : TypeId} {x x' i i' v : Value} (hx : VRel μ x x') (hi : VRel μ i i') (hA : indexAddrA P t x i = some v) (w : World) :
    ∃ v', (Instr.indexAt t x' i').run P w = .ok v' w ∧ VRel μ v v' := by
  unfold indexAddrA at hA
  split at hA
  · rename_i elem b o n c k i hu
    split at hA
    · rename_i z hz
      split at hA
      · rename_i hin
        simp at hA; subst hA
        cases hi
        cases hx with
        | sl o n c hb hc hn =>
          refine ⟨_, by simp [Instr.indexAt, asIntOf, run_underlying hu, hin, sizeT_run hz, Addr.add_lit]; rfl, ?_⟩
          rw [Nat.add_assoc]; exact .ptr _ hb
        | slO o n l c hb hn hl hx =>
          refine ⟨_, by simp [Instr.indexAt, asIntOf, run_underlying hu, hin, sizeT_run hz, Addr.add_lit]; rfl, ?_⟩
          rw [Nat.add_assoc]; exact .ptr _ hb
        | slE o o' hb => omega
        | slZ o o' hb => omega
      · simp at hA
    · simp at hA
  · rename_i n elem b o k i hu
    split at hA
    · rename_i z hz
      split at hA
      · rename_i hin
        simp at hA; subst hA
        cases hi
        cases hx with
        | ptr o hb =>
          refine ⟨_, by simp [Instr.indexAt, asIntOf, run_underlying hu, hin, sizeT_run hz, Addr.add_lit, Instr.sureAddr]; rfl, ?_⟩
          rw [Nat.add_assoc]; exact .ptr _ hb
      · simp at hA
    · simp at hA
  · simp at hA

def indexA (P : Program) (t : TypeId) (x i : Value) : Option Value :=
  match P.underlying t, x, i with
  | some .string, .string s, .int _ i => if 0 ≤ i then (s[i.toNat]?).map fun b => .int .u8 b.toNat else none
  | some (.array n elem), .agg cs, .int _ i =>
    match sizeT P elem with
    | some z => if 0 ≤ i ∧ i < n then partA P elem cs.toList (i.toNat * z) else none
    | none => none
  | _, _, _ => none
theorem indexA_ok {t : TypeId} {x x' i i' v : Value} (hx : VRel μ x x') (hi : VRel μ i i') (hA : indexA P t x i = some v) (w : World) :
    ∃ v', (Instr.index t x' i').run P w = .ok v' w ∧ VRel μ v v' := by
  unfold indexA at hA
  split at hA
  · rename_i s k i hu
    cases hx; cases hi
    split at hA
    · rename_i h0
      obtain ⟨b, hb, rfl⟩ := Option.map_eq_some_iff.1 hA
      exact ⟨_, by simp [Instr.index, asIntOf, run_underlying hu, h0, hb], .int _ _⟩
    · simp at hA
  · rename_i n elem cs k i hu
    split at hA
    · rename_i z hz
      split at hA
      · rename_i hin
        cases hi
        cases hx with
        | agg h1 h3 =>
          obtain ⟨v', r, hv⟩ := partA_ok (P := P) (ARel.of h1 h3) hA w
          exact ⟨v', by simp [Instr.index, asIntOf, run_underlying hu, hin, sizeT_run hz, r], hv⟩
      · simp at hA
    · simp at hA
  · simp at hA

/-! ### slicing -/
def bndA (x : Option Value) (d y : Nat) : Option Nat :=
  match x with
  | none => some d
  | some (.int _ i) => if 0 ≤ i ∧ i ≤ y then some i.toNat else none
  | _ => none
theorem bndA_int {x x' : Value} {d y n : Nat} (hx : VRel μ x x') (hA : bndA (some x) d y = some n) (y' : Nat) (hy : y ≤ y') (c : BoundsCode) (w : World) :
    (Instr.sliceBound x' y' c).run P w = .ok n w ∧ n ≤ y := by
  unfold bndA at hA
  split at hA
  · simp at *
  · rename_i k i hx'
    have hx'' : x = .int k i := by simpa using hx'
    subst hx''
    split at hA
    · rename_i hin
      simp at hA; subst hA
      cases hx
      refine ⟨?_, by omega⟩
      have : 0 ≤ i ∧ i ≤ (y' : Int) := ⟨hin.1, by omega⟩
      simp [Instr.sliceBound, asIntOf, this]
    · simp at hA
  · simp at hA

/-- bounds: low, high, and how far the capacity goes -/
def bndsA (len cap : Nat) (lo hi mx : Option Value) : Option (Nat × Nat × Nat) :=
  match mx with
  | none =>
    match bndA hi len cap with
    | some h => match bndA lo 0 h with
      | some l => some (l, h, cap)
      | none => none
    | none => none
  | some m' =>
    match hi with
    | none => none
    | some h' =>
      match bndA (some m') 0 cap with
      | some m => match bndA (some h') 0 m with
        | some h => match bndA lo 0 h with
          | some l => some (l, h, m)
          | none => none
        | none => none
      | none => none
def ORelV (μ : Emb) : Option Value → Option Value → Prop
  | none, none => True
  | some x, some y => VRel μ x y
  | _, _ => False
theorem bndsA_ok {len cap l hh m : Nat} {lo hi mx lo' hi' mx' : Option Value} (h1 : ORelV μ lo lo') (h2 : ORelV μ hi hi') (h3 : ORelV μ mx mx') (hA : bndsA len cap lo hi mx = some (l, hh, m))
    (hlen : len ≤ cap) (isS : Bool) (cap' : Nat) (hc : cap ≤ cap') (w : World) :
    (Instr.sliceBounds isS len cap' lo' hi' mx').run P w = .ok (l, hh, if mx.isSome then m else cap') w ∧ l ≤ hh ∧ hh ≤ cap ∧ (mx.isSome = true → hh ≤ m ∧ m ≤ cap) := by
  unfold bndsA at hA
  cases mx with
  | none =>
    cases mx' with
    | some _ => simp [ORelV] at h3
    | none =>
      simp only at hA
      split at hA
      · rename_i hv hh1
        split at hA
        · rename_i lv hl1
          simp at hA
          obtain ⟨rfl, rfl, rfl⟩ := hA
          have e1 : (∃ c, (match hi' with | some v => Instr.sliceBound v cap' c | none => pure len : Sem Nat).run P w = .ok hv w) ∧ hv ≤ cap ∧ ∀ c, (match hi' with | some v => Instr.sliceBound v cap' c | none => pure len : Sem Nat).run P w = .ok hv w := by
            cases hi with
            | none => cases hi' with
              | some _ => simp [ORelV] at h2
              | none => simp [bndA] at hh1; subst hh1; exact ⟨⟨.index, by simp⟩, hlen, fun c => by simp⟩
            | some x => cases hi' with
              | none => simp [ORelV] at h2
              | some x' => exact ⟨⟨.index, (bndA_int (P := P) h2 hh1 cap' hc .index w).1⟩, (bndA_int (P := P) h2 hh1 cap' hc .index w).2, fun c => (bndA_int (P := P) h2 hh1 cap' hc c w).1⟩
          have e2 : lv ≤ hv ∧ ∀ c, (match lo' with | some v => Instr.sliceBound v hv c | none => pure 0 : Sem Nat).run P w = .ok lv w := by
            cases lo with
            | none => cases lo' with
              | some _ => simp [ORelV] at h1
              | none => simp [bndA] at hl1; subst hl1; exact ⟨Nat.zero_le _, fun c => by simp⟩
            | some x => cases lo' with
              | none => simp [ORelV] at h1
              | some x' => exact ⟨(bndA_int (P := P) h1 hl1 hv (Nat.le_refl _) .index w).2, fun c => (bndA_int (P := P) h1 hl1 hv (Nat.le_refl _) c w).1⟩
          refine ⟨?_, e2.1, e1.2.1, by simp⟩
          have e3 := e1.2.2
          have e4 := e2.2
          unfold Instr.sliceBounds
          cases hi' <;> cases lo' <;> simp_all
        · simp at hA
      · simp at hA
  | some mv =>
    cases mx' with
    | none => simp [ORelV] at h3
    | some mv' =>
      cases hi with
      | none => simp at hA
      | some hv0 =>
        cases hi' with
        | none => simp [ORelV] at h2
        | some hv' =>
          simp only at hA
          split at hA
          · rename_i m1 hm1
            split at hA
            · rename_i hv hh1
              split at hA
              · rename_i lv hl1
                simp at hA
                obtain ⟨rfl, rfl, rfl⟩ := hA
                have e0 := fun c => bndA_int (P := P) h3 hm1 cap' hc c w
                have e1 := fun c => bndA_int (P := P) h2 hh1 m1 (Nat.le_refl _) c w
                have e2 : lv ≤ hv ∧ ∀ c, (match lo' with | some v => Instr.sliceBound v hv c | none => pure 0 : Sem Nat).run P w = .ok lv w := by
                  cases lo with
                  | none => cases lo' with
                    | some _ => simp [ORelV] at h1
                    | none => simp [bndA] at hl1; subst hl1; exact ⟨Nat.zero_le _, fun c => by simp⟩
                  | some x => cases lo' with
                    | none => simp [ORelV] at h1
                    | some x' => exact ⟨(bndA_int (P := P) h1 hl1 hv (Nat.le_refl _) .index w).2, fun c => (bndA_int (P := P) h1 hl1 hv (Nat.le_refl _) c w).1⟩
                have e3 := (e0 .index).2
                have e4 := (e1 .index).2
                refine ⟨?_, e2.1, by omega, fun _ => ⟨e4, e3⟩⟩
                have e5 := fun c => (e0 c).1
                have e6 := fun c => (e1 c).1
                have e7 := e2.2
                unfold Instr.sliceBounds
                cases lo' <;> simp_all
              · simp at hA
            · simp at hA
          · simp at hA

def sliceA (P : Program) (t : TypeId) (x : Value) (lo hi mx : Option Value) (h : Hp) : Option Value :=
  match P.underlying t, x with
  | some .string, .string s =>
    match mx with
    | none => match bndsA s.size s.size lo hi none with
      | some (l, h, _) => some (.string (s.extract l h))
      | none => none
    | some _ => none
  | some (.slice e), .slice none 0 0 =>
    match sizeT P e, bndsA 0 0 lo hi mx with
    | some _, some _ => some (.slice none 0 0)
    | _, _ => none
  | some (.slice e), .slice (some ⟨b, o, none⟩) n c =>
    match sizeT P e with
    | some z =>
      if c < capO then
        match bndsA n c lo hi mx with
        | some (l, hh, m) => some (.slice (some ⟨b, if m = l then o else o + l * z, none⟩) (hh - l) (m - l))
        | none => none
      else
        match bndsA n (c - capO) lo hi mx with
        | some (l, hh, m) =>
          match mx with
          | some _ => if m < capO then some (.slice (some ⟨b, if m = l then o else o + l * z, none⟩) (hh - l) (m - l)) else none
          | none =>
            match h[b]? with
            | some (.cells _ _ (some k)) => if k = z then some (.slice (some ⟨b, o + l * z, none⟩) (hh - l) (capO + (c - capO - l))) else none
            | _ => none
        | none => none
    | none => none
  | _, _ => none
theorem ORelV.isSome {x y : Option Value} (h : ORelV μ x y) : x.isSome = y.isSome := by cases x <;> cases y <;> simp_all [ORelV]
theorem run_slice_slice {t e : TypeId} {z : Nat} {a : Option Addr} {n c l hh m : Nat} {lo' hi' mx' : Option Value} (hu : P.underlying t = some (.slice e)) (hz : sizeT P e = some z)
    (hr : (Instr.sliceBounds true n c lo' hi' mx').run P w = .ok (l, hh, m) w) :
    (Instr.sliceAt t (.slice a n c) lo' hi' mx').run P w = .ok (.slice (if m = l then a else a.map (·.add (l * z))) (hh - l) (m - l)) w := by
  simp [Instr.sliceAt, run_underlying hu, Instr.slice, hr, sizeT_run hz]
theorem sliceA_ok {t : TypeId} {x x' v : Value} {lo hi mx lo' hi' mx' : Option Value} (hr : HRel μ h w) (hx : VRel μ x x') (h1 : ORelV μ lo lo') (h2 : ORelV μ hi hi') (h3 : ORelV μ mx mx')
    (hA : sliceA P t x lo hi mx h = some v) : ∃ v', (Instr.sliceAt t x' lo' hi' mx').run P w = .ok v' w ∧ VRel μ v v' := by
  unfold sliceA at hA
  split at hA
  · rename_i s hu
    cases hx
    cases mx with
    | some _ => simp at hA
    | none =>
      cases mx' with
      | some _ => simp [ORelV] at h3
      | none =>
        simp only at hA
        split at hA
        · rename_i l hh m hb
          simp at hA; subst hA
          obtain ⟨r, _⟩ := bndsA_ok (P := P) h1 h2 h3 hb (Nat.le_refl _) false s.size (Nat.le_refl _) w
          exact ⟨_, by simp [Instr.sliceAt, run_underlying hu, Instr.slice, r], .string _⟩
        · simp at hA
  · rename_i e hu
    split at hA
    · rename_i z r hz hb
      simp at hA; subst hA
      cases hx
      obtain ⟨l, hh, m⟩ := r
      obtain ⟨r, r1, r2, r3⟩ := bndsA_ok (P := P) h1 h2 h3 hb (Nat.le_refl _) true 0 (Nat.le_refl _) w
      refine ⟨.slice none 0 0, ?_, .sl0⟩
      rw [run_slice_slice hu hz r]
      have e1 : l = 0 := by omega
      have e2 : hh = 0 := by omega
      subst e1; subst e2
      cases mx <;> simp at r3 ⊢
      omega
    · simp at hA
  · rename_i e b o n c hu
    split at hA
    · rename_i z hz
      split at hA
      · rename_i hc
        split at hA
        · rename_i l hh m hb
          simp at hA; subst hA
          have key : ∀ (p : Place) (hn : n ≤ c), μ b = some p → ∃ v', (Instr.sliceAt t (.slice (some ⟨p.block, p.off + o, none⟩) n c) lo' hi' mx').run P w = .ok v' w ∧
              VRel μ (.slice (some ⟨b, if m = l then o else o + l * z, none⟩) (hh - l) (m - l)) v' := by
            intro p hn hμ
            obtain ⟨r, r1, r2, r3⟩ := bndsA_ok (P := P) h1 h2 h3 hb hn true c (Nat.le_refl _) w
            have hm : (if mx.isSome = true then m else c) = m ∧ hh ≤ m ∧ m ≤ c := by
              cases mx with
              | some _ => exact ⟨rfl, r3 rfl⟩
              | none =>
                simp only [bndsA] at hb
                split at hb
                · split at hb
                  · simp at hb; obtain ⟨rfl, rfl, rfl⟩ := hb; exact ⟨rfl, r2, Nat.le_refl _⟩
                  · simp at hb
                · simp at hb
            rw [hm.1] at r
            refine ⟨_, run_slice_slice hu hz r, ?_⟩
            by_cases hml : m = l
            · rw [if_pos hml, if_pos hml]
              exact .sl o _ _ hμ (by omega) (by omega)
            · rw [if_neg hml, if_neg hml]
              simp only [Option.map_some, Addr.add_lit, Nat.add_assoc]
              exact .sl _ _ _ hμ (by omega) (by omega)
          cases hx with
          | sl o n c hμ hc hn => exact key _ hn hμ
          | slO o n l' c' hμ hn hl hx => omega
          | slE o o' hμ => omega
          | slZ o o' hμ =>
            obtain ⟨r, r1, r2, r3⟩ := bndsA_ok (P := P) h1 h2 h3 hb (Nat.le_refl _) true 0 (Nat.le_refl _) w
            have e1 : l = 0 := by omega
            have e2 : hh = 0 := by omega
            have e3 : m = 0 := by
              cases mx with
              | some _ => have := (r3 rfl).2; omega
              | none =>
                simp only [bndsA] at hb
                split at hb
                · split at hb
                  · simp at hb; omega
                  · simp at hb
                · simp at hb
            subst e1; subst e2; subst e3
            refine ⟨_, run_slice_slice hu hz r, ?_⟩
            simp
            exact .slZ _ _ hμ
        · simp at hA
      · rename_i hc
        split at hA
        · rename_i l hh m hb
          cases hx with
          | sl o n c hμ hc' hn => omega
          | slZ o o' hμ => simp [capO] at hc
          | slO o n l' c' hμ hn hl hx =>
            rename_i p
            rw [Nat.add_sub_cancel_left] at hb hA
            obtain ⟨r, r1, r2, r3⟩ := bndsA_ok (P := P) h1 h2 h3 hb hn true c' hl w
            cases mx with
            | some q =>
              simp only at hA
              split at hA
              · rename_i hmc
                simp at hA; subst hA
                have r3 := r3 rfl
                refine ⟨_, run_slice_slice hu hz r, ?_⟩
                simp only [Option.isSome_some, if_true]
                by_cases hml : m = l
                · rw [if_pos hml, if_pos hml]
                  exact .sl o _ _ hμ (by omega) (by omega)
                · rw [if_neg hml, if_neg hml]
                  simp only [Option.map_some, Addr.add_lit, Nat.add_assoc]
                  exact .sl _ _ _ hμ (by omega) (by omega)
              · simp at hA
            | none =>
              simp only at hA
              split at hA
              · rename_i cs ro k hB
                split at hA
                · rename_i hk
                  subst hk
                  simp at hA; subst hA
                  have hesz : p.esz = k := (hr.obj b p _ hμ hB).2.2.1 k rfl
                  refine ⟨_, run_slice_slice hu hz r, ?_⟩
                  simp only [Option.isSome_none, Bool.false_eq_true, if_false]
                  by_cases hml : c' = l
                  · rw [if_pos hml]
                    have e1 : hh - l = 0 := by omega
                    have e2 : l' - l = 0 := by omega
                    have e3 : c' - l = 0 := by omega
                    rw [e1, e2, e3]
                    exact .slE _ _ hμ
                  · rw [if_neg hml]
                    simp only [Option.map_some, Addr.add_lit, Nat.add_assoc]
                    refine .slO _ _ _ _ hμ (by omega) (by omega) ?_
                    rw [hesz] at hx ⊢
                    have : l * k + (c' - l) * k = c' * k := by rw [← Nat.add_mul]; congr 1; omega
                    omega
                · simp at hA
              · simp at hA
          | slE o o' hμ =>
            rename_i p
            rw [Nat.sub_self] at hb hA
            obtain ⟨r, r1, r2, r3⟩ := bndsA_ok (P := P) h1 h2 h3 hb (Nat.le_refl _) true 0 (Nat.le_refl _) w
            have e1 : l = 0 := by omega
            have e2 : hh = 0 := by omega
            subst e1; subst e2
            cases mx with
            | some q =>
              have e3 : m = 0 := by have := (r3 rfl).2; omega
              subst e3
              simp only at hA
              split at hA
              · simp at hA; subst hA
                refine ⟨_, run_slice_slice hu hz r, ?_⟩
                simp
                exact .slZ _ _ hμ
              · simp at hA
            | none =>
              simp only at hA
              split at hA
              · split at hA
                · simp at hA; subst hA
                  refine ⟨_, run_slice_slice hu hz r, ?_⟩
                  simp
                  exact .slE _ _ hμ
                · simp at hA
              · simp at hA
        · simp at hA
    · simp at hA
  · simp at hA
end
end Go.Ab

/- What an operation does to abstract values and blocks, and that the model's operation does the same: literals, make, conversions, append, copy; no condition. -/
namespace Go.Ab
open Go.RowKit
section
variable {P : Program} {μ : Emb} {h : Hp} {w : World}

/-! ### struct and slice literals -/
def fillA (place : Nat → Option (Nat × Nat)) : List Value → List (Nat × Value) → Option (List Value)
  | cs, [] => some cs
  | cs, (i, v) :: rest =>
    match place i, cellsOf v with
    | some (off, size), some xs => if xs.length = size ∧ off + xs.length ≤ cs.length then fillA place (spl cs off xs) rest else none
    | _, _ => none
def PRel (μ : Emb) (xs ys : List (Nat × Value)) : Prop := xs.length = ys.length ∧ ∀ (i : Nat) (x y : Nat × Value), xs[i]? = some x → ys[i]? = some y → x.1 = y.1 ∧ VRel μ x.2 y.2
theorem PRel.cons_inv {x : Nat × Value} {xs ys' : List (Nat × Value)} (h : PRel μ (x :: xs) ys') : ∃ y ys, ys' = y :: ys ∧ x.1 = y.1 ∧ VRel μ x.2 y.2 ∧ PRel μ xs ys := by
  cases ys' with
  | nil => simp [PRel] at h
  | cons y ys =>
    refine ⟨y, ys, rfl, (h.2 0 x y rfl rfl).1, (h.2 0 x y rfl rfl).2, by simpa using h.1, ?_⟩
    intro i a b ha hb
    exact h.2 (i + 1) a b (by simpa using ha) (by simpa using hb)
theorem foldl_spl (xs : List Value) : ∀ (cs : Array Value) (off k : Nat), (xs.zipIdx k).foldl (fun cs (p : Value × Nat) => cs.setIfInBounds (off + p.2) p.1) cs = (spl cs.toList (off + k) xs).toArray := by
  induction xs with
  | nil => intro cs off k; simp [spl]
  | cons x xs ih =>
    intro cs off k
    simp only [List.zipIdx_cons, List.foldl_cons]
    rw [ih]
    simp [spl, Array.toList_setIfInBounds, Nat.add_assoc]
theorem fillA_ok {place : Nat → Option (Nat × Nat)} : ∀ (ps ps' : List (Nat × Value)) (cs : List Value) (cs' : Array Value) (r : List Value), LRel μ cs cs'.toList → PRel μ ps ps' → fillA place cs ps = some r →
    ∃ r', Instr.fill place cs' ps' = some r' ∧ LRel μ r r'.toList := by
  intro ps
  induction ps with
  | nil =>
    intro ps' cs cs' r hc hp hA
    cases ps' with
    | nil => simp [fillA] at hA; subst hA; exact ⟨cs', rfl, hc⟩
    | cons _ _ => simp [PRel] at hp
  | cons p ps ih =>
    intro ps' cs cs' r hc hp hA
    obtain ⟨q, qs, rfl, h1, h2, h3⟩ := PRel.cons_inv hp
    obtain ⟨i, v⟩ := p
    obtain ⟨i', v'⟩ := q
    simp at h1 h2; subst h1
    simp only [fillA] at hA
    split at hA
    · rename_i off size xs hpl hxs
      split at hA
      · rename_i hc2
        have hrel := h2.cells hxs
        have hsz : v'.cells.size = xs.length := by have := hrel.1; simp at this; omega
        have hcs : cs.length = cs'.size := by have := hc.1; simpa using this
        have hf : (v'.cells.zipIdx.foldl (fun cs (p : Value × Nat) => cs.setIfInBounds (off + p.2) p.1) cs') = (spl cs'.toList off v'.cells.toList).toArray := by
          rw [← Array.foldl_toList, Array.toList_zipIdx]
          exact foldl_spl _ cs' off 0
        obtain ⟨r', e1, e2⟩ := ih qs (spl cs off xs) (spl cs'.toList off v'.cells.toList).toArray r (by simpa using LRel.spl off hc hrel) h3 hA
        refine ⟨r', ?_, e2⟩
        simp only [Instr.fill, hpl]
        rw [if_neg (by simp; omega)]
        rw [← hf] at e1
        exact e1
      · simp at hA
    · simp at hA

def placesA (P : Program) : List Field → Option (List (Nat × Nat))
  | [] => some []
  | f :: fs => match sizeT P f.type, placesA P fs with
    | some n, some l => some ((f.offset, n) :: l)
    | _, _ => none
theorem placesA_ok : ∀ (fs : List Field) (l : List (Nat × Nat)), placesA P fs = some l → ∀ w, (fs.mapM fun f => (do pure (f.offset, ← sizeOf f.type) : Sem (Nat × Nat))).run P w = .ok l w := by
  intro fs
  induction fs with
  | nil => intro l h w; simp [placesA] at h; subst h; simp
  | cons f fs ih =>
    intro l h w
    simp only [placesA] at h
    split at h
    · rename_i n l' hn hl
      simp at h; subst h
      rw [List.mapM_cons]
      simp only [Sem.run_bind, sizeT_run hn, Result.andThen_ok, Sem.run_pure, ih l' hl]
    · simp at h

def buildA (P : Program) (t : TypeId) (parts : List (Nat × Value)) : Option Value :=
  match P.underlying t, zeroT P t with
  | some (.struct fields), some zero =>
    match placesA P fields.toList with
    | some places => (fillA (places[·]?) zero parts).map fun cs => .agg cs.toArray
    | none => none
  | some (.array _ elem), some zero =>
    match sizeT P elem with
    | some size => (fillA (fun i => some (i * size, size)) zero parts).map fun cs => .agg cs.toArray
    | none => none
  | _, _ => none
theorem buildA_ok {t : TypeId} {parts : List (Nat × Value)} {parts' : Array (Nat × Value)} {v : Value} (hp : PRel μ parts parts'.toList) (hA : buildA P t parts = some v) (w : World) :
    ∃ v', (Instr.build t parts').run P w = .ok v' w ∧ VRel μ v v' := by
  unfold buildA at hA
  split at hA
  · rename_i fields zero hu hz
    obtain ⟨z, hzr, rfl⟩ := zeroT_run hz
    split at hA
    · rename_i places hpl
      obtain ⟨cs, hcs, rfl⟩ := Option.map_eq_some_iff.1 hA
      obtain ⟨r', e1, e2⟩ := fillA_ok (μ := μ) parts parts'.toList _ z.cells cs (LRel.grs μ _) hp hcs
      have hm := placesA_ok (P := P) fields.toList places hpl
      have hm' : ∀ w, (fields.mapM fun f => (do pure (f.offset, ← sizeOf f.type) : Sem (Nat × Nat))).run P w = .ok places.toArray w := by
        intro w
        rw [Array.mapM_eq_mapM_toList]
        simp only [Sem.run_map, hm w, Result.andThen_ok]
      refine ⟨.agg r', ?_, LRel.agg (by simpa [ARel] using e2)⟩
      have e1' : Instr.fill (fun x => places[x]?) z.cells parts'.toList = some r' := e1
      simp only [Instr.build, Sem.run_bind, hzr, Result.andThen_ok, run_underlying hu, hm']
      simp [e1']
    · simp at hA
  · rename_i n elem zero hu hz
    obtain ⟨z, hzr, rfl⟩ := zeroT_run hz
    split at hA
    · rename_i size hs
      obtain ⟨cs, hcs, rfl⟩ := Option.map_eq_some_iff.1 hA
      obtain ⟨r', e1, e2⟩ := fillA_ok (μ := μ) parts parts'.toList _ z.cells cs (LRel.grs μ _) hp hcs
      exact ⟨.agg r', by simp [Instr.build, hzr, run_underlying hu, sizeT_run hs, e1], LRel.agg (by simpa [ARel] using e2)⟩
    · simp at hA
  · simp at hA

/-- n elements of zero cells -/
def zeros (z : List Value) : Nat → List Value
  | 0 => []
  | n + 1 => z ++ zeros z n
theorem zeros_length (z : List Value) (n : Nat) : (zeros z n).length = n * z.length := by
  induction n with
  | zero => simp [zeros]
  | succ n ih => simp [zeros, ih, Nat.succ_mul, Nat.add_comm]
theorem zeros_get (z : List Value) : ∀ (n i : Nat), i < n * z.length → (zeros z n)[i]? = z[i % z.length]? := by
  intro n
  induction n with
  | zero => intro i hi; simp at hi
  | succ n ih =>
    intro i hi
    simp only [zeros, List.getElem?_append]
    split
    · rename_i h; rw [Nat.mod_eq_of_lt h]
    · rename_i h
      have h' : z.length ≤ i := Nat.le_of_not_lt h
      rw [ih (i - z.length) (by rw [Nat.succ_mul] at hi; omega), Nat.mod_eq_sub_mod h']
theorem zeros_rel (z : Array Value) (n m : Nat) (hm : m = n * z.size) : LRel μ (zeros (z.toList.map gr) n) (((Array.range m).map (z[· % z.size]!)).toList) := by
  refine ⟨by simp [zeros_length, hm], ?_⟩
  intro i x y hx hy
  have hi : i < m := by
    rcases Nat.lt_or_ge i m with h' | h'
    · exact h'
    · simp [h'] at hy
  rw [zeros_get _ _ _ (by simp; omega)] at hx
  simp at hx
  obtain ⟨a, ha, rfl⟩ := hx
  simp only [Array.toList_map, List.getElem?_map, Array.toList_range, List.getElem?_range hi, Option.map_some, Option.some.injEq] at hy
  subst hy
  have : z[i % z.size]! = a := by
    rw [Array.getElem!_eq_getD, Array.getD_eq_getD_getElem?, ha]; rfl
  rw [this]
  exact VRel.gr μ a

def buildSliceA (P : Program) (t : TypeId) (len : Nat) (parts : List (Nat × Value)) (h : Hp) : Option (Value × Hp) :=
  match P.underlying t with
  | some (.slice elem) =>
    match sizeT P elem, zeroT P elem with
    | some size, some zero =>
      if len * size ≤ 16777216 ∧ zero.length = size ∧ len < capO then
        match fillA (fun i => some (i * size, size)) (zeros zero len) parts with
        | some cs => some (.slice (some ⟨h.length, 0, none⟩) len len, h ++ [.cells cs false none])
        | none => none
      else none
    | _, _ => none
  | _ => none
theorem buildSliceA_ok (hr : HRel μ h w) {t : TypeId} {len : Nat} {parts : List (Nat × Value)} {parts' : Array (Nat × Value)} {v : Value} {h' : Hp} (hp : PRel μ parts parts'.toList)
    (hA : buildSliceA P t len parts h = some (v, h')) : Ran P μ h w (Instr.buildSlice t len parts') v h' := by
  unfold buildSliceA at hA
  split at hA
  · rename_i elem hu
    split at hA
    · rename_i size zero hs hz
      obtain ⟨z, hzr, rfl⟩ := zeroT_run hz
      split at hA
      · rename_i hc
        obtain ⟨c1, c2, c3⟩ := hc
        split at hA
        · rename_i cs hcs
          simp at hA
          obtain ⟨rfl, rfl⟩ := hA
          have hzs : z.cells.size = size := by simpa using c2
          obtain ⟨r', e1, e2⟩ := fillA_ok (μ := μ) parts parts'.toList _ _ cs (zeros_rel (μ := μ) z.cells len (len * size) (by rw [hzs])) hp hcs
          obtain ⟨n1, μ', n2, n3⟩ := ran_newRow (P := P) hr elem e2
          have hv := VRel.sl (μ := μ') 0 len len n3 c3 (Nat.le_refl _)
          refine ⟨μ', .slice (some ⟨w.heap.size, 0, none⟩) len len, _, ?_, by simpa using hv, n2⟩
          by_cases h0 : len * size = 0
          · have h0' : len = 0 ∨ size = 0 := Nat.mul_eq_zero.1 h0
            rw [h0] at e1
            simp only [Array.range_zero', Array.map_empty] at e1
            simp only [Instr.buildSlice, Sem.run_bind, run_underlying hu, Result.andThen_ok, sizeT_run hs]
            rw [h0]
            simp [Array.range_zero', e1, n1]
          · simp only [Instr.buildSlice, Sem.run_bind, run_underlying hu, Result.andThen_ok, sizeT_run hs]
            rw [if_neg (by omega), if_neg h0]
            simp [hzr, e1, n1]
        · simp at hA
      · simp at hA
    · simp at hA
  · simp at hA

def makeSliceA (P : Program) (t : TypeId) (l c : Value) (h : Hp) : Option (Value × Hp) :=
  match P.underlying t, l, c with
  | some (.slice elem), .int _ l, .int _ c =>
    match infoT P elem, zeroT P elem with
    | some (sz, bytes, _), some zero =>
      if 0 ≤ l ∧ l ≤ c ∧ bytes * c ≤ 281474976710656 ∧ zero.length = sz ∧ c < 4611686018427387904 then
        some (.slice (some ⟨h.length, 0, none⟩) l.toNat c.toNat, h ++ [.cells (zeros zero c.toNat) false none])
      else none
    | _, _ => none
  | _, _, _ => none
theorem wrap_i64_id {n : Int} (h0 : 0 ≤ n) (h1 : n < 4611686018427387904) : IntKind.i64.wrap n = n := by
  simp only [IntKind.wrap, IntKind.signed, IntKind.bits, IntKind.min, IntKind.max]
  simp
  omega
theorem makeSliceA_ok (hr : HRel μ h w) {t : TypeId} {l c l' c' v : Value} {h' : Hp} (hl : VRel μ l l') (hc : VRel μ c c') (hA : makeSliceA P t l c h = some (v, h')) :
    Ran P μ h w (Instr.makeSlice t l' c') v h' := by
  unfold makeSliceA at hA
  split at hA
  · rename_i elem kl l kc c hu
    split at hA
    · rename_i sz bytes zs zero hinf hz
      obtain ⟨i, zz, hi, _, rfl, rfl, _⟩ := infoT_inv hinf
      obtain ⟨z, hzr, rfl⟩ := zeroT_run hz
      split at hA
      · rename_i hb
        obtain ⟨b1, b2, b3, b4, b5⟩ := hb
        simp at hA
        obtain ⟨rfl, rfl⟩ := hA
        cases hl; cases hc
        have hzs : z.cells.size = i.size := by simpa using b4
        have hrel := zeros_rel (μ := μ) z.cells c.toNat (c.toNat * i.size) (by rw [hzs])
        obtain ⟨n1, μ', n2, n3⟩ := ran_newRow (P := P) hr elem hrel
        have hv := VRel.sl (μ := μ') 0 l.toNat c.toNat n3 (by simp [capO]; omega) (by omega)
        refine ⟨μ', .slice (some ⟨w.heap.size, 0, none⟩) l.toNat c.toNat, _, ?_, by simpa using hv, n2⟩
        have w1 := wrap_i64_id b1 (by omega : l < 4611686018427387904)
        have w2 := wrap_i64_id (by omega : 0 ≤ c) b5
        have g1 : ¬ (c < 0) := by omega
        have g2 : ¬ (281474976710656 < (i.bytes : Int) * c) := by omega
        have g3 : ¬ (l < 0) := by omega
        have g4 : ¬ (c < l) := by omega
        simp only [Instr.makeSlice, Sem.run_bind, run_underlying hu, Result.andThen_ok, asInt, asIntOf, Sem.run_pure, run_typeInfo hi, w1, w2]
        simp only [g1, g2, g3, g4, decide_false, Bool.or_false, Bool.false_eq_true, if_false, gt_iff_lt, Int.reducePow]
        simp only [Sem.run_bind, run_askRoom, Result.andThen_ok, run_sizeOf hi]
        by_cases h0 : c.toNat * i.size = 0
        · rw [if_pos h0]
          rw [h0] at n1
          simp only [Array.range_zero', Array.map_empty] at n1
          simp [h0, Array.range_zero', n1]
        · rw [if_neg h0]
          simp [hzr, n1]
      · simp at hA
    · simp at hA
  · simp at hA

def makeMapA (h : Hp) : Value × Hp := (.map (some h.length), h ++ [.map []])
theorem makeMapA_ok (hr : HRel μ h w) (t : TypeId) : Ran P μ h w (Instr.makeMap t none) (.map (some h.length)) (h ++ [.map []]) := by
  refine ⟨μ.put h.length ⟨w.heap.size, 0, 0, 0⟩, .map (some w.heap.size), w.alloc (.map #[] 0), by simp [Instr.makeMap], VRel.map (Emb.put_new _ _ _), Step.new hr _ _ _ rfl ⟨rfl, #[], 0, ?_, ?_⟩⟩
  · show (w.heap.push _)[w.heap.size]? = _
    simp
  · exact ⟨rfl, by simp, by simp, by simp⟩
end
end Go.Ab

/- What an operation does to abstract values and blocks, and that the model's operation does the same: append, copy, conversions; no condition. -/
namespace Go.Ab
open Go.RowKit
section
variable {P : Program} {μ : Emb} {h : Hp} {w : World}

theorem set_same {b : Nat} {B : Blk} (hB : h[b]? = some B) : h.set b B = h := by
  apply List.ext_getElem?
  intro j
  rw [List.getElem?_set]
  split
  · rename_i hj; subst hj
    split
    · exact hB.symm
    · rename_i hj; simp [List.getElem?_eq_none (Nat.le_of_not_lt hj)] at hB
  · rfl
theorem spl_tail (xs : List Value) : ∀ (a b : List Value), b.length = xs.length → spl (a ++ b) a.length xs = a ++ xs := by
  induction xs with
  | nil => intro a b hb; simp at hb; subst hb; simp [spl]
  | cons x xs ih =>
    intro a b hb
    cases b with
    | nil => simp at hb
    | cons y b =>
      have := ih (a ++ [x]) b (by simpa using hb)
      simp only [List.length_append, List.length_cons, List.length_nil, List.append_assoc, List.singleton_append] at this
      simp only [spl]
      rw [List.set_append_right _ _ (Nat.le_refl _), Nat.sub_self, List.set_cons_zero]
      exact this

/-- Less is known of a block's cells; more of them are told. -/
theorem Step.pad (hr : HRel μ h w) {b : Nat} {e : Place} {cs cs' : List Value} {k : Nat} (hb : μ b = some e) (hB : h[b]? = some (.cells cs false (some k))) (hl : cs'.length ≤ e.ext)
    (hc : ∀ (o : Nat) (v : Value), cs'[o]? = some v → v = any ∨ cs[o]? = some v) : Step μ h w μ (h.set b (.cells cs' false (some k))) w := by
  obtain ⟨g1, g2, g3, g4, g5⟩ := hr.obj b e _ hb hB
  refine Step.write hr hb hB rfl _ (fun _ => rfl) rfl rfl rfl rfl (fun _ _ => rfl) ⟨hl, by simp, g3, ?_, g5⟩
  intro o v hv
  rcases hc o v hv with rfl | h1
  · have ho : o < e.ext := by
      rcases Nat.lt_or_ge o cs'.length with h' | h'
      · omega
      · simp [List.getElem?_eq_none h'] at hv
    obtain ⟨y, hy⟩ := Option.isSome_iff_exists.1 (rwcell (g5 rfl) o ho).1
    exact ⟨y, hy, .any y⟩
  · exact g4 o v h1

/-- A block goes on under a new number, from one of its cells on. -/
theorem Step.shift (hr : HRel μ h w) {b o : Nat} {e : Place} {cs cs' : List Value} {k : Nat} (hb : μ b = some e) (hB : h[b]? = some (.cells cs false (some k))) (ho : o ≤ e.ext) (hl : cs' = cs.drop o) :
    Step μ h w (μ.put h.length ⟨e.block, e.off + o, e.ext - o, e.esz⟩) (h.set b .dead ++ [.cells cs' false (some k)]) w := by
  obtain ⟨g1, g2, g3, g4, g5⟩ := hr.obj b e _ hb hB
  refine Step.move hr hb hB rfl _ _ rfl (fun _ => rfl) rfl rfl rfl rfl (fun _ _ => rfl) ⟨by subst hl; simp; omega, by simp, g3, ?_, ?_⟩
  · intro i v hv
    subst hl
    rw [List.getElem?_drop] at hv
    obtain ⟨v', h1, h2⟩ := g4 _ v hv
    refine ⟨v', ?_, h2.mono (Emb.put_old hr _)⟩
    rw [Nat.add_assoc]; exact h1
  · intro _
    obtain ⟨C, t, lo, hi, q1, q2, q3⟩ := g5 rfl
    exact ⟨C, t, lo, hi, q1, by simp; omega, q3⟩

/-! ### what is appended, or copied -/
def byteV (b : UInt8) : Value := .int .u8 b.toNat
def srcA (z : Nat) (x : Value) (h : Hp) : Option (Nat × List Value) :=
  match x with
  | .slice none 0 0 => some (0, [])
  | .slice (some ⟨_, _, some _⟩) 0 0 => some (0, [])
  | .slice (some ⟨b, o, none⟩) n _ =>
    if n = 0 then some (0, []) else
    match h[b]? with
    | some (.cells cs _ _) => if o + n * z ≤ cs.length then some (n, (cs.drop o).take (n * z)) else none
    | _ => none
  | .string s => if z = 1 then some (s.size, s.data.toList.map byteV) else none
  | _ => none
/-- a slice's value, as it stands: where it begins (if it has elements), and how long it is -/
theorem VRel.slice_inv {b o n c : Nat} {x' : Value} (hx : VRel μ (.slice (some ⟨b, o, none⟩) n c) x') :
    ∃ e a c', μ b = some e ∧ x' = .slice (some a) n c' ∧ n ≤ c' ∧ (n ≠ 0 → a = ⟨e.block, e.off + o, none⟩) := by
  cases hx with
  | sl o n c hb hc hn => exact ⟨_, _, _, hb, rfl, hn, fun _ => rfl⟩
  | slO o n l c hb hn hl hx => exact ⟨_, _, _, hb, rfl, by omega, fun _ => rfl⟩
  | slE o o' hb => exact ⟨_, _, _, hb, rfl, by omega, fun h => absurd rfl h⟩
  | slZ o o' hb => exact ⟨_, _, _, hb, rfl, by omega, fun h => absurd rfl h⟩
theorem VRel.slice_inv2 {b o n c : Nat} {x' : Value} (hx : VRel μ (.slice (some ⟨b, o, none⟩) n c) x') : ∃ e o' c', μ b = some e ∧ x' = .slice (some ⟨e.block, o', none⟩) n c' := by
  cases hx with
  | sl o n c hb hc hn => exact ⟨_, _, _, hb, rfl⟩
  | slO o n l c hb hn hl hx => exact ⟨_, _, _, hb, rfl⟩
  | slE o o' hb => exact ⟨_, _, _, hb, rfl⟩
  | slZ o o' hb => exact ⟨_, _, _, hb, rfl⟩
theorem srcA_ok (hr : HRel μ h w) {z n : Nat} {x x' : Value} {xs : List Value} (hx : VRel μ x x') (hA : srcA z x h = some (n, xs)) :
    (∀ w', (Builtin.lenOf x').run P w' = .ok n w') ∧ xs.length = n * z ∧ ∀ k, k ≤ n → ∃ arr : Array Value, (∀ w', (∀ i, i < w.heap.size → w'.heap[i]? = w.heap[i]?) → (Builtin.firstCells z k x').run P w' = .ok arr w') ∧
      LRel μ (xs.take (k * z)) arr.toList := by
  unfold srcA at hA
  split at hA
  · simp at hA
    obtain ⟨rfl, rfl⟩ := hA
    cases hx
    exact ⟨fun w' => by simp [Builtin.lenOf], by simp, fun k hk => ⟨#[], fun w' _ => by simp [Builtin.firstCells], by simpa using LRel.nil⟩⟩
  · simp at hA
    obtain ⟨rfl, rfl⟩ := hA
    cases hx with
    | slD a =>
      refine ⟨fun w' => by simp [Builtin.lenOf], by simp, fun k hk => ⟨#[], fun w' _ => ?_, by simpa using LRel.nil⟩⟩
      have : k = 0 := by omega
      subst this
      simp [Builtin.firstCells, loadCells, loadCellsFrom]
  · rename_i b o n' c
    obtain ⟨e, a, c', hb, rfl, hc, ha⟩ := hx.slice_inv
    split at hA
    · rename_i h0
      simp at hA
      obtain ⟨rfl, rfl⟩ := hA
      subst h0
      refine ⟨fun w' => by simp [Builtin.lenOf], by simp, fun k hk => ⟨#[], fun w' _ => ?_, by simpa using LRel.nil⟩⟩
      have : k = 0 := by omega
      subst this
      simp [Builtin.firstCells, loadCells, loadCellsFrom]
    · rename_i h0
      split at hA
      · rename_i cs ro op hB
        split at hA
        · rename_i hle
          simp at hA
          obtain ⟨rfl, rfl⟩ := hA
          have ha' := ha h0
          subst ha'
          refine ⟨fun w' => by simp [Builtin.lenOf], by simp; omega, fun k hk => ?_⟩
          have hkz : k * z ≤ n' * z := Nat.mul_le_mul_right _ hk
          obtain ⟨vs, h1, h2⟩ := hr.cells (P := P) (o := o) (n := k * z) hb hB (by omega)
          refine ⟨vs.toArray, fun w' hw' => ?_, ?_⟩
          · simp only [Builtin.firstCells]
            exact h1 w' (hw' _ (hr.dom _ _ hb).2)
          · rw [List.take_take, Nat.min_eq_left hkz]
            simpa using h2
        · simp at hA
      · simp at hA
  · rename_i s
    split at hA
    · rename_i hz
      simp at hA
      obtain ⟨rfl, rfl⟩ := hA
      cases hx
      subst hz
      refine ⟨fun w' => by simp [Builtin.lenOf], by simp, fun k hk => ⟨(s.extract 0 k).data.map byteV, fun w' _ => by simp [Builtin.firstCells, byteV]; rfl, ?_⟩⟩
      have : (s.extract 0 k).data.toList = s.data.toList.take k := by
        rw [ByteArray.data_extract]
        simp [List.extract_eq_take_drop]
      rw [Nat.mul_one, Array.toList_map, this, ← List.map_take]
      refine ⟨rfl, fun i p q hp hq => ?_⟩
      have hpq : p = q := Option.some.inj (hp.symm.trans hq)
      subst hpq
      rw [List.getElem?_map] at hp
      obtain ⟨q, _, rfl⟩ := Option.map_eq_some_iff.1 hp
      exact .int _ _
    · simp at hA
  · simp at hA

/-! ### append -/
def oldsA (z n b o : Nat) (h : Hp) : Option (List Value) :=
  if n = 0 then some [] else
  match h[b]? with
  | some (.cells cs _ _) => if o + n * z ≤ cs.length then some ((cs.drop o).take (n * z)) else none
  | _ => none
def growA (z : Nat) (xs : List Value) (n : Nat) (h : Hp) : Value × Hp := (.slice (some ⟨h.length, 0, none⟩) n (capO + n), h ++ [.cells xs false (some z)])
def isSrc : TypeDesc → Bool
  | .slice _ | .string => true
  | _ => false
def appendA (P : Program) (t tx : TypeId) (s x : Value) (h : Hp) : Option (Value × Hp) :=
  match P.underlying t with
  | some (.slice e) =>
    match infoT P e, P.underlying tx with
    | some (sz, bytes, zs), some dx =>
      if isSrc dx = false then none else
      if zs ≠ sz then none else
      match srcA sz x h with
      | some (m, news) =>
        match s with
        | .slice none 0 0 => if m = 0 then some (.slice none 0 0, h) else if m * bytes ≤ 140737488355328 ∧ m < 4611686018427387904 then some (growA sz news m h) else none
        | .slice (some ⟨b, o, none⟩) n c =>
          if m = 0 then some (s, h) else
          if (n + m) * bytes ≤ 140737488355328 ∧ n + m < 4611686018427387904 then
            if c < capO then
              if n + m ≤ c then
                match h[b]? with
                | some (.cells cs false op) => if o + (n + m) * sz ≤ cs.length ∧ news.all oneA = true then some (.slice (some ⟨b, o, none⟩) (n + m) c, h.set b (.cells (spl cs (o + n * sz) news) false op)) else none
                | _ => none
              else
                match oldsA sz n b o h with
                | some olds => some (growA sz (olds ++ news) (n + m) h)
                | none => none
            else
              match h[b]? with
              | some (.cells cs false (some k)) =>
                if k = sz ∧ o + n * sz ≤ cs.length ∧ news.all oneA = true then
                  if n + m ≤ c - capO ∧ o + (n + m) * sz ≤ cs.length then some (.slice (some ⟨b, o, none⟩) (n + m) c, h.set b (.cells (spl cs (o + n * sz) news) false (some k)))
                  else some (growA sz ((cs.drop o).take (n * sz) ++ news) (n + m) (h.set b .dead))
                else none
              | _ => none
          else none
        | _ => none
      | none => none
    | _, _ => none
  | _ => none

theorem run_append_fits {t tx ty e : TypeId} {i : TypeInfo} {dx : TypeDesc} (hu : P.underlying t = some (.slice e)) (hi : P.info? e = some i) (hx : P.underlying tx = some dx) (hd : isSrc dx = true)
    {base : Option Addr} {n m c : Nat} {x' : Value} {arr : Array Value} {w' : World} (hl : (Builtin.lenOf x').run P w = .ok m w) (hfit : n + m ≤ c) (hf : (Builtin.firstCells i.size m x').run P w = .ok arr w)
    (hs : ∀ a, base = some a → (storeCells (a.add (n * i.size)) arr.toList).run P w = .ok () w') (hn : base = none → w' = w) :
    (Builtin.append_ #[t, tx] ty #[.slice base n c, x']).run P w = .ok (.slice base (n + m) c) w' := by
  cases dx <;> simp [isSrc] at hd
  all_goals
    cases base with
    | none =>
      have := hn rfl; subst this
      simp [Builtin.append_, run_underlying hu, run_underlying hx, run_sizeOf hi, hl, hfit, hf]
    | some a =>
      simp [Builtin.append_, run_underlying hu, run_underlying hx, run_sizeOf hi, hl, hfit, hf, hs a rfl]

theorem run_append_grows {t tx ty e : TypeId} {i : TypeInfo} {dx : TypeDesc} {z : Value} (hu : P.underlying t = some (.slice e)) (hi : P.info? e = some i) (hz : i.zero = some z) (hx : P.underlying tx = some dx) (hd : isSrc dx = true)
    {base : Option Addr} {n m c : Nat} {x' : Value} {olds news : Array Value} (hl : ∀ w, (Builtin.lenOf x').run P w = .ok m w) (hfit : ¬ n + m ≤ c)
    (hb1 : (n + m) * i.bytes ≤ 140737488355328) (hb2 : n + m < 4611686018427387904)
    (ho : (Builtin.firstCells i.size n (.slice base n c)).run P w.drew = .ok olds w.drew) (hf : (Builtin.firstCells i.size m x').run P w.drew = .ok news w.drew) :
    (Builtin.append_ #[t, tx] ty #[.slice base n c, x']).run P w =
      .ok (.slice (some ⟨w.heap.size, 0, none⟩) (n + m) (grownCap w (n + m) c e)) (w.drew.alloc (.cells (olds ++ news ++ Builtin.zeroCells z.cells (grownCap w (n + m) c e - (n + m))) e)) := by
  have h63 : ¬ (9223372036854775807 < ((n : Int) + (m : Int))) := by omega
  have hg := growslice_fits (old := c) (need := n + m) (bytes := i.bytes) (by omega) hb1
  have h48 : ¬ (281474976710656 < Builtin.nextslicecap (n + m) c * i.bytes) := by omega
  cases dx <;> simp [isSrc] at hd
  all_goals
    simp [Builtin.append_, run_underlying hu, run_underlying hx, run_sizeOf hi, run_typeInfo hi, run_zeroValue hi hz, hl, hfit, h63, h48, Question.forced, newRow, grownCap, ho, hf]

theorem grownCap_le' (w : World) (need old : Nat) (e : TypeId) : need ≤ grownCap w need old e := by
  simp only [grownCap, Question.cut]
  omega
/-- the step of an append that makes a new row -/
theorem Step.grow (hr : HRel μ h w) {e : TypeId} {z : Value} {n c size : Nat} {xs : List Value} {olds news : Array Value} (hzs : z.cells.size = size) (hlen : xs.length = n * size) (hx : LRel μ xs (olds ++ news).toList) :
    ∃ μ', Step μ h w μ' (growA size xs n h).2 (w.drew.alloc (.cells (olds ++ news ++ Builtin.zeroCells z.cells (grownCap w n c e - n)) e)) ∧
      VRel μ' (growA size xs n h).1 (.slice (some ⟨w.heap.size, 0, none⟩) n (grownCap w n c e)) := by
  have hsz : (olds ++ news ++ Builtin.zeroCells z.cells (grownCap w n c e - n)).size = grownCap w n c e * size := by
    have h1 : (olds ++ news).size = n * size := by have := hx.1; simp at this; simp; omega
    have h2 := grownCap_le' w n c e
    rw [Array.size_append, h1]
    simp only [Builtin.zeroCells, Array.size_map, Array.size_range, hzs]
    rw [← Nat.add_mul]; congr 1; omega
  have s2 := Step.row (Step.drew hr).rel (olds ++ news ++ Builtin.zeroCells z.cells (grownCap w n c e - n)) e xs (some size) size (by simp) (by simp) (by rw [hsz, hlen]; exact Nat.mul_le_mul_right _ (grownCap_le' w n c e)) (by
    intro o v hv
    obtain ⟨y, hy, hvy⟩ := hx.get hv
    refine ⟨y, ?_, hvy⟩
    rw [Array.getElem?_append_left (by
      rcases Nat.lt_or_ge o (olds ++ news).size with h' | h'
      · exact h'
      · rw [List.getElem?_eq_none (by simpa using h')] at hy; simp at hy)]
    rw [Array.getElem?_toList] at hy
    exact hy)
  refine ⟨_, (Step.drew hr).trans s2, ?_⟩
  have := VRel.slO (μ := μ.put h.length ⟨w.drew.heap.size, 0, (olds ++ news ++ Builtin.zeroCells z.cells (grownCap w n c e - n)).size, size⟩) (b := h.length) 0 n n (grownCap w n c e) (Emb.put_new _ _ _) (Nat.le_refl _) (grownCap_le' w n c e) (by simp only [hsz]; omega)
  simpa [growA] using this

theorem oldsA_ok (hr : HRel μ h w) {z n b o c : Nat} {e : Place} {a : Addr} {olds : List Value} (hb : μ b = some e) (ha : n ≠ 0 → a = ⟨e.block, e.off + o, none⟩) (hA : oldsA z n b o h = some olds) :
    olds.length = n * z ∧ ∃ arr : Array Value, (∀ w', (∀ i, i < w.heap.size → w'.heap[i]? = w.heap[i]?) → (Builtin.firstCells z n (.slice (some a) n c)).run P w' = .ok arr w') ∧ LRel μ olds arr.toList := by
  unfold oldsA at hA
  split at hA
  · rename_i h0
    subst h0
    simp at hA; subst hA
    exact ⟨by simp, #[], fun w' _ => by simp [Builtin.firstCells, loadCells, loadCellsFrom], by simpa using LRel.nil⟩
  · rename_i h0
    split at hA
    · rename_i cs ro op hB
      split at hA
      · rename_i hle
        simp at hA; subst hA
        obtain ⟨vs, h1, h2⟩ := hr.cells (P := P) (o := o) (n := n * z) hb hB hle
        refine ⟨by simp; omega, vs.toArray, fun w' hw' => ?_, by simpa using h2⟩
        rw [ha h0]
        simp only [Builtin.firstCells]
        exact h1 w' (hw' _ (hr.dom _ _ hb).2)
      · simp at hA
    · simp at hA

theorem step_draw_heap (w : World) : ∀ i, i < w.heap.size → w.drew.heap[i]? = w.heap[i]? := fun _ _ => rfl

theorem appendA_ok (hr : HRel μ h w) {t tx ty : TypeId} {s x s' x' v : Value} {h' : Hp} (hs : VRel μ s s') (hx : VRel μ x x') (hA : appendA P t tx s x h = some (v, h')) :
    Ran P μ h w (Builtin.append_ #[t, tx] ty #[s', x']) v h' := by
  unfold appendA at hA
  split at hA
  case h_2 => simp at hA
  rename_i e hu
  split at hA
  case h_2 => simp at hA
  rename_i sz bytes zs dx hinf htx
  obtain ⟨i, z, hi, hz, rfl, rfl, rfl⟩ := infoT_inv hinf
  split at hA
  case isTrue => simp at hA
  rename_i hd
  have hd : isSrc dx = true := by simpa using hd
  split at hA
  case isTrue => simp at hA
  rename_i hzz
  have hzs : z.cells.size = i.size := by simpa using hzz
  split at hA
  case h_2 => simp at hA
  rename_i m news hsrc
  obtain ⟨hl, hlen, hfc⟩ := srcA_ok (P := P) hr hx hsrc
  obtain ⟨arr, hf, hrel⟩ := hfc m (Nat.le_refl _)
  rw [List.take_of_length_le (by omega)] at hrel
  have hfw := hf w (fun _ _ => rfl)
  have hfd := hf w.drew (step_draw_heap w)
  split at hA
  case h_3 => simp at hA
  case h_1 =>
    cases hs
    split at hA
    · rename_i h0
      subst h0
      simp at hA
      obtain ⟨rfl, rfl⟩ := hA
      exact Ran.pure hr (v' := .slice none 0 0) (run_append_fits (n := 0) (m := 0) hu hi htx hd (hl w) (Nat.le_refl _) hfw (by simp) (fun _ => rfl)) .sl0
    · rename_i h0
      split at hA
      · rename_i hb
        simp only [Option.some.injEq] at hA
        have hrel' : LRel μ news (#[] ++ arr).toList := by simpa using hrel
        obtain ⟨μ', s1, s2⟩ := Step.grow (n := m) (c := 0) (e := e) hr hzs hlen hrel'
        rw [hA] at s1 s2
        refine ⟨μ', _, _, ?_, s2, s1⟩
        have := run_append_grows (P := P) (w := w) (ty := ty) (n := 0) (m := m) (c := 0) (base := none) (x' := x') (olds := #[]) (news := arr) hu hi hz htx hd hl (by omega) (by rw [Nat.zero_add]; exact hb.1) (by omega) (by simp [Builtin.firstCells]) hfd
        rw [Nat.zero_add] at this
        exact this
      · simp at hA
  case h_2 b o n c =>
    obtain ⟨p, a, c', hb, rfl, hc, ha⟩ := hs.slice_inv
    split at hA
    · rename_i h0
      subst h0
      simp at hA
      obtain ⟨rfl, rfl⟩ := hA
      have ha0 : arr.toList = [] := List.eq_nil_of_length_eq_zero (by rw [← hrel.1, hlen]; simp)
      exact Ran.pure hr (v' := .slice (some a) n c') (run_append_fits (n := n) (m := 0) hu hi htx hd (hl w) hc hfw (fun a' _ => by rw [ha0]; simp [storeCells]) (by simp)) hs
    · rename_i h0
      split at hA
      case isFalse => simp at hA
      rename_i hbd
      split at hA
      · rename_i hco
        split at hA
        · rename_i hfit
          split at hA
          · rename_i cs op hB
            split at hA
            · rename_i hok
              simp at hA
              obtain ⟨rfl, rfl⟩ := hA
              cases hs with
              | sl o n c hb' hc' hn =>
                have hbb := hb.symm.trans hb'
                simp at hbb
                subst hbb
                have haddr : (n + m) * i.size = n * i.size + m * i.size := Nat.add_mul _ _ _
                obtain ⟨w', r1, r2⟩ := ran_storeCells (P := P) news arr.toList (i := 0) (o := o + n * i.size) hr hb hB (by omega) hrel hok.2
                refine ⟨μ, .slice (some ⟨p.block, p.off + o, none⟩) (n + m) c, w', run_append_fits hu hi htx hd (hl w) hfit hfw (fun a' ha' => ?_) (by simp), .sl _ _ _ hb hc' hfit, r2⟩
                simp at ha'; subst ha'
                rw [Addr.add_lit, Nat.add_assoc]; exact r1
              | slO => omega
              | slE => omega
              | slZ => omega
            · simp at hA
          · simp at hA
        · rename_i hfit
          split at hA
          case h_2 => simp at hA
          rename_i olds holds
          simp only [Option.some.injEq] at hA
          obtain ⟨ol, oarr, of, orel⟩ := oldsA_ok (P := P) (c := c') hr hb ha holds
          have hcc : c' = c := by
            cases hs with
            | sl => rfl
            | slO => omega
            | slE => omega
            | slZ => rfl
          subst hcc
          have hrel' : LRel μ (olds ++ news) (oarr ++ arr).toList := by simpa using LRel.append orel hrel
          have haddr : (n + m) * i.size = n * i.size + m * i.size := Nat.add_mul _ _ _
          obtain ⟨μ', s1, s2⟩ := Step.grow (n := n + m) (c := c') (e := e) hr hzs (by simp; omega) hrel'
          rw [hA] at s1 s2
          exact ⟨μ', _, _, run_append_grows hu hi hz htx hd hl hfit hbd.1 hbd.2 (of _ (step_draw_heap w)) hfd, s2, s1⟩
      · rename_i hco
        split at hA
        case h_2 => simp at hA
        rename_i cs k hB
        split at hA
        case isFalse => simp at hA
        rename_i hok
        obtain ⟨hk, hle, hone⟩ := hok
        subst hk
        have hesz : p.esz = i.size := (hr.obj b p _ hb hB).2.2.1 _ rfl
        have haddr : (n + m) * i.size = n * i.size + m * i.size := Nat.add_mul _ _ _
        split at hA
        · rename_i hfit
          simp at hA
          obtain ⟨rfl, rfl⟩ := hA
          cases hs with
          | sl => omega
          | slZ => omega
          | slE => omega
          | slO o n l c' hb' hn hl' hx' =>
            have hbb := hb.symm.trans hb'
            simp at hbb
            subst hbb
            obtain ⟨w', r1, r2⟩ := ran_storeCells (P := P) news arr.toList (i := 0) (o := o + n * i.size) hr hb hB (by omega) hrel hone
            refine ⟨μ, .slice (some ⟨p.block, p.off + o, none⟩) (n + m) c', w', run_append_fits hu hi htx hd (hl w) (by omega) hfw (fun a' ha' => ?_) (by simp), .slO _ _ _ _ hb (by omega) hl' hx', r2⟩
            simp at ha'; subst ha'
            rw [Addr.add_lit, Nat.add_assoc]; exact r1
        · rename_i hfit
          simp only [Option.some.injEq] at hA
          have hold : oldsA i.size n b o h = some ((cs.drop o).take (n * i.size)) := by
            unfold oldsA
            split
            · rename_i h0; subst h0; simp
            · rw [hB]; simp [hle]
          obtain ⟨ol, oarr, of, orel⟩ := oldsA_ok (P := P) (c := c') hr hb ha hold
          have hrel' : LRel μ ((cs.drop o).take (n * i.size) ++ news) (oarr ++ arr).toList := by simpa using LRel.append orel hrel
          by_cases hroom : n + m ≤ c'
          · -- in place, beyond what is known of the block
            cases hs with
            | sl => omega
            | slZ => omega
            | slE => omega
            | slO o n l c' hb' hn hl' hx' =>
              have hbb := hb.symm.trans hb'
              simp at hbb
              subst hbb
              have hcm : (n + m) * i.size ≤ c' * i.size := Nat.mul_le_mul_right _ hroom
              rw [hesz] at hx'
              have s1 := Step.pad hr hb hB (cs' := cs.take (o + n * i.size) ++ List.replicate (m * i.size) any) (by simp; omega) (by
                intro j v hv
                rw [List.getElem?_append] at hv
                split at hv
                · rw [List.getElem?_take] at hv
                  split at hv
                  · exact .inr hv
                  · simp at hv
                · simp [List.getElem?_replicate] at hv
                  exact .inl hv.2.symm)
              have hlt : b < h.length := (hr.dom b p hb).1
              obtain ⟨w', r1, r2⟩ := ran_storeCells (P := P) news arr.toList (i := 0) (o := o + n * i.size) s1.rel hb (by rw [List.getElem?_set_self hlt]) (by simp; omega) hrel hone
              rw [List.set_set, Nat.add_zero] at r2
              have hspl : spl (cs.take (o + n * i.size) ++ List.replicate (m * i.size) any) (o + n * i.size) news = cs.take (o + n * i.size) ++ news := by
                have := spl_tail news (cs.take (o + n * i.size)) (List.replicate (m * i.size) any) (by simp; omega)
                rwa [List.length_take, Nat.min_eq_left hle] at this
              rw [hspl] at r2
              have s3 := Step.shift r2.rel hb (by rw [List.getElem?_set_self hlt]) (o := o) (cs' := (cs.drop o).take (n * i.size) ++ news) (by omega) (by
                rw [List.drop_append_of_le_length (by simp; omega), List.drop_take, Nat.add_sub_cancel_left])
              rw [List.set_set, List.length_set] at s3
              have s4 := (s1.trans r2).trans s3
              simp only [growA, Prod.mk.injEq] at hA
              obtain ⟨rfl, rfl⟩ := hA
              refine ⟨μ.put h.length ⟨p.block, p.off + o, p.ext - o, p.esz⟩, .slice (some ⟨p.block, p.off + o, none⟩) (n + m) c', w', run_append_fits hu hi htx hd (hl w) hroom hfw (fun a' ha' => ?_) (by simp), ?_, s4⟩
              · simp at ha'; subst ha'
                rw [Addr.add_lit, Nat.add_assoc]; exact r1
              · have := VRel.slO (μ := μ.put h.length ⟨p.block, p.off + o, p.ext - o, p.esz⟩) (b := h.length) 0 (n + m) (n + m) c' (Emb.put_new _ _ _) (Nat.le_refl _) hroom (by simp only [hesz]; omega)
                simpa using this
          · have s0 := Step.kill hr b
            obtain ⟨μ', s1, s2⟩ := Step.grow (n := n + m) (c := c') (e := e) s0.rel hzs (by simp; omega) hrel'
            rw [hA] at s1 s2
            exact ⟨μ', _, _, run_append_grows hu hi hz htx hd hl hroom hbd.1 hbd.2 (of _ (step_draw_heap w)) hfd, s2, s0.trans s1⟩
end
end Go.Ab

/- What an operation does to abstract values and blocks, and that the model's operation does the same: copy, clear, len, min, max, conversions, iterators over strings, maps whose keys are numbers or texts; no condition. -/
namespace Go.Ab
open Go.RowKit
section
variable {P : Program} {μ : Emb} {h : Hp} {w : World}

def copyA (P : Program) (t : TypeId) (d x : Value) (h : Hp) : Option (Value × Hp) :=
  match P.underlying t with
  | some (.slice e) =>
    match sizeT P e with
    | some z =>
      match srcA z x h, d with
      | some (_, _), .slice none 0 0 => some (.int .i64 0, h)
      | some (m, xs), .slice (some ⟨b, o, none⟩) n _ =>
        if n = 0 then some (.int .i64 0, h) else
        match h[b]? with
        | some (.cells cs false op) =>
          if o + min m n * z ≤ cs.length ∧ (xs.take (min m n * z)).all oneA = true then some (.int .i64 (min m n : Nat), h.set b (.cells (spl cs o (xs.take (min m n * z))) false op)) else none
        | _ => none
      | _, _ => none
    | none => none
  | _ => none
theorem copyA_ok (hr : HRel μ h w) {t tx ty : TypeId} {d x d' x' v : Value} {h' : Hp} (hd : VRel μ d d') (hx : VRel μ x x') (hA : copyA P t d x h = some (v, h')) :
    Ran P μ h w (Builtin.copy_ #[t, tx] ty #[d', x']) v h' := by
  unfold copyA at hA
  split at hA
  case h_2 => simp at hA
  rename_i e hu
  split at hA
  case h_2 => simp at hA
  rename_i z hz
  split at hA
  · rename_i m xs hsrc
    simp at hA
    obtain ⟨rfl, rfl⟩ := hA
    cases hd
    obtain ⟨hl, hlen, hfc⟩ := srcA_ok (P := P) hr hx hsrc
    obtain ⟨arr, hf, hrel⟩ := hfc 0 (Nat.zero_le _)
    refine Ran.pure hr (v' := .int .i64 0) ?_ (.int _ _)
    simp [Builtin.copy_, run_underlying hu, hl, sizeT_run hz, hf w (fun _ _ => rfl), goInt]
  · rename_i m xs b o n c hsrc
    obtain ⟨hl, hlen, hfc⟩ := srcA_ok (P := P) hr hx hsrc
    obtain ⟨arr, hf, hrel⟩ := hfc (min m n) (Nat.min_le_left _ _)
    obtain ⟨p, a, c', hb, rfl, hc, ha⟩ := hd.slice_inv
    split at hA
    · rename_i h0
      subst h0
      simp at hA
      obtain ⟨rfl, rfl⟩ := hA
      have hn : Nat.min m 0 = 0 := Nat.min_zero m
      have ha0 : arr.toList = [] := List.eq_nil_of_length_eq_zero (by rw [← hrel.1]; simp)
      have hf' := hf w (fun _ _ => rfl)
      rw [Nat.min_zero] at hf'
      refine Ran.pure hr (v' := .int .i64 0) ?_ (.int _ _)
      simp [Builtin.copy_, run_underlying hu, hl, sizeT_run hz, hf', ha0, storeCells, goInt]
    · rename_i h0
      split at hA
      · rename_i cs op hB
        split at hA
        · rename_i hok
          simp at hA
          obtain ⟨rfl, rfl⟩ := hA
          have hlx : (xs.take (min m n * z)).length = min m n * z := by
            rw [List.length_take]
            have : min m n * z ≤ m * z := Nat.mul_le_mul_right _ (Nat.min_le_left _ _)
            omega
          obtain ⟨w', r1, r2⟩ := ran_storeCells (P := P) (xs.take (min m n * z)) arr.toList (i := 0) (o := o) hr hb hB (by omega) hrel hok.2
          refine ⟨μ, .int .i64 (min m n : Nat), w', ?_, .int _ _, r2⟩
          have hm : Nat.min m n = min m n := rfl
          rw [ha h0]
          simp [Builtin.copy_, run_underlying hu, hl, sizeT_run hz, hm, hf w (fun _ _ => rfl), r1, goInt]
        · simp at hA
      · simp at hA
  · simp at hA

def lenA (P : Program) (t : TypeId) (x : Value) (h : Hp) : Option Value :=
  match P.underlying t, x with
  | some .string, .string s => some (.int .i64 (s.size : Nat))
  | some (.slice _), .slice none 0 0 => some (.int .i64 0)
  | some (.slice _), .slice (some ⟨_, _, some _⟩) 0 0 => some (.int .i64 0)
  | some (.slice _), .slice (some ⟨_, _, none⟩) n _ => some (.int .i64 (n : Nat))
  | some (.map _ _), .map none => some (.int .i64 0)
  | some (.map _ _), .map (some b) =>
    match h[b]? with
    | some (.map es) => some (.int .i64 (es.length : Nat))
    | _ => none
  | some (.array n _), .agg _ => some (.int .i64 (n : Nat))
  | _, _ => none
theorem HRel.map (hr : HRel μ h w) {b : Nat} {p : Place} {es : List (Value × Value)} (hb : μ b = some p) (hB : h[b]? = some (.map es)) :
    ∃ l clock, w.heap[p.block]? = some (.map l clock) ∧ ERel μ es l.toList clock := (hr.obj b p _ hb hB).2
theorem run_getObj {r : Nat} {o : Obj} (ho : w.heap[r]? = some o) (hc : ∀ c e f, o ≠ .cells c e f) : (getObj r).run P w = .ok o w := by
  simp only [getObj, Sem.run, ho]
theorem lenA_ok (hr : HRel μ h w) {t ty : TypeId} {x x' v : Value} (hx : VRel μ x x') (hA : lenA P t x h = some v) : (Builtin.len_ #[t] ty #[x']).run P w = .ok v w ∧ VRel μ v v := by
  unfold lenA at hA
  split at hA
  · rename_i hu; cases hx; simp at hA; subst hA; exact ⟨by simp [Builtin.len_, run_underlying hu, goInt], .int _ _⟩
  · rename_i hu; cases hx; simp at hA; subst hA; exact ⟨by simp [Builtin.len_, run_underlying hu, goInt], .int _ _⟩
  · rename_i hu; cases hx; simp at hA; subst hA; exact ⟨by simp [Builtin.len_, run_underlying hu, goInt], .int _ _⟩
  · rename_i hu
    obtain ⟨p, a, c', hb, rfl, hc, ha⟩ := hx.slice_inv
    simp at hA; subst hA; exact ⟨by simp [Builtin.len_, run_underlying hu, goInt], .int _ _⟩
  · rename_i hu; cases hx; simp at hA; subst hA; exact ⟨by simp [Builtin.len_, run_underlying hu, goInt], .int _ _⟩
  · rename_i hu
    split at hA
    · rename_i es hB
      cases hx with
      | map hb =>
        obtain ⟨l, clock, h1, h2⟩ := hr.map hb hB
        simp at hA; subst hA
        refine ⟨?_, .int _ _⟩
        have := h2.len
        simp at this
        simp [Builtin.len_, run_underlying hu, goInt, run_getObj (P := P) h1 (by simp), this]
    · simp at hA
  · rename_i hu; cases hx; simp at hA; subst hA; exact ⟨by simp [Builtin.len_, run_underlying hu, goInt], .int _ _⟩
  · simp at hA

def clearA (P : Program) (t : TypeId) (x : Value) (h : Hp) : Option Hp :=
  match P.underlying t, x with
  | some (.map _ _), .map none => some h
  | some (.map _ _), .map (some b) =>
    match h[b]? with
    | some (.map _) => some (h.set b (.map []))
    | _ => none
  | some (.slice _), .slice none 0 0 => some h
  | some (.slice e), .slice (some ⟨b, o, none⟩) n _ =>
    if n = 0 then some h else
    match h[b]?, sizeT P e, zeroT P e with
    | some (.cells cs false op), some z, some zero => if zero.length = z ∧ o + n * z ≤ cs.length ∧ (zeros zero n).all oneA = true then some (h.set b (.cells (spl cs o (zeros zero n)) false op)) else none
    | _, _, _ => none
  | _, _ => none
theorem Step.setMap (hr : HRel μ h w) {b : Nat} {p : Place} {es es' : List (Value × Value)} {l' : Array MapEntry} {clock' : Nat} (hb : μ b = some p) (hB : h[b]? = some (.map es)) (hE : ERel μ es' l'.toList clock') :
    (setObj p.block (.map l' clock')).run P w = .ok () { w with heap := w.heap.setIfInBounds p.block (.map l' clock') } ∧
    Step μ h w μ (h.set b (.map es')) { w with heap := w.heap.setIfInBounds p.block (.map l' clock') } := by
  obtain ⟨l, clock, h1, h2⟩ := hr.map hb hB
  have hlt := (hr.dom b p hb).2
  refine ⟨by simp [setObj, Sem.run, h1], Step.write hr hb hB rfl _ (fun _ => rfl) rfl rfl rfl (by simp) (fun k hk => ?_) ⟨(hr.obj b p _ hb hB).1, l', clock', ?_, hE⟩⟩
  · simp only [Array.getElem?_setIfInBounds]
    rw [if_neg (by omega)]
  · simp [hlt]
theorem clearA_ok (hr : HRel μ h w) {t ty : TypeId} {x x' : Value} {h' : Hp} (hx : VRel μ x x') (hA : clearA P t x h = some h') : Ran P μ h w (Builtin.clear_ #[t] ty #[x']) any h' := by
  unfold clearA at hA
  split at hA
  · rename_i hu; cases hx; simp at hA; subst hA; exact Ran.pure hr (v' := .tuple #[]) (by simp [Builtin.clear_, run_underlying hu]) (.any _)
  · rename_i hu
    split at hA
    · rename_i es hB
      simp at hA; subst hA
      cases hx with
      | map hb =>
        obtain ⟨l, clock, h1, h2⟩ := hr.map hb hB
        obtain ⟨s1, s2⟩ := Step.setMap (P := P) hr (es' := []) (l' := #[]) (clock' := clock) hb hB ⟨rfl, by simp, by simp, by simp⟩
        exact ⟨μ, .tuple #[], _, by simp [Builtin.clear_, run_underlying hu, run_getObj (P := P) h1 (by simp), s1], .any _, s2⟩
    · simp at hA
  · rename_i hu; cases hx; simp at hA; subst hA; exact Ran.pure hr (v' := .tuple #[]) (by simp [Builtin.clear_, run_underlying hu]) (.any _)
  · rename_i e b o n c hu
    obtain ⟨p, a, c', hb, rfl, hc, ha⟩ := hx.slice_inv
    split at hA
    · rename_i h0
      subst h0
      simp at hA; subst hA
      exact Ran.pure hr (v' := .tuple #[]) (by simp [Builtin.clear_, run_underlying hu]) (.any _)
    · rename_i h0
      split at hA
      · rename_i cs op z zero hB hz hzero
        obtain ⟨zv, hzr, rfl⟩ := zeroT_run hzero
        split at hA
        · rename_i hok
          simp at hA; subst hA
          have hzs : zv.cells.size = z := by simpa using hok.1
          have hrel := zeros_rel (μ := μ) zv.cells n (n * zv.cells.size) rfl
          obtain ⟨w', r1, r2⟩ := ran_storeCells (P := P) _ _ (i := 0) (o := o) hr hb hB (by rw [zeros_length]; simp [hzs]; omega) hrel hok.2.2
          refine ⟨μ, .tuple #[], w', ?_, .any _, r2⟩
          rw [ha h0]
          obtain ⟨n, rfl⟩ : ∃ k, n = k + 1 := ⟨n - 1, by omega⟩
          simp only [Builtin.clear_]
          simp [run_underlying hu, hzr, Builtin.zeroCells] at r1 ⊢
          simp [r1]
        · simp at hA
      · simp at hA
  · simp at hA

/-! ### conversions -/
def bytesOf : List Value → Option (List UInt8)
  | [] => some []
  | .int .u8 n :: r => (bytesOf r).map (UInt8.ofNat n.toNat :: ·)
  | _ => none
theorem bytesOf_enc (l : List UInt8) : bytesOf (l.map byteV) = some l := by
  induction l with
  | nil => rfl
  | cons b l ih => simp [byteV, bytesOf] at ih ⊢; simp [ih]
theorem bytesOf_rel : ∀ (cs vs : List Value) (l : List UInt8), LRel μ cs vs → bytesOf cs = some l → ∃ ns : List Int, vs = ns.map (Value.int .u8) ∧ l = ns.map fun n => UInt8.ofNat n.toNat := by
  intro cs
  induction cs with
  | nil => intro vs l hr hb; rw [LRel.nil_inv hr]; simp [bytesOf] at hb; subst hb; exact ⟨[], rfl, rfl⟩
  | cons c cs ih =>
    intro vs l hr hb
    obtain ⟨y, ys, rfl, h1, h2⟩ := LRel.cons_inv hr
    unfold bytesOf at hb
    split at hb
    · simp at *
    · rename_i n r heq
      simp at heq
      obtain ⟨rfl, rfl⟩ := heq
      obtain ⟨l', hl', rfl⟩ := Option.map_eq_some_iff.1 hb
      obtain ⟨ns, rfl, rfl⟩ := ih ys l' h2 hl'
      cases h1
      exact ⟨n :: ns, rfl, rfl⟩
    · simp at hb
theorem foldl_push (ns : List Int) : ∀ (s : ByteArray), ns.foldl (fun r n => r.push (UInt8.ofNat n.toNat)) s = ⟨s.data ++ (ns.map fun n => UInt8.ofNat n.toNat).toArray⟩ := by
  induction ns with
  | nil => intro s; simp
  | cons n ns ih =>
    intro s
    simp only [List.foldl_cons, ih]
    congr 1
    apply Array.ext'
    simp [ByteArray.push]

def convA (P : Program) (src dst : TypeId) (x : Value) (h : Hp) : Option (Value × Hp) :=
  match P.underlying src, P.underlying dst, x with
  | some (.int _), some (.int k), .int _ n => some (.int k (k.wrap n), h)
  | some .string, some .string, .string s => some (.string s, h)
  | some .string, some (.slice e), .string s =>
    match P.underlying e with
    | some (.int .u8) => if s.size < 4611686018427387904 then some (.slice (some ⟨h.length, 0, none⟩) s.size (capO + s.size), h ++ [.cells (s.data.toList.map byteV) false (some 1)]) else none
    | _ => none
  | some (.slice e), some .string, .slice none 0 0 =>
    match P.underlying e with
    | some (.int .u8) => some (.string ⟨#[]⟩, h)
    | _ => none
  | some (.slice e), some .string, .slice (some ⟨_, _, some _⟩) 0 0 =>
    match P.underlying e with
    | some (.int .u8) => some (.string ⟨#[]⟩, h)
    | _ => none
  | some (.slice e), some .string, .slice (some ⟨b, o, none⟩) n _ =>
    match P.underlying e with
    | some (.int .u8) =>
      if n = 0 then some (.string ⟨#[]⟩, h) else
      match h[b]? with
      | some (.cells cs _ _) =>
        if o + n ≤ cs.length then
          match bytesOf ((cs.drop o).take n) with
          | some l => some (.string ⟨l.toArray⟩, h)
          | none => none
        else none
      | _ => none
    | _ => none
  | some (.slice _), some (.slice e), .slice (some ⟨b, _, none⟩) _ _ =>
    match P.underlying e, h[b]? with
    | some (.int .u8), some (.cells _ false _) => if src = dst then some (x, h) else none
    | _, _ => none
  | _, _, _ => none

theorem Step.stringish (hr : HRel μ h w) {b : Nat} {p : Place} {cs : List Value} {op : Option Nat} (hb : μ b = some p) (hB : h[b]? = some (.cells cs false op)) {o' : Nat} :
    ∃ w', (markStringish ⟨p.block, o', none⟩).run P w = .ok () w' ∧ Step μ h w μ h w' := by
  obtain ⟨g1, g2, g3, g4, g5⟩ := hr.obj b p _ hb hB
  obtain ⟨C, t, lo, hi, q1, q2, q3⟩ := g5 rfl
  refine ⟨w.freeze ⟨p.block, C.size, none⟩ 1, by simp [markStringish, World.shape?, q1], ?_⟩
  have hheap : ∀ k, (w.freeze ⟨p.block, C.size, none⟩ 1).heap[k]? = if k = p.block then some (.cells C t (if lo == hi then (C.size, C.size + 1) else (min lo C.size, max hi (C.size + 1)))) else w.heap[k]? := by
    intro k
    simp only [World.freeze, Nat.one_ne_zero, if_false, Array.getElem?_modify]
    by_cases hk : p.block = k
    · subst hk
      simp only [if_true, q1, Option.map_some]
    · rw [if_neg hk, if_neg (fun h => hk h.symm)]
  have hs : (w.freeze ⟨p.block, C.size, none⟩ 1).heap.size = w.heap.size := by simp [World.freeze]
  have s := Step.write hr hb hB rfl (.cells cs false op) (fun _ => rfl) (w' := w.freeze ⟨p.block, C.size, none⟩ 1) (by simp [World.freeze]) (by simp [World.freeze]) (by simp [World.freeze]) hs.symm (fun k hk => by rw [hheap, if_neg hk]) ⟨g1, g2, g3, ?_, ?_⟩
  · rw [set_same hB] at s
    exact s
  · intro o v hv
    obtain ⟨v', h1, h2⟩ := g4 o v hv
    refine ⟨v', ?_, h2⟩
    simp only [World.cell?, hheap, if_true]
    simpa [World.cell?, q1] using h1
  · intro _
    refine ⟨C, t, _, _, by rw [hheap, if_pos rfl], q2, ?_⟩
    right
    split
    · exact Nat.le_refl _
    · rename_i hne
      rcases q3 with rfl | q3
      · simp at hne
      · simp; omega

theorem convA_ok (hr : HRel μ h w) {src dst : TypeId} {x x' v : Value} {h' : Hp} (hx : VRel μ x x') (hA : convA P src dst x h = some (v, h')) : Ran P μ h w (convert src dst x') v h' := by
  unfold convA at hA
  split at hA
  · rename_i hs hd
    cases hx; simp at hA; obtain ⟨rfl, rfl⟩ := hA
    exact Ran.pure hr (v' := .int _ _) (by simp [convert, run_underlying hs, run_underlying hd, Conv.intToInt]) (.int _ _)
  · rename_i hs hd
    cases hx; simp at hA; obtain ⟨rfl, rfl⟩ := hA
    exact Ran.pure hr (v' := .string _) (by simp [convert, run_underlying hs, run_underlying hd]) (.string _)
  · rename_i e s hs hd
    split at hA
    · rename_i he
      split at hA
      · rename_i hsz
        cases hx; simp at hA; obtain ⟨rfl, rfl⟩ := hA
        let arr : Array Value := s.data.map byteV ++ Array.replicate (grownCap w s.size 0 e - s.size) (.int .u8 0)
        have hcap := grownCap_le' w s.size 0 e
        have hasz : arr.size = grownCap w s.size 0 e := by
          have : s.data.size = s.size := rfl
          simp [arr, this]; omega
        have s1 := Step.row (Step.drew hr).rel arr e (s.data.toList.map byteV) (some 1) 1 (by simp) (by simp) (by simp [hasz]; exact hcap) (by
          intro o v hv
          rw [List.getElem?_map] at hv
          obtain ⟨q, hq, rfl⟩ := Option.map_eq_some_iff.1 hv
          refine ⟨byteV q, ?_, .int _ _⟩
          rw [Array.getElem?_toList] at hq
          have ho : o < s.data.size := by
            rcases Nat.lt_or_ge o s.data.size with h' | h'
            · exact h'
            · rw [Array.getElem?_eq_none h'] at hq; simp at hq
          simp only [arr]
          rw [Array.getElem?_append_left (by simpa using ho)]
          simp [hq])
        have s2 := (Step.drew hr).trans s1
        obtain ⟨w', f1, f2⟩ := Step.stringish (P := P) (o' := 0) s2.rel (b := h.length) (cs := s.data.toList.map byteV) (op := some 1) (Emb.put_new _ _ _) (by simp)
        refine ⟨_, .slice (some ⟨w.heap.size, 0, none⟩) s.size (grownCap w s.size 0 e), w', ?_, ?_, s2.trans f2⟩
        · have hb : (fun b : UInt8 => Value.int .u8 (b.toNat : Int)) = byteV := rfl
          have hq : ∀ t, (Question.appendCap s.size 0 e).cut t = s.size + t % (2 ^ 63 - s.size) := fun t => rfl
          simp only [convert, Sem.run_bind, run_underlying hs, run_underlying hd, Result.andThen_ok, run_underlying he, Conv.stringToBytes, run_choose, Question.forced]
          simp only [Bool.false_eq_true, if_false, Result.andThen_ok, newRow, Sem.run_bind, run_newObj, Sem.run_pure, hb]
          have : (markStringish ⟨w.drew.heap.size, 0, none⟩).run P (w.drew.alloc (.cells arr e)) = .ok () w' := f1
          simp only [arr, World.drew, World.alloc, grownCap] at this
          rw [this]
          simp [grownCap]
        · have := VRel.slO (μ := μ.put h.length ⟨w.drew.heap.size, 0, arr.size, 1⟩) (b := h.length) 0 s.size s.size (grownCap w s.size 0 e) (Emb.put_new _ _ _) (Nat.le_refl _) hcap (by simp only [hasz]; omega)
          simpa using this
      · simp at hA
    · simp at hA
  · rename_i e hs hd
    split at hA
    · rename_i he
      cases hx; simp at hA; obtain ⟨rfl, rfl⟩ := hA
      exact Ran.pure hr (v' := .string ⟨#[]⟩) (by simp [convert, run_underlying hs, run_underlying hd, run_underlying he, Conv.bytesToString]; rfl) (.string _)
    · simp at hA
  · rename_i e _ _ _ hs hd
    split at hA
    · rename_i he
      simp at hA; obtain ⟨rfl, rfl⟩ := hA
      cases hx with
      | slD a =>
        refine Ran.pure hr (v' := .string ⟨#[]⟩) ?_ (.string _)
        rw [run_convert_bytes_string w src dst e (some a) 0 0 hs he hd, run_bytesToString w a 0 0 [] (by simp [loadCells, loadCellsFrom])]
        rfl
    · simp at hA
  · rename_i e b o n c hs hd
    split at hA
    case h_2 => simp at hA
    rename_i he
    obtain ⟨p, a, c', hb, rfl, hc, ha⟩ := hx.slice_inv
    split at hA
    · rename_i h0
      subst h0
      simp at hA; obtain ⟨rfl, rfl⟩ := hA
      refine Ran.pure hr (v' := .string ⟨#[]⟩) ?_ (.string _)
      rw [run_convert_bytes_string w src dst e (some a) 0 c' hs he hd, run_bytesToString w a 0 c' [] (by simp [loadCells, loadCellsFrom])]
      rfl
    · rename_i h0
      split at hA
      case h_2 => simp at hA
      rename_i cs ro op hB
      split at hA
      case isFalse => simp at hA
      rename_i hle
      split at hA
      case h_2 => simp at hA
      rename_i l hl
      simp at hA; obtain ⟨rfl, rfl⟩ := hA
      obtain ⟨vs, h1, h2⟩ := hr.cells (P := P) (o := o) (n := n) hb hB hle
      obtain ⟨ns, rfl, rfl⟩ := bytesOf_rel _ _ _ h2 hl
      refine Ran.pure hr (v' := .string ⟨(ns.map fun n => UInt8.ofNat n.toNat).toArray⟩) ?_ (.string _)
      rw [run_convert_bytes_string w src dst e (some a) n c' hs he hd, run_bytesToString w a n c' ns (by rw [ha h0]; exact h1 w rfl), foldl_push]
      simp [ByteArray.empty, ByteArray.emptyWithCapacity]
      rfl
  · rename_i e0 e b o n c hs hd
    split at hA
    case h_2 => simp at hA
    rename_i he hB
    split at hA
    case isFalse => simp at hA
    rename_i hsd
    subst hsd
    simp at hA; obtain ⟨rfl, rfl⟩ := hA
    have hee : e0 = e := by rw [hs] at hd; simpa using hd
    subst hee
    obtain ⟨p, o', c', hb, rfl⟩ := hx.slice_inv2
    obtain ⟨w', f1, f2⟩ := Step.stringish (P := P) (o' := o') hr hb hB
    exact ⟨μ, _, w', by simp [convert, run_underlying hs, run_underlying he, f1], hx, f2⟩
  · simp at hA
end
end Go.Ab

/- What an operation does to abstract values and blocks, and that the model's operation does the same: min, max, iterators over strings, maps whose keys are numbers, texts or truth values; no condition. -/
namespace Go.Ab
open Go.RowKit
section
variable {P : Program} {μ : Emb} {h : Hp} {w : World}

def mm2 (mx : Bool) : Value → Value → Option Value
  | .int k x, .int _ y => some (.int k (if mx then (if y > x then y else x) else (if y < x then y else x)))
  | _, _ => none
def mmA (mx : Bool) : List Value → Option Value
  | x :: y :: rest => (y :: rest).foldlM (mm2 mx) x
  | _ => none
theorem mm2_ok {mx : Bool} {x y x' y' v : Value} (hx : VRel μ x x') (hy : VRel μ y y') (hA : mm2 mx x y = some v) (w : World) :
    ((if mx then Builtin.max2 x' y' else Builtin.min2 x' y') : Sem Value).run P w = .ok v w ∧ VRel μ v v := by
  unfold mm2 at hA
  split at hA
  · cases hx; cases hy; simp at hA; subst hA
    cases mx <;> exact ⟨by simp [Builtin.max2, Builtin.min2], .int _ _⟩
  · simp at hA
theorem mm_key {mx : Bool} (w : World) : ∀ (rest : List Value) (x y : Value) (ys : List Value) (v : Value), VRel μ x y → (rest = [] → VRel μ x x ∧ x = y) → LRel μ rest ys → rest.foldlM (mm2 mx) x = some v →
    (ys.foldlM (fun a b => if mx then Builtin.max2 a b else Builtin.min2 a b) y : Sem Value).run P w = .ok v w ∧ VRel μ v v := by
  intro rest
  induction rest with
  | nil =>
    intro x y ys v hv hn hr hA
    rw [LRel.nil_inv hr]
    simp at hA; subst hA
    obtain ⟨h3, rfl⟩ := hn rfl
    exact ⟨by simp, h3⟩
  | cons r rest ih =>
    intro x y ys v hv hn hr hA
    obtain ⟨s, ss, rfl, g1, g2⟩ := LRel.cons_inv hr
    simp only [List.foldlM_cons] at hA ⊢
    cases hm : mm2 mx x r with
    | none => rw [hm] at hA; simp at hA
    | some u =>
      rw [hm] at hA
      simp at hA
      obtain ⟨m1, m2⟩ := mm2_ok (P := P) hv g1 hm w
      simp only [Sem.run_bind, m1, Result.andThen_ok]
      exact ih u u ss v m2 (fun _ => ⟨m2, rfl⟩) g2 hA
theorem mmA_ok {mx : Bool} {xs xs' : List Value} {v : Value} (hx : LRel μ xs xs') (hA : mmA mx xs = some v) (at' : Array TypeId) (ty : TypeId) (w : World) :
    (if mx then Builtin.max_ at' ty xs'.toArray else Builtin.min_ at' ty xs'.toArray).run P w = .ok v w ∧ VRel μ v v := by
  unfold mmA at hA
  split at hA
  · rename_i x r rest
    obtain ⟨y, ys, rfl, h1, h2⟩ := LRel.cons_inv hx
    have := mm_key (P := P) w (r :: rest) x y ys v h1 (by simp) h2 hA
    refine ⟨?_, this.2⟩
    cases mx <;> simpa [Builtin.max_, Builtin.min_] using this.1
  · simp at hA

/-! ### iterators over strings -/
def rangeA (P : Program) (t : TypeId) (x : Value) (h : Hp) : Option (Value × Hp) :=
  match P.underlying t, x with
  | some .string, .string s => some (.pointer (some ⟨h.length, 0, none⟩), h ++ [.siter s 0])
  | _, _ => none
theorem rangeA_ok (hr : HRel μ h w) {t : TypeId} {x x' v : Value} {h' : Hp} (hx : VRel μ x x') (hA : rangeA P t x h = some (v, h')) : Ran P μ h w (Instr.range t x') v h' := by
  unfold rangeA at hA
  split at hA
  · rename_i s hu
    cases hx
    simp at hA; obtain ⟨rfl, rfl⟩ := hA
    have hv := VRel.ptr (μ := μ.put h.length ⟨w.heap.size, 0, 0, 0⟩) (b := h.length) 0 (Emb.put_new _ _ _)
    refine ⟨μ.put h.length ⟨w.heap.size, 0, 0, 0⟩, .pointer (some ⟨w.heap.size, 0, none⟩), w.alloc (.stringIter s 0), by simp [Instr.range, run_underlying hu], by simpa using hv, Step.new hr _ _ _ rfl ⟨rfl, ?_⟩⟩
    show (w.heap.push _)[w.heap.size]? = _
    simp
  · simp at hA
def nextA (it : Value) (isString : Bool) (h : Hp) : Option (Value × Hp) :=
  match it, isString with
  | .pointer (some ⟨b, 0, none⟩), true =>
    match h[b]? with
    | some (.siter s pos) =>
      if pos < s.size then some (.tuple #[.bool true, .int .i64 (pos : Nat), .int .i32 (Utf8.decode s pos).1], h.set b (.siter s (pos + (Utf8.decode s pos).2)))
      else some (.tuple #[.bool false], h)
    | _ => none
  | _, _ => none
theorem nextA_ok (hr : HRel μ h w) {it it' v : Value} {isString : Bool} {h' : Hp} (hx : VRel μ it it') (ty : TypeId) (hA : nextA it isString h = some (v, h')) : Ran P μ h w (Instr.next it' isString ty) v h' := by
  unfold nextA at hA
  split at hA
  · rename_i b
    cases hx with
    | ptr o hb =>
      rename_i p
      split at hA
      · rename_i s pos hB
        obtain ⟨q1, q2⟩ := hr.obj b p _ hb hB
        rw [q1]
        split at hA
        · rename_i hlt
          simp at hA; obtain ⟨rfl, rfl⟩ := hA
          refine ⟨μ, .tuple #[.bool true, .int .i64 (pos : Nat), .int .i32 (Utf8.decode s pos).1], { w with heap := w.heap.setIfInBounds p.block (.stringIter s (pos + (Utf8.decode s pos).2)) }, ?_, ?_, ?_⟩
          · simp [Instr.next, run_getObj (P := P) q2 (by simp), hlt, setObj, Sem.run, q2, goInt]
          · refine LRel.tup ?_
            exact LRel.cons (.bool _) (LRel.cons (.int _ _) (LRel.cons (.int _ _) LRel.nil))
          · have hlt' := (hr.dom b p hb).2
            refine Step.write hr hb hB rfl _ (fun _ => rfl) rfl rfl rfl (by simp) (fun k hk => ?_) ⟨q1, ?_⟩
            · simp only [Array.getElem?_setIfInBounds]
              rw [if_neg (by omega)]
            · simp [hlt']
        · rename_i hlt
          simp at hA; obtain ⟨rfl, rfl⟩ := hA
          refine Ran.pure hr (v' := .tuple #[.bool false]) ?_ (LRel.tup (LRel.cons (.bool _) LRel.nil))
          simp [Instr.next, run_getObj (P := P) q2 (by simp), hlt]
      · simp at hA
  · simp at hA

/-! ### maps -/
def grV : Value → Value
  | .agg cs => .agg (cs.map gr)
  | v => gr v
theorem VRel.grV (μ : Emb) (v : Value) : VRel μ (grV v) v := by
  unfold Ab.grV
  split
  · rename_i cs; exact LRel.agg (by simpa [ARel] using LRel.grs μ cs.toList)
  · exact VRel.gr μ _
def zeroV (P : Program) (t : TypeId) : Option Value := ((P.info? t).bind (·.zero)).map grV
theorem zeroV_run {t : TypeId} {v : Value} (hz : zeroV P t = some v) : ∃ z, (∀ w, (zeroValue t).run P w = .ok z w) ∧ ∀ μ, VRel μ v z := by
  unfold zeroV at hz
  obtain ⟨z, h1, rfl⟩ := Option.map_eq_some_iff.1 hz
  obtain ⟨i, h2, h3⟩ := Option.bind_eq_some_iff.1 h1
  exact ⟨z, fun w => run_zeroValue h2 h3 w, fun μ => VRel.grV μ z⟩

/-- a key of one of these kinds, and what holds it against another one -/
def keyOk (d : TypeDesc) (k : Value) : Bool :=
  match d, k with
  | .int _, .int _ _ | .string, .string _ | .bool, .bool _ => true
  | _, _ => false
def findA (d : TypeDesc) (k : Value) : List (Value × Value) → Nat → Option (Option (Nat × Value))
  | [], _ => some none
  | x :: es, i =>
    match Instr.sameNow d k x.1 with
    | some true => some (some (i, x.2))
    | some false => findA d k es (i + 1)
    | none => none
theorem sameNow_rel {d : TypeDesc} {k x x' : Value} (hx : VRel μ x x') {b : Bool} (hA : Instr.sameNow d k x = some b) : Instr.sameNow d k x' = some b ∧ x' = x := by
  cases d <;> cases k <;> simp [Instr.sameNow] at hA <;> cases x <;> simp at hA <;> cases hx <;> exact ⟨by simp [Instr.sameNow, hA], rfl⟩
theorem findA_ok {d : TypeDesc} {k : Value} : ∀ (es : List (Value × Value)) (l : List MapEntry) (i : Nat) (r : Option (Nat × Value)),
    es.length = l.length → (∀ (j : Nat) (x : Value × Value) (e : MapEntry), es[j]? = some x → l[j]? = some e → VRel μ x.1 e.key ∧ VRel μ x.2 e.val) → findA d k es i = some r →
    (r = none ∧ Instr.findNow d k l i = some none) ∨ ∃ j v v', r = some (i + j, v) ∧ Instr.findNow d k l i = some (some (i + j, v')) ∧ VRel μ v v' ∧ (∃ x e, es[j]? = some x ∧ l[j]? = some e ∧ x.2 = v ∧ e.key = x.1 ∧ Instr.sameNow d k x.1 = some true) := by
  intro es
  induction es with
  | nil =>
    intro l i r hlen hrel hA
    cases l with
    | cons _ _ => simp at hlen
    | nil => simp [findA] at hA; subst hA; exact .inl ⟨rfl, rfl⟩
  | cons x es ih =>
    intro l i r hlen hrel hA
    cases l with
    | nil => simp at hlen
    | cons e l =>
      have h0 := hrel 0 x e rfl rfl
      simp only [findA] at hA
      split at hA
      · rename_i hs
        obtain ⟨s1, s2⟩ := sameNow_rel h0.1 hs
        simp at hA; subst hA
        exact .inr ⟨0, x.2, e.val, rfl, by simp [Instr.findNow, s1], h0.2, x, e, rfl, rfl, rfl, s2, hs⟩
      · rename_i hs
        obtain ⟨s1, s2⟩ := sameNow_rel h0.1 hs
        rcases ih l (i + 1) r (by simpa using hlen) (fun j x e hx he => hrel (j + 1) x e (by simpa using hx) (by simpa using he)) hA with ⟨r1, r2⟩ | ⟨j, v, v', r1, r2, r3, y, f, r4, r5, r6⟩
        · exact .inl ⟨r1, by simp [Instr.findNow, s1, r2]⟩
        · refine .inr ⟨j + 1, v, v', ?_, ?_, r3, y, f, by simpa using r4, by simpa using r5, r6⟩
          · rw [r1]; congr 2; omega
          · simp only [Instr.findNow, s1, r2]; congr 3; omega
      · simp at hA

theorem bytes_beq (a b : ByteArray) : (a == b) = true ↔ a = b := by
  rw [beq_toListBytes, ByteArray.toList_eq, ByteArray.toList_eq, beq_iff_eq]
  constructor
  · intro h
    have := Array.ext' (xs := a.data) (ys := b.data) h
    cases a; cases b; simp_all
  · rintro rfl; rfl
theorem checkKey_any {t : TypeId} {d : TypeDesc} {k : Value} (hu : P.underlying t = some d) (hk : keyOk d k = true) (e : Bool) (n : Nat) (w : World) : (Instr.checkKey e (n + 1) t k).run P w = .ok () w := by
  cases d <;> cases k <;> simp [keyOk] at hk <;> simp [Instr.checkKey, run_underlying hu]
theorem checkKey_ok {t : TypeId} {d : TypeDesc} {k : Value} (hu : P.underlying t = some d) (hk : keyOk d k = true) (e : Bool) (w : World) : (Instr.checkKey e 10000 t k).run P w = .ok () w :=
  checkKey_any hu hk e 9999 w

def lookupA (P : Program) (t : TypeId) (m k : Value) (ok : Bool) (h : Hp) : Option Value :=
  match P.underlying t with
  | some (.map kt et) =>
    match P.underlying kt, zeroV P et with
    | some d, some z =>
      if keyOk d k = true then
        match m with
        | .map none => some (if ok then .tuple #[z, .bool false] else z)
        | .map (some b) =>
          match h[b]? with
          | some (.map es) =>
            match findA d k es 0 with
            | some (some (_, v)) => some (if ok then .tuple #[v, .bool true] else v)
            | some none => some (if ok then .tuple #[z, .bool false] else z)
            | none => none
          | _ => none
        | _ => none
      else none
    | _, _ => none
  | _ => none
theorem keyOk_rel {d : TypeDesc} {k k' : Value} (hk : keyOk d k = true) (hr : VRel μ k k') : k' = k := by
  cases d <;> cases k <;> simp [keyOk] at hk <;> cases hr <;> rfl
theorem lookupA_ok (hr : HRel μ h w) {t : TypeId} {m k m' k' v : Value} {ok : Bool} (hm : VRel μ m m') (hk : VRel μ k k') (hA : lookupA P t m k ok h = some v) :
    ∃ v', (Instr.lookup t m' k' ok).run P w = .ok v' w ∧ VRel μ v v' := by
  unfold lookupA at hA
  split at hA
  case h_2 => simp at hA
  rename_i kt et hu
  split at hA
  case h_2 => simp at hA
  rename_i d z hd hz
  obtain ⟨zv, hzr, hzv⟩ := zeroV_run hz
  split at hA
  case isFalse => simp at hA
  rename_i hko
  have hkk := keyOk_rel hko hk
  subst hkk
  have hck := fun e => checkKey_ok (P := P) hd hko e w
  have hnil : ∀ v, (some (if ok = true then Value.tuple #[z, .bool false] else z) = some v) → VRel μ v (if ok = true then .tuple #[zv, .bool false] else zv) := by
    intro v hv
    simp at hv; subst hv
    cases ok
    · exact hzv μ
    · exact LRel.tup (LRel.cons (hzv μ) (LRel.cons (.bool _) LRel.nil))
  split at hA
  · cases hm
    refine ⟨_, ?_, hnil v hA⟩
    simp [Instr.lookup, run_underlying hu, hck, Instr.findKey, run_underlying hd, Instr.findNow, hzr]
  · rename_i b
    cases hm with
    | map hb =>
      rename_i p
      split at hA
      case h_2 => simp at hA
      rename_i es hB
      obtain ⟨l, clock, h1, h2⟩ := hr.map hb hB
      split at hA
      · rename_i i v0 hf
        rcases findA_ok (μ := μ) es l.toList 0 _ h2.len (fun j x e => h2.each j x e) hf with ⟨r1, _⟩ | ⟨j, v1, v', r1, r2, r3, _⟩
        · simp at r1
        · simp at r1
          obtain ⟨_, rfl⟩ := r1
          simp at hA; subst hA
          refine ⟨if ok then .tuple #[v', .bool true] else v', ?_, ?_⟩
          · simp [Instr.lookup, run_underlying hu, run_getObj (P := P) h1 (by simp), hck, Instr.findKey, run_underlying hd, r2]
          · cases ok
            · exact r3
            · exact LRel.tup (LRel.cons r3 (LRel.cons (.bool _) LRel.nil))
      · rename_i hf
        rcases findA_ok (μ := μ) es l.toList 0 _ h2.len (fun j x e => h2.each j x e) hf with ⟨_, r2⟩ | ⟨j, v1, v', r1, _⟩
        · refine ⟨_, ?_, hnil v hA⟩
          simp [Instr.lookup, run_underlying hu, run_getObj (P := P) h1 (by simp), hck, Instr.findKey, run_underlying hd, r2, hzr]
        · simp at r1
      · simp at hA
  · simp at hA

def putA (d : TypeDesc) (k v : Value) (es : List (Value × Value)) : Option (List (Value × Value)) :=
  match findA d k es 0 with
  | some (some (i, _)) => some (es.set i (k, v))
  | some none => some (es ++ [(k, v)])
  | none => none
def mapUpdateA (P : Program) (t : TypeId) (m k v : Value) (h : Hp) : Option Hp :=
  match P.underlying t, m with
  | some (.map kt _), .map (some b) =>
    match P.underlying kt, h[b]? with
    | some d, some (.map es) => if keyOk d k = true then (putA d k v es).map fun es' => h.set b (.map es') else none
    | _, _ => none
  | _, _ => none
theorem sameNow_eq {d : TypeDesc} {k x : Value} (h : Instr.sameNow d k x = some true) : x = k := by
  cases d <;> cases k <;> simp [Instr.sameNow] at h <;> cases x <;> simp [bytes_beq] at h <;> simp_all
theorem ERel.set {es : List (Value × Value)} {l : Array MapEntry} {clock i : Nat} (hE : ERel μ es l.toList clock) {k v v' : Value} (hk : VRel μ k k) (hv : VRel μ v v') :
    ERel μ (es.set i (k, v)) (l.modify i fun e => { e with key := k, val := v' }).toList clock := by
  have hget : ∀ j e, (l.modify i fun e => { e with key := k, val := v' }).toList[j]? = some e → ∃ f, l.toList[j]? = some f ∧ (if i = j then e = { f with key := k, val := v' } else e = f) := by
    intro j e he
    rw [Array.getElem?_toList, Array.getElem?_modify] at he
    split at he
    · rename_i hij
      subst hij
      obtain ⟨f, hf, rfl⟩ := Option.map_eq_some_iff.1 he
      exact ⟨f, by rw [Array.getElem?_toList]; exact hf, by simp⟩
    · rename_i hij
      exact ⟨e, by rw [Array.getElem?_toList]; exact he, by rw [if_neg hij]⟩
  refine ⟨by simpa using hE.len, ?_, ?_, ?_⟩
  · intro j x e hx he
    obtain ⟨f, hf, hfe⟩ := hget j e he
    rw [List.getElem?_set] at hx
    by_cases hij : i = j
    · subst hij
      rw [if_pos rfl] at hfe
      simp only [if_true] at hx
      split at hx
      · simp at hx; subst hx; subst hfe; exact ⟨hk, hv⟩
      · simp at hx
    · rw [if_neg hij] at hfe hx
      subst hfe
      exact hE.each j x e hx hf
  · intro j e he
    obtain ⟨f, hf, hfe⟩ := hget j e he
    have := hE.born j f hf
    split at hfe <;> subst hfe <;> exact this
  · intro j j' e e' hj he he'
    obtain ⟨f, hf, hfe⟩ := hget j e he
    obtain ⟨f', hf', hfe'⟩ := hget j' e' he'
    have := hE.once j j' f f' hj hf hf'
    split at hfe <;> split at hfe' <;> subst hfe <;> subst hfe' <;> exact this
theorem ERel.push {es : List (Value × Value)} {l : Array MapEntry} {clock : Nat} (hE : ERel μ es l.toList clock) {k v v' : Value} (hk : VRel μ k k) (hv : VRel μ v v') :
    ERel μ (es ++ [(k, v)]) (l.push { key := k, val := v', born := clock }).toList (clock + 1) := by
  have hget : ∀ j e, (l.push { key := k, val := v', born := clock }).toList[j]? = some e → l.toList[j]? = some e ∨ (j = es.length ∧ e = { key := k, val := v', born := clock }) := by
    intro j e he
    rw [Array.toList_push, List.getElem?_append] at he
    split at he
    · exact .inl he
    · rename_i hj
      right
      have hl := hE.len
      have hj' : j - l.toList.length = 0 := by
        rcases Nat.eq_zero_or_pos (j - l.toList.length) with h' | h'
        · exact h'
        · rw [List.getElem?_eq_none (by simpa using Nat.succ_le_of_lt h')] at he; simp at he
      rw [hj'] at he
      simp at he
      exact ⟨by omega, he.symm⟩
  refine ⟨by simpa using hE.len, ?_, ?_, ?_⟩
  · intro j x e hx he
    rcases hget j e he with h1 | ⟨rfl, rfl⟩
    · have hj : j < es.length := by
        rw [hE.len]
        rcases Nat.lt_or_ge j l.toList.length with h' | h'
        · exact h'
        · rw [List.getElem?_eq_none h'] at h1; simp at h1
      rw [List.getElem?_append_left hj] at hx
      exact hE.each j x e hx h1
    · simp at hx; subst hx; exact ⟨hk, hv⟩
  · intro j e he
    rcases hget j e he with h1 | ⟨rfl, rfl⟩
    · have := hE.born j e h1; omega
    · simp
  · intro j j' e e' hj he he'
    rcases hget j e he with h1 | ⟨rfl, rfl⟩ <;> rcases hget j' e' he' with h2 | ⟨rfl, rfl⟩
    · exact hE.once j j' e e' hj h1 h2
    · exact hE.born j e h1
    · have : j' < es.length := by
        rw [hE.len]
        rcases Nat.lt_or_ge j' l.toList.length with h' | h'
        · exact h'
        · rw [List.getElem?_eq_none h'] at h2; simp at h2
      omega
    · omega
theorem keyOk_self {d : TypeDesc} {k : Value} (hk : keyOk d k = true) : VRel μ k k ∧ Instr.sameBits 10000 k k = true := by
  cases d <;> cases k <;> simp [keyOk] at hk
  · exact ⟨.bool _, by simp [Instr.sameBits]⟩
  · exact ⟨.int _ _, by simp [Instr.sameBits]⟩
  · exact ⟨.string _, by simp [Instr.sameBits, bytes_beq]⟩
theorem mapUpdateA_ok (hr : HRel μ h w) {t : TypeId} {m k v m' k' v' : Value} {h' : Hp} (hm : VRel μ m m') (hk : VRel μ k k') (hv : VRel μ v v') (hA : mapUpdateA P t m k v h = some h') :
    RanU P μ h w (Instr.mapUpdate t m' k' v') h' := by
  unfold mapUpdateA at hA
  split at hA
  case h_2 => simp at hA
  rename_i kt et b hu
  split at hA
  case h_2 => simp at hA
  rename_i d es hd hB
  split at hA
  case isFalse => simp at hA
  rename_i hko
  have hkk := keyOk_rel hko hk
  subst hkk
  have hck := fun e => checkKey_ok (P := P) hd hko e w
  obtain ⟨es', hes, rfl⟩ := Option.map_eq_some_iff.1 hA
  obtain ⟨hself, hbits⟩ := keyOk_self (μ := μ) hko
  cases hm with
  | map hb =>
    rename_i p
    obtain ⟨l, clock, h1, h2⟩ := hr.map hb hB
    unfold putA at hes
    split at hes
    · rename_i i v0 hf
      simp at hes; subst hes
      rcases findA_ok (μ := μ) es l.toList 0 _ h2.len (fun j x e => h2.each j x e) hf with ⟨r1, _⟩ | ⟨j, v1, v1', r1, r2, r3, x, e, x1, x2, x3, x4, x5⟩
      · simp at r1
      · simp at r1
        obtain ⟨rfl, rfl⟩ := r1
        have hek : e.key = k' := by rw [x4]; exact sameNow_eq x5
        obtain ⟨s1, s2⟩ := Step.setMap (P := P) hr hb hB (h2.set (i := i) hself hv)
        refine ⟨μ, _, ?_, s2⟩
        rw [Array.getElem?_toList] at x2
        simp [Instr.mapUpdate, run_underlying hu, run_getObj (P := P) h1 (by simp), hck, Instr.findKey, run_underlying hd, r2, x2, hek, Instr.keyThatStays, hbits, s1]
    · rename_i hf
      simp at hes; subst hes
      rcases findA_ok (μ := μ) es l.toList 0 _ h2.len (fun j x e => h2.each j x e) hf with ⟨_, r2⟩ | ⟨j, v1, v1', r1, _⟩
      · obtain ⟨s1, s2⟩ := Step.setMap (P := P) hr hb hB (h2.push hself hv)
        exact ⟨μ, _, by simp [Instr.mapUpdate, run_underlying hu, run_getObj (P := P) h1 (by simp), hck, Instr.findKey, run_underlying hd, r2, s1], s2⟩
      · simp at r1
    · simp at hes

/-! ### what an interface value holds; room; a key that goes -/
def typeAssertA (P : Program) (x : Value) (t : TypeId) (ok : Bool) : Option Value :=
  match P.underlying t, x with
  | some (.interface _), .nilIface => if ok then (zeroV P t).map fun z => .tuple #[z, .bool false] else none
  | some (.interface _), _ => none
  | some _, .nilIface => if ok then (zeroV P t).map fun z => .tuple #[z, .bool false] else none
  | some _, .iface u v => if u = t then some (if ok then .tuple #[v, .bool true] else v) else if ok then (zeroV P t).map fun z => .tuple #[z, .bool false] else none
  | _, _ => none
theorem typeAssertA_ok {x x' v : Value} {t xt : TypeId} {ok : Bool} (hx : VRel μ x x') (hA : typeAssertA P x t ok = some v) (w : World) : ∃ v', (Instr.typeAssert x' xt t ok).run P w = .ok v' w ∧ VRel μ v v' := by
  have hz : ∀ {v : Value}, (zeroV P t).map (fun z => Value.tuple #[z, .bool false]) = some v → ∃ z, (∀ w, (zeroValue t).run P w = .ok z w) ∧ VRel μ v (.tuple #[z, .bool false]) := by
    intro v h
    obtain ⟨z, h1, rfl⟩ := Option.map_eq_some_iff.1 h
    obtain ⟨zv, h2, h3⟩ := zeroV_run h1
    exact ⟨zv, h2, LRel.tup (LRel.cons (h3 μ) (LRel.cons (.bool _) LRel.nil))⟩
  unfold typeAssertA at hA
  split at hA
  · rename_i hu
    cases hx
    cases ok with
    | false => simp at hA
    | true =>
      obtain ⟨z, h1, h2⟩ := hz (by simpa using hA)
      exact ⟨_, by simp [Instr.typeAssert, run_underlying hu, h1], h2⟩
  · simp at hA
  · rename_i d hni hu
    cases hx
    cases ok with
    | false => simp at hA
    | true =>
      obtain ⟨z, h1, h2⟩ := hz (by simpa using hA)
      refine ⟨.tuple #[z, .bool false], ?_, h2⟩
      cases d <;> first | (simp [Instr.typeAssert, run_underlying hu, h1]; done) | exact absurd rfl (hni _)
  · rename_i d u y hni hu
    cases hx with
    | iface u hy =>
    rename_i y'
    split at hA
    · rename_i hut
      subst hut
      simp at hA; subst hA
      refine ⟨if ok then .tuple #[y', .bool true] else y', ?_, ?_⟩
      · cases d <;> first | (simp [Instr.typeAssert, run_underlying hu]; done) | exact absurd rfl (hni _)
      · cases ok
        · exact hy
        · exact LRel.tup (LRel.cons hy (LRel.cons (.bool _) LRel.nil))
    · rename_i hut
      cases ok with
      | false => simp at hA
      | true =>
        obtain ⟨z, h1, h2⟩ := hz (by simpa using hA)
        refine ⟨.tuple #[z, .bool false], ?_, h2⟩
        cases d <;> first | (simp [Instr.typeAssert, run_underlying hu, hut, h1]; done) | exact absurd rfl (hni _)
  · simp at hA
def capA (P : Program) (t : TypeId) (x : Value) : Option Value :=
  match P.underlying t, x with
  | some (.slice _), .slice none 0 0 => some (.int .i64 0)
  | some (.slice _), .slice (some ⟨_, _, none⟩) _ c => if c < capO then some (.int .i64 (c : Nat)) else none
  | _, _ => none
theorem capA_ok {t ty : TypeId} {x x' v : Value} (hx : VRel μ x x') (hA : capA P t x = some v) (w : World) : (Builtin.cap_ #[t] ty #[x']).run P w = .ok v w ∧ VRel μ v v := by
  unfold capA at hA
  split at hA
  · rename_i hu; cases hx; simp at hA; subst hA; exact ⟨by simp [Builtin.cap_, run_underlying hu, goInt], .int _ _⟩
  · rename_i hu
    split at hA
    · simp at hA; subst hA
      cases hx with
      | sl o n c hb hc hn => exact ⟨by simp [Builtin.cap_, run_underlying hu, goInt], .int _ _⟩
      | slO => omega
      | slE => omega
      | slZ => exact ⟨by simp [Builtin.cap_, run_underlying hu, goInt], .int _ _⟩
    · simp at hA
  · simp at hA
def deleteA (P : Program) (t : TypeId) (m k : Value) (h : Hp) : Option Hp :=
  match P.underlying t with
  | some (.map kt _) =>
    match P.underlying kt with
    | some d =>
      if keyOk d k = true then
        match m with
        | .map none => some h
        | .map (some b) =>
          match h[b]? with
          | some (.map es) =>
            match findA d k es 0 with
            | some (some (i, _)) => some (h.set b (.map (es.eraseIdx i)))
            | some none => some h
            | none => none
          | _ => none
        | _ => none
      else none
    | none => none
  | _ => none
theorem eraseIdx_get {α : Type} : ∀ (l : List α) (i j : Nat), (l.eraseIdx i)[j]? = if j < i then l[j]? else l[j + 1]? := by
  intro l i j
  rw [List.getElem?_eraseIdx]
theorem ERel.erase {es : List (Value × Value)} {l : Array MapEntry} {clock i : Nat} (hE : ERel μ es l.toList clock) : ERel μ (es.eraseIdx i) (l.eraseIdxIfInBounds i).toList clock := by
  have hl : (l.eraseIdxIfInBounds i).toList = l.toList.eraseIdx i := by simp
  rw [hl]
  refine ⟨by simp [List.length_eraseIdx, hE.len], ?_, ?_, ?_⟩
  · intro j x e hx he
    rw [eraseIdx_get] at hx he
    split at hx
    · rename_i h1; rw [if_pos h1] at he; exact hE.each j x e hx he
    · rename_i h1; rw [if_neg h1] at he; exact hE.each (j + 1) x e hx he
  · intro j e he
    rw [eraseIdx_get] at he
    split at he
    · exact hE.born j e he
    · exact hE.born (j + 1) e he
  · intro j k e f hjk he hf
    rw [eraseIdx_get] at he hf
    split at he <;> split at hf
    · exact hE.once j k e f hjk he hf
    · exact hE.once j (k + 1) e f (by omega) he hf
    · omega
    · exact hE.once (j + 1) (k + 1) e f (by omega) he hf
theorem deleteA_ok (hr : HRel μ h w) {t ty tk : TypeId} {m k m' k' : Value} {h' : Hp} (hm : VRel μ m m') (hk : VRel μ k k') (hA : deleteA P t m k h = some h') : Ran P μ h w (Builtin.delete_ #[t, tk] ty #[m', k']) any h' := by
  unfold deleteA at hA
  split at hA
  case h_2 => simp at hA
  rename_i kt et hu
  split at hA
  case h_2 => simp at hA
  rename_i d hd
  split at hA
  case isFalse => simp at hA
  rename_i hko
  have hkk := keyOk_rel hko hk
  subst hkk
  have hck := fun e => checkKey_ok (P := P) hd hko e w
  split at hA
  · cases hm
    simp at hA; subst hA
    exact Ran.pure hr (v' := .tuple #[]) (by simp [Builtin.delete_, run_underlying hu, hck]) (.any _)
  · rename_i b
    cases hm with
    | map hb =>
      rename_i p
      split at hA
      case h_2 => simp at hA
      rename_i es hB
      obtain ⟨l, clock, h1, h2⟩ := hr.map hb hB
      split at hA
      · rename_i i v0 hf
        simp at hA; subst hA
        rcases findA_ok (μ := μ) es l.toList 0 _ h2.len (fun j x e => h2.each j x e) hf with ⟨r1, _⟩ | ⟨j, v1, v', r1, r2, r3, _⟩
        · simp at r1
        · simp at r1
          obtain ⟨rfl, _⟩ := r1
          obtain ⟨s1, s2⟩ := Step.setMap (P := P) hr hb hB (h2.erase (i := i))
          exact ⟨μ, .tuple #[], _, by simp [Builtin.delete_, run_underlying hu, run_getObj (P := P) h1 (by simp), hck, Instr.findKey, run_underlying hd, r2, s1], .any _, s2⟩
      · rename_i hf
        simp at hA; subst hA
        rcases findA_ok (μ := μ) es l.toList 0 _ h2.len (fun j x e => h2.each j x e) hf with ⟨_, r2⟩ | ⟨j, v1, v', r1, _⟩
        · obtain ⟨s1, s2⟩ := Step.setMap (P := P) hr hb hB h2
          rw [set_same hB] at s2
          exact ⟨μ, .tuple #[], _, by simp [Builtin.delete_, run_underlying hu, run_getObj (P := P) h1 (by simp), hck, Instr.findKey, run_underlying hd, r2, s1], .any _, s2⟩
        · simp at r1
      · simp at hA
  · simp at hA
end
end Go.Ab

/- The operations of a statement, on abstract values and blocks, and that the model's operations do the same; statements, loops, calls; no condition. -/
namespace Go.Ab
open Go.RowKit

inductive Res where
  | val (v : Value) (h : Hp)
  | enter (f : FuncId) (args : List Value)
  | round (b : Nat) (args : List Value)
def rv (h : Hp) (r : Option Value) : Option Res := r.map fun v => .val v h
def rp (r : Option (Value × Hp)) : Option Res := r.map fun p => .val p.1 p.2
def ru (r : Option Hp) : Option Res := r.map fun h => .val any h

def callable (P : Program) (f : FuncId) : Bool :=
  match P.funcs[f]? with
  | some fn => fn.name != "runtime.NumGoroutine" && fn.body.isSome
  | none => false

def builtinA (P : Program) (b : Builtin) (ts : List TypeId) (xs : List Value) (h : Hp) : Option Res :=
  match b, ts, xs with
  | .append, [t, tx], [s, x] => rp (appendA P t tx s x h)
  | .copy, [t, _], [d, x] => rp (copyA P t d x h)
  | .len, [t], [x] => rv h (lenA P t x h)
  | .clear, [t], [x] => ru (clearA P t x h)
  | .cap, [t], [x] => rv h (capA P t x)
  | .delete, [t, _], [m, k] => ru (deleteA P t m k h)
  | .max, _, xs => rv h (mmA true xs)
  | .min, _, xs => rv h (mmA false xs)
  | _, _, _ => none
def nilCheckA : Value → Option Value
  | .pointer (some a) => some (.pointer (some a))
  | .func (.func f) a c => some (.func (.func f) a c)
  | .func (.yield l) a c => some (.func (.yield l) a c)
  | .iface t v => some (.iface t v)
  | .map m => some (.map m)
  | .slice a n c => some (.slice a n c)
  | _ => none
def ifaceA (P : Program) (t : TypeId) (x : Value) : Option Value :=
  match P.underlying t with
  | some (.interface _) => none
  | some _ => some (.iface t x)
  | none => none
def extractA (x : Value) (i : Nat) : Option Value :=
  match x with
  | .tuple vs => vs[i]?
  | _ => none
def pickA (c a b : Value) : Option Value :=
  match c with
  | .bool t => some (if t then a else b)
  | _ => none
def callA (P : Program) (ρ : Operand → Value) (c : Call) (h : Hp) : Option Res :=
  match c.callee with
  | .builtin b => builtinA P b c.argTypes.toList (c.args.toList.map ρ) h
  | .value f =>
    match ρ f with
    | .func (.func g) first captured => some (.enter g (first.toList ++ c.args.toList.map ρ ++ captured.toList))
    | .func (.yield b) _ _ => some (.round b (c.args.toList.map ρ))
    | _ => none
  | _ => none
def opA (P : Program) (ρ : Operand → Value) (o : Op) (h : Hp) : Option Res :=
  match o with
  | .move x | .assign x => some (.val (ρ x) h)
  | .pick c a b => rv h (pickA (ρ c) (ρ a) (ρ b))
  | .alloc t => rp (allocA P t h)
  | .box _ x => rp (boxA (ρ x) h)
  | .build t parts => rv h (buildA P t (parts.toList.map fun p => (p.1, ρ p.2)))
  | .buildSlice t n parts => rp (buildSliceA P t n (parts.toList.map fun p => (p.1, ρ p.2)) h)
  | .load t a => rv h (loadA P t (ρ a) h)
  | .store t a x => ru (storeA P t (ρ a) (ρ x) h)
  | .nilCheck x => rv h (nilCheckA (ρ x))
  | .binOp op t x y _ => rv h (binA P op t x y (ρ x) (ρ y))
  | .unOp op _ x => rv h (unA op (ρ x))
  | .convert s d x => rp (convA P s d (ρ x) h)
  | .makeInterface t x => rv h (ifaceA P t (ρ x))
  | .makeFunc (.func f) first captured => some (.val (.func (.func f) (first.map ρ) (captured.map ρ)) h)
  | .makeMap _ none => some (.val (.map (some h.length)) (h ++ [.map []]))
  | .makeSlice t l c => rp (makeSliceA P t (ρ l) (ρ c) h)
  | .slice t x lo hi mx => rv h (sliceA P t (ρ x) (lo.map ρ) (hi.map ρ) (mx.map ρ) h)
  | .fieldAddr t x f => rv h (fieldAddrA P t (ρ x) f)
  | .field t x f => rv h (fieldA P t (ρ x) f)
  | .indexAddr t x i => rv h (indexAddrA P t (ρ x) (ρ i))
  | .index t x i => rv h (indexA P t (ρ x) (ρ i))
  | .lookup t m k ok => rv h (lookupA P t (ρ m) (ρ k) ok h)
  | .mapUpdate t m k x | .insert t m k x => ru (mapUpdateA P t (ρ m) (ρ k) (ρ x) h)
  | .range t x => rp (rangeA P t (ρ x) h)
  | .next it s => rp (nextA (ρ it) s h)
  | .extract t i => rv h (extractA (ρ t) i)
  | .typeAssert x _ t ok => rv h (typeAssertA P (ρ x) t ok)
  | .call c => callA P ρ c h
  | _ => none

section
variable {P : Program} {μ : Emb} {h : Hp} {w : World}

/-- what an operation of the model does, held against a result -/
def Did (P : Program) (μ : Emb) (h : Hp) (w : World) (s : Sem Next) : Res → Prop
  | .val v h' => ∃ μ' v' w', (s.run P w = .ok (.value v') w' ∨ (s.run P w = .ok .skip w' ∧ v' = undef)) ∧ VRel μ' v v' ∧ Step μ h w μ' h' w'
  | .enter f args => callable P f = true → ∃ vs : Array Value, s.run P w = .ok (.enter f vs) w ∧ LRel μ args vs.toList
  | .round b args => ∃ (e : Place) (vs : Array Value), μ b = some e ∧ LRel μ args vs.toList ∧ ∀ r : Loop, w.heap[e.block]? = some (.loop r) → vs.size = r.params.size →
      s.run P w = .ok (.round e.block r.fn ((r.params.zip vs).foldl (fun tmps (t, a) => tmps.setIfInBounds t a) r.tmps) r.assign r.body) w

theorem Did.rp {s : Sem Value} {r : Option (Value × Hp)} {res : Res} (hA : rp r = some res) (h1 : ∀ v h', r = some (v, h') → Ran P μ h w s v h') : Did P μ h w (do Pure.pure (Next.value (← s))) res := by
  unfold Ab.rp at hA
  obtain ⟨⟨v, h'⟩, hr, rfl⟩ := Option.map_eq_some_iff.1 hA
  obtain ⟨μ', v', w', e1, e2, e3⟩ := h1 v h' hr
  exact ⟨μ', v', w', .inl (by simp [e1]), e2, e3⟩
theorem Did.rv (hr : HRel μ h w) {s : Sem Value} {r : Option Value} {res : Res} (hA : rv h r = some res) (h1 : ∀ v, r = some v → ∃ v', s.run P w = .ok v' w ∧ VRel μ v v') : Did P μ h w (do Pure.pure (Next.value (← s))) res := by
  unfold Ab.rv at hA
  obtain ⟨v, hr', rfl⟩ := Option.map_eq_some_iff.1 hA
  obtain ⟨v', e1, e2⟩ := h1 v hr'
  exact ⟨μ, v', w, .inl (by simp [e1]), e2, Step.refl hr⟩
theorem Did.ru {s : Sem Unit} {r : Option Hp} {res : Res} (hA : ru r = some res) (h1 : ∀ h', r = some h' → RanU P μ h w s h') : Did P μ h w (do s; Pure.pure Next.skip) res := by
  unfold Ab.ru at hA
  obtain ⟨h', hr, rfl⟩ := Option.map_eq_some_iff.1 hA
  obtain ⟨μ', w', e1, e2⟩ := h1 h' hr
  exact ⟨μ', undef, w', .inr ⟨by simp [e1], rfl⟩, .any _, e2⟩

theorem LRel.map_eval {n : Nat} {fr : Fr} {a : Act} (hf : FRel μ n fr a.tmps) (xs : Array Operand) : LRel μ (xs.toList.map (evalA fr)) (xs.map a.eval).toList := by
  refine ⟨by simp, ?_⟩
  intro i x y hx hy
  rw [List.getElem?_map] at hx
  rw [Array.toList_map, List.getElem?_map] at hy
  obtain ⟨p, hp, rfl⟩ := Option.map_eq_some_iff.1 hx
  obtain ⟨q, hq, rfl⟩ := Option.map_eq_some_iff.1 hy
  have := Option.some.inj (hp.symm.trans hq)
  subst this
  exact VRel.eval hf p
theorem PRel.map_eval {n : Nat} {fr : Fr} {a : Act} (hf : FRel μ n fr a.tmps) (xs : Array (Nat × Operand)) : PRel μ (xs.toList.map fun p => (p.1, evalA fr p.2)) (xs.map fun p => (p.1, a.eval p.2)).toList := by
  refine ⟨by simp, ?_⟩
  intro i x y hx hy
  rw [List.getElem?_map] at hx
  rw [Array.toList_map, List.getElem?_map] at hy
  obtain ⟨p, hp, rfl⟩ := Option.map_eq_some_iff.1 hx
  obtain ⟨q, hq, rfl⟩ := Option.map_eq_some_iff.1 hy
  have := Option.some.inj (hp.symm.trans hq)
  subst this
  exact ⟨rfl, VRel.eval hf p.2⟩
theorem ORelV.map_eval {n : Nat} {fr : Fr} {a : Act} (hf : FRel μ n fr a.tmps) (x : Option Operand) : ORelV μ (x.map (evalA fr)) (x.map a.eval) := by
  cases x with
  | none => trivial
  | some x => exact VRel.eval hf x

theorem builtinA_ok (hr : HRel μ h w) {b : Builtin} {ts : Array TypeId} {ty : TypeId} {cs : Array Bool} {xs : List Value} {xs' : Array Value} {res : Res} (hx : LRel μ xs xs'.toList)
    (hA : builtinA P b ts.toList xs h = some res) : Did P μ h w (builtin b ts ty cs xs') res := by
  unfold builtinA at hA
  obtain ⟨ts⟩ := ts
  obtain ⟨xs'⟩ := xs'
  simp only at hA hx
  split at hA
  · obtain ⟨y, ys, rfl, h1, h2⟩ := LRel.cons_inv hx
    obtain ⟨z, zs, rfl, h3, h4⟩ := LRel.cons_inv h2
    rw [LRel.nil_inv h4]
    exact Did.rp hA fun v h' e => appendA_ok hr h1 h3 e
  · obtain ⟨y, ys, rfl, h1, h2⟩ := LRel.cons_inv hx
    obtain ⟨z, zs, rfl, h3, h4⟩ := LRel.cons_inv h2
    rw [LRel.nil_inv h4]
    exact Did.rp hA fun v h' e => copyA_ok hr h1 h3 e
  · obtain ⟨y, ys, rfl, h1, h2⟩ := LRel.cons_inv hx
    rw [LRel.nil_inv h2]
    exact Did.rv hr hA fun v e => ⟨v, lenA_ok hr h1 e⟩
  · obtain ⟨y, ys, rfl, h1, h2⟩ := LRel.cons_inv hx
    rw [LRel.nil_inv h2]
    unfold ru at hA
    obtain ⟨h', hr', rfl⟩ := Option.map_eq_some_iff.1 hA
    obtain ⟨μ', v', w', e1, e2, e3⟩ := clearA_ok (P := P) (ty := ty) hr h1 hr'
    exact ⟨μ', v', w', .inl (by simp [builtin, e1]), e2, e3⟩
  · obtain ⟨y, ys, rfl, h1, h2⟩ := LRel.cons_inv hx
    rw [LRel.nil_inv h2]
    exact Did.rv hr hA fun v e => ⟨v, capA_ok h1 e w⟩
  · rename_i t tk m k
    obtain ⟨y, ys, rfl, h1, h2⟩ := LRel.cons_inv hx
    obtain ⟨z, zs, rfl, h3, h4⟩ := LRel.cons_inv h2
    rw [LRel.nil_inv h4]
    unfold ru at hA
    obtain ⟨h', hr', rfl⟩ := Option.map_eq_some_iff.1 hA
    obtain ⟨μ', v', w', e1, e2, e3⟩ := deleteA_ok (P := P) (ty := ty) (tk := tk) hr h1 h3 hr'
    exact ⟨μ', v', w', .inl (by simp [builtin, e1]), e2, e3⟩
  · exact Did.rv hr hA fun v e => ⟨v, by have := mmA_ok (P := P) hx e ⟨ts⟩ ty w; simpa using this⟩
  · exact Did.rv hr hA fun v e => ⟨v, by have := mmA_ok (P := P) hx e ⟨ts⟩ ty w; simpa using this⟩
  · simp at hA

theorem opA_ok (hr : HRel μ h w) {n : Nat} {fr : Fr} {a : Act} (hf : FRel μ n fr a.tmps) {o : Oper} {res : Res} (hA : opA P (evalA fr) o.op h = some res) : Did P μ h w (execOp a.eval o) res := by
  obtain ⟨dst, op, ty, pos, after, guard⟩ := o
  have ev := fun x => VRel.eval (μ := μ) hf x
  unfold opA at hA
  simp only at hA
  unfold execOp
  simp only
  split at hA
  · simp at hA; subst hA; exact ⟨μ, _, w, .inl rfl, ev _, Step.refl hr⟩
  · simp at hA; subst hA; exact ⟨μ, _, w, .inl rfl, ev _, Step.refl hr⟩
  · rename_i c x y
    unfold rv at hA
    obtain ⟨v, hv, rfl⟩ := Option.map_eq_some_iff.1 hA
    have hc := ev c
    unfold pickA at hv
    split at hv
    · rename_i t ht
      rw [ht] at hc
      simp at hv; subst hv
      generalize hcv : a.eval c = cv at hc
      cases hc
      refine ⟨μ, if t then a.eval x else a.eval y, w, .inl ?_, ?_, Step.refl hr⟩
      · simp [asBool, hcv]
      · cases t
        · exact ev y
        · exact ev x
    · simp at hv
  · exact Did.rp hA fun v h' e => allocA_ok hr e
  · exact Did.rp hA fun v h' e => boxA_ok hr _ (ev _) e
  · exact Did.rv hr hA fun v e => buildA_ok (PRel.map_eval hf _) e w
  · exact Did.rp hA fun v h' e => buildSliceA_ok hr (PRel.map_eval hf _) e
  · exact Did.rv hr hA fun v e => loadA_ok hr (ev _) e
  · exact Did.ru hA fun h' e => storeA_ok hr (ev _) (ev _) e
  · rename_i x
    unfold rv at hA
    obtain ⟨v, hv, rfl⟩ := Option.map_eq_some_iff.1 hA
    have hc := ev x
    generalize evalA fr x = xa at hc hv
    generalize hxv : a.eval x = xv at hc
    refine ⟨μ, xv, w, .inl ?_, ?_, Step.refl hr⟩
    · cases hc <;> simp [nilCheckA] at hv <;> simp [hxv]
    · cases hc <;> simp [nilCheckA] at hv <;> subst hv <;> constructor <;> assumption
  · exact Did.rv hr hA fun v e => ⟨v, binA_ok (ev _) (ev _) e w⟩
  · exact Did.rv hr hA fun v e => ⟨v, unA_ok (ev _) e w⟩
  · exact Did.rp hA fun v h' e => convA_ok hr (ev _) e
  · rename_i t x
    refine Did.rv hr hA fun v e => ?_
    unfold ifaceA at e
    split at e
    · simp at e
    · rename_i d hne hu
      simp at e; subst e
      refine ⟨.iface t (a.eval x), ?_, .iface t (ev x)⟩
      simp only [Instr.makeInterface, Sem.run_bind, run_underlying hu, Result.andThen_ok]
      try (cases d <;> simp_all)
    · simp at e
  · rename_i f first captured
    simp at hA; subst hA
    refine ⟨μ, _, w, .inl (by simp [Instr.makeFunc]; rfl), ?_, Step.refl hr⟩
    have h1 := LRel.map_eval hf first
    have h2 := LRel.map_eval hf captured
    exact .func (by simp) (by simp) (fun i x y hx hy => h1.2 i x y (by rw [List.getElem?_map]; simpa using hx) (by rw [Array.getElem?_toList]; exact hy))
      (fun i x y hx hy => h2.2 i x y (by rw [List.getElem?_map]; simpa using hx) (by rw [Array.getElem?_toList]; exact hy))
  · simp at hA; subst hA
    obtain ⟨μ', v', w', e1, e2, e3⟩ := makeMapA_ok (P := P) hr ‹_›
    exact ⟨μ', v', w', .inl (by simp [e1]), e2, e3⟩
  · exact Did.rp hA fun v h' e => makeSliceA_ok hr (ev _) (ev _) e
  · exact Did.rv hr hA fun v e => sliceA_ok hr (ev _) (ORelV.map_eval hf _) (ORelV.map_eval hf _) (ORelV.map_eval hf _) e
  · exact Did.rv hr hA fun v e => fieldAddrA_ok (ev _) e w
  · exact Did.rv hr hA fun v e => fieldA_ok (ev _) e w
  · exact Did.rv hr hA fun v e => indexAddrA_ok (ev _) (ev _) e w
  · exact Did.rv hr hA fun v e => indexA_ok (ev _) (ev _) e w
  · exact Did.rv hr hA fun v e => lookupA_ok hr (ev _) (ev _) e
  · exact Did.ru hA fun h' e => mapUpdateA_ok hr (ev _) (ev _) (ev _) e
  · exact Did.ru hA fun h' e => mapUpdateA_ok hr (ev _) (ev _) (ev _) e
  · exact Did.rp hA fun v h' e => rangeA_ok hr (ev _) e
  · exact Did.rp hA fun v h' e => nextA_ok hr (ev _) _ e
  · rename_i t i
    refine Did.rv hr hA fun v e => ?_
    unfold extractA at e
    split at e
    · rename_i vs hvs
      have ht := ev t
      rw [hvs] at ht
      generalize htv : a.eval t = tv at ht
      cases ht with
      | any _ => simp at e
      | tup h1 h3 =>
        rename_i xs'
        have hi : i < xs'.size := by
          rw [← h1]
          rcases Nat.lt_or_ge i vs.size with h' | h'
          · exact h'
          · rw [Array.getElem?_eq_none h'] at e; simp at e
        exact ⟨xs'[i], by simp [htv, Instr.extract, hi], h3 i v _ e (by simp [hi])⟩
    · simp at e
  · exact Did.rv hr hA fun v e => typeAssertA_ok (ev _) e w
  · rename_i c
    obtain ⟨callee, args, ats⟩ := c
    unfold callA at hA
    simp only at hA
    split at hA
    · rename_i b
      simp only [resolve]
      simp only [pure_bind, invoke]
      exact builtinA_ok hr (LRel.map_eval hf args) hA
    · rename_i f
      split at hA
      · rename_i g first captured hfv
        have hc := ev f
        rw [hfv] at hc
        simp at hA; subst hA
        intro hcall
        simp only [resolve]
        generalize hfv' : a.eval f = fv at hc
        cases hc with
        | func h1 h2 h3 h4 =>
          rename_i xs' ys'
          unfold callable at hcall
          split at hcall
          · rename_i fn hfn
            simp at hcall
            obtain ⟨c1, c2⟩ := hcall
            obtain ⟨body, hbody⟩ := Option.isSome_iff_exists.1 c2
            refine ⟨xs' ++ args.map a.eval ++ ys', ?_, ?_⟩
            · simp [hfv', Deferred.ofValue, invoke, callFunc, hfn, c1, hbody]
            · have e1 : ARel μ first xs' := ARel.of h1 h3
              have e2 : ARel μ captured ys' := ARel.of h2 h4
              have := LRel.append (LRel.append e1 (LRel.map_eval hf args)) e2
              simpa using this
          · simp at hcall
      · rename_i b xs ys hfv
        have hc := ev f
        rw [hfv] at hc
        simp at hA; subst hA
        generalize hfv' : a.eval f = fv at hc
        cases hc with
        | yield hb =>
          rename_i e
          refine ⟨e, args.map a.eval, hb, ?_, ?_⟩
          · have := LRel.map_eval hf args
            simpa using this
          · intro r hr' hsz
            have hy := run_yield (P := P) (args := args.map a.eval) hr' hsz
            simp only [resolve]
            simp [hfv', Deferred.ofValue, invoke, hy]
      · simp at hA
    · simp at hA
  · simp at hA
/-- which operations are no 'defer' -/
theorem opA_defer {ρ : Operand → Value} {o : Oper} {res : Res} (hA : opA P ρ o.op h = some res) (c : Call) : o.op ≠ .defer c := by
  intro hc
  rw [hc] at hA
  simp [opA] at hA
end
end Go.Ab

/- Statements, loops and calls on abstract values and blocks, and that the model's do the same; no condition. -/
namespace Go.Ab
open Go.RowKit
section
variable {P : Program} {μ : Emb} {h : Hp} {w : World} {n : Nat}

/-- what a call comes to: Q of its result and of the blocks behind it -/
def EvA (P : Program) (f : FuncId) (args : List Value) (Q : Value → Hp → Prop) (h : Hp) : Prop :=
  callable P f = true ∧ ∀ (μ : Emb) (w : World) (vs : Array Value), HRel μ h w → LRel μ args vs.toList →
    Calls P f vs w fun e w' => ∃ μ' h' r v, e = .returned v ∧ Step μ h w μ' h' w' ∧ VRel μ' r v ∧ Q r h'
theorem EvA.mono {f : FuncId} {args : List Value} {Q Q' : Value → Hp → Prop} (he : EvA P f args Q h) (hq : ∀ r h', Q r h' → Q' r h') : EvA P f args Q' h :=
  ⟨he.1, fun μ w vs hr hv => (he.2 μ w vs hr hv).mono fun _ _ ⟨μ', h', r, v, e1, e2, e3, e4⟩ => ⟨μ', h', r, v, e1, e2, e3, hq _ _ e4⟩⟩

abbrev QA := Exit → Fr → Hp → Prop
/-- the fence of a walk: no bound; in a round of a loop over a function, or not -/
def Wd (r : Option Nat) : Fence := { Fence.wide with round := r }
theorem room_wd (r : Option Nat) (k : Nat) : (Wd r).room k := room_wide k
theorem callsIn_wd {r : Option Nat} {k : Nat} {f : FuncId} {args : Array Value} {R : Ending → World → Prop} : CallsIn (Wd r) k P f args w R ↔ Calls P f args w R := callsIn_wide (n := k)
/-- is there a loop over a function in it? -/
def hasRF : Code → Bool
  | .seq a b | .cond _ a b => hasRF a || hasRF b
  | .block _ c | .loop c | .scope c => hasRF c
  | .rangeFunc .. => true
  | _ => false
/-- the marks that loops over functions leave: blocks from m on that are nobody's -/
def coll (D : Nat) : Deferred := { target := .collected D, args := #[] }
def DOk (m : Nat) (ds : List Deferred) (μ : Emb) (h : Hp) (w : World) : Prop :=
  m ≤ w.heap.size ∧ ∃ Ds : List Nat, ds = Ds.map coll ∧ Ds.Nodup ∧ ∀ D ∈ Ds, m ≤ D ∧ D < w.heap.size ∧ ¬ Own μ h D ∧ w.heap[D]? = some (.deferred (some []))
theorem DOk.step {m : Nat} {ds : List Deferred} {μ' : Emb} {h' : Hp} {w' : World} (hd : DOk m ds μ h w) (s : Step μ h w μ' h' w') : DOk m ds μ' h' w' := by
  obtain ⟨hm, Ds, rfl, h2, h3⟩ := hd
  refine ⟨Nat.le_trans hm s.keeps.size, Ds, rfl, h2, fun D hD => ?_⟩
  obtain ⟨g0, g1, g2, g3⟩ := h3 D hD
  refine ⟨g0, Nat.lt_of_lt_of_le g1 s.keeps.size, fun ho => ?_, (s.keeps.block D g1 g2).trans g3⟩
  rcases s.own D ho with h' | h'
  · exact g2 h'
  · omega
def CPost (n m : Nat) (μ : Emb) (h : Hp) (w : World) (Q : QA) (e : Exit) (a' : Act) (w' : World) : Prop :=
  ∃ μ' fr' h', Step μ h w μ' h' w' ∧ FRel μ' n fr' a'.tmps ∧ DOk m a'.defers μ' h' w' ∧ Q e fr' h'
/-- what a statement comes to -/
def WpA (P : Program) (n : Nat) (c : Code) (Q : QA) (fr : Fr) (h : Hp) : Prop :=
  ∀ (r : Option Nat) (m : Nat) (μ : Emb) (w : World) (a : Act), (hasRF c = true → r = none) → HRel μ h w → FRel μ n fr a.tmps → DOk m a.defers μ h w → c.wpIn (Wd r) 0 P (CPost n m μ h w Q) a w

theorem CPost.step {m : Nat} {μ' : Emb} {h' : Hp} {w' : World} {Q : QA} {e : Exit} {a : Act} {w'' : World} (s : Step μ h w μ' h' w') (hc : CPost n m μ' h' w' Q e a w'') : CPost n m μ h w Q e a w'' := by
  obtain ⟨μ'', fr, h'', s2, r⟩ := hc
  exact ⟨μ'', fr, h'', s.trans s2, r⟩
theorem WpA.mono {c : Code} {Q Q' : QA} {fr : Fr} (hw : WpA P n c Q fr h) (hq : ∀ e fr h, Q e fr h → Q' e fr h) : WpA P n c Q' fr h := by
  intro r m μ w a hg hr hf hd
  refine wpIn_mono (hw r m μ w a hg hr hf hd) ?_
  rintro e a' w' ⟨μ', fr', h', s, r1, r2, r3⟩
  exact ⟨μ', fr', h', s, r1, r2, hq _ _ _ r3⟩

/-! ### one statement's operations -/
def putF (n : Nat) (fr : Fr) (d : Option Tmp) (v : Value) : Fr :=
  match d with
  | some d => fun i => if i = d then (if d < n then v else any) else fr i
  | none => fr
def wantA (ops : Array Oper) (o : Oper) (fr : Fr) : Option Bool :=
  match o.guard with
  | none => some true
  | some (j, want) =>
    match (ops[j]?).bind (·.dst) with
    | none => some false
    | some d =>
      match fr d with
      | .bool b => some (b == want)
      | .float .f32 0 => some false
      | _ => none
/-- the frame of a round -/
def putPs (L : LoopA) (args : List Value) : Fr := (L.ps.toList.zip args).foldl (fun fr p => putF L.n fr (some p.1) p.2) L.fr
def busyL (L : LoopA) : LoopA := { L with st := .busy }
def doneL (L : LoopA) (c : Code) : LoopA := { L with st := .done, pend := some c }
def readyL (L : LoopA) : LoopA := { L with st := .ready, pend := none }
/-- where a round ends, and what follows in the function that called for it -/
def endQ (b : Nat) (K : Value → Hp → Prop) : QA := fun e _ h => ∃ L, h[b]? = some (.loop L) ∧ (match e with
  | .normal => K (.bool true) (h.set b (.loop (readyL L)))
  | .ret => K (.bool false) (h.set b (.loop (doneL L .ret)))
  | .exit id => K (.bool false) (h.set b (.loop (doneL L (.exit id))))
  | _ => False)
/-- behind the assignment of a round -/
def startQ (P : Program) (b n : Nat) (body : Code) (K : Value → Hp → Prop) : QA := fun e fr h => e = .normal ∧ ∃ L, h[b]? = some (.loop L) ∧ L.st = .ready ∧ WpA P n body (endQ b K) fr (h.set b (.loop (busyL L)))
/-- a round of a loop over a function -/
def RoundA (P : Program) (b : Nat) (args : List Value) (K : Value → Hp → Prop) (h : Hp) : Prop :=
  ∃ L, h[b]? = some (.loop L) ∧ args.length = L.ps.size ∧ hasRF L.assign = false ∧ hasRF L.body = false ∧ WpA P L.n L.assign (startQ P b L.n L.body K) (putPs L args) h
theorem RoundA.mono {b : Nat} {args : List Value} {K K' : Value → Hp → Prop} (hA : RoundA P b args K h) (hk : ∀ r h', K r h' → K' r h') : RoundA P b args K' h := by
  obtain ⟨L, h1, h3, h4, h5, h6⟩ := hA
  refine ⟨L, h1, h3, h4, h5, h6.mono ?_⟩
  rintro e fr g ⟨rfl, L1, g0, g1, g2⟩
  refine ⟨rfl, L1, g0, g1, g2.mono ?_⟩
  rintro e fr g ⟨L2, g3, g4⟩
  refine ⟨L2, g3, ?_⟩
  cases e with
  | normal => exact hk _ _ g4
  | ret => exact hk _ _ g4
  | exit id => exact hk _ _ g4
  | goto l => exact g4
  | panic c => exact g4
  | outgrown => exact g4
def runOps (P : Program) (n : Nat) (ops : Array Oper) (K : Fr → Hp → Prop) : List Oper → Fr → Hp → Prop
  | [], fr, h => K fr h
  | o :: rest, fr, h =>
    match wantA ops o fr with
    | none => False
    | some t =>
      (t = true → match opA P (evalA fr) o.op h with
      | none => False
      | some (.val v h') => runOps P n ops K rest (putF n fr o.dst v) h'
      | some (.enter f args) => EvA P f args (fun r h' => runOps P n ops K rest (putF n fr o.dst r) h') h
      | some (.round b args) => RoundA P b args (fun r h' => runOps P n ops K rest (putF n fr o.dst r) h') h) ∧
      (t = false → runOps P n ops K rest (putF n fr o.dst sk) h)

theorem FRel.put {fr : Fr} {a : Act} (hf : FRel μ n fr a.tmps) (d : Option Tmp) {v v' : Value} (hv : VRel μ v v') : FRel μ n (putF n fr d v) (a.put d v').tmps := by
  cases d with
  | none => exact hf
  | some d =>
    refine ⟨by simpa [Act.put] using hf.1, fun i => ?_⟩
    simp only [putF, Act.put]
    by_cases hi : i = d
    · subst hi
      rw [if_pos rfl]
      split
      · rename_i hlt
        rw [← hf.1] at hlt
        simpa [Array.getD_eq_getD_getElem?, hlt] using hv
      · exact .any _
    · rw [if_neg hi]
      have := hf.2 i
      rw [Array.getD_eq_getD_getElem?] at this ⊢
      rw [Array.getElem?_setIfInBounds_ne (fun h => hi h.symm)]
      exact this
theorem put_defers (a : Act) (d : Option Tmp) (v : Value) : (a.put d v).defers = a.defers := by cases d <;> rfl
theorem wantA_ok {ops : Array Oper} {o : Oper} {fr : Fr} {a : Act} (hf : FRel μ n fr a.tmps) {b : Bool} (hw : wantA ops o fr = some b) : Region.wanted o (yielded ops a.tmps) = b := by
  unfold wantA at hw
  unfold Region.wanted
  split at hw
  · rename_i hg; simp at hw; subst hw; rw [hg]
  · rename_i j want hg
    rw [hg]
    simp only [yielded]
    split at hw
    · rename_i hn; simp at hw; subst hw; rw [hn]; simp
    · rename_i d hd
      rw [hd]
      simp only [Option.bind_some]
      have hv := hf.2 d
      rw [Array.getD_eq_getD_getElem?] at hv
      split at hw
      · rename_i c hc
        rw [hc] at hv
        simp at hw; subst hw
        cases hy : a.tmps[d]? with
        | none => rw [hy] at hv; simp only [Option.getD_none] at hv; cases hv
        | some y =>
          rw [hy] at hv
          simp only [Option.getD_some] at hv
          cases hv
          cases c <;> cases want <;> rfl
      · rename_i hc
        rw [hc] at hv
        simp at hw; subst hw
        cases hy : a.tmps[d]? with
        | none => rfl
        | some y =>
          rw [hy] at hv
          simp only [Option.getD_some] at hv
          cases hv
          rfl
      · simp at hw

def NQ (K : Fr → Hp → Prop) : QA := fun e fr h => match e with
  | .normal => K fr h
  | _ => False
theorem set_same' {b : Nat} {B : Blk} (hB : h[b]? = some B) : h.set b B = h := set_same hB
theorem zip_fold {L : LoopA} : ∀ (ps : List Tmp) (args vs : List Value) (fr : Fr) (tmps : Array Value), FRel μ L.n fr tmps → LRel μ args vs →
    FRel μ L.n ((ps.zip args).foldl (fun fr p => putF L.n fr (some p.1) p.2) fr) ((ps.zip vs).foldl (fun tmps p => tmps.setIfInBounds p.1 p.2) tmps) := by
  intro ps
  induction ps with
  | nil => intro args vs fr tmps hf _; simpa using hf
  | cons p ps ih =>
    intro args vs fr tmps hf hv
    cases args with
    | nil => rw [LRel.nil_inv hv]; simpa using hf
    | cons x args =>
      obtain ⟨y, ys, rfl, h1, h2⟩ := LRel.cons_inv hv
      simp only [List.zip_cons_cons, List.foldl_cons]
      exact ih args ys _ _ (hf.put (a := { tmps := tmps, defers := [] }) (some p) h1) h2
theorem HRel.loop (hr : HRel μ h w) {b : Nat} {e : Place} {L : LoopA} (hb : μ b = some e) (hB : h[b]? = some (.loop L)) :
    ∃ r : Loop, w.heap[e.block]? = some (.loop r) ∧ r.state = L.st ∧ r.pending = L.pend ∧ r.params = L.ps ∧ r.assign = L.assign ∧ r.body = L.body ∧ FRel μ L.n L.fr r.tmps := by
  obtain ⟨_, r, h2, h3, h4, h5, h6, h7, h8, h9⟩ := hr.obj b e _ hb hB
  exact ⟨r, h2, h3, h4, h5, h6, h7, h8, h9⟩
theorem Step.setLoop (hr : HRel μ h w) {b : Nat} {e : Place} {L : LoopA} {r : Loop} (hb : μ b = some e) (hB : h[b]? = some (.loop L)) (hl : w.heap[e.block]? = some (.loop r)) (st : LoopState) (pend : Option Code) :
    Step μ h w μ (h.set b (.loop { L with st := st, pend := pend })) (w.putObj e.block (.loop { r with state := st, pending := pend })) := by
  obtain ⟨h1, r', h2, h3, h4, h5, h6, h7, h8, h9⟩ := hr.obj b e _ hb hB
  rw [hl] at h2
  simp at h2; subst h2
  have hlt := (hr.dom b e hb).2
  refine Step.write hr hb hB rfl _ (fun _ => rfl) rfl rfl rfl (by simp) (fun k hk => World.putObj_heap_other hk) ⟨h1, _, World.putObj_heap_same hlt, rfl, rfl, h5, h6, h7, h8, h9⟩
theorem DOk.nil (μ : Emb) (h : Hp) (w : World) : DOk 0 [] μ h w := ⟨Nat.zero_le _, [], rfl, by simp, by simp⟩
theorem RoundA.ok {b : Nat} {args : List Value} {K : Value → Hp → Prop} {e : Place} {vs : Array Value} (r0 : Option Nat) (hr : HRel μ h w) (hA : RoundA P b args K h) (hb : μ b = some e) (hv : LRel μ args vs.toList) :
    ∃ r : Loop, w.heap[e.block]? = some (.loop r) ∧ vs.size = r.params.size ∧
      RoundIn (Wd r0) 0 P e.block r.fn ((r.params.zip vs).foldl (fun tmps (t, a) => tmps.setIfInBounds t a) r.tmps) r.assign r.body w
        (fun en w' => ∃ μ' h' r' v, en = .returned v ∧ Step μ h w μ' h' w' ∧ VRel μ' r' v ∧ K r' h') := by
  obtain ⟨L, hB, hlen, hrf1, hrf2, hw⟩ := hA
  obtain ⟨r, q1, q2, q3, q4, q5, q6, q7⟩ := hr.loop hb hB
  have hsz : vs.size = r.params.size := by have := hv.1; simp at this; rw [q4]; omega
  refine ⟨r, q1, hsz, ?_⟩
  have hfr : FRel μ L.n (putPs L args) ((r.params.zip vs).foldl (fun tmps (t, a) => tmps.setIfInBounds t a) r.tmps) := by
    have := zip_fold (μ := μ) (L := L) r.params.toList args vs.toList L.fr r.tmps q7 hv
    rw [← Array.foldl_toList, Array.toList_zip]
    rw [q4] at this ⊢
    exact this
  refine roundIn_of_wpIn (F := Wd r0) trivial ?_
  have hF : (Wd r0).inRound e.block = Wd (some e.block) := rfl
  rw [hF, q5, q6]
  refine wpIn_mono (hw (some e.block) 0 μ w { tmps := _, defers := [] } (by rw [hrf1]; simp) hr hfr (DOk.nil _ _ _)) ?_
  rintro en a1 w1 ⟨μ1, fr1, h1, s1, f1, d1, rfl, L1, hB1, hst, hw1⟩
  have hb1 : μ1 b = some e := s1.up hr b e hb
  obtain ⟨r1, p1, p2, p3, p4, p5, p6, p7⟩ := s1.rel.loop hb1 hB1
  have s2 := Step.setLoop s1.rel hb1 hB1 p1 .busy L1.pend
  have hp3 : { r1 with state := .busy, pending := L1.pend } = { r1 with state := .busy } := by rw [← p3]
  rw [hp3] at s2
  refine ⟨_, run_beginRound p1 (by rw [p2]; exact hst), ?_⟩
  refine wpIn_mono (hw1 (some e.block) 0 μ1 _ a1 (by rw [hrf2]; simp) s2.rel f1 (d1.step s2)) ?_
  have hfin : ∀ (en : Option Code) (μ3 : Emb) (h3 : Hp) (w3 : World) (L2 : LoopA), Step μ1 (h1.set b (.loop (busyL L1))) (w1.putObj e.block (.loop { r1 with state := .busy })) μ3 h3 w3 → h3[b]? = some (.loop L2) →
      K (.bool en.isNone) (h3.set b (.loop { L2 with st := if en.isNone then .ready else .done, pend := en })) →
      ∃ v w', (Instr.endRound e.block en).run P w3 = .ok v w' ∧ ∃ μ' h' r' v', Ending.returned v = .returned v' ∧ Step μ h w μ' h' w' ∧ VRel μ' r' v' ∧ K r' h' := by
    intro en μ3 h3 w3 L2 s3 hB3 hK
    have hb3 : μ3 b = some e := s3.up s2.rel b e hb1
    obtain ⟨r3, t1, _⟩ := s3.rel.loop hb3 hB3
    have s4 := Step.setLoop s3.rel hb3 hB3 t1 (if en.isNone then .ready else .done) en
    exact ⟨_, _, run_endRound en t1, μ3, _, .bool en.isNone, _, rfl, ((s1.trans s2).trans s3).trans s4, .bool _, hK⟩
  rintro en a3 w3 ⟨μ3, fr3, h3, s3, f3, d3, L2, hB3, hK⟩
  cases en with
  | normal => exact hfin none μ3 h3 w3 L2 s3 hB3 hK
  | ret => exact hfin (some .ret) μ3 h3 w3 L2 s3 hB3 hK
  | exit id => exact hfin (some (.exit id)) μ3 h3 w3 L2 s3 hB3 hK
  | goto l => exact hK.elim
  | panic c => exact hK.elim
  | outgrown => exact hK.elim
theorem wpOper {r0 : Option Nat} {a : Act} {o : Oper} {K : Act → World → Prop} {Q : Exit → Act → World → Prop} (hd : ∀ c, o.op ≠ .defer c) (hu : o.uponIn (Wd r0) 0 P a K Q ((execOp a.eval o).run P w)) : o.wpIn (Wd r0) 0 P a w K Q :=
  ⟨fun _ _ => trivial, by rw [Oper.semAt_eq _ _ _ hd]; exact hu⟩
theorem upon_value {r0 : Option Nat} {a : Act} {o : Oper} {K : Act → World → Prop} {Q : Exit → Act → World → Prop} {v' : Value} {w' : World} {s : Sem Next}
    (e1 : s.run P w = .ok (.value v') w' ∨ (s.run P w = .ok .skip w' ∧ v' = undef)) (hk : K (a.put o.dst v') w') : o.uponIn (Wd r0) 0 P a K Q (s.run P w) := by
  rcases e1 with e1 | ⟨e1, rfl⟩
  · rw [e1]; exact hk
  · rw [e1]; exact hk
theorem upon_enter {r0 : Option Nat} {a : Act} {o : Oper} {K : Act → World → Prop} {Q : Exit → Act → World → Prop} {f : FuncId} {vs : Array Value} {s : Sem Next} {R : Ending → World → Prop}
    (e1 : s.run P w = .ok (.enter f vs) w) (hc : Calls P f vs w R) (hk : ∀ e w', R e w' → ∃ v, e = .returned v ∧ K (a.put o.dst v) w') : o.uponIn (Wd r0) 0 P a K Q (s.run P w) := by
  rw [e1, Oper.uponIn_enter]
  refine ⟨fun h => by simp [Wd, Fence.wide] at h, callsIn_wd.2 (hc.mono ?_)⟩
  intro e w' hR
  obtain ⟨v, rfl, hk'⟩ := hk e w' hR
  exact hk'
theorem upon_round {r0 : Option Nat} {a : Act} {o : Oper} {K : Act → World → Prop} {Q : Exit → Act → World → Prop} {l : Nat} {f : FuncId} {tmps : Array Value} {as bd : Code} {s : Sem Next} {R : Ending → World → Prop}
    (e1 : s.run P w = .ok (.round l f tmps as bd) w) (hc : RoundIn (Wd r0) 0 P l f tmps as bd w R) (hk : ∀ e w', R e w' → ∃ v, e = .returned v ∧ K (a.put o.dst v) w') : o.uponIn (Wd r0) 0 P a K Q (s.run P w) := by
  rw [e1, Oper.uponIn_round]
  refine ⟨fun h => by simp [Wd, Fence.wide] at h, hc.mono ?_⟩
  intro e w' hR
  obtain ⟨v, rfl, hk'⟩ := hk e w' hR
  exact hk'
theorem runOps_ok {m : Nat} {r0 : Option Nat} {ds : List Deferred} {ops : Array Oper} {K : Fr → Hp → Prop} {μ₀ : Emb} {h₀ : Hp} {w₀ : World} (hds : DOk m ds μ₀ h₀ w₀) : ∀ (l : List Oper) (fr : Fr) (h : Hp), runOps P n ops K l fr h →
    ∀ (μ : Emb) (w : World) (a : Act), Step μ₀ h₀ w₀ μ h w → FRel μ n fr a.tmps → a.defers = ds → wpListIn (Wd r0) 0 P ops (CPost n m μ₀ h₀ w₀ (NQ K)) l a w := by
  intro l
  induction l with
  | nil =>
    intro fr h hk μ w a hs hf hd
    exact ⟨μ, fr, h, hs, hf, by rw [hd]; exact hds.step hs, hk⟩
  | cons o rest ih =>
    intro fr h hk μ w a hs hf hd
    have hr := hs.rel
    simp only [runOps] at hk
    unfold wpListIn
    split at hk
    · exact hk.elim
    rename_i t hw
    cases t
    · rw [if_neg (by rw [wantA_ok hf hw]; simp)]
      exact ⟨fun _ _ => trivial, ih _ _ (hk.2 rfl) μ w _ hs (hf.put _ .sk) (by rw [put_defers]; exact hd)⟩
    · replace hk := hk.1 rfl
      rw [if_pos (wantA_ok hf hw)]
      split at hk
      · exact hk.elim
      · rename_i v h' hop
        obtain ⟨μ', v', w', e1, e2, e3⟩ := opA_ok (P := P) hr hf (o := o) hop
        exact wpOper (opA_defer hop) (upon_value e1 (ih _ _ hk μ' w' (a.put o.dst v') (hs.trans e3) ((hf.mono (e3.up hr)).put _ e2) (by rw [put_defers]; exact hd)))
      · rename_i f args hop
        obtain ⟨vs, e1, e2⟩ := opA_ok (P := P) hr hf (o := o) hop hk.1
        refine wpOper (opA_defer hop) (upon_enter e1 (hk.2 μ w vs hr e2) ?_)
        rintro e w' ⟨μ', h', r, v, rfl, s, hv, hq⟩
        exact ⟨v, rfl, ih _ _ hq μ' w' (a.put o.dst v) (hs.trans s) ((hf.mono (s.up hr)).put _ hv) (by rw [put_defers]; exact hd)⟩
      · rename_i b args hop
        obtain ⟨e, vs, e1, e2, e3⟩ := opA_ok (P := P) hr hf (o := o) hop
        obtain ⟨r, g1, g2, g3⟩ := RoundA.ok r0 hr hk e1 e2
        refine wpOper (opA_defer hop) (upon_round (e3 r g1 g2) g3 ?_)
        rintro e w' ⟨μ', h', r, v, rfl, s, hv, hq⟩
        exact ⟨v, rfl, ih _ _ hq μ' w' (a.put o.dst v) (hs.trans s) ((hf.mono (s.up hr)).put _ hv) (by rw [put_defers]; exact hd)⟩

theorem WpA.region {id : Nat} {ops : Array Oper} {K : Fr → Hp → Prop} {fr : Fr} (hk : runOps P n ops K ops.toList fr h) : WpA P n (.region id ops false) (NQ K) fr h := by
  intro r m μ w a _ hr hf hd
  exact wpIn_region_list (runOps_ok hd ops.toList fr h hk μ w a (Step.refl hr) hf rfl)

/-! ### statements -/
/-- what follows a statement that ends normally -/
def thenQ (P : Program) (n : Nat) (y : Code) (Q : QA) : QA := fun e fr h => match e with
  | .normal => WpA P n y Q fr h
  | e => Q e fr h
theorem WpA.seq {x y : Code} {Q : QA} {fr : Fr} (hw : WpA P n x (thenQ P n y Q) fr h) : WpA P n (.seq x y) Q fr h := by
  intro r m μ w a hg hr hf hd
  refine wpIn_seq (wpIn_mono (hw r m μ w a (fun h => hg (by simp [hasRF, h])) hr hf hd) ?_)
  rintro e a' w' ⟨μ', fr', h', s, r1, r2, r3⟩
  cases e with
  | normal =>
    refine wpIn_mono (r3 r m μ' w' a' (fun h => hg (by simp [hasRF, h])) s.rel r1 r2) ?_
    intro e a'' w'' hc
    exact hc.step s
  | exit id => exact ⟨μ', fr', h', s, r1, r2, r3⟩
  | goto l => exact ⟨μ', fr', h', s, r1, r2, r3⟩
  | ret => exact ⟨μ', fr', h', s, r1, r2, r3⟩
  | panic c => exact ⟨μ', fr', h', s, r1, r2, r3⟩
  | outgrown => exact ⟨μ', fr', h', s, r1, r2, r3⟩
theorem WpA.skip {Q : QA} {fr : Fr} (hq : Q .normal fr h) : WpA P n .skip Q fr h :=
  fun _ _ μ _ _ _ hr hf hd => wpIn_skip ⟨μ, fr, h, Step.refl hr, hf, hd, hq⟩
theorem WpA.ret {Q : QA} {fr : Fr} (hq : Q .ret fr h) : WpA P n .ret Q fr h :=
  fun _ _ μ _ _ _ hr hf hd => wpIn_ret ⟨μ, fr, h, Step.refl hr, hf, hd, hq⟩
theorem WpA.exit {id : Nat} {Q : QA} {fr : Fr} (hq : Q (.exit id) fr h) : WpA P n (.exit id) Q fr h :=
  fun _ _ μ _ _ _ hr hf hd => wpIn_exit ⟨μ, fr, h, Step.refl hr, hf, hd, hq⟩
theorem WpA.label {l : Nat} {Q : QA} {fr : Fr} (hq : Q .normal fr h) : WpA P n (.label l) Q fr h :=
  fun _ _ μ _ _ _ hr hf hd => wpIn_label ⟨μ, fr, h, Step.refl hr, hf, hd, hq⟩
theorem WpA.cond {c : Operand} {x y : Code} {Q : QA} {fr : Fr} {b : Bool} (hc : evalA fr c = .bool b) (hw : WpA P n (if b then x else y) Q fr h) : WpA P n (.cond c x y) Q fr h := by
  intro r m μ w a hg hr hf hd
  have hv := VRel.eval hf c
  rw [hc] at hv
  generalize hcv : a.eval c = cv at hv
  cases hv
  refine wpIn_cond hcv (hw r m μ w a (fun h => hg ?_) hr hf hd)
  simp only [hasRF]
  cases b <;> simp_all
def blockQ (id : Nat) (Q : QA) : QA := fun e fr h => match e with
  | .exit id' => if id' = id then Q .normal fr h else Q (.exit id') fr h
  | e => Q e fr h
theorem WpA.block {id : Nat} {c : Code} {Q : QA} {fr : Fr} (hw : WpA P n c (blockQ id Q) fr h) : WpA P n (.block id c) Q fr h := by
  intro r m μ w a hg hr hf hd
  refine wpIn_block (wpIn_mono (hw r m μ w a (fun h => hg (by simp [hasRF, h])) hr hf hd) ?_)
  rintro e a' w' ⟨μ', fr', h', s, r1, r2, r3⟩
  cases e with
  | exit id' =>
    simp only [blockQ] at r3
    simp only [Exit.inBlock]
    split
    · rename_i hid; rw [if_pos hid] at r3; exact ⟨μ', fr', h', s, r1, r2, r3⟩
    · rename_i hid; rw [if_neg hid] at r3; exact ⟨μ', fr', h', s, r1, r2, r3⟩
  | normal => exact ⟨μ', fr', h', s, r1, r2, r3⟩
  | goto l => exact ⟨μ', fr', h', s, r1, r2, r3⟩
  | ret => exact ⟨μ', fr', h', s, r1, r2, r3⟩
  | panic c => exact ⟨μ', fr', h', s, r1, r2, r3⟩
  | outgrown => exact ⟨μ', fr', h', s, r1, r2, r3⟩

/-- a loop, so many rounds at most -/
def roundsA (P : Program) (n : Nat) (c : Code) (Q : QA) : Nat → Fr → Hp → Prop
  | 0, _, _ => False
  | k + 1, fr, h => WpA P n c (fun e fr h => match e with
    | .normal => roundsA P n c Q k fr h
    | e => Q e fr h) fr h
theorem roundsA_ok {m : Nat} {r : Option Nat} {c : Code} (hg : hasRF c = true → r = none) {Q : QA} {μ₀ : Emb} {h₀ : Hp} {w₀ : World} : ∀ (k : Nat) (fr : Fr) (h : Hp), roundsA P n c Q k fr h →
    ∀ (μ : Emb) (w : World) (a : Act), Step μ₀ h₀ w₀ μ h w → FRel μ n fr a.tmps → DOk m a.defers μ h w → Code.roundsIn (Wd r) 0 P c (CPost n m μ₀ h₀ w₀ Q) k a w := by
  intro k
  induction k with
  | zero => intro fr h hk; exact hk.elim
  | succ k ih =>
    intro fr h hk μ w a hs hf hd
    rw [roundsIn_succ]
    refine wpIn_mono (hk r m μ w a hg hs.rel hf hd) ?_
    rintro e a' w' ⟨μ', fr', h', s, r1, r2, r3⟩
    cases e with
    | normal => exact ih _ _ r3 μ' w' a' (hs.trans s) r1 r2
    | exit id => exact ⟨μ', fr', h', hs.trans s, r1, r2, r3⟩
    | goto l => exact ⟨μ', fr', h', hs.trans s, r1, r2, r3⟩
    | ret => exact ⟨μ', fr', h', hs.trans s, r1, r2, r3⟩
    | panic c => exact ⟨μ', fr', h', hs.trans s, r1, r2, r3⟩
    | outgrown => exact ⟨μ', fr', h', hs.trans s, r1, r2, r3⟩
theorem WpA.rounds {c : Code} {Q : QA} {fr : Fr} (k : Nat) (hk : roundsA P n c Q k fr h) : WpA P n (.loop c) Q fr h :=
  fun _ _ μ w a hg hr hf hd => wpIn_loop_rounds k (roundsA_ok (c := c) (fun h => hg (by simpa [hasRF] using h)) k fr h hk μ w a (Step.refl hr) hf hd)
/-- behind a loop over a function: the jump that a round has left -/
def leftQ (b : Nat) (Q : QA) (fr : Fr) (h : Hp) : Prop := ∃ L, h[b]? = some (.loop L) ∧ L.st ≠ .busy ∧ (match L.pend with
  | none => Q .normal fr (h.set b .dead)
  | some .ret => Q .ret fr (h.set b .dead)
  | some (.exit id) => Q (.exit id) fr (h.set b .dead)
  | _ => False)
theorem Step.alloc' (hr : HRel μ h w) (o : Obj) : Step μ h w μ h (w.alloc o) := by
  have hb : ∀ k, k < w.heap.size → (w.alloc o).heap[k]? = w.heap[k]? := fun k hk => Below.heap_alloc w o k hk
  exact ⟨fun _ _ => rfl, Nat.le_refl _, hr.world (by simp) (fun b e B he _ _ => hb _ (hr.dom b e he).2), ⟨rfl, rfl, rfl, by simp, fun k hk _ => hb k hk⟩, fun _ h => .inl h⟩
/-- **A loop over a function.** -/
theorem WpA.rangeFunc {g : Operand} {ps : Array Tmp} {assign body : Code} {Q : QA} {fr : Fr} {gf : FuncId} {first cap : Array Value} (hg : evalA fr g = .func (.func gf) first cap)
    (hk : ∀ L : LoopA, L.st = .ready → L.pend = none → L.n = n → L.fr = fr → L.ps = ps → L.assign = assign → L.body = body →
      EvA P gf (first.toList ++ [Value.func (.yield h.length) #[] #[]] ++ cap.toList) (fun _ h' => leftQ h.length Q fr h') (h ++ [.loop L])) : WpA P n (.rangeFunc g ps assign body) Q fr h := by
  intro r m μ w a hrf hr hf hd
  have hrn : r = none := hrf rfl
  subst hrn
  have hgv := VRel.eval hf g
  rw [hg] at hgv
  generalize hgv' : a.eval g = gv at hgv
  cases hgv with
  | func e1 e2 e3 e4 =>
  rename_i first' cap'
  refine wpIn_rangeFunc (F := Wd none) ?_
  intro fn _
  let L : LoopA := { st := .ready, pend := none, n := n, fr := fr, ps := ps, assign := assign, body := body }
  let r1 : Loop := { state := .ready, pending := none, fn, tmps := a.tmps, params := ps, assign, body, defers := w.heap.size }
  have s0 := Step.alloc' hr (.deferred (some []))
  have s1 := Step.new s0.rel (.loop r1) (.loop L) ⟨(w.alloc (.deferred (some []))).heap.size, 0, 0, 0⟩ rfl
    ⟨rfl, r1, World.alloc_heap_new _ _, rfl, rfl, rfl, rfl, rfl, hf.1, fun i => (hf.2 i).mono (Emb.put_old s0.rel _)⟩
  have s01 := s0.trans s1
  have hsz : (w.alloc (.deferred (some []))).heap.size = w.heap.size + 1 := by simp
  have hyv : VRel (μ.put h.length ⟨(w.alloc (.deferred (some []))).heap.size, 0, 0, 0⟩) (Value.func (.yield h.length) #[] #[]) (Value.func (.yield (w.heap.size + 1)) #[] #[]) := by
    have := VRel.yield (μ := μ.put h.length ⟨(w.alloc (.deferred (some []))).heap.size, 0, 0, 0⟩) (Emb.put_new μ h.length _)
    rw [hsz] at this ⊢
    exact this
  have hup := s01.up hr
  have hcall := hk L rfl rfl rfl rfl rfl rfl rfl
  have hargs : LRel (μ.put h.length ⟨(w.alloc (.deferred (some []))).heap.size, 0, 0, 0⟩) (first.toList ++ [Value.func (.yield h.length) #[] #[]] ++ cap.toList) (first' ++ #[Value.func (.yield (w.heap.size + 1)) #[] #[]] ++ cap').toList := by
    have g1 : ARel μ first first' := ARel.of e1 e3
    have g2 : ARel μ cap cap' := ARel.of e2 e4
    have := LRel.append (LRel.append (LRel.mono hup g1) (LRel.cons hyv LRel.nil)) (LRel.mono hup g2)
    simpa using this
  have hc := hcall.1
  unfold callable at hc
  split at hc
  case h_2 => simp at hc
  rename_i fn' hfn
  simp at hc
  obtain ⟨c1, c2⟩ := hc
  obtain ⟨bd, hbd⟩ := Option.isSome_iff_exists.1 c2
  let W1 : World := (w.alloc (.deferred (some []))).alloc (.loop r1)
  refine ⟨w.heap.size + 1, [coll w.heap.size], W1, ({ target := .fn (.func gf) cap', args := first' ++ #[Value.func (.yield (w.heap.size + 1)) #[] #[]] } : Deferred), W1, gf, first' ++ #[Value.func (.yield (w.heap.size + 1)) #[] #[]] ++ cap', W1, run_enterLoop_outer fn a.tmps ps assign body, ?_, fun _ _ => (trivial : (Wd none).fn _), ?_, ?_, ?_⟩
  · simp [resolve, rangeCall, hgv', Deferred.ofValue]; rfl
  · simp [invoke, callFunc, hfn, c1, hbd]
  · intro h; simp [Wd, Fence.wide] at h
  · refine callsIn_wd.2 ((hcall.2 _ _ _ s01.rel hargs).mono ?_)
    rintro e w3 ⟨μ3, h3, r3, v3, rfl, s3, _, L3, hB3, hb3, hq⟩
    have hl3 : μ3 h.length = some ⟨(w.alloc (.deferred (some []))).heap.size, 0, 0, 0⟩ := s3.up s01.rel _ _ (Emb.put_new _ _ _)
    obtain ⟨r4, p1, p2, p3, p4, p5, p6, p7⟩ := s3.rel.loop hl3 hB3
    simp only [hsz] at p1
    have hend := run_endLoop (P := P) p1 (by rw [p2]; exact hb3)
    have hlt : w.heap.size + 1 < w3.heap.size := by have := (s3.rel.dom _ _ hl3).2; simpa [hsz] using this
    have s4 : Step μ3 h3 w3 μ3 (h3.set h.length .dead) (w3.putObj (w.heap.size + 1) (.loop { r4 with state := .exhausted })) := by
      refine Step.write s3.rel hl3 hB3 rfl .dead (fun h => by simp [Blk.live] at h) rfl rfl rfl (by simp) (fun k hk => World.putObj_heap_other (by simpa [hsz] using hk)) trivial
    have sall := (s01.trans s3).trans s4
    have hds : DOk m ([coll w.heap.size] ++ a.defers) μ3 (h3.set h.length .dead) (w3.putObj (w.heap.size + 1) (.loop { r4 with state := .exhausted })) := by
      obtain ⟨_, Ds', he', hnd', hall'⟩ := DOk.step hd sall
      obtain ⟨hm', Ds, he, hnd, hall⟩ := hd
      have hDs : Ds' = Ds := by
        have := he'.symm.trans he
        exact List.map_inj_right (fun x y hxy => by simp [coll] at hxy; exact hxy) |>.1 this
      subst hDs
      refine ⟨Nat.le_trans hm' sall.keeps.size, w.heap.size :: Ds', by rw [he]; rfl, ?_, ?_⟩
      · rw [List.nodup_cons]
        refine ⟨fun hin => ?_, hnd⟩
        have := (hall _ hin).2.1
        omega
      · intro D hD
        rcases List.mem_cons.1 hD with rfl | hD
        · have hn1 : ¬ Own (μ.put h.length ⟨(w.alloc (.deferred (some []))).heap.size, 0, 0, 0⟩) (h ++ [.loop L]) w.heap.size := by
            rintro ⟨b, e, B, g1, g2, g3, g4⟩
            by_cases hbb : b = h.length
            · subst hbb
              rw [Emb.put_new] at g1
              simp at g1; subst g1
              simp at g4
            · simp only [Emb.put, if_neg hbb] at g1
              have := (hr.dom b e g1).2
              omega
          have hk1 : ((w.alloc (.deferred (some []))).alloc (.loop r1)).heap[w.heap.size]? = some (.deferred (some [])) :=
            (Below.heap_alloc _ _ _ (by simp)).trans (World.alloc_heap_new w _)
          have s34 := s3.trans s4
          refine ⟨hm', by simp; omega, fun ho => ?_, (s34.keeps.block _ (by simp; omega) hn1).trans hk1⟩
          rcases s34.own _ ho with h' | h'
          · exact hn1 h'
          · simp at h'; omega
        · exact hall' D hD
    have hfin : ∀ e, Q e fr (h3.set h.length .dead) → CPost n m μ h w Q e { a with defers := [coll w.heap.size] ++ a.defers } (w3.putObj (w.heap.size + 1) (.loop { r4 with state := .exhausted })) :=
      fun e hq => ⟨μ3, fr, _, sall, hf.mono (sall.up hr), hds, hq⟩
    rw [← p3] at hq
    clear hds sall s4
    generalize w3.putObj (w.heap.size + 1) (.loop { r4 with state := .exhausted }) = W4 at hend hfin
    refine ⟨r4.pending, W4, hend, ?_⟩
    have hfin' := fun e hq => hfin e hq
    clear hfin hend p3
    generalize r4.pending = pe at hq
    split at hq
    · exact hfin' _ hq
    · exact wpIn_ret (hfin' _ hq)
    · exact wpIn_exit (hfin' _ hq)
    · exact hq.elim
def roundQ (I : Nat → Fr → Hp → Prop) (k : Nat) (Q : QA) : QA := fun e fr h => match e with
  | .normal => ∃ m, m < k ∧ I m fr h
  | e => Q e fr h
/-- a loop by what holds at the head of its rounds, and a number that each round lowers -/
theorem WpA.loop {c : Code} {Q : QA} (I : Nat → Fr → Hp → Prop) {k : Nat} {fr : Fr} {h : Hp} (h0 : I k fr h) (round : ∀ k fr h, I k fr h → WpA P n c (roundQ I k Q) fr h) : WpA P n (.loop c) Q fr h := by
  refine WpA.rounds (k + 1) ?_
  have key : ∀ j k, k < j → ∀ fr h, I k fr h → roundsA P n c Q j fr h := by
    intro j
    induction j with
    | zero => intro k hk; omega
    | succ j ih =>
      intro k hk fr h hI
      refine (round k fr h hI).mono ?_
      intro e fr' h' hq
      cases e with
      | normal =>
        obtain ⟨m, hm, hI'⟩ := hq
        exact ih m (by omega) fr' h' hI'
      | exit id => exact hq
      | goto l => exact hq
      | ret => exact hq
      | panic c => exact hq
      | outgrown => exact hq
  exact key (k + 1) k (by omega) fr h h0

/-- What a statement comes to, told by its text: calls and loops stay. -/
def Run (P : Program) (n : Nat) : Code → QA → Fr → Hp → Prop
  | .skip, Q, fr, h => Q .normal fr h
  | .region _ ops false, Q, fr, h => runOps P n ops (fun fr h => Q .normal fr h) ops.toList fr h
  | .seq x y, Q, fr, h => Run P n x (fun e fr h => match e with
    | .normal => Run P n y Q fr h
    | e => Q e fr h) fr h
  | .cond c x y, Q, fr, h => match evalA fr c with
    | .bool b => (b = true → Run P n x Q fr h) ∧ (b = false → Run P n y Q fr h)
    | _ => False
  | .block id c, Q, fr, h => Run P n c (fun e fr h => match e with
    | .exit id' => if id' = id then Q .normal fr h else Q (.exit id') fr h
    | e => Q e fr h) fr h
  | .ret, Q, fr, h => Q .ret fr h
  | .exit id, Q, fr, h => Q (.exit id) fr h
  | .label _, Q, fr, h => Q .normal fr h
  | c, Q, fr, h => WpA P n c Q fr h
theorem Run.ok : ∀ (c : Code) (Q : QA) (fr : Fr) (h : Hp), Run P n c Q fr h → WpA P n c Q fr h := by
  intro c
  induction c with
  | skip => intro Q fr h hk; exact WpA.skip hk
  | region id ops draw =>
    intro Q fr h hk
    cases draw with
    | true => exact hk
    | false =>
      refine (WpA.region (id := id) hk).mono ?_
      intro e fr h hq
      cases e <;> first | exact hq | exact hq.elim
  | seq x y ihx ihy =>
    intro Q fr h hk
    refine WpA.seq ((ihx _ _ _ hk).mono ?_)
    intro e fr h hq
    cases e with
    | normal => exact ihy _ _ _ hq
    | exit id => exact hq
    | goto l => exact hq
    | ret => exact hq
    | panic c => exact hq
    | outgrown => exact hq
  | cond c x y ihx ihy =>
    intro Q fr h hk
    simp only [Run] at hk
    split at hk
    · rename_i b hb
      refine WpA.cond hb ?_
      cases b
      · exact ihy _ _ _ (hk.2 rfl)
      · exact ihx _ _ _ (hk.1 rfl)
    · exact hk.elim
  | block id c ih => intro Q fr h hk; exact WpA.block (ih _ _ _ hk)
  | loop c ih => intro Q fr h hk; exact hk
  | rangeFunc f ps a b _ _ => intro Q fr h hk; exact hk
  | exit id => intro Q fr h hk; exact WpA.exit hk
  | scope c _ => intro Q fr h hk; exact hk
  | label l => intro Q fr h hk; exact WpA.label hk
  | goto l => intro Q fr h hk; exact hk
  | ret => intro Q fr h hk; exact WpA.ret hk
  | refuse why => intro Q fr h hk; exact hk

/-! ### calls -/
def resA (h : Hp) (P : Program) (fr : Fr) : ResultVar → Option Value
  | .tmp t => some (fr t)
  | .cell a t => loadA P t (fr a) h
def resultsA (P : Program) (fr : Fr) (h : Hp) : List ResultVar → Option (List Value)
  | [] => some []
  | r :: rs => match resA h P fr r, resultsA P fr h rs with
    | some v, some vs => some (v :: vs)
    | _, _ => none
def tupA : List Value → Value
  | [v] => v
  | vs => .tuple vs.toArray
/-- where a body ends, and what it answers -/
def bodyQ (P : Program) (rs : List ResultVar) (Q : Value → Hp → Prop) : QA := fun e fr h => match e with
  | .normal | .ret => match resultsA P fr h rs with
    | some vs => Q (tupA vs) h
    | none => False
  | _ => False
theorem resultsA_ok (hr : HRel μ h w) {fr : Fr} {a : Act} (hf : FRel μ n fr a.tmps) : ∀ (rs : List ResultVar) (vs : List Value), resultsA P fr h rs = some vs →
    ∃ vs', (rs.mapM (fun r => (match r with
      | .tmp t => pure (a.tmps.getD t undef)
      | .cell b t => do loadVar t (← asAddr (a.tmps.getD b undef)) : Sem Value))).run P w = .ok vs' w ∧ LRel μ vs vs' := by
  intro rs
  induction rs with
  | nil => intro vs h; simp [resultsA] at h; subst h; exact ⟨[], by simp, LRel.nil⟩
  | cons r rs ih =>
    intro vs h
    simp only [resultsA] at h
    split at h
    · rename_i v vs' hv hvs
      simp at h; subst h
      obtain ⟨ws, e1, e2⟩ := ih vs' hvs
      cases r with
      | tmp t =>
        simp [resA] at hv
        refine ⟨a.tmps.getD t undef :: ws, ?_, LRel.cons ?_ e2⟩
        · rw [List.mapM_cons]
          simp only [Sem.run_bind, Sem.run_pure, Result.andThen_ok, e1]
        · rw [← hv]; exact hf.2 t
      | cell b t =>
        simp [resA] at hv
        have hb := hf.2 b
        obtain ⟨y, y1, y2⟩ := loadA_ok (P := P) hr hb hv
        refine ⟨y :: ws, ?_, LRel.cons y2 e2⟩
        rw [List.mapM_cons]
        have hl : (do loadVar t (← asAddr (a.tmps.getD b undef)) : Sem Value).run P w = .ok y w := by
          simp only [Instr.loadAt] at y1
          unfold loadA at hv
          split at hv
          · rename_i bb oo heq
            rw [heq] at hb
            generalize hz : a.tmps.getD b undef = z at hb y1
            cases hb
            simpa [Instr.sureAddr, asAddr] using y1
          · simp at hv
        simp only [Sem.run_bind] at hl ⊢
        rw [hl]
        simp only [Result.andThen_ok, Sem.run_bind, e1, Sem.run_pure]
    · simp at h
/-- the block of a loop's deferred calls is shut -/
theorem Step.shut {μ' : Emb} {h' : Hp} {w' : World} {D : Nat} (s : Step μ h w μ' h' w') (h0 : w.heap.size ≤ D) (h1 : D < w'.heap.size) (h2 : ¬ Own μ' h' D) (h3 : w'.heap[D]? = some (.deferred (some []))) :
    Step μ h w μ' h' (w'.putObj D (.deferred none)) := by
  refine ⟨s.sub, s.len, ⟨fun b e he => ⟨(s.rel.dom b e he).1, by simpa using (s.rel.dom b e he).2⟩, ?_, s.rel.sep⟩, ⟨s.keeps.os, s.keeps.tape, s.keeps.output, by simpa using s.keeps.size, fun k hk hn => (World.putObj_heap_other (by omega)).trans (s.keeps.block k hk hn)⟩, s.own⟩
  intro b e B he hB
  have ho := s.rel.obj b e B he hB
  by_cases hD : e.block = D
  · cases B with
    | dead => trivial
    | cells cs ro op =>
      cases ro with
      | false => exact absurd ⟨b, e, _, he, hB, rfl, hD⟩ h2
      | true =>
        obtain ⟨a1, a2, a3, a4, a5⟩ := ho
        refine ⟨a1, a2, a3, fun o v hv => ?_, fun h => by simp at h⟩
        obtain ⟨v', hc, _⟩ := a4 o v hv
        rw [World.cell?, hD, h3] at hc
        simp at hc
    | map es => exact absurd ⟨b, e, _, he, hB, rfl, hD⟩ h2
    | siter t p => exact absurd ⟨b, e, _, he, hB, rfl, hD⟩ h2
    | loop L => exact absurd ⟨b, e, _, he, hB, rfl, hD⟩ h2
  · exact ho.congr (fun _ _ h => h) (fun _ => World.putObj_heap_other hD)
theorem EvA.body {f : FuncId} {fn : Func} {c : Code} {args : List Value} {Q : Value → Hp → Prop} (hf : P.funcs[f]? = some fn) (hb : fn.body = some c) (hn : (fn.name != "runtime.NumGoroutine") = true)
    (hl : args.length ≤ fn.ntmps) (hw : WpA P fn.ntmps c (bodyQ P fn.results.toList Q) (fun i => args.getD i any) h) : EvA P f args Q h := by
  refine ⟨by simp only [callable, hf, hb, hn, Option.isSome_some, Bool.and_self], ?_⟩
  intro μ w vs hr hv
  refine callsIn_wd.1 (callsIn_of_wp_marks (F := Wd none) (n := 0) hf hb trivial ?_)
  have hlen : args.length = vs.size := by have := hv.1; simpa using this
  refine wpIn_mono (hw none w.heap.size μ w _ (fun _ => rfl) hr ?_ ⟨Nat.le_refl _, [], rfl, by simp, by simp⟩) ?_
  · refine ⟨by simp; omega, fun i => ?_⟩
    show VRel μ (args.getD i any) ((vs ++ Array.replicate (fn.ntmps - vs.size) undef).getD i undef)
    rw [List.getD_eq_getElem?_getD, Array.getD_eq_getD_getElem?]
    cases hx : args[i]? with
    | none => exact .any _
    | some x =>
      obtain ⟨y, hy, hxy⟩ := hv.get hx
      rw [Array.getElem?_toList] at hy
      have hi : i < vs.size := by
        rcases Nat.lt_or_ge i vs.size with h' | h'
        · exact h'
        · rw [Array.getElem?_eq_none h'] at hy; simp at hy
      rw [Array.getElem?_append_left hi, hy]
      exact hxy
  · rintro e a' w' ⟨μ', fr', h', s, r1, r2, r3⟩
    have key : ∀ (hq : match resultsA P fr' h' fn.results.toList with | some vs => Q (tupA vs) h' | none => False),
        LeavesInM (Wd none) 0 P fn a'.tmps (fun e w' => ∃ μ' h' r v', e = .returned v' ∧ Step μ h w μ' h' w' ∧ VRel μ' r v' ∧ Q r h') a'.defers .returning w' := by
      intro hq
      split at hq
      · rename_i vs0 hvs
        obtain ⟨hm, Ds, he, hnd, hall⟩ := r2
        rw [he]
        clear he hw hl hlen
        have hkeep : ∀ D ∈ Ds, w.heap.size ≤ D ∧ D < w'.heap.size ∧ ¬ Own μ' h' D ∧ w'.heap[D]? = some (.deferred (some [])) := hall
        clear hall
        induction Ds generalizing w' with
        | nil =>
          simp only [List.map_nil, LeavesInM, LeavesIn]
          obtain ⟨vs', e1, e2⟩ := resultsA_ok (P := P) s.rel r1 _ _ hvs
          refine ⟨if h : vs'.toArray.size = 1 then vs'.toArray[0] else .tuple vs'.toArray, ?_, μ', h', tupA vs0, _, rfl, s, ?_, hq⟩
          · unfold results
            rw [Array.mapM_eq_mapM_toList]
            simp only [Sem.run_bind, Sem.run_map]
            generalize hg : Sem.run P (List.mapM _ fn.results.toList) w' = g
            have hg' : g = .ok vs' w' := hg.symm.trans e1
            subst hg'
            simp only [Result.andThen_ok, Sem.run_pure]
          · have hlen := e2.1
            match vs0, vs', e2, hlen with
            | [], [], _, _ => exact .any _
            | [x], [y], e2, _ => exact e2.2 0 x y rfl rfl
            | x :: y :: xs, a :: b :: bs, e2, hlen =>
              have : ¬ (a :: b :: bs).toArray.size = 1 := by simp
              rw [dif_neg this]
              exact LRel.tup (by simpa [ARel] using e2)
        | cons D Ds ih =>
          simp only [List.map_cons, LeavesInM]
          obtain ⟨g0, g1, g2, g3⟩ := hkeep D (by simp)
          rw [List.nodup_cons] at hnd
          refine ⟨by simp, .inl ⟨D, _, rfl, run_takeDeferred g3, ?_⟩⟩
          refine ih (w' := w'.putObj D (.deferred none)) (s.shut g0 g1 g2 g3) (by simpa using hm) hnd.2 ?_
          intro E hE
          obtain ⟨k0, k1, k2, k3⟩ := hkeep E (by simp [hE])
          refine ⟨k0, by simpa using k1, k2, (World.putObj_heap_other ?_).trans k3⟩
          rintro rfl
          exact hnd.1 hE
      · exact hq.elim
    cases e with
    | normal => exact key r3
    | ret => exact key r3
    | exit id => exact r3.elim
    | goto l => exact r3.elim
    | panic c => exact r3.elim
    | outgrown => exact r3.elim
end
end Go.Ab
