/- Rows of cells as lists, heaps that have changed but for some blocks, and rows that grow; no condition. -/
import Derived.Test.YtojdhmkjegkfkaaAb15
namespace Go.Ab
open Go.RowKit
section
variable {P : Program} {h h' h'' : Hp} {n z : Nat} {S S' : Nat → Prop}

/-- h' has what h had, but for the blocks of S. -/
def Upd (S : Nat → Prop) (h h' : Hp) : Prop := h.length ≤ h'.length ∧ ∀ b, b < h.length → ¬ S b → h'[b]? = h[b]?
def Same (h h' : Hp) : Prop := Upd (fun _ => False) h h'
theorem Upd.refl : Upd S h h := ⟨Nat.le_refl _, fun _ _ _ => rfl⟩
theorem Upd.trans (a : Upd S h h') (b : Upd S' h' h'') (hs : ∀ k, k < h.length → S' k → S k) : Upd S h h'' :=
  ⟨Nat.le_trans a.1 b.1, fun k hk hn => (b.2 k (Nat.lt_of_lt_of_le hk a.1) (fun hs' => hn (hs k hk hs'))).trans (a.2 k hk hn)⟩
theorem Upd.mono (a : Upd S h h') (hs : ∀ k, k < h.length → S k → S' k) : Upd S' h h' := ⟨a.1, fun k hk hn => a.2 k hk (fun h => hn (hs k hk h))⟩
theorem Upd.new (t : Hp) : Upd S h (h ++ t) := ⟨by simp, fun k hk _ => List.getElem?_append_left hk⟩
theorem Upd.set {b : Nat} (hb : S b) (B : Blk) : Upd S h (h.set b B) :=
  ⟨by simp, fun k _ hn => List.getElem?_set_ne (fun e => hn (by rw [← e]; exact hb))⟩
theorem Upd.at (a : Upd S h h') {b : Nat} {B : Blk} (hB : h[b]? = some B) (hn : ¬ S b) : h'[b]? = some B := (a.2 b (hp_lt hB) hn).trans hB
theorem Same.at (a : Same h h') {b : Nat} {B : Blk} (hB : h[b]? = some B) : h'[b]? = some B := Upd.at a hB (fun h => h)
theorem Same.refl : Same h h := Upd.refl
theorem Same.trans (a : Same h h') (b : Same h' h'') : Same h h'' := Upd.trans a b (fun _ _ h => h)
theorem Same.new (t : Hp) : Same h (h ++ t) := Upd.new t
theorem Same.len (a : Same h h') : h.length ≤ h'.length := a.1
theorem Upd.len (a : Upd S h h') : h.length ≤ h'.length := a.1
theorem Upd.none (a : Upd S h h') (hs : ∀ k, k < h.length → ¬ S k) : Same h h' := ⟨a.1, fun k hk _ => a.2 k hk (hs k hk)⟩

/-- the block of a row's value -/
def inRow (v : Value) (k : Nat) : Prop := ∃ a n c, v = .slice (some a) n c ∧ a.block = k
/-- v is a row of n elements of z cells: these -/
def Row (h : Hp) (z : Nat) (v : Value) (n : Nat) (xs : List Value) : Prop := (∃ a c, v = .slice a n c) ∧ srcA z v h = some (n, xs) ∧ xs.length = n * z
theorem Row.nil : Row h z (.slice none 0 0) 0 [] := ⟨⟨_, _, rfl⟩, rfl, by simp⟩
theorem Row.zero {b o c : Nat} : Row h z (.slice (some ⟨b, o, none⟩) 0 c) 0 [] := ⟨⟨_, _, rfl⟩, by simp [srcA], by simp⟩
theorem srcA_inv {v : Value} {m : Nat} {xs : List Value} {a : Option Addr} {c : Nat} (hs : srcA z (.slice a n c) h = some (m, xs)) :
    m = n ∧ ((n = 0 ∧ xs = []) ∨ (n ≠ 0 ∧ ∃ b o cs ro op, a = some ⟨b, o, none⟩ ∧ h[b]? = some (.cells cs ro op) ∧ o + n * z ≤ cs.length ∧ xs = (cs.drop o).take (n * z))) := by
  unfold srcA at hs
  split at hs
  · rename_i he; cases he; simp at hs; exact ⟨hs.1.symm, .inl ⟨rfl, hs.2⟩⟩
  · rename_i he; cases he; simp at hs; exact ⟨hs.1.symm, .inl ⟨rfl, hs.2⟩⟩
  · rename_i b o n' c' he
    cases he
    split at hs
    · rename_i hn; simp at hs; exact ⟨by omega, .inl ⟨hn, hs.2⟩⟩
    · rename_i hn
      split at hs
      · rename_i cs ro op hB
        split at hs
        · rename_i hl; simp at hs; exact ⟨hs.1.symm, .inr ⟨hn, b, o, cs, ro, op, rfl, hB, hl, hs.2.symm⟩⟩
        · simp at hs
      · simp at hs
  · rename_i he; cases he
  · simp at hs
theorem Row.inv {a : Option Addr} {c m : Nat} {xs : List Value} (hr : Row h z (.slice a n c) m xs) :
    m = n ∧ ((n = 0 ∧ xs = []) ∨ (n ≠ 0 ∧ ∃ b o cs ro op, a = some ⟨b, o, none⟩ ∧ h[b]? = some (.cells cs ro op) ∧ o + n * z ≤ cs.length ∧ xs = (cs.drop o).take (n * z))) :=
  ⟨by obtain ⟨a', c', he⟩ := hr.1; cases he; rfl, (srcA_inv (v := .nilFunc) hr.2.1).2⟩
theorem Row.upd {v : Value} {xs : List Value} (hr : Row h z v n xs) (u : Upd S h h') (hn : ∀ k, inRow v k → ¬ S k) : Row h' z v n xs := by
  obtain ⟨⟨a, c, rfl⟩, hs, hl⟩ := hr
  refine ⟨⟨a, c, rfl⟩, ?_, hl⟩
  have hs0 := hs
  obtain ⟨_, ⟨rfl, rfl⟩ | ⟨h0, b, o, cs, ro, op, rfl, hB, hle, rfl⟩⟩ := srcA_inv (v := .nilFunc) hs
  · unfold srcA at hs ⊢
    split at hs
    · rfl
    · rfl
    · rename_i he; cases he; simp
    · rename_i he; cases he
    · simp at hs
  · have hB' := u.at hB (hn b ⟨_, _, _, rfl, rfl⟩)
    simp [srcA, h0, hB', hle]
theorem Row.same {v : Value} {xs : List Value} (hr : Row h z v n xs) (u : Same h h') : Row h' z v n xs := hr.upd u (fun _ _ h => h)
theorem Row.len {t e : TypeId} {v : Value} {xs : List Value} (hr : Row h z v n xs) (ht : P.underlying t = some (.slice e)) : lenA P t v h = some (.int .i64 (n : Nat)) := by
  obtain ⟨⟨a, c, rfl⟩, hs, hl⟩ := hr
  obtain ⟨_, ⟨rfl, rfl⟩ | ⟨h0, b, o, cs, ro, op, rfl, hB, hle, rfl⟩⟩ := srcA_inv (v := .nilFunc) hs
  · unfold srcA at hs
    split at hs
    · rename_i he; cases he; simp [lenA, ht]
    · rename_i he; cases he; simp [lenA, ht]
    · rename_i he; cases he; simp [lenA, ht]
    · rename_i he; cases he
    · simp at hs
  · simp [lenA, ht]
/-- an element's place, and what lies there -/
theorem Row.addr {t e : TypeId} {v : Value} {xs : List Value} {k : IntKind} {i : Int} (hr : Row h z v n xs) (ht : P.underlying t = some (.slice e)) (he : sizeT P e = some z) (h0 : 0 ≤ i) (h1 : i < n) :
    ∃ b o cs ro op, indexAddrA P t v (.int k i) = some (.pointer (some ⟨b, o, none⟩)) ∧ inRow v b ∧ h[b]? = some (.cells cs ro op) ∧ o + z ≤ cs.length ∧ (cs.drop o).take z = (xs.drop (i.toNat * z)).take z := by
  obtain ⟨⟨a, c, rfl⟩, hs, hl⟩ := hr
  obtain ⟨_, ⟨rfl, rfl⟩ | ⟨hn, b, o, cs, ro, op, rfl, hB, hle, rfl⟩⟩ := srcA_inv (v := .nilFunc) hs
  · omega
  · refine ⟨b, o + i.toNat * z, cs, ro, op, by simp [indexAddrA, ht, he, h0, h1], ⟨_, _, _, rfl, rfl⟩, hB, ?_, ?_⟩
    · have : (i.toNat + 1) * z ≤ n * z := Nat.mul_le_mul_right z (by omega)
      rw [Nat.add_mul] at this; omega
    · have : (i.toNat + 1) * z ≤ n * z := Nat.mul_le_mul_right z (by omega)
      rw [Nat.add_mul] at this
      rw [List.drop_take, List.take_take, Nat.min_eq_left (by omega), List.drop_drop]
/-- an element of one cell -/
theorem Row.load {t e : TypeId} {v : Value} {xs : List Value} {k : IntKind} {i : Int} (hr : Row h 1 v n xs) (ht : P.underlying t = some (.slice e)) (he : sizeT P e = some 1) (ha : aggT P e = some false) (h0 : 0 ≤ i) (h1 : i < n) :
    ∃ b o y, indexAddrA P t v (.int k i) = some (.pointer (some ⟨b, o, none⟩)) ∧ xs[i.toNat]? = some y ∧ loadA P e (.pointer (some ⟨b, o, none⟩)) h = some y := by
  obtain ⟨b, o, cs, ro, op, e1, _, e2, e3, e4⟩ := hr.addr (k := k) ht he h0 h1
  have hi : i.toNat < xs.length := by rw [hr.2.2]; omega
  refine ⟨b, o, xs[i.toNat], e1, List.getElem?_eq_getElem hi, ?_⟩
  have h2 : cs[o]? = some xs[i.toNat] := by
    have := congrArg (·[0]?) e4
    simp only [List.getElem?_take, List.getElem?_drop] at this
    simpa [hi] using this
  simp [loadA, e2, ha, h2]
/-- an element of several cells -/
theorem Row.loads {t e : TypeId} {v : Value} {xs : List Value} {k : IntKind} {i : Int} (hr : Row h z v n xs) (ht : P.underlying t = some (.slice e)) (he : sizeT P e = some z) (ha : aggT P e = some true) (h0 : 0 ≤ i) (h1 : i < n) :
    ∃ b o, indexAddrA P t v (.int k i) = some (.pointer (some ⟨b, o, none⟩)) ∧ loadA P e (.pointer (some ⟨b, o, none⟩)) h = some (.agg ((xs.drop (i.toNat * z)).take z).toArray) := by
  obtain ⟨b, o, cs, ro, op, e1, _, e2, e3, e4⟩ := hr.addr (k := k) ht he h0 h1
  exact ⟨b, o, e1, by simp [loadA, e2, ha, he, e3, e4]⟩
/-- one cell of an element of several -/
theorem Row.cell {t e : TypeId} {v : Value} {xs : List Value} {k : IntKind} {i : Int} (hr : Row h z v n xs) (ht : P.underlying t = some (.slice e)) (he : sizeT P e = some z) (h0 : 0 ≤ i) (h1 : i < n) :
    ∃ b o, indexAddrA P t v (.int k i) = some (.pointer (some ⟨b, o, none⟩)) ∧ ∀ j f, j < z → aggT P f = some false → loadA P f (.pointer (some ⟨b, o + j, none⟩)) h = xs[i.toNat * z + j]? := by
  obtain ⟨b, o, cs, ro, op, e1, _, e2, e3, e4⟩ := hr.addr (k := k) ht he h0 h1
  refine ⟨b, o, e1, fun j f hj hf => ?_⟩
  have := congrArg (·[j]?) e4
  simp only [List.getElem?_take, List.getElem?_drop, hj, if_true] at this
  simp [loadA, e2, hf, this]

/-! bytes -/
def Bytes (h : Hp) (v : Value) (l : List UInt8) : Prop := Row h 1 v l.length (l.map byteV)
theorem Bytes.same {v : Value} {l : List UInt8} (hb : Bytes h v l) (u : Same h h') : Bytes h' v l := Row.same hb u
theorem Bytes.len {t e : TypeId} {v : Value} {l : List UInt8} (hb : Bytes h v l) (ht : P.underlying t = some (.slice e)) : lenA P t v h = some (.int .i64 (l.length : Nat)) := Row.len hb ht
theorem Bytes.load {t e : TypeId} {v : Value} {l : List UInt8} {k : IntKind} {i : Int} (hb : Bytes h v l) (ht : P.underlying t = some (.slice e)) (he : sizeT P e = some 1) (ha : aggT P e = some false) (h0 : 0 ≤ i) (h1 : i < l.length) :
    ∃ b o, indexAddrA P t v (.int k i) = some (.pointer (some ⟨b, o, none⟩)) ∧ loadA P e (.pointer (some ⟨b, o, none⟩)) h = some (.int .u8 ((l.getD i.toNat 0).toNat : Nat)) := by
  obtain ⟨b, o, y, e1, e2, e3⟩ := Row.load hb ht he ha h0 h1 (k := k)
  refine ⟨b, o, e1, e3.trans ?_⟩
  rw [List.getElem?_map] at e2
  have hi : i.toNat < l.length := by omega
  rw [List.getElem?_eq_getElem hi] at e2
  simp [byteV] at e2
  simp [← e2, List.getD_eq_getElem?_getD, List.getElem?_eq_getElem hi]
theorem Bytes.str {t u e : TypeId} {v : Value} {l : List UInt8} (hb : Bytes h v l) (ht : P.underlying t = some (.slice e)) (hu : P.underlying u = some .string) (he : P.underlying e = some (.int .u8)) :
    convA P t u v h = some (.string ⟨l.toArray⟩, h) := by
  obtain ⟨⟨a, c, rfl⟩, hs, hl⟩ := hb
  obtain ⟨_, ⟨h0, hx⟩ | ⟨h0, b, o, cs, ro, op, rfl, hB, hle, hx⟩⟩ := srcA_inv (v := .nilFunc) hs
  · have hl0 : l = [] := by cases l <;> simp_all
    subst hl0
    unfold srcA at hs
    split at hs
    · rename_i heq; cases heq; simp [convA, ht, hu, he]
    · rename_i heq; cases heq; simp [convA, ht, hu, he]
    · rename_i heq; cases heq; simp [convA, ht, hu, he]
    · rename_i heq; cases heq
    · simp at hs
  · simp only [convA, ht, hu, he]
    rw [if_neg h0, hB]
    simp only
    rw [if_pos (by simpa using hle)]
    simp only [Nat.mul_one] at hx
    rw [← hx, bytesOf_enc]

theorem spl_append (ys : List Value) : ∀ (xs rest : List Value), ys.length ≤ rest.length → spl (xs ++ rest) xs.length ys = xs ++ ys ++ rest.drop ys.length := by
  induction ys with
  | nil => intro xs rest _; simp [spl]
  | cons y ys ih =>
    intro xs rest hl
    cases rest with
    | nil => simp at hl
    | cons r rest =>
      simp only [spl]
      have h1 : (xs ++ r :: rest).set xs.length y = (xs ++ [y]) ++ rest := by simp [List.set_append_right]
      have := ih (xs ++ [y]) rest (by simpa using hl)
      rw [h1]
      simpa using this

/-! rows that grow: of this call's own, above the block k; v is all of its block, whose end is open, or empty, or its block has room behind it -/
def Acc (k : Nat) (h : Hp) (z : Nat) (v : Value) (n : Nat) (xs : List Value) : Prop :=
  xs.length = n * z ∧ ((v = .slice none 0 0 ∧ n = 0) ∨ (∃ b, v = .slice (some ⟨b, 0, none⟩) 0 0 ∧ n = 0 ∧ k ≤ b ∧ b < h.length) ∨
    (∃ b, v = .slice (some ⟨b, 0, none⟩) n (capO + n) ∧ k ≤ b ∧ h[b]? = some (.cells xs false (some z))) ∨
    ∃ b c rest op, v = .slice (some ⟨b, 0, none⟩) n c ∧ n ≤ c ∧ c < capO ∧ k ≤ b ∧ h[b]? = some (.cells (xs ++ rest) false op) ∧ (xs ++ rest).length = c * z)
theorem Acc.nil (k : Nat) : Acc k h z (.slice none 0 0) 0 [] := ⟨by simp, .inl ⟨rfl, rfl⟩⟩
/-- as a composite literal, or 'make', lays it -/
theorem Acc.lit {k b c : Nat} {rest xs : List Value} {op : Option Nat} (hk : k ≤ b) (hB : h[b]? = some (.cells (xs ++ rest) false op)) (hx : xs.length = n * z) (hl : (xs ++ rest).length = c * z) (hn : n ≤ c) (hc : c < capO) :
    Acc k h z (.slice (some ⟨b, 0, none⟩) n c) n xs := ⟨hx, .inr (.inr (.inr ⟨b, c, rest, op, rfl, hn, hc, hk, hB, hl⟩))⟩
theorem Acc.row {k : Nat} {v : Value} {xs : List Value} (ha : Acc k h z v n xs) : Row h z v n xs := by
  obtain ⟨hl, ⟨rfl, rfl⟩ | ⟨b, rfl, rfl, hk, hb⟩ | ⟨b, rfl, hk, hB⟩ | ⟨b, c, rest, op, rfl, hn, hc, hk, hB, hr⟩⟩ := ha
  · simp at hl; subst hl; exact Row.nil
  · simp at hl; subst hl; exact Row.zero
  · refine ⟨⟨_, _, rfl⟩, ?_, hl⟩
    by_cases h0 : n = 0
    · subst h0; simp at hl; subst hl; simp [srcA]
    · simp [srcA, h0, hB, hl]
      exact List.take_of_length_le (by omega)
  · refine ⟨⟨_, _, rfl⟩, ?_, hl⟩
    by_cases h0 : n = 0
    · subst h0; simp at hl; subst hl; simp [srcA]
    · simp [srcA, h0, hB, hl]
theorem Acc.upd {k : Nat} {v : Value} {xs : List Value} (ha : Acc k h z v n xs) (u : Upd S h h') (hn : ∀ k, inRow v k → ¬ S k) : Acc k h' z v n xs := by
  obtain ⟨hl, ⟨rfl, rfl⟩ | ⟨b, rfl, rfl, hk, hb⟩ | ⟨b, rfl, hk, hB⟩ | ⟨b, c, rest, op, rfl, hn', hc, hk, hB, hr⟩⟩ := ha
  · exact ⟨hl, .inl ⟨rfl, rfl⟩⟩
  · exact ⟨hl, .inr (.inl ⟨b, rfl, rfl, hk, Nat.lt_of_lt_of_le hb u.1⟩)⟩
  · exact ⟨hl, .inr (.inr (.inl ⟨b, rfl, hk, u.at hB (hn b ⟨_, _, _, rfl, rfl⟩)⟩))⟩
  · exact ⟨hl, .inr (.inr (.inr ⟨b, c, rest, op, rfl, hn', hc, hk, u.at hB (hn b ⟨_, _, _, rfl, rfl⟩), hr⟩))⟩
theorem Acc.same {k : Nat} {v : Value} {xs : List Value} (ha : Acc k h z v n xs) (u : Same h h') : Acc k h' z v n xs := ha.upd u (fun _ _ h => h)
theorem Acc.above {k : Nat} {v : Value} {xs : List Value} (ha : Acc k h z v n xs) (j : Nat) (hj : inRow v j) : k ≤ j ∧ j < h.length := by
  obtain ⟨a, m, c, rfl, rfl⟩ := hj
  obtain ⟨hl, ⟨he, _⟩ | ⟨b, he, rfl, hk, hb⟩ | ⟨b, he, hk, hB⟩ | ⟨b, c, rest, op, he, hn', hc, hk, hB, hr⟩⟩ := ha
  · cases he
  · cases he; exact ⟨hk, hb⟩
  · cases he; exact ⟨hk, hp_lt hB⟩
  · cases he; exact ⟨hk, hp_lt hB⟩
/-- what is put behind -/
theorem Acc.append {k by_ : Nat} {m : Nat} {t tx e : TypeId} {dx : TypeDesc} {v x : Value} {xs ys : List Value} (ha : Acc k h z v n xs) (hk : k ≤ h.length)
    (ht : P.underlying t = some (.slice e)) (hi : infoT P e = some (z, by_, z)) (htx : P.underlying tx = some dx) (hsx : isSrc dx = true) (hs : srcA z x h = some (m, ys)) (hy : ys.length = m * z) (ho : ys.all oneA = true)
    (hb : (n + m) * by_ ≤ 140737488355328) (hc : n + m < 4611686018427387904) :
    ∃ v' h', appendA P t tx v x h = some (v', h') ∧ Acc k h' z v' (n + m) (xs ++ ys) ∧ Upd (inRow v) h h' ∧ (∀ j, inRow v' j → inRow v j ∨ h.length ≤ j) := by
  have hmb : m * by_ ≤ (n + m) * by_ := Nat.mul_le_mul_right _ (by omega)
  by_cases hm : m = 0
  · subst hm
    simp at hy; subst hy
    refine ⟨v, h, ?_, by simpa using ha, Upd.refl, fun j hj => .inl hj⟩
    obtain ⟨hl, ⟨rfl, rfl⟩ | ⟨b, rfl, rfl, hkb, hb'⟩ | ⟨b, rfl, hkb, hB⟩ | ⟨b, c, rest, op, rfl, hn', hc, hkb, hB, hr⟩⟩ := ha <;> simp [appendA, ht, hi, htx, hsx, hs]
  · have hnew : ∀ (g : Hp) (l : List Value) (j : Nat), g.length = h.length → inRow (growA z l (n + m) g).1 j → h.length ≤ j := by
      rintro g l j hg ⟨a, p, q, he, rfl⟩
      simp only [growA] at he
      cases he
      simp [hg]
    obtain ⟨hl, ⟨rfl, rfl⟩ | ⟨b, rfl, rfl, hkb, hb'⟩ | ⟨b, rfl, hkb, hB⟩ | ⟨b, c, rest, op, rfl, hn', hcc, hkb, hB, hr⟩⟩ := ha
    · simp at hl; subst hl
      refine ⟨(growA z ys (0 + m) h).1, (growA z ys (0 + m) h).2, ?_, ?_, Upd.new _, fun j hj => .inr (hnew _ _ _ rfl hj)⟩
      · simp only [appendA, ht, hi, htx, hsx, hs]
        simp [hm, growA]; omega
      · exact ⟨by simp [hy], .inr (.inr (.inl ⟨h.length, rfl, hk, by simp [growA]⟩))⟩
    · simp at hl; subst hl
      refine ⟨(growA z ys (0 + m) h).1, (growA z ys (0 + m) h).2, ?_, ?_, Upd.new _, fun j hj => .inr (hnew _ _ _ rfl hj)⟩
      · simp only [appendA, ht, hi, htx, hsx, hs]
        simp [hm, growA, capO, oldsA]; omega
      · exact ⟨by simp [hy], .inr (.inr (.inl ⟨h.length, rfl, hk, by simp [growA]⟩))⟩
    · have hlt := hp_lt hB
      refine ⟨(growA z (xs ++ ys) (n + m) (h.set b .dead)).1, (growA z (xs ++ ys) (n + m) (h.set b .dead)).2, ?_, ?_, ?_, fun j hj => .inr (hnew _ _ _ (by simp) hj)⟩
      · simp only [appendA, ht, hi, htx, hsx, hs]
        have hx : List.take (n * z) xs = xs := List.take_of_length_le (by omega)
        have hnc : ¬ (capO + n < capO) := by omega
        have hng : ¬ (n + m ≤ capO + n - capO) := by omega
        simp only [Bool.true_eq_false, if_false, ne_eq, not_true, hm, hB, hnc, hng, false_and, List.drop_zero, hx, ho, and_true, Nat.zero_add, hl, Nat.le_refl, true_and, if_true]
        rw [if_pos ⟨by omega, by omega⟩]
      · exact ⟨by simp [hy, hl, Nat.add_mul], .inr (.inr (.inl ⟨h.length, by simp [growA], hk, by simp [growA]⟩))⟩
      · refine Upd.trans (Upd.set (S := inRow (.slice (some ⟨b, 0, none⟩) n (capO + n))) ⟨_, _, _, rfl, rfl⟩ .dead) (Upd.new (S := fun _ => False) _) (fun _ _ h => h.elim)
    · have hlt := hp_lt hB
      by_cases hfit : n + m ≤ c
      · have h1 : (n + m) * z ≤ c * z := Nat.mul_le_mul_right z hfit
        rw [Nat.add_mul] at h1
        have h2 : ys.length ≤ rest.length := by simp at hr; omega
        have h3 := spl_append ys xs rest h2
        rw [hl] at h3
        refine ⟨.slice (some ⟨b, 0, none⟩) (n + m) c, h.set b (.cells (xs ++ ys ++ rest.drop ys.length) false op), ?_, ?_, Upd.set ⟨_, _, _, rfl, rfl⟩ _, fun j hj => .inl ?_⟩
        · simp only [appendA, ht, hi, htx, hsx, hs]
          simp only [Bool.true_eq_false, if_false, ne_eq, not_true, hm, hcc, hfit, hB, ho, and_true, Nat.zero_add, if_true, h3]
          rw [if_pos ⟨by omega, by omega⟩, if_pos (by rw [hr, Nat.add_mul]; omega)]
        · refine ⟨by simp [hl, hy, Nat.add_mul], .inr (.inr (.inr ⟨b, c, rest.drop ys.length, op, rfl, hfit, hcc, hkb, by simp [hlt], ?_⟩))⟩
          simp at hr ⊢; omega
        · obtain ⟨a, p, q, he, rfl⟩ := hj
          cases he
          exact ⟨_, _, _, rfl, rfl⟩
      · have holds : oldsA z n b 0 h = some xs := by
          by_cases h0 : n = 0
          · subst h0; simp at hl; simp [oldsA, hl]
          · have h1 : n * z ≤ (xs ++ rest).length := by rw [hr]; exact Nat.mul_le_mul_right z hn'
            simp only [oldsA, h0, if_false, hB, Nat.zero_add, h1, if_true, List.drop_zero]
            rw [List.take_append_of_le_length (by omega), List.take_of_length_le (by omega)]
        refine ⟨(growA z (xs ++ ys) (n + m) h).1, (growA z (xs ++ ys) (n + m) h).2, ?_, ?_, Upd.new _, fun j hj => .inr (hnew _ _ _ rfl hj)⟩
        · simp only [appendA, ht, hi, htx, hsx, hs]
          simp only [Bool.true_eq_false, if_false, ne_eq, not_true, hm, hcc, hfit, if_true, holds]
          rw [if_pos ⟨by omega, by omega⟩]
        · exact ⟨by simp [hy, hl, Nat.add_mul], .inr (.inr (.inl ⟨h.length, by simp [growA], hk, by simp [growA]⟩))⟩
theorem Acc.since {h0 : Hp} {v : Value} {xs : List Value} (ha : Acc h0.length h z v n xs) (hs : Same h0 h) (hu : Upd (inRow v) h h') : Same h0 h' :=
  Upd.trans hs hu fun k hk hin => absurd (ha.above k hin).1 (by omega)
/-- bytes of this call's own -/
def BAcc (k : Nat) (h : Hp) (v : Value) (l : List UInt8) : Prop := Acc k h 1 v l.length (l.map byteV)
theorem BAcc.nil (k : Nat) : BAcc k h (.slice none 0 0) [] := Acc.nil k
theorem BAcc.bytes {k : Nat} {v : Value} {l : List UInt8} (ha : BAcc k h v l) : Bytes h v l := Acc.row ha
theorem BAcc.same {k : Nat} {v : Value} {l : List UInt8} (ha : BAcc k h v l) (u : Same h h') : BAcc k h' v l := Acc.same ha u
theorem Bytes.src {v : Value} {l : List UInt8} (hb : Bytes h v l) : srcA 1 v h = some (l.length, l.map byteV) := hb.2.1
theorem src_string (s : ByteArray) : srcA 1 (.string s) h = some (s.data.toList.length, s.data.toList.map byteV) := by
  have : s.data.toList.length = s.size := by simp
  rw [this]; simp [srcA]
theorem src_one (b : UInt8) : srcA 1 (.slice (some ⟨h.length, 0, none⟩) 1 1) (h ++ [.cells [.int .u8 (b.toNat : Nat)] false none]) = some ([b].length, [b].map byteV) := by
  simp [srcA, byteV]
theorem BAcc.append {h0 : Hp} {t tx e : TypeId} {dx : TypeDesc} {v x : Value} {l m : List UInt8} (ha : BAcc h0.length h v l) (hs : Same h0 h)
    (ht : P.underlying t = some (.slice e)) (hi : infoT P e = some (1, 1, 1)) (htx : P.underlying tx = some dx) (hsx : isSrc dx = true) (hx : srcA 1 x h = some (m.length, m.map byteV))
    (hb : l.length + m.length ≤ 109951162777600) : ∃ v' h', appendA P t tx v x h = some (v', h') ∧ BAcc h0.length h' v' (l ++ m) ∧ Same h0 h' := by
  obtain ⟨v', h', e1, e2, e3, _⟩ := Acc.append (P := P) ha hs.len ht hi htx hsx hx (by simp) (by simp [byteV]) (by omega) (by omega)
  exact ⟨v', h', e1, by simpa [BAcc] using e2, Acc.since ha hs e3⟩
theorem Acc.down {k j : Nat} {v : Value} {xs : List Value} (hj : j ≤ k) (ha : Acc k h z v n xs) : Acc j h z v n xs := by
  obtain ⟨hl, ⟨rfl, rfl⟩ | ⟨b, rfl, rfl, hk, hb⟩ | ⟨b, rfl, hk, hB⟩ | ⟨b, c, rest, op, rfl, hn', hc, hk, hB, hr⟩⟩ := ha
  · exact ⟨hl, .inl ⟨rfl, rfl⟩⟩
  · exact ⟨hl, .inr (.inl ⟨b, rfl, rfl, by omega, hb⟩)⟩
  · exact ⟨hl, .inr (.inr (.inl ⟨b, rfl, by omega, hB⟩))⟩
  · exact ⟨hl, .inr (.inr (.inr ⟨b, c, rest, op, rfl, hn', hc, by omega, hB, hr⟩))⟩
theorem BAcc.down {k j : Nat} {v : Value} {l : List UInt8} (hj : j ≤ k) (ha : BAcc k h v l) : BAcc j h v l := Acc.down hj ha
end
end Go.Ab
