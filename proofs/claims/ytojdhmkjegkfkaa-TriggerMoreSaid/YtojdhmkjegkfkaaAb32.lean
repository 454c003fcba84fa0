/- Rows by their places: where an element lies, what is read there, what is written; no condition. -/
import Derived.Test.YtojdhmkjegkfkaaAb31
namespace Go.Ab
open Go.RowKit
/-- the block of a slice, and where it begins -/
def rbl : Value → Nat
  | .slice (some a) _ _ => a.block
  | _ => 0
def rof : Value → Nat
  | .slice (some a) _ _ => a.off
  | _ => 0
section
variable {P : Program} {h h' h'' : Hp} {n z k : Nat} {S : Nat → Prop}
theorem Row.place {v : Value} {xs : List Value} (hr : Row h z v n xs) (hk : k < n) : ∃ c cs ro op, v = .slice (some ⟨rbl v, rof v, none⟩) n c ∧ h[rbl v]? = some (.cells cs ro op) ∧ rof v + n * z ≤ cs.length ∧ xs = (cs.drop (rof v)).take (n * z) := by
  obtain ⟨⟨a, c, rfl⟩, hs, hl⟩ := hr
  obtain ⟨_, ⟨h0, _⟩ | ⟨_, b, o, cs, ro, op, rfl, hB, hle, hx⟩⟩ := srcA_inv (v := .nilFunc) hs
  · omega
  · exact ⟨c, cs, ro, op, rfl, hB, hle, hx⟩
/-- where an element lies -/
theorem Row.ia {t e : TypeId} {v : Value} {xs : List Value} (hr : Row h z v n xs) (ht : P.underlying t = some (.slice e)) (he : sizeT P e = some z) (hk : k < n) (q : IntKind) :
    indexAddrA P t v (.int q (k : Int)) = some (.pointer (some ⟨rbl v, rof v + k * z, none⟩)) := by
  obtain ⟨c, cs, ro, op, hv, _⟩ := hr.place hk
  generalize rbl v = b at hv ⊢
  generalize rof v = o at hv ⊢
  subst hv
  rw [indexAddr_at ht he rfl hk]
theorem Row.ia1 {t e : TypeId} {v : Value} {xs : List Value} (hr : Row h 1 v n xs) (ht : P.underlying t = some (.slice e)) (he : sizeT P e = some 1) (hk : k < n) (q : IntKind) :
    indexAddrA P t v (.int q (k : Int)) = some (.pointer (some ⟨rbl v, rof v + k, none⟩)) := by
  rw [hr.ia ht he hk q]; simp
/-- what is read there -/
theorem Row.ldc {f : TypeId} {v : Value} {xs : List Value} {j : Nat} (hr : Row h z v n xs) (hf : aggT P f = some false) (hk : k < n) (hj : j < z) :
    loadA P f (.pointer (some ⟨rbl v, rof v + k * z + j, none⟩)) h = xs[k * z + j]? := by
  obtain ⟨c, cs, ro, op, hv, hB, hle, hx⟩ := hr.place hk
  have : (k + 1) * z ≤ n * z := Nat.mul_le_mul_right z hk
  rw [Nat.add_mul] at this
  simp only [loadA, hB, hf]
  rw [hx, List.getElem?_take, if_pos (by omega), List.getElem?_drop, Nat.add_assoc]
theorem Row.ld1 {f : TypeId} {v : Value} {xs : List Value} (hr : Row h 1 v n xs) (hf : aggT P f = some false) (hk : k < n) :
    loadA P f (.pointer (some ⟨rbl v, rof v + k, none⟩)) h = xs[k]? := by
  have := hr.ldc (j := 0) hf hk (by omega)
  simpa using this
theorem Row.lda {e : TypeId} {v : Value} {xs : List Value} (hr : Row h z v n xs) (ha : aggT P e = some true) (he : sizeT P e = some z) (hk : k < n) :
    loadA P e (.pointer (some ⟨rbl v, rof v + k * z, none⟩)) h = some (.agg ((xs.drop (k * z)).take z).toArray) := by
  obtain ⟨c, cs, ro, op, hv, hB, hle, hx⟩ := hr.place hk
  have : (k + 1) * z ≤ n * z := Nat.mul_le_mul_right z hk
  rw [Nat.add_mul] at this
  simp only [loadA, hB, ha, he]
  rw [if_pos (by omega), hx, List.drop_take, List.take_take, Nat.min_eq_left (by omega), List.drop_drop]
theorem Row.inRow {v : Value} {xs : List Value} (hr : Row h z v n xs) (hk : k < n) : inRow v (rbl v) := by
  obtain ⟨c, cs, ro, op, hv, _⟩ := hr.place hk
  exact ⟨_, _, _, hv, rfl⟩
theorem inRow_rbl {v : Value} {j : Nat} (hj : inRow v j) : j = rbl v := by
  obtain ⟨a, m, c, rfl, rfl⟩ := hj; rfl

theorem Row.lt {v : Value} {xs : List Value} (hr : Row h z v n xs) (h0 : 0 < n) : rbl v < h.length := by
  obtain ⟨c, cs, ro, op, hv, hB, _⟩ := hr.place h0
  exact hp_lt hB
/-- other blocks have changed -/
theorem Row.keep {v : Value} {xs : List Value} (hr : Row h z v n xs) (u : Upd S h h') (hn : 0 < n → ¬ S (rbl v)) : Row h' z v n xs := by
  rcases Nat.eq_zero_or_pos n with rfl | h0
  · obtain ⟨⟨a, c, rfl⟩, hs, hl⟩ := hr
    refine ⟨⟨a, c, rfl⟩, ?_, hl⟩
    have hx : xs = [] := List.eq_nil_of_length_eq_zero (by rw [hl]; simp)
    subst hx
    unfold srcA at hs ⊢
    split at hs <;> first | rfl | (rename_i he; cases he; simp; done) | (rename_i he; cases he) | (simp at hs)
  · exact hr.upd u fun j hj => by rw [inRow_rbl hj]; exact hn h0
theorem Row.box {v : Value} {xs : List Value} (hr : Row h z v n xs) (g : Hp) : boxA v g = some (.pointer (some ⟨g.length, 0, none⟩), g ++ [.cells [v] false none]) := by
  obtain ⟨⟨a, c, rfl⟩, _⟩ := hr
  rfl
theorem Row.one {v : Value} {xs : List Value} (hr : Row h z v n xs) : cellsOf v = some [v] ∧ oneA v = true := by
  obtain ⟨⟨a, c, rfl⟩, _⟩ := hr
  exact ⟨rfl, rfl⟩
/-! rows of texts -/
def str (l : List UInt8) : Value := .string (bs l)
def SRow (h : Hp) (v : Value) (l : List (List UInt8)) : Prop := Row h 1 v l.length (l.map str)
theorem RoRow.strs {v : Value} {l : List (List UInt8)} (hr : RoRow h v l.length (l.map fun x => .string (bs x))) : SRow h v l := hr.row (by simp)
theorem SRow.same {v : Value} {l : List (List UInt8)} (hr : SRow h v l) (u : Same h h') : SRow h' v l := Row.same hr u
theorem SRow.upd {v : Value} {l : List (List UInt8)} (hr : SRow h v l) (u : Upd S h h') (hn : ∀ k, inRow v k → ¬ S k) : SRow h' v l := Row.upd hr u hn
theorem SRow.keep {v : Value} {l : List (List UInt8)} (hr : SRow h v l) (u : Upd S h h') (hn : 0 < l.length → ¬ S (rbl v)) : SRow h' v l := Row.keep hr u hn
theorem SRow.len {t e : TypeId} {v : Value} {l : List (List UInt8)} (hr : SRow h v l) (ht : P.underlying t = some (.slice e)) : lenA P t v h = some (.int .i64 (l.length : Nat)) := Row.len hr ht
theorem SRow.ia {t e : TypeId} {v : Value} {l : List (List UInt8)} (hr : SRow h v l) (ht : P.underlying t = some (.slice e)) (he : sizeT P e = some 1) (hk : k < l.length) (q : IntKind) :
    indexAddrA P t v (.int q (k : Int)) = some (.pointer (some ⟨rbl v, rof v + k, none⟩)) := Row.ia1 hr ht he hk q
theorem SRow.ld {f : TypeId} {v : Value} {l : List (List UInt8)} (hr : SRow h v l) (hf : aggT P f = some false) (hk : k < l.length) :
    loadA P f (.pointer (some ⟨rbl v, rof v + k, none⟩)) h = some (.string (bs l[k])) := by
  rw [Row.ld1 hr hf hk, List.getElem?_map, List.getElem?_eq_getElem hk]; rfl

/-! rows of elements of several cells -/
def TRow {α : Type} (h : Hp) (z : Nat) (v : Value) (l : List α) (cells : α → List Value) : Prop := Row h z v l.length (l.flatMap cells) ∧ ∀ y ∈ l, (cells y).length = z
theorem flatMap_at {α : Type} {cells : α → List Value} {z : Nat} : ∀ (l : List α), (∀ y ∈ l, (cells y).length = z) → ∀ k (hk : k < l.length), ((l.flatMap cells).drop (k * z)).take z = cells l[k] := by
  intro l
  induction l with
  | nil => intro _ k hk; simp at hk
  | cons x l ih =>
    intro hz k hk
    have hx := hz x (by simp)
    cases k with
    | zero => simp [List.flatMap_cons, ← hx]
    | succ k =>
      rw [List.flatMap_cons, show (k + 1) * z = (cells x).length + k * z by rw [hx, Nat.add_mul]; omega, ← List.drop_drop, List.drop_left]
      exact ih (fun y hy => hz y (by simp [hy])) k (by simpa using hk)
theorem RoRow.rows {α : Type} {cells : α → List Value} {z : Nat} {v : Value} {l : List α} (hr : RoRow h v l.length (l.flatMap cells)) (hz : ∀ y ∈ l, (cells y).length = z) (hl : (l.flatMap cells).length = l.length * z) : TRow h z v l cells := ⟨hr.row hl, hz⟩
theorem TRow.same {α : Type} {cells : α → List Value} {v : Value} {l : List α} (hr : TRow h z v l cells) (u : Same h h') : TRow h' z v l cells := ⟨hr.1.same u, hr.2⟩
theorem TRow.upd {α : Type} {cells : α → List Value} {v : Value} {l : List α} (hr : TRow h z v l cells) (u : Upd S h h') (hn : ∀ k, inRow v k → ¬ S k) : TRow h' z v l cells := ⟨hr.1.upd u hn, hr.2⟩
theorem TRow.keep {α : Type} {cells : α → List Value} {v : Value} {l : List α} (hr : TRow h z v l cells) (u : Upd S h h') (hn : 0 < l.length → ¬ S (rbl v)) : TRow h' z v l cells := ⟨hr.1.keep u hn, hr.2⟩
theorem TRow.len {α : Type} {cells : α → List Value} {t e : TypeId} {v : Value} {l : List α} (hr : TRow h z v l cells) (ht : P.underlying t = some (.slice e)) : lenA P t v h = some (.int .i64 (l.length : Nat)) := hr.1.len ht
theorem TRow.ia {α : Type} {cells : α → List Value} {t e : TypeId} {v : Value} {l : List α} (hr : TRow h z v l cells) (ht : P.underlying t = some (.slice e)) (he : sizeT P e = some z) (hk : k < l.length) (q : IntKind) :
    indexAddrA P t v (.int q (k : Int)) = some (.pointer (some ⟨rbl v, rof v + k * z, none⟩)) := hr.1.ia ht he hk q
theorem TRow.agg {α : Type} {cells : α → List Value} {e : TypeId} {v : Value} {l : List α} (hr : TRow h z v l cells) (ha : aggT P e = some true) (he : sizeT P e = some z) (hk : k < l.length) :
    loadA P e (.pointer (some ⟨rbl v, rof v + k * z, none⟩)) h = some (.agg (cells l[k]).toArray) := by
  rw [hr.1.lda ha he hk, flatMap_at l hr.2 k hk]
theorem TRow.cell {α : Type} {cells : α → List Value} {f : TypeId} {v : Value} {l : List α} {j : Nat} (hr : TRow h z v l cells) (hf : aggT P f = some false) (hk : k < l.length) (hj : j < z) :
    loadA P f (.pointer (some ⟨rbl v, rof v + k * z + j, none⟩)) h = (cells l[k])[j]? := by
  rw [hr.1.ldc hf hk hj, ← flatMap_at l hr.2 k hk, List.getElem?_take, if_pos hj, List.getElem?_drop]
theorem TRow.cell0 {α : Type} {cells : α → List Value} {f : TypeId} {v : Value} {l : List α} (hr : TRow h z v l cells) (hf : aggT P f = some false) (hk : k < l.length) (hj : 0 < z) :
    loadA P f (.pointer (some ⟨rbl v, rof v + k * z, none⟩)) h = (cells l[k])[0]? := hr.cell (j := 0) hf hk hj

/-! rows that may be written: of this call's own, above the block k -/
def Wr (k : Nat) (h : Hp) (z : Nat) (v : Value) (n : Nat) (xs : List Value) : Prop :=
  xs.length = n * z ∧ ((v = .slice none 0 0 ∧ n = 0) ∨ (∃ b c, v = .slice (some ⟨b, 0, none⟩) 0 c ∧ c < capO ∧ n = 0) ∨
    ∃ b c rest op, v = .slice (some ⟨b, 0, none⟩) n c ∧ k ≤ b ∧ h[b]? = some (.cells (xs ++ rest) false op) ∧ ((n ≤ c ∧ c < capO) ∨ (capO + n ≤ c ∧ op = some z)))
theorem Acc.wr {v : Value} {xs : List Value} (ha : Acc k h z v n xs) : Wr k h z v n xs := by
  obtain ⟨hl, ⟨rfl, rfl⟩ | ⟨b, rfl, rfl, hk, hb⟩ | ⟨b, rfl, hk, hB⟩ | ⟨b, c, rest, op, rfl, hn, hc, hk, hB, hr⟩⟩ := ha
  · exact ⟨hl, .inl ⟨rfl, rfl⟩⟩
  · exact ⟨hl, .inr (.inl ⟨_, _, rfl, by simp [capO], rfl⟩)⟩
  · exact ⟨hl, .inr (.inr ⟨b, _, [], some z, rfl, hk, by simpa using hB, .inr ⟨Nat.le_refl _, rfl⟩⟩)⟩
  · exact ⟨hl, .inr (.inr ⟨b, _, rest, op, rfl, hk, hB, .inl ⟨hn, hc⟩⟩)⟩
theorem Wr.upd {v : Value} {xs : List Value} (ha : Wr k h z v n xs) (u : Upd S h h') (hn : ∀ k, inRow v k → ¬ S k) : Wr k h' z v n xs := by
  obtain ⟨hl, h1 | h1 | ⟨b, c, rest, op, rfl, hk, hB, hc⟩⟩ := ha
  · exact ⟨hl, .inl h1⟩
  · exact ⟨hl, .inr (.inl h1)⟩
  · exact ⟨hl, .inr (.inr ⟨b, c, rest, op, rfl, hk, u.at hB (hn b ⟨_, _, _, rfl, rfl⟩), hc⟩)⟩
theorem Wr.same {v : Value} {xs : List Value} (ha : Wr k h z v n xs) (u : Same h h') : Wr k h' z v n xs := ha.upd u (fun _ _ h => h)
theorem Wr.row {v : Value} {xs : List Value} (ha : Wr k h z v n xs) : Row h z v n xs := by
  obtain ⟨hl, ⟨rfl, rfl⟩ | ⟨b, c, rfl, _, rfl⟩ | ⟨b, c, rest, op, rfl, hk, hB, hc⟩⟩ := ha
  · simp at hl; subst hl; exact Row.nil
  · simp at hl; subst hl; exact Row.zero
  · refine ⟨⟨_, _, rfl⟩, ?_, hl⟩
    by_cases h0 : n = 0
    · subst h0; simp at hl; subst hl; simp [srcA]
    · simp [srcA, h0, hB, hl]
theorem Wr.above {v : Value} {xs : List Value} (ha : Wr k h z v n xs) (hn : 0 < n) : k ≤ rbl v ∧ rbl v < h.length := by
  obtain ⟨hl, ⟨_, h2⟩ | ⟨b, c, _, _, h2⟩ | ⟨b, c, rest, op, rfl, hk, hB, hc⟩⟩ := ha
  · omega
  · omega
  · exact ⟨hk, hp_lt hB⟩
/-- an element of one cell is written -/
theorem Wr.store1 {e : TypeId} {v x : Value} {xs : List Value} {j : Nat} (ha : Wr k h 1 v n xs) (hs : sizeT P e = some 1) (hx : oneA x = true) (hj : j < n) :
    ∃ h', storeA P e (.pointer (some ⟨rbl v, rof v + j, none⟩)) x h = some h' ∧ Wr k h' 1 v n (xs.set j x) ∧ Upd (· = rbl v) h h' ∧ h'.length = h.length := by
  obtain ⟨hl, ⟨_, h2⟩ | ⟨b, c, _, _, h2⟩ | ⟨b, c, rest, op, rfl, hk, hB, hcc⟩⟩ := ha
  · omega
  · omega
  · have hlt := hp_lt hB
    have hc : cellsOf x = some [x] := by cases x <;> simp_all [oneA, cellsOf]
    refine ⟨h.set b (.cells ((xs ++ rest).set j x) false op), ?_, ⟨by simpa using hl, .inr (.inr ⟨b, c, rest, op, rfl, hk, ?_, hcc⟩)⟩, Upd.set (S := (· = b)) rfl _, by simp⟩
    · simp only [storeA, rbl, rof, hB, hc, hs]
      rw [if_pos ⟨rfl, by simp; omega, by simp [hx]⟩]
      simp [spl]
    · rw [List.getElem?_set_self hlt, List.set_append_left _ _ (by omega)]
/-- one cell of an element of several is written -/
theorem Wr.storec {e : TypeId} {v x : Value} {xs : List Value} {i j : Nat} (ha : Wr k h z v n xs) (hs : sizeT P e = some 1) (hx : oneA x = true) (hi : i < n) (hj : j < z) :
    ∃ h', storeA P e (.pointer (some ⟨rbl v, rof v + i * z + j, none⟩)) x h = some h' ∧ Wr k h' z v n (xs.set (i * z + j) x) ∧ Upd (· = rbl v) h h' ∧ h'.length = h.length := by
  obtain ⟨hl, ⟨_, h2⟩ | ⟨b, c, _, _, h2⟩ | ⟨b, c, rest, op, rfl, hk, hB, hcc⟩⟩ := ha
  · omega
  · omega
  · have hlt := hp_lt hB
    have hc : cellsOf x = some [x] := by cases x <;> simp_all [oneA, cellsOf]
    have : (i + 1) * z ≤ n * z := Nat.mul_le_mul_right z hi
    rw [Nat.add_mul] at this
    refine ⟨h.set b (.cells ((xs ++ rest).set (i * z + j) x) false op), ?_, ⟨by simpa using hl, .inr (.inr ⟨b, c, rest, op, rfl, hk, ?_, hcc⟩)⟩, Upd.set (S := (· = b)) rfl _, by simp⟩
    · simp only [storeA, rbl, rof, hB, hc, hs]
      rw [if_pos ⟨rfl, by simp; omega, by simp [hx]⟩]
      simp [spl]
    · rw [List.getElem?_set_self hlt, List.set_append_left _ _ (by omega)]
theorem spl_mid (ys : List Value) : ∀ (xs rest : List Value) (o : Nat), o + ys.length ≤ xs.length → spl (xs ++ rest) o ys = (xs.take o ++ ys ++ xs.drop (o + ys.length)) ++ rest := by
  intro xs rest o h
  have h1 : xs ++ rest = xs.take o ++ (xs.drop o ++ rest) := by rw [← List.append_assoc, List.take_append_drop]
  have h2 : (xs.take o).length = o := by simp; omega
  have h3 := spl_append ys (xs.take o) (xs.drop o ++ rest) (by simp; omega)
  rw [h2] at h3
  rw [h1, h3, List.drop_append_of_le_length (by simp; omega), List.drop_drop]
  simp
/-- an element of several cells is written whole -/
theorem Wr.storea {e : TypeId} {v : Value} {ys : List Value} {xs : List Value} {i : Nat} (ha : Wr k h z v n xs) (hs : sizeT P e = some z) (hy : ys.length = z) (hx : ys.all oneA = true) (hi : i < n) :
    ∃ h', storeA P e (.pointer (some ⟨rbl v, rof v + i * z, none⟩)) (.agg ys.toArray) h = some h' ∧ Wr k h' z v n (xs.take (i * z) ++ ys ++ xs.drop (i * z + z)) ∧ Upd (· = rbl v) h h' ∧ h'.length = h.length := by
  obtain ⟨hl, ⟨_, h2⟩ | ⟨b, c, _, _, h2⟩ | ⟨b, c, rest, op, rfl, hk, hB, hcc⟩⟩ := ha
  · omega
  · omega
  · have hlt := hp_lt hB
    have : (i + 1) * z ≤ n * z := Nat.mul_le_mul_right z hi
    rw [Nat.add_mul] at this
    refine ⟨h.set b (.cells (spl (xs ++ rest) (i * z) ys) false op), ?_, ⟨by simp; omega, .inr (.inr ⟨b, c, rest, op, rfl, hk, ?_, hcc⟩)⟩, Upd.set (S := (· = b)) rfl _, by simp⟩
    · simp only [storeA, rbl, rof, hB, cellsOf, hs]
      rw [if_pos ⟨by simp [hy], by simp; omega, by simpa using hx⟩]
      simp
    · rw [List.getElem?_set_self hlt, spl_mid ys xs rest _ (by omega), hy]
/-- the beginning -/
theorem Wr.hi {t e : TypeId} {v : Value} {xs : List Value} {q : IntKind} {m : Nat} (ha : Wr k h z v n xs) (ht : P.underlying t = some (.slice e)) (he : sizeT P e = some z) (hm : m ≤ n) :
    ∃ v', sliceA P t v none (some (.int q (m : Int))) none h = some v' ∧ Wr k h z v' m (xs.take (m * z)) ∧ ∀ k, inRow v' k → inRow v k := by
  obtain ⟨hl, ⟨rfl, rfl⟩ | ⟨b, c, rfl, hc, rfl⟩ | ⟨b, c, rest, op, rfl, hk, hB, hc⟩⟩ := ha
  · have : m = 0 := by omega
    subst this
    exact ⟨.slice none 0 0, by simp [sliceA, ht, he], ⟨by simp, .inl ⟨rfl, rfl⟩⟩, fun _ h => h⟩
  · have : m = 0 := by omega
    subst this
    refine ⟨.slice (some ⟨b, 0, none⟩) 0 c, by simp [sliceA, ht, he, hc], ⟨by simp, .inr (.inl ⟨b, c, rfl, hc, rfl⟩)⟩, fun _ h => h⟩
  · have hmz : m * z ≤ n * z := Nat.mul_le_mul_right z hm
    have hB' : h[b]? = some (.cells (xs.take (m * z) ++ (xs.drop (m * z) ++ rest)) false op) := by rw [← List.append_assoc, List.take_append_drop]; exact hB
    have hlen : (xs.take (m * z)).length = m * z := by simp; omega
    rcases hc with ⟨h1, h2⟩ | ⟨h1, rfl⟩
    · refine ⟨.slice (some ⟨b, 0, none⟩) m c, ?_, ⟨hlen, .inr (.inr ⟨b, c, _, op, rfl, hk, hB', .inl ⟨by omega, h2⟩⟩)⟩, ?_⟩
      · have h3 : (m : Int) ≤ c := by omega
        simp [sliceA, ht, he, h2, h3]
      · rintro j ⟨a, p, r, he', rfl⟩; cases he'; exact ⟨_, _, _, rfl, rfl⟩
    · have hnc : ¬ c < capO := by omega
      have h4 : (m : Int) ≤ (c - capO : Nat) := by omega
      refine ⟨.slice (some ⟨b, 0, none⟩) m c, ?_, ⟨hlen, .inr (.inr ⟨b, c, _, some z, rfl, hk, hB', .inr ⟨by omega, rfl⟩⟩)⟩, ?_⟩
      · simp only [sliceA, ht, he, hnc, if_false, bnds_h]
        rw [if_pos ⟨by omega, h4⟩]
        simp [hB]
        omega
      · rintro j ⟨a, p, r, he', rfl⟩; cases he'; exact ⟨_, _, _, rfl, rfl⟩
theorem zeros_rep (x : Value) (n : Nat) : zeros [x] n = List.replicate n x := by
  induction n with
  | zero => rfl
  | succ n ih => simp only [zeros, ih, List.replicate_succ]; rfl
/-- from a place on all is cleared -/
theorem Wr.clearFrom {t e : TypeId} {v x : Value} {xs : List Value} {q : IntKind} {m : Nat} (ha : Wr k h 1 v n xs) (ht : P.underlying t = some (.slice e)) (he : sizeT P e = some 1) (hz : zeroT P e = some [x]) (hx : oneA x = true) (hm : m ≤ n) :
    ∃ v' h', sliceA P t v (some (.int q (m : Int))) none none h = some v' ∧ clearA P t v' h = some h' ∧ Wr k h' 1 v n (xs.take m ++ List.replicate (n - m) x) ∧ Upd (· = rbl v) h h' := by
  obtain ⟨hl, ⟨rfl, rfl⟩ | ⟨b, c, rfl, hc, rfl⟩ | ⟨b, c, rest, op, rfl, hk, hB, hc⟩⟩ := ha
  · have : m = 0 := by omega
    subst this
    exact ⟨.slice none 0 0, h, by simp [sliceA, ht, he], by simp [clearA, ht], ⟨by simp, .inl ⟨rfl, rfl⟩⟩, Upd.refl⟩
  · have : m = 0 := by omega
    subst this
    refine ⟨.slice (some ⟨b, _, none⟩) 0 c, h, by simp [sliceA, ht, he, hc]; rfl, by simp [clearA, ht], ⟨by simp, .inr (.inl ⟨b, c, rfl, hc, rfl⟩)⟩, Upd.refl⟩
  · have hlt := hp_lt hB
    have hxs : xs.length = n := by omega
    have key : ∀ o c', (n - m ≠ 0 → o = m) → ∃ h', clearA P t (.slice (some ⟨b, o, none⟩) (n - m) c') h = some h' ∧ Wr k h' 1 (.slice (some ⟨b, 0, none⟩) n c) n (xs.take m ++ List.replicate (n - m) x) ∧ Upd (· = b) h h' := by
      intro o c' ho
      by_cases h0 : n - m = 0
      · have hmn : m = n := by omega
        refine ⟨h, by simp [clearA, ht, h0], ⟨by simp; omega, .inr (.inr ⟨b, c, rest, op, rfl, hk, ?_, hc⟩)⟩, Upd.refl⟩
        rw [h0, List.take_of_length_le (by omega)]; simpa using hB
      · have ho := ho h0
        subst ho
        have hsp := spl_mid (List.replicate (n - o) x) xs rest o (by simp; omega)
        have hd : xs.drop (o + (n - o)) = [] := List.drop_of_length_le (by omega)
        refine ⟨h.set b (.cells ((xs.take o ++ List.replicate (n - o) x) ++ rest) false op), ?_, ⟨by simp; omega, .inr (.inr ⟨b, c, rest, op, rfl, hk, by rw [List.getElem?_set_self hlt], hc⟩)⟩, Upd.set (S := (· = b)) rfl _⟩
        simp only [clearA, ht, h0, if_false, hB, he, hz, zeros_rep]
        rw [if_pos ⟨rfl, by simp; omega, by simp [hx]⟩]
        simp only [List.length_replicate] at hsp
        rw [hsp, hd]; simp
    rcases hc with ⟨h1, h2⟩ | ⟨h1, rfl⟩
    · obtain ⟨h', e1, e2, e3⟩ := key (if c = m then 0 else m) (c - m) (fun hne => by rw [if_neg (by omega)])
      refine ⟨_, h', ?_, e1, e2, e3⟩
      have h3 : (m : Int) ≤ n := by omega
      simp [sliceA, ht, he, h2, h3]
    · have hnc : ¬ c < capO := by omega
      obtain ⟨h', e1, e2, e3⟩ := key m (capO + (c - capO - m)) (fun _ => rfl)
      refine ⟨_, h', ?_, e1, e2, e3⟩
      have h3 : (m : Int) ≤ n := by omega
      simp [sliceA, ht, he, hnc, h3, hB]
theorem Wr.since {h0 : Hp} {v : Value} (hk : h0.length ≤ rbl v) (hs : Same h0 h) (hu : Upd (· = rbl v) h h') : Same h0 h' :=
  Upd.trans hs hu fun j hj hin => absurd hin (by omega)
end
end Go.Ab
namespace Go.Ab
section
variable {P : Program} {h : Hp} {n : Nat} {fr : Fr} {Q : QA}
/-- a round has ended: what is to be shown is left as it is -/
theorem rq (I : Nat → Fr → Hp → Prop) (k : Nat) : roundQ I k Q .normal fr h = stop (∃ m, m < k ∧ I m fr h) .mk := Eq.trans rfl rfl
theorem stop_intro {p : Prop} {d : Lazy p} (hp : p) : stop p d := hp
end
end Go.Ab
namespace Go.Ab
/-- what is put behind an empty literal -/
theorem Acc.appendLit {P : Program} {h : Hp} {z k b by_ : Nat} {m : Nat} {t tx e : TypeId} {dx : TypeDesc} {x : Value} {ys : List Value} (hkb : k ≤ b) (hb' : b < h.length)
    (ht : P.underlying t = some (.slice e)) (hi : infoT P e = some (z, by_, z)) (htx : P.underlying tx = some dx) (hsx : isSrc dx = true) (hs : srcA z x h = some (m, ys)) (hy : ys.length = m * z)
    (hb : m * by_ ≤ 140737488355328) (hc : m < 4611686018427387904) :
    ∃ v' h', appendA P t tx (.slice (some ⟨b, 0, none⟩) 0 0) x h = some (v', h') ∧ Acc k h' z v' m ys ∧ Same h h' ∧ (∀ j, inRow v' j → j = b ∨ h.length ≤ j) := by
  by_cases hm : m = 0
  · subst hm
    simp at hy; subst hy
    refine ⟨.slice (some ⟨b, 0, none⟩) 0 0, h, ?_, ⟨by simp, .inr (.inl ⟨b, rfl, rfl, hkb, hb'⟩)⟩, Upd.refl, fun j hj => .inl (inRow_rbl hj)⟩
    simp [appendA, ht, hi, htx, hsx, hs]
  · refine ⟨(growA z ys (0 + m) h).1, (growA z ys (0 + m) h).2, ?_, ?_, Upd.new _, fun j hj => .inr ?_⟩
    · simp only [appendA, ht, hi, htx, hsx, hs]
      simp [hm, growA, capO, oldsA]; omega
    · exact ⟨hy, .inr (.inr (.inl ⟨h.length, by simp [growA], by omega, by simp [growA]⟩))⟩
    · have := inRow_rbl hj
      simp [growA, rbl] at this; omega
theorem load_at {P : Program} {h : Hp} {b o : Nat} {cs : List Value} {ro : Bool} {op : Option Nat} {t : TypeId} (hB : h[b]? = some (.cells cs ro op)) (ha : aggT P t = some false) : loadA P t (.pointer (some ⟨b, o, none⟩)) h = cs[o]? := by
  simp only [loadA, hB, ha]
end Go.Ab
