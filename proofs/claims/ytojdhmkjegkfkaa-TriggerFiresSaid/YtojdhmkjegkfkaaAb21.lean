/- Words for walks: rows told by a function of the place, iterators over texts, elements of slices; no condition. -/
import Derived.Test.YtojdhmkjegkfkaaAb20
namespace Go.Ab
open Go.RowKit
section
variable {P : Program} {h : Hp}
theorem indexAddr_sl {t e : TypeId} {z b o n c : Nat} {k : IntKind} {i : Int} (ht : P.underlying t = some (.slice e)) (hz : sizeT P e = some z) :
    indexAddrA P t (.slice (some ⟨b, o, none⟩) n c) (.int k i) = if 0 ≤ i ∧ i < n then some (.pointer (some ⟨b, o + i.toNat * z, none⟩)) else none := by simp [indexAddrA, ht, hz]
/-- an element whose place is known -/
theorem indexAddr_at {t e : TypeId} {z b o n c : Nat} {k : IntKind} {i : Int} {j : Nat} (ht : P.underlying t = some (.slice e)) (hz : sizeT P e = some z) (hi : i = (j : Nat)) (hj : j < n) :
    indexAddrA P t (.slice (some ⟨b, o, none⟩) n c) (.int k i) = some (.pointer (some ⟨b, o + j * z, none⟩)) := by
  subst hi
  rw [indexAddr_sl ht hz, if_pos (by omega)]; simp
theorem range_string {t : TypeId} {s : ByteArray} (ht : P.underlying t = some .string) : rangeA P t (.string s) h = some (.pointer (some ⟨h.length, 0, none⟩), h ++ [.siter s 0]) := by simp [rangeA, ht]
theorem next_more {b : Nat} {s : ByteArray} {pos : Nat} (hb : h[b]? = some (.siter s pos)) (hp : pos < s.size) :
    nextA (.pointer (some ⟨b, 0, none⟩)) true h = some (.tuple #[.bool true, .int .i64 (pos : Nat), .int .i32 (Utf8.decode s pos).1], h.set b (.siter s (pos + (Utf8.decode s pos).2))) := by simp [nextA, hb, hp]
theorem next_end {b : Nat} {s : ByteArray} {pos : Nat} (hb : h[b]? = some (.siter s pos)) (hp : ¬ pos < s.size) : nextA (.pointer (some ⟨b, 0, none⟩)) true h = some (.tuple #[.bool false], h) := by simp [nextA, hb, hp]

/-- a row of one-cell elements, told by the place -/
def rowV (f : Nat → Value) (n : Nat) : List Value := (List.range n).map f
@[simp] theorem rowV_length (f : Nat → Value) (n : Nat) : (rowV f n).length = n := by simp [rowV]
theorem rowV_get {f : Nat → Value} {n k : Nat} (hk : k < n) : (rowV f n)[k]? = some (f k) := by simp [rowV, hk]
theorem rowV_ext {f g : Nat → Value} {n : Nat} (h : ∀ k, k < n → f k = g k) : rowV f n = rowV g n := by
  unfold rowV
  exact List.map_congr_left fun k hk => h k (List.mem_range.1 hk)
theorem rowV_set {f : Nat → Value} {n k : Nat} {v : Value} : (rowV f n).set k v = rowV (fun i => if i = k then v else f i) n := by
  apply List.ext_getElem?
  intro i
  rw [List.getElem?_set]
  by_cases hi : i < n
  · rw [rowV_get hi]
    by_cases hk : k = i
    · subst hk; rw [if_pos rfl, if_pos (by simpa using hi), rowV_get hi, if_pos rfl]
    · rw [if_neg hk, rowV_get hi, if_neg (fun h => hk h.symm)]
  · have h1 : (rowV f n)[i]? = none := List.getElem?_eq_none (by simp; omega)
    have h2 : (rowV (fun i => if i = k then v else f i) n)[i]? = none := List.getElem?_eq_none (by simp; omega)
    rw [h1, h2]
    split
    · rw [if_neg (by simp; omega)]
    · rfl
theorem zeros_one (v : Value) (n : Nat) : zeros [v] n = rowV (fun _ => v) n := by
  induction n with
  | zero => rfl
  | succ n ih =>
    simp only [zeros, ih, rowV, List.range_succ_eq_map, List.map_cons, List.map_map]
    rfl
theorem spl_all (xs cs : List Value) (h : cs.length = xs.length) : spl cs 0 xs = xs := by
  have := spl_append xs [] cs (by omega)
  simp at this
  rw [this, List.drop_of_length_le (by omega)]; simp

/-! runes of texts -/
theorem dec_lo {s : ByteArray} {i : Nat} (hi : i < s.size) (hb : s[i] < 128) : Utf8.decode s i = (s[i].toNat, 1) := by
  have h1 : s.get! (i + 0) = s[i] := by
    rw [Nat.add_zero]
    show s.data[i]! = s.data[i]
    rw [getElem!_pos]
  have h2 : s[i].toNat < 128 := by simpa [UInt8.lt_iff_toNat_lt] using hb
  unfold Utf8.decode
  simp only [h1]
  rw [if_pos h2]
theorem dec_hi {s : ByteArray} {i : Nat} (hi : i < s.size) (hb : 128 ≤ s[i]) : 128 ≤ (Utf8.decode s i).1 ∧ 1 ≤ (Utf8.decode s i).2 := by
  have h1 : s.get! (i + 0) = s[i] := by
    rw [Nat.add_zero]
    show s.data[i]! = s.data[i]
    rw [getElem!_pos]
  have h2 : 128 ≤ s[i].toNat := by simpa [UInt8.le_iff_toNat_le] using hb
  unfold Utf8.decode
  simp only [h1, Utf8.runeError]
  rw [if_neg (by omega)]
  split
  · split
    · exact ⟨by simp only; omega, by simp⟩
    · exact ⟨by simp, by simp⟩
  · split
    · split
      · rename_i h; simp at h; exact ⟨by simp only; omega, by simp⟩
      · exact ⟨by simp, by simp⟩
    · split
      · split
        · rename_i h; simp at h; exact ⟨by simp only; omega, by simp⟩
        · exact ⟨by simp, by simp⟩
      · exact ⟨by simp, by simp⟩

/-! what is made in a statement whose order is drawn -/
def newMS (r : Option (Value × Hp)) : Option (Blk × (Nat → Value)) :=
  match r with
  | some (.slice _ n m, [B]) => some (B, fun i => .slice (some ⟨i, 0, none⟩) n m)
  | _ => none
@[simp] theorem newMS_some (a : Option Addr) (n m : Nat) (B : Blk) : newMS (some (.slice a n m, [B])) = some (B, fun i => .slice (some ⟨i, 0, none⟩) n m) := Eq.trans rfl rfl
@[simp ↓] theorem newA_ms {ρ : Operand → Value} (t : TypeId) (l c : Operand) : newA P ρ (.makeSlice t l c) = newMS (makeSliceA P t (ρ l) (ρ c) []) := by
  rw [newA]
  generalize makeSliceA P t (ρ l) (ρ c) [] = r
  rcases r with _ | ⟨v, l⟩
  · rfl
  · rcases l with _ | ⟨B, _ | ⟨C, l⟩⟩ <;> cases v <;> rfl
@[simp ↓] theorem newA_mm {ρ : Operand → Value} (t : TypeId) : newA P ρ (.makeMap t none) = some (.map [], fun i => .map (some i)) := Eq.trans rfl rfl

/-! texts as lists of bytes -/
def bs (l : List UInt8) : ByteArray := ⟨l.toArray⟩
theorem bs_self (s : ByteArray) : bs s.data.toList = s := rfl
@[simp] theorem bs_size (l : List UInt8) : (bs l).size = l.length := by simp [bs, ByteArray.size]
@[simp] theorem bs_list (l : List UInt8) : (bs l).data.toList = l := by simp [bs]
@[simp] theorem bs_inj (l m : List UInt8) : (bs l = bs m) = (l = m) := by
  apply propext
  constructor
  · intro h; have := congrArg (fun x => x.data.toList) h; simpa using this
  · rintro rfl; rfl
@[simp] theorem bs_lit (l m : List UInt8) : (bs l = ⟨m.toArray⟩) = (l = m) := bs_inj l m
theorem bs_extract (l : List UInt8) (a b : Nat) : (bs l).extract a b = bs ((l.drop a).take (b - a)) := by
  apply ByteArray.ext
  apply Array.toList_inj.1
  simp [bs, ByteArray.data_extract, Array.toList_extract, List.extract]
@[simp] theorem bs_get (l : List UInt8) (i : Nat) : (bs l)[i]? = l[i]? := by
  by_cases h : i < l.length
  · rw [getElem?_pos (bs l) i (by simpa using h), List.getElem?_eq_getElem h]
    simp [bs, ByteArray.getElem_eq_getElem_data]
  · rw [getElem?_neg (bs l) i (by simpa using h), List.getElem?_eq_none (by omega)]
@[simp] theorem bs_elem (l : List UInt8) (i : Nat) (h : i < (bs l).size) : (bs l)[i] = l[i]'(by simpa using h) := by simp [bs, ByteArray.getElem_eq_getElem_data]
theorem bs_getElem (l : List UInt8) (i : Nat) (h : i < (bs l).size) : (bs l)[i] = l.getD i 0 := by
  have h' : i < l.length := by simpa using h
  simp [bs, ByteArray.getElem_eq_getElem_data, List.getD_eq_getElem?_getD, List.getElem?_eq_getElem h']

/-! laws whose arguments name no block -/
theorem ground_self {v : Value} (h : ground v = true) (μ : Emb) : VRel μ v v := VRel.ground h
theorem EvA.flatLaw {f : FuncId} {args : List Value} (he : EvA P f args (fun r _ => r = .bool true) []) (ha : args.all ground = true) (W : World) : Calls P f args.toArray W fun e w' => e = .returned (.bool true) ∧ Below W.heap.size W w' := by
  have hr0 : HRel (fun _ => none) [] W := ⟨fun b e h => by simp at h, fun b e B h => by simp at h, fun b c e f B C _ h => by simp at h⟩
  have hv : LRel (fun _ => none) args args.toArray.toList := by
    refine ⟨by simp, fun i x y hx hy => ?_⟩
    have : x = y := Option.some.inj (hx.symm.trans (by simpa using hy))
    subst this
    exact VRel.ground (List.all_eq_true.1 ha x (List.mem_of_getElem? hx))
  refine (he.2 _ W args.toArray hr0 hv).mono ?_
  rintro e w' ⟨μ', h', r, v, rfl, s, hrv, rfl⟩
  cases hrv
  have hno : ∀ k, ¬ Own (fun _ => none) ([] : Hp) k := by rintro k ⟨b, e, B, h, _⟩; simp at h
  exact ⟨rfl, ⟨s.keeps.os, s.keeps.tape, s.keeps.output, s.keeps.size, fun k hk => s.keeps.block k hk (hno k)⟩⟩
end
end Go.Ab
