/- Words for the walk over abstract values and blocks: each operation, at values whose form is seen; no condition. -/
import Derived.Test.YtojdhmkjegkfkaaAb10
namespace Go.Ab
open Go.RowKit
section
variable {P : Program} {h : Hp} {n : Nat} {fr : Fr} {ρ : Operand → Value}

@[simp ↓] theorem evalA_tmp (t : Tmp) : evalA fr (.tmp t) = fr t := Eq.trans rfl rfl
@[simp] theorem evalA_func (f : Nat) : evalA fr (.func f) = .func (.func f) #[] #[] := Eq.trans rfl rfl
@[simp] theorem evalA_bool (b : Bool) : evalA fr (.const (.bool b)) = .bool b := Eq.trans rfl rfl
@[simp] theorem evalA_int (k : IntKind) (i : Int) : evalA fr (.const (.int k i)) = .int k i := Eq.trans rfl rfl
@[simp] theorem evalA_string (s : ByteArray) : evalA fr (.const (.string s)) = .string s := Eq.trans rfl rfl
@[simp] theorem evalA_ptr : evalA fr (.const (.pointer none)) = .pointer none := Eq.trans rfl rfl
@[simp] theorem evalA_slice : evalA fr (.const (.slice none 0 0)) = .slice none 0 0 := Eq.trans rfl rfl
@[simp] theorem evalA_map : evalA fr (.const (.map none)) = .map none := Eq.trans rfl rfl
@[simp] theorem evalA_nilFunc : evalA fr (.const .nilFunc) = .nilFunc := Eq.trans rfl rfl
@[simp] theorem evalA_nilIface : evalA fr (.const .nilIface) = .nilIface := Eq.trans rfl rfl
@[simp ↓] theorem putF_none (v : Value) : putF n fr none v = fr := Eq.trans rfl rfl
@[simp ↓] theorem putF_some (d i : Nat) (v : Value) : putF n fr (some d) v i = if i = d then (if d < n then v else any) else fr i := Eq.trans rfl rfl
@[simp] theorem rv_some (v : Value) : rv h (some v) = some (.val v h) := Eq.trans rfl rfl
@[simp] theorem rp_some (v : Value) : rp (some (v, h)) = some (.val v h) := Eq.trans rfl rfl
@[simp] theorem ru_some : ru (some h) = some (.val any h) := Eq.trans rfl rfl
@[simp ↓] theorem wantA_none (ops : Array Oper) (d op ty pos aft) : wantA ops ⟨d, op, ty, pos, aft, none⟩ fr = some true := Eq.trans rfl rfl

@[simp ↓] theorem opA_move (x : Operand) : opA P ρ (.move x) h = some (.val (ρ x) h) := Eq.trans rfl rfl
@[simp ↓] theorem opA_assign (x : Operand) : opA P ρ (.assign x) h = some (.val (ρ x) h) := Eq.trans rfl rfl
@[simp ↓] theorem opA_pick (c a b : Operand) : opA P ρ (.pick c a b) h = rv h (pickA (ρ c) (ρ a) (ρ b)) := Eq.trans rfl rfl
@[simp ↓] theorem opA_alloc (t : TypeId) : opA P ρ (.alloc t) h = rp (allocA P t h) := Eq.trans rfl rfl
@[simp ↓] theorem opA_box (t : TypeId) (x : Operand) : opA P ρ (.box t x) h = rp (boxA (ρ x) h) := Eq.trans rfl rfl
@[simp ↓] theorem opA_build (t : TypeId) (ps : Array (Nat × Operand)) : opA P ρ (.build t ps) h = rv h (buildA P t (ps.toList.map fun p => (p.1, ρ p.2))) := Eq.trans rfl rfl
@[simp ↓] theorem opA_buildSlice (t : TypeId) (k : Nat) (ps : Array (Nat × Operand)) : opA P ρ (.buildSlice t k ps) h = rp (buildSliceA P t k (ps.toList.map fun p => (p.1, ρ p.2)) h) := Eq.trans rfl rfl
@[simp ↓] theorem opA_load (t : TypeId) (a : Operand) : opA P ρ (.load t a) h = rv h (loadA P t (ρ a) h) := Eq.trans rfl rfl
@[simp ↓] theorem opA_store (t : TypeId) (a x : Operand) : opA P ρ (.store t a x) h = ru (storeA P t (ρ a) (ρ x) h) := Eq.trans rfl rfl
@[simp ↓] theorem opA_nilCheck (x : Operand) : opA P ρ (.nilCheck x) h = rv h (nilCheckA (ρ x)) := Eq.trans rfl rfl
@[simp ↓] theorem opA_binOp (op : BinOp) (t : TypeId) (x y : Operand) (u : TypeId) : opA P ρ (.binOp op t x y u) h = rv h (binA P op t x y (ρ x) (ρ y)) := Eq.trans rfl rfl
@[simp ↓] theorem opA_unOp (op : UnOp) (t : TypeId) (x : Operand) : opA P ρ (.unOp op t x) h = rv h (unA op (ρ x)) := Eq.trans rfl rfl
@[simp ↓] theorem opA_convert (s d : TypeId) (x : Operand) : opA P ρ (.convert s d x) h = rp (convA P s d (ρ x) h) := Eq.trans rfl rfl
@[simp ↓] theorem opA_makeInterface (t : TypeId) (x : Operand) : opA P ρ (.makeInterface t x) h = rv h (ifaceA P t (ρ x)) := Eq.trans rfl rfl
@[simp ↓] theorem opA_makeFunc (f : Nat) (a c : Array Operand) : opA P ρ (.makeFunc (.func f) a c) h = some (.val (.func (.func f) (a.map ρ) (c.map ρ)) h) := Eq.trans rfl rfl
@[simp ↓] theorem opA_makeMap (t : TypeId) : opA P ρ (.makeMap t none) h = some (.val (.map (some h.length)) (h ++ [.map []])) := Eq.trans rfl rfl
@[simp ↓] theorem opA_makeSlice (t : TypeId) (l c : Operand) : opA P ρ (.makeSlice t l c) h = rp (makeSliceA P t (ρ l) (ρ c) h) := Eq.trans rfl rfl
@[simp ↓] theorem opA_slice (t : TypeId) (x : Operand) (lo hi mx : Option Operand) : opA P ρ (.slice t x lo hi mx) h = rv h (sliceA P t (ρ x) (lo.map ρ) (hi.map ρ) (mx.map ρ) h) := Eq.trans rfl rfl
@[simp ↓] theorem opA_fieldAddr (t : TypeId) (x : Operand) (f : Nat) : opA P ρ (.fieldAddr t x f) h = rv h (fieldAddrA P t (ρ x) f) := Eq.trans rfl rfl
@[simp ↓] theorem opA_field (t : TypeId) (x : Operand) (f : Nat) : opA P ρ (.field t x f) h = rv h (fieldA P t (ρ x) f) := Eq.trans rfl rfl
@[simp ↓] theorem opA_indexAddr (t : TypeId) (x i : Operand) : opA P ρ (.indexAddr t x i) h = rv h (indexAddrA P t (ρ x) (ρ i)) := Eq.trans rfl rfl
@[simp ↓] theorem opA_index (t : TypeId) (x i : Operand) : opA P ρ (.index t x i) h = rv h (indexA P t (ρ x) (ρ i)) := Eq.trans rfl rfl
@[simp ↓] theorem opA_lookup (t : TypeId) (m k : Operand) (ok : Bool) : opA P ρ (.lookup t m k ok) h = rv h (lookupA P t (ρ m) (ρ k) ok h) := Eq.trans rfl rfl
@[simp ↓] theorem opA_mapUpdate (t : TypeId) (m k x : Operand) : opA P ρ (.mapUpdate t m k x) h = ru (mapUpdateA P t (ρ m) (ρ k) (ρ x) h) := Eq.trans rfl rfl
@[simp ↓] theorem opA_insert (t : TypeId) (m k x : Operand) : opA P ρ (.insert t m k x) h = ru (mapUpdateA P t (ρ m) (ρ k) (ρ x) h) := Eq.trans rfl rfl
@[simp ↓] theorem opA_range (t : TypeId) (x : Operand) : opA P ρ (.range t x) h = rp (rangeA P t (ρ x) h) := Eq.trans rfl rfl
@[simp ↓] theorem opA_next (it : Operand) (s : Bool) : opA P ρ (.next it s) h = rp (nextA (ρ it) s h) := Eq.trans rfl rfl
@[simp ↓] theorem opA_extract (t : Operand) (i : Nat) : opA P ρ (.extract t i) h = rv h (extractA (ρ t) i) := Eq.trans rfl rfl
@[simp ↓] theorem opA_typeAssert (x : Operand) (u t : TypeId) (ok : Bool) : opA P ρ (.typeAssert x u t ok) h = rv h (typeAssertA P (ρ x) t ok) := Eq.trans rfl rfl
@[simp ↓] theorem opA_builtin (b : Builtin) (args : Array Operand) (ts : Array TypeId) : opA P ρ (.call ⟨.builtin b, args, ts⟩) h = builtinA P b ts.toList (args.toList.map ρ) h := Eq.trans rfl rfl
@[simp ↓] theorem opA_call (f : Operand) (args : Array Operand) (ts : Array TypeId) : opA P ρ (.call ⟨.value f, args, ts⟩) h =
    (match ρ f with | .func (.func g) first captured => some (.enter g (first.toList ++ args.toList.map ρ ++ captured.toList)) | .func (.yield b) _ _ => some (.round b (args.toList.map ρ)) | _ => none) := Eq.trans rfl rfl

@[simp] theorem bi_append (t tx : TypeId) (s x : Value) : builtinA P .append [t, tx] [s, x] h = rp (appendA P t tx s x h) := Eq.trans rfl rfl
@[simp] theorem bi_copy (t tx : TypeId) (d x : Value) : builtinA P .copy [t, tx] [d, x] h = rp (copyA P t d x h) := Eq.trans rfl rfl
@[simp] theorem bi_len (t : TypeId) (x : Value) : builtinA P .len [t] [x] h = rv h (lenA P t x h) := Eq.trans rfl rfl
@[simp] theorem bi_clear (t : TypeId) (x : Value) : builtinA P .clear [t] [x] h = ru (clearA P t x h) := Eq.trans rfl rfl
@[simp] theorem bi_cap (t : TypeId) (x : Value) : builtinA P .cap [t] [x] h = rv h (capA P t x) := Eq.trans rfl rfl
@[simp] theorem bi_delete (t tk : TypeId) (m k : Value) : builtinA P .delete [t, tk] [m, k] h = ru (deleteA P t m k h) := Eq.trans rfl rfl
@[simp] theorem bi_max (ts : List TypeId) (xs : List Value) : builtinA P .max ts xs h = rv h (mmA true xs) := by unfold builtinA; split <;> simp_all
@[simp] theorem bi_min (ts : List TypeId) (xs : List Value) : builtinA P .min ts xs h = rv h (mmA false xs) := by unfold builtinA; split <;> simp_all

@[simp] theorem nilCheck_ptr (a : Addr) : nilCheckA (.pointer (some a)) = some (.pointer (some a)) := Eq.trans rfl rfl
@[simp] theorem nilCheck_func (f : Nat) (a c : Array Value) : nilCheckA (.func (.func f) a c) = some (.func (.func f) a c) := Eq.trans rfl rfl
@[simp] theorem nilCheck_yield (f : Nat) (a c : Array Value) : nilCheckA (.func (.yield f) a c) = some (.func (.yield f) a c) := Eq.trans rfl rfl
@[simp] theorem nilCheck_iface (t : TypeId) (v : Value) : nilCheckA (.iface t v) = some (.iface t v) := Eq.trans rfl rfl
@[simp] theorem extract_tup (vs : Array Value) (i : Nat) : extractA (.tuple vs) i = vs[i]? := Eq.trans rfl rfl
@[simp] theorem pick_bool (t : Bool) (a b : Value) : pickA (.bool t) a b = some (if t then a else b) := Eq.trans rfl rfl
@[simp] theorem cellsOf_bool (b : Bool) : cellsOf (.bool b) = some [.bool b] := Eq.trans rfl rfl
@[simp] theorem cellsOf_int (k : IntKind) (i : Int) : cellsOf (.int k i) = some [.int k i] := Eq.trans rfl rfl
@[simp] theorem cellsOf_string (s : ByteArray) : cellsOf (.string s) = some [.string s] := Eq.trans rfl rfl
@[simp] theorem cellsOf_ptr (a : Option Addr) : cellsOf (.pointer a) = some [.pointer a] := Eq.trans rfl rfl
@[simp] theorem cellsOf_slice (a : Option Addr) (i c : Nat) : cellsOf (.slice a i c) = some [.slice a i c] := Eq.trans rfl rfl
@[simp] theorem cellsOf_map (m : Option Nat) : cellsOf (.map m) = some [.map m] := Eq.trans rfl rfl
@[simp] theorem cellsOf_func (f : Fn) (a c : Array Value) : cellsOf (.func f a c) = some [.func f a c] := Eq.trans rfl rfl
@[simp] theorem cellsOf_nilFunc : cellsOf .nilFunc = some [.nilFunc] := Eq.trans rfl rfl
@[simp] theorem cellsOf_nilIface : cellsOf .nilIface = some [.nilIface] := Eq.trans rfl rfl
@[simp] theorem cellsOf_iface (t : TypeId) (v : Value) : cellsOf (.iface t v) = some [.iface t v] := Eq.trans rfl rfl
@[simp] theorem cellsOf_agg (cs : Array Value) : cellsOf (.agg cs) = some cs.toList := Eq.trans rfl rfl
@[simp] theorem oneA_bool (b : Bool) : oneA (.bool b) = true := Eq.trans rfl rfl
@[simp] theorem oneA_int (k : IntKind) (i : Int) : oneA (.int k i) = true := Eq.trans rfl rfl
@[simp] theorem oneA_string (s : ByteArray) : oneA (.string s) = true := Eq.trans rfl rfl
@[simp] theorem oneA_ptr (a : Option Addr) : oneA (.pointer a) = true := Eq.trans rfl rfl
@[simp] theorem oneA_slice (a : Option Addr) (i c : Nat) : oneA (.slice a i c) = true := Eq.trans rfl rfl
@[simp] theorem oneA_map (m : Option Nat) : oneA (.map m) = true := Eq.trans rfl rfl
@[simp] theorem oneA_func (f : Fn) (a c : Array Value) : oneA (.func f a c) = true := Eq.trans rfl rfl
@[simp] theorem oneA_nilFunc : oneA .nilFunc = true := Eq.trans rfl rfl
@[simp] theorem oneA_nilIface : oneA .nilIface = true := Eq.trans rfl rfl
@[simp] theorem oneA_iface (t : TypeId) (v : Value) : oneA (.iface t v) = true := Eq.trans rfl rfl
@[simp] theorem box_of {x : Value} {cs : List Value} (hx : cellsOf x = some cs) : boxA x h = some (.pointer (some ⟨h.length, 0, none⟩), h ++ [.cells cs false none]) := by simp [boxA, hx]
@[simp] theorem alloc_of {t : TypeId} {cs : List Value} (hz : zeroT P t = some cs) : allocA P t h = some (.pointer (some ⟨h.length, 0, none⟩), h ++ [.cells cs false none]) := by simp [allocA, hz]
@[simp] theorem load_ptr (t : TypeId) (b o : Nat) : loadA P t (.pointer (some ⟨b, o, none⟩)) h = (match h[b]? with
    | some (.cells cs _ _) =>
      match aggT P t with
      | some false => cs[o]?
      | some true =>
        match sizeT P t with
        | some n => if o + n ≤ cs.length then some (.agg ((cs.drop o).take n).toArray) else none
        | none => none
      | none => none
    | _ => none) := Eq.trans rfl rfl
@[simp] theorem store_ptr (t : TypeId) (b o : Nat) (x : Value) : storeA P t (.pointer (some ⟨b, o, none⟩)) x h = (match h[b]? with
    | some (.cells cs false op) =>
      match cellsOf x with
      | some xs => if sizeT P t = some xs.length ∧ o + xs.length ≤ cs.length ∧ xs.all oneA = true then some (h.set b (.cells (spl cs o xs) false op)) else none
      | none => none
    | _ => none) := Eq.trans rfl rfl
@[simp] theorem spl_nil (cs : List Value) (o : Nat) : spl cs o [] = cs := Eq.trans rfl rfl
@[simp] theorem spl_cons (cs : List Value) (o : Nat) (x : Value) (xs : List Value) : spl cs o (x :: xs) = spl (cs.set o x) (o + 1) xs := Eq.trans rfl rfl

/-! blocks: 'h' is what there was, behind it what was made since -/
@[simp] theorem hp_len (h : Hp) : (h ++ [] : List Blk) = h := List.append_nil h
@[simp] theorem hp_get0 (h t : Hp) : (h ++ t)[h.length]? = t[0]? := by rw [List.getElem?_append_right (Nat.le_refl _), Nat.sub_self]
@[simp] theorem hp_get (h t : Hp) (k : Nat) : (h ++ t)[h.length + k]? = t[k]? := by rw [List.getElem?_append_right (Nat.le_add_right _ _), Nat.add_sub_cancel_left]
@[simp] theorem hp_set0 (h t : Hp) (B : Blk) : (h ++ t).set h.length B = h ++ t.set 0 B := by rw [List.set_append_right _ _ (Nat.le_refl _), Nat.sub_self]
@[simp] theorem hp_set (h t : Hp) (k : Nat) (B : Blk) : (h ++ t).set (h.length + k) B = h ++ t.set k B := by rw [List.set_append_right _ _ (Nat.le_add_right _ _), Nat.add_sub_cancel_left]
theorem hp_old {h t : Hp} {b : Nat} {B : Blk} (hB : h[b]? = some B) : (h ++ t)[b]? = some B := by
  have : b < h.length := by
    rcases Nat.lt_or_ge b h.length with h' | h'
    · exact h'
    · rw [List.getElem?_eq_none h'] at hB; simp at hB
  rw [List.getElem?_append_left this]; exact hB
theorem hp_lt {h : Hp} {b : Nat} {B : Blk} (hB : h[b]? = some B) : b < h.length := by
  rcases Nat.lt_or_ge b h.length with h' | h'
  · exact h'
  · rw [List.getElem?_eq_none h'] at hB; simp at hB

/-! numbers and texts -/
section
variable (t : TypeId) (x y : Operand) (k : IntKind) (a b : Int)
@[simp] theorem bin_add : binA P .add t x y (.int k a) (.int k b) = some (.int k (k.wrap (a + b))) := by simp [binA, intA]
@[simp] theorem bin_sub : binA P .sub t x y (.int k a) (.int k b) = some (.int k (k.wrap (a - b))) := by simp [binA, intA]
@[simp] theorem bin_mul : binA P .mul t x y (.int k a) (.int k b) = some (.int k (k.wrap (a * b))) := by simp [binA, intA]
@[simp] theorem bin_quo : binA P .quo t x y (.int k a) (.int k b) = if b = 0 then none else some (.int k (k.wrap (a.tdiv b))) := by simp [binA, intA]
@[simp] theorem bin_rem : binA P .rem t x y (.int k a) (.int k b) = if b = 0 then none else some (.int k (a.tmod b)) := by simp [binA, intA]
theorem bin_and : binA P .and t x y (.int k a) (.int k b) = some (.int k (k.wrap (BitVec.ofInt k.bits a &&& BitVec.ofInt k.bits b).toNat)) := by simp only [binA, intA, if_true]
theorem bin_or : binA P .or t x y (.int k a) (.int k b) = some (.int k (k.wrap (BitVec.ofInt k.bits a ||| BitVec.ofInt k.bits b).toNat)) := by simp only [binA, intA, if_true]
theorem bin_xor : binA P .xor t x y (.int k a) (.int k b) = some (.int k (k.wrap (BitVec.ofInt k.bits a ^^^ BitVec.ofInt k.bits b).toNat)) := by simp only [binA, intA, if_true]
theorem bin_andNot : binA P .andNot t x y (.int k a) (.int k b) = some (.int k (k.wrap (BitVec.ofInt k.bits a &&& ~~~BitVec.ofInt k.bits b).toNat)) := by simp only [binA, intA, if_true]
@[simp] theorem bin_eql : binA P .eql t x y (.int k a) (.int k b) = some (.bool (a == b)) := by simp [binA, intA]
@[simp] theorem bin_neq : binA P .neq t x y (.int k a) (.int k b) = some (.bool (a != b)) := by simp [binA, intA]
@[simp] theorem bin_lss : binA P .lss t x y (.int k a) (.int k b) = some (.bool (decide (a < b))) := by simp [binA, intA]
@[simp] theorem bin_leq : binA P .leq t x y (.int k a) (.int k b) = some (.bool (decide (a ≤ b))) := by simp [binA, intA]
@[simp] theorem bin_gtr : binA P .gtr t x y (.int k a) (.int k b) = some (.bool (decide (b < a))) := by simp [binA, intA]
@[simp] theorem bin_geq : binA P .geq t x y (.int k a) (.int k b) = some (.bool (decide (b ≤ a))) := by simp [binA, intA]
@[simp] theorem bin_shl (k' : IntKind) : binA P .shl t x y (.int k a) (.int k' b) = if b < 0 then none else some (.int k (k.wrap (a * 2 ^ (min b.toNat k.bits)))) := Eq.trans rfl rfl
@[simp] theorem bin_shr (k' : IntKind) : binA P .shr t x y (.int k a) (.int k' b) = if b < 0 then none else some (.int k (a / (2 ^ (min b.toNat k.bits)))) := by
  simp only [binA]
  rw [Int.fdiv_eq_ediv_of_nonneg]
  exact Int.pow_nonneg (by decide)
variable (s u : ByteArray)
@[simp] theorem bin_sadd : binA P .add t x y (.string s) (.string u) = if s.size + u.size ≤ 9223372036854775807 then some (.string (s ++ u)) else none := Eq.trans rfl rfl
theorem bytes_beq_list (s u : ByteArray) : (s.toList == u.toList) = decide (s = u) := by
  rw [← beq_toListBytes, Bool.eq_iff_iff, bytes_beq, decide_eq_true_eq]
@[simp] theorem bin_seql : binA P .eql t x y (.string s) (.string u) = some (.bool (decide (s = u))) := by simp [binA, strA, bytes_beq_list]
@[simp] theorem bin_sneq : binA P .neq t x y (.string s) (.string u) = some (.bool (!decide (s = u))) := by simp [binA, strA, bytes_beq_list]
@[simp] theorem bin_slss : binA P .lss t x y (.string s) (.string u) = some (.bool (Op.bytesLess s.toList u.toList)) := Eq.trans rfl rfl
@[simp] theorem bin_sleq : binA P .leq t x y (.string s) (.string u) = some (.bool (Op.bytesLess s.toList u.toList || decide (s = u))) := by simp [binA, strA, bytes_beq_list]
@[simp] theorem bin_sgtr : binA P .gtr t x y (.string s) (.string u) = some (.bool (!(Op.bytesLess s.toList u.toList || decide (s = u)))) := by simp [binA, strA, bytes_beq_list]
@[simp] theorem bin_sgeq : binA P .geq t x y (.string s) (.string u) = some (.bool (!(Op.bytesLess s.toList u.toList))) := Eq.trans rfl rfl
@[simp] theorem un_not (b : Bool) : unA .not (.bool b) = some (.bool (!b)) := Eq.trans rfl rfl
@[simp] theorem un_neg (k : IntKind) (a : Int) : unA .neg (.int k a) = some (.int k (k.wrap (0 - a))) := Eq.trans rfl rfl
end

/-! == of other values -/
section
variable (d : Nat) (t : TypeId)
@[simp] theorem eq_bool (a b : Bool) : eqA P (d + 1) t (.bool a) (.bool b) = (match P.underlying t with | some .bool => some (a == b) | _ => none) := by
  simp only [eqA]; generalize P.underlying t = u; cases u with | none => rfl | some u => cases u <;> first | rfl | simp [bytes_beq_list]
@[simp] theorem eq_int (k : IntKind) (a b : Int) : eqA P (d + 1) t (.int k a) (.int k b) = (match P.underlying t with | some (.int _) => some (a == b) | _ => none) := by
  simp only [eqA]; generalize P.underlying t = u; cases u with | none => rfl | some u => cases u <;> first | rfl | simp [bytes_beq_list]
@[simp] theorem eq_string (a b : ByteArray) : eqA P (d + 1) t (.string a) (.string b) = (match P.underlying t with | some .string => some (decide (a = b)) | _ => none) := by
  simp only [eqA]; generalize P.underlying t = u; cases u with | none => rfl | some u => cases u <;> first | rfl | simp [bytes_beq_list]
@[simp] theorem eq_ptr0 (a : Option Addr) : eqA P (d + 1) t (.pointer none) (.pointer a) = (match P.underlying t with | some (.pointer _) => some a.isNone | _ => none) := by
  simp only [eqA]; generalize P.underlying t = u; cases u with | none => rfl | some u => cases u <;> first | rfl | simp [bytes_beq_list]
@[simp] theorem eq_ptr1 (a : Addr) : eqA P (d + 1) t (.pointer (some a)) (.pointer none) = (match P.underlying t with | some (.pointer _) => some false | _ => none) := by
  simp only [eqA]; generalize P.underlying t = u; cases u with | none => rfl | some u => cases u <;> first | rfl | simp [bytes_beq_list]
@[simp] theorem eq_slice0 (a : Option Addr) (i c i' c' : Nat) : eqA P (d + 1) t (.slice none i c) (.slice a i' c') = (match P.underlying t with | some (.slice _) => some a.isNone | _ => none) := by
  simp only [eqA]; generalize P.underlying t = u; cases u with | none => rfl | some u => cases u <;> first | rfl | simp [bytes_beq_list]
@[simp] theorem eq_slice1 (a : Addr) (i c i' c' : Nat) : eqA P (d + 1) t (.slice (some a) i c) (.slice none i' c') = (match P.underlying t with | some (.slice _) => some false | _ => none) := by
  simp only [eqA]; generalize P.underlying t = u; cases u with | none => rfl | some u => cases u <;> first | rfl | simp [bytes_beq_list]
@[simp] theorem eq_map0 (a : Option Nat) : eqA P (d + 1) t (.map none) (.map a) = (match P.underlying t with | some (.map _ _) => some a.isNone | _ => none) := by
  simp only [eqA]; generalize P.underlying t = u; cases u with | none => rfl | some u => cases u <;> first | rfl | simp [bytes_beq_list]
@[simp] theorem eq_map1 (a : Nat) : eqA P (d + 1) t (.map (some a)) (.map none) = (match P.underlying t with | some (.map _ _) => some false | _ => none) := by
  simp only [eqA]; generalize P.underlying t = u; cases u with | none => rfl | some u => cases u <;> first | rfl | simp [bytes_beq_list]
@[simp] theorem eq_nil_nil : eqA P (d + 1) t .nilIface .nilIface = (match P.underlying t with | some (.interface _) => some true | _ => none) := by
  simp only [eqA]; generalize P.underlying t = u; cases u with | none => rfl | some u => cases u <;> first | rfl | simp [bytes_beq_list]
@[simp] theorem eq_nil_if (u : TypeId) (v : Value) : eqA P (d + 1) t .nilIface (.iface u v) = (match P.underlying t with | some (.interface _) => some false | _ => none) := by
  simp only [eqA]; generalize P.underlying t = u; cases u with | none => rfl | some u => cases u <;> first | rfl | simp [bytes_beq_list]
@[simp] theorem eq_if_nil (u : TypeId) (v : Value) : eqA P (d + 1) t (.iface u v) .nilIface = (match P.underlying t with | some (.interface _) => some false | _ => none) := by
  simp only [eqA]; generalize P.underlying t = u; cases u with | none => rfl | some u => cases u <;> first | rfl | simp [bytes_beq_list]
end

/-! statements -/
section
variable {Q : QA}
@[simp ↓] theorem Run_skip : Run P n .skip Q fr h = Q .normal fr h := Eq.trans rfl rfl
theorem Run_region (id : Nat) (ops : Array Oper) : Run P n (.region id ops false) Q fr h = runOps P n ops (fun fr h => Q .normal fr h) ops.toList fr h := rfl
theorem Run_seq (x y : Code) : Run P n (.seq x y) Q fr h = Run P n x (fun e fr h => match e with | .normal => Run P n y Q fr h | e => Q e fr h) fr h := rfl
theorem Run_cond (c : Operand) (x y : Code) : Run P n (.cond c x y) Q fr h = (match evalA fr c with | .bool b => (b = true → Run P n x Q fr h) ∧ (b = false → Run P n y Q fr h) | _ => False) := rfl
theorem Run_block (id : Nat) (c : Code) : Run P n (.block id c) Q fr h = Run P n c (fun e fr h => match e with | .exit id' => if id' = id then Q .normal fr h else Q (.exit id') fr h | e => Q e fr h) fr h := rfl
@[simp ↓] theorem Run_ret : Run P n .ret Q fr h = Q .ret fr h := Eq.trans rfl rfl
@[simp ↓] theorem Run_exit (id : Nat) : Run P n (.exit id) Q fr h = Q (.exit id) fr h := Eq.trans rfl rfl
theorem Run_loop (c : Code) : Run P n (.loop c) Q fr h = WpA P n (.loop c) Q fr h := rfl
@[simp ↓] theorem bodyQ_ret (rs : List ResultVar) (Q : Value → Hp → Prop) : bodyQ P rs Q .ret fr h = (match resultsA P fr h rs with | some vs => Q (tupA vs) h | none => False) := Eq.trans rfl rfl
@[simp ↓] theorem bodyQ_normal (rs : List ResultVar) (Q : Value → Hp → Prop) : bodyQ P rs Q .normal fr h = (match resultsA P fr h rs with | some vs => Q (tupA vs) h | none => False) := Eq.trans rfl rfl
@[simp ↓] theorem res_nil : resultsA P fr h [] = some [] := Eq.trans rfl rfl
@[simp ↓] theorem res_tmp (t : Nat) (rs : List ResultVar) : resultsA P fr h (.tmp t :: rs) = (match resultsA P fr h rs with | some vs => some (fr t :: vs) | none => none) := by
  simp only [resultsA, resA]; cases resultsA P fr h rs <;> rfl
@[simp ↓] theorem res_cell (a t : Nat) (rs : List ResultVar) : resultsA P fr h (.cell a t :: rs) = (match loadA P t (fr a) h, resultsA P fr h rs with | some v, some vs => some (v :: vs) | _, _ => none) := Eq.trans rfl rfl
@[simp] theorem tup_one (v : Value) : tupA [v] = v := Eq.trans rfl rfl
@[simp] theorem tup_none : tupA [] = .tuple #[] := Eq.trans rfl rfl
@[simp] theorem tup_two (v u : Value) (vs : List Value) : tupA (v :: u :: vs) = .tuple (v :: u :: vs).toArray := Eq.trans rfl rfl
@[simp ↓] theorem roundQ_normal (I : Nat → Fr → Hp → Prop) (k : Nat) : roundQ I k Q .normal fr h = ∃ m, m < k ∧ I m fr h := Eq.trans rfl rfl
@[simp ↓] theorem roundQ_ret (I : Nat → Fr → Hp → Prop) (k : Nat) : roundQ I k Q .ret fr h = Q .ret fr h := Eq.trans rfl rfl
@[simp ↓] theorem roundQ_exit (I : Nat → Fr → Hp → Prop) (k id : Nat) : roundQ I k Q (.exit id) fr h = Q (.exit id) fr h := Eq.trans rfl rfl
end
end
end Go.Ab
