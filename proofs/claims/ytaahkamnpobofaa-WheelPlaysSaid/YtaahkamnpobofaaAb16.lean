/- Words for walks, statements whose order is drawn, rows; no condition. -/
import Derived.Test.YtaahkamnpobofaaAb9
import Derived.Orders
/- Words for the walk over abstract values and blocks; no condition. -/
namespace Go.Ab
open Go.RowKit
section
variable {P : Program} {μ μ' : Emb} {h : Hp} {w : World} {n : Nat}

theorem VRel.down (hm : ∀ b e, μ b = some e → μ' b = some e) {v x : Value} (h1 : VRel μ v x) : ∀ {y : Value}, VRel μ' v y → VRel μ v y := by
  induction h1 with
  | any v => intro y _; exact .any y
  | sk => intro y h2; cases h2; exact .sk
  | bool b => intro y h2; cases h2; exact .bool b
  | int k n => intro y h2; cases h2; exact .int k n
  | string s => intro y h2; cases h2; exact .string s
  | ptr0 => intro y h2; cases h2; exact .ptr0
  | ptr o h =>
    intro y h2
    cases h2 with
    | ptr o h' => have := (hm _ _ h).symm.trans h'; simp at this; subst this; exact .ptr o h
  | sl0 => intro y h2; cases h2; exact .sl0
  | sl o n c h hc hn =>
    intro y h2
    cases h2 with
    | sl o n c h' hc hn => have := (hm _ _ h).symm.trans h'; simp at this; subst this; exact .sl o n c h hc hn
    | slO o n l c => omega
    | slE => omega
    | slZ o o' h' => have := (hm _ _ h).symm.trans h'; simp at this; subst this; exact .slZ o o' h
  | slO o n l c h hn hl hx =>
    intro y h2
    generalize hcc : capO + l = cc at h2
    cases h2 with
    | sl => omega
    | slO o n l' c' h' hn' hl' hx' =>
      have := (hm _ _ h).symm.trans h'; simp at this; subst this
      exact .slO o n l' c' h hn' hl' hx'
    | slE o o' h' => have := (hm _ _ h).symm.trans h'; simp at this; subst this; exact .slE o o' h
    | slZ => simp [capO] at hcc
  | slE o o' h =>
    intro y h2
    generalize hcc : capO = cc at h2
    cases h2 with
    | sl => omega
    | slO o n l' c' h' hn' hl' hx' =>
      have := (hm _ _ h).symm.trans h'; simp at this; subst this
      exact .slO o 0 l' c' h hn' hl' hx'
    | slE o o' h' => have := (hm _ _ h).symm.trans h'; simp at this; subst this; exact .slE o o' h
    | slZ => simp [capO] at hcc
  | slZ o o' h =>
    intro y h2
    generalize hcc : 0 = cc at h2
    cases h2 with
    | sl o n c h' hc hn => have := (hm _ _ h).symm.trans h'; simp at this; subst this; exact .sl o _ _ h hc hn
    | slO o n l' c' h' hn' hl' hx' => simp [capO] at hcc; omega
    | slZ o o' h' => have := (hm _ _ h).symm.trans h'; simp at this; subst this; exact .slZ o o' h
  | slD a => intro y h2; cases h2; exact .slD _
  | map0 => intro y h2; cases h2; exact .map0
  | map h =>
    intro y h2
    cases h2 with
    | map h' => have := (hm _ _ h).symm.trans h'; simp at this; subst this; exact .map h
  | func h1 h2 _ _ i3 i4 =>
    intro y h2
    cases h2 with
    | func g1 g2 g3 g4 =>
      rename_i xs ys xs1 ys1 _ _ xs2 ys2
      refine .func g1 g2 (fun i a b ha hb => ?_) (fun i a b ha hb => ?_)
      · have hi : i < xs1.size := by
          rw [← h1]
          rcases Nat.lt_or_ge i xs.size with h' | h'
          · exact h'
          · rw [Array.getElem?_eq_none h'] at ha; simp at ha
        exact i3 i a _ ha (Array.getElem?_eq_getElem hi) (g3 i a b ha hb)
      · have hi : i < ys1.size := by
          rw [← ‹ys.size = ys1.size›]
          rcases Nat.lt_or_ge i ys.size with h' | h'
          · exact h'
          · rw [Array.getElem?_eq_none h'] at ha; simp at ha
        exact i4 i a _ ha (Array.getElem?_eq_getElem hi) (g4 i a b ha hb)
  | yield h =>
    intro y h2
    cases h2 with
    | yield h' => have := (hm _ _ h).symm.trans h'; simp at this; subst this; exact .yield h
  | nilFunc => intro y h2; cases h2; exact .nilFunc
  | nilIface => intro y h2; cases h2; exact .nilIface
  | iface t _ ih => intro y h2; cases h2 with | iface t h' => exact .iface t (ih h')
  | agg h1 _ ih =>
    intro y h2
    rename_i xs xs1 _
    cases h2 with
    | agg g1 g3 =>
      refine .agg g1 (fun i a b ha hb => ?_)
      have hi : i < xs1.size := by
        rw [← h1]
        rcases Nat.lt_or_ge i xs.size with h' | h'
        · exact h'
        · rw [Array.getElem?_eq_none h'] at ha; simp at ha
      exact ih i a _ ha (Array.getElem?_eq_getElem hi) (g3 i a b ha hb)
  | tup h1 _ ih =>
    intro y h2
    rename_i xs xs1 _
    cases h2 with
    | any => exact .any _
    | tup g1 g3 =>
      refine .tup g1 (fun i a b ha hb => ?_)
      have hi : i < xs1.size := by
        rw [← h1]
        rcases Nat.lt_or_ge i xs.size with h' | h'
        · exact h'
        · rw [Array.getElem?_eq_none h'] at ha; simp at ha
      exact ih i a _ ha (Array.getElem?_eq_getElem hi) (g3 i a b ha hb)

theorem ORel.down {e : Place} {B : Blk} {w' : World} (hm : ∀ b e, μ b = some e → μ' b = some e) (h1 : ORel μ e B w) (h2 : ORel μ' e B w') : ORel μ e B w' := by
  cases B with
  | dead => trivial
  | cells cs ro op =>
    obtain ⟨a1, a2, a3, a4, a5⟩ := h1
    obtain ⟨b1, b2, b3, b4, b5⟩ := h2
    refine ⟨b1, b2, b3, fun o v hv => ?_, b5⟩
    obtain ⟨x, x1, x2⟩ := a4 o v hv
    obtain ⟨y, y1, y2⟩ := b4 o v hv
    exact ⟨y, y1, x2.down hm y2⟩
  | map es =>
    obtain ⟨a1, l, c, a2, a3⟩ := h1
    obtain ⟨b1, l', c', b2, b3⟩ := h2
    refine ⟨b1, l', c', b2, b3.len, fun i x e hx he => ?_, b3.born, b3.once⟩
    have hi : i < l.toList.length := by
      rw [← a3.len]
      rcases Nat.lt_or_ge i es.length with h' | h'
      · exact h'
      · rw [List.getElem?_eq_none h'] at hx; simp at hx
    have q1 := a3.each i x _ hx (List.getElem?_eq_getElem hi)
    have q2 := b3.each i x e hx he
    exact ⟨q1.1.down hm q2.1, q1.2.down hm q2.2⟩
  | siter s pos => exact h2
  | loop L =>
    obtain ⟨a1, r, a2, a3, a4, a5, a6, a7, a8, a9⟩ := h1
    obtain ⟨b1, q, b2, b3, b4, b5, b6, b7, b8, b9⟩ := h2
    exact ⟨b1, q, b2, b3, b4, b5, b6, b7, b8, fun i => (a9 i).down hm (b9 i)⟩

/-- a value that names no block -/
def flat : Value → Bool
  | .tuple vs => vs.toList.all ground
  | .iface _ v => ground v
  | v => ground v
theorem ground_down {v y : Value} (hg : ground v = true) (h2 : VRel μ' v y) : VRel μ v y := by
  unfold ground at hg
  split at hg <;> first | (simp at hg; done) | (cases h2; constructor)
theorem flat_down {v y : Value} (hg : flat v = true) (h2 : VRel μ' v y) : VRel μ v y := by
  unfold flat at hg
  split at hg
  · rename_i vs
    cases h2 with
    | any => exact .any _
    | tup g1 g3 =>
      refine .tup g1 (fun i a b ha hb => ground_down ?_ (g3 i a b ha hb))
      have := List.all_eq_true.1 hg a
      exact this (Array.mem_toList_iff.2 (Array.mem_of_getElem? ha))
  · cases h2 with
    | iface _ h => exact .iface _ (ground_down hg h)
  · exact ground_down hg h2

/-- what was made on the way, and is not told, is forgotten -/
theorem EvA.forget {f : FuncId} {args : List Value} {Q : Value → Prop} (he : EvA P f args (fun r h' => (∃ t, h' = h ++ t) ∧ flat r = true ∧ Q r) h) : EvA P f args (fun r h' => h' = h ∧ Q r) h := by
  refine ⟨he.1, fun μ w vs hr hv => (he.2 μ w vs hr hv).mono ?_⟩
  rintro e w' ⟨μ', h', r, v, rfl, s, hrv, ⟨t, rfl⟩, hfl, hq⟩
  have hup := s.up hr
  have hget : ∀ (b : Nat) (B : Blk), h[b]? = some B → (h ++ t)[b]? = some B := by
    intro b B hB
    have : b < h.length := by
      rcases Nat.lt_or_ge b h.length with h' | h'
      · exact h'
      · rw [List.getElem?_eq_none h'] at hB; simp at hB
    rw [List.getElem?_append_left this]; exact hB
  refine ⟨μ, h, r, v, rfl, ⟨fun _ _ => rfl, Nat.le_refl _, ⟨?_, ?_, ?_⟩, s.keeps, ?_⟩, flat_down hfl hrv, rfl, hq⟩
  · intro b e hb
    exact ⟨(hr.dom b e hb).1, (s.rel.dom b e (hup b e hb)).2⟩
  · intro b e B hb hB
    exact (hr.obj b e B hb hB).down hup (s.rel.obj b e B (hup b e hb) (hget b B hB))
  · intro b c e f B C hbc hb hc hB hC h1 h2
    exact s.rel.sep b c e f B C hbc (hup b e hb) (hup c f hc) (hget b B hB) (hget c C hC) h1 h2
  · rintro k ⟨b, e, B, hb, hB, h1, rfl⟩
    exact .inl ⟨b, e, B, hb, hB, h1, rfl⟩
end
end Go.Ab

/- Words for the walk over abstract values and blocks: each operation, at values whose form is seen; no condition. -/
namespace Go.Ab
open Go.RowKit
section
variable {P : Program} {h : Hp} {n : Nat} {fr : Fr} {ρ : Operand → Value}

@[simp ↓] theorem evalA_tmp (t : Tmp) : evalA fr (.tmp t) = fr t := Eq.trans rfl rfl
@[simp] theorem evalA_func (f : Nat) : evalA fr (.func f) = .func (.func f) #[] #[] := Eq.trans rfl rfl
@[simp] theorem evalA_bool (b : Bool) : evalA fr (.const (.bool b)) = .bool b := Eq.trans rfl rfl
@[simp] theorem evalA_int (k : IntKind) (i : Int) : evalA fr (.const (.int k i)) = .int k i := Eq.trans rfl rfl
@[simp] theorem evalA_string (s : ByteArray) : evalA fr (.const (.string s)) = .string s := Eq.trans rfl rfl
@[simp] theorem evalA_ptr : evalA fr (.const (.pointer none)) = .pointer none := Eq.trans rfl rfl
@[simp] theorem evalA_slice : evalA fr (.const (.slice none 0 0)) = .slice none 0 0 := Eq.trans rfl rfl
@[simp] theorem evalA_map : evalA fr (.const (.map none)) = .map none := Eq.trans rfl rfl
@[simp] theorem evalA_nilFunc : evalA fr (.const .nilFunc) = .nilFunc := Eq.trans rfl rfl
@[simp] theorem evalA_nilIface : evalA fr (.const .nilIface) = .nilIface := Eq.trans rfl rfl
@[simp ↓] theorem putF_none (v : Value) : putF n fr none v = fr := Eq.trans rfl rfl
@[simp ↓] theorem putF_some (d i : Nat) (v : Value) : putF n fr (some d) v i = if i = d then (if d < n then v else any) else fr i := Eq.trans rfl rfl
@[simp] theorem rv_some (v : Value) : rv h (some v) = some (.val v h) := Eq.trans rfl rfl
@[simp] theorem rp_some (v : Value) : rp (some (v, h)) = some (.val v h) := Eq.trans rfl rfl
@[simp] theorem ru_some : ru (some h) = some (.val any h) := Eq.trans rfl rfl
@[simp ↓] theorem wantA_none (ops : Array Oper) (d op ty pos aft) : wantA ops ⟨d, op, ty, pos, aft, none⟩ fr = some true := Eq.trans rfl rfl

@[simp ↓] theorem opA_move (x : Operand) : opA P ρ (.move x) h = some (.val (ρ x) h) := Eq.trans rfl rfl
@[simp ↓] theorem opA_assign (x : Operand) : opA P ρ (.assign x) h = some (.val (ρ x) h) := Eq.trans rfl rfl
@[simp ↓] theorem opA_pick (c a b : Operand) : opA P ρ (.pick c a b) h = rv h (pickA (ρ c) (ρ a) (ρ b)) := Eq.trans rfl rfl
@[simp ↓] theorem opA_alloc (t : TypeId) : opA P ρ (.alloc t) h = rp (allocA P t h) := Eq.trans rfl rfl
@[simp ↓] theorem opA_box (t : TypeId) (x : Operand) : opA P ρ (.box t x) h = rp (boxA (ρ x) h) := Eq.trans rfl rfl
@[simp ↓] theorem opA_build (t : TypeId) (ps : Array (Nat × Operand)) : opA P ρ (.build t ps) h = rv h (buildA P t (ps.toList.map fun p => (p.1, ρ p.2))) := Eq.trans rfl rfl
@[simp ↓] theorem opA_buildSlice (t : TypeId) (k : Nat) (ps : Array (Nat × Operand)) : opA P ρ (.buildSlice t k ps) h = rp (buildSliceA P t k (ps.toList.map fun p => (p.1, ρ p.2)) h) := Eq.trans rfl rfl
@[simp ↓] theorem opA_load (t : TypeId) (a : Operand) : opA P ρ (.load t a) h = rv h (loadA P t (ρ a) h) := Eq.trans rfl rfl
@[simp ↓] theorem opA_store (t : TypeId) (a x : Operand) : opA P ρ (.store t a x) h = ru (storeA P t (ρ a) (ρ x) h) := Eq.trans rfl rfl
@[simp ↓] theorem opA_nilCheck (x : Operand) : opA P ρ (.nilCheck x) h = rv h (nilCheckA (ρ x)) := Eq.trans rfl rfl
@[simp ↓] theorem opA_binOp (op : BinOp) (t : TypeId) (x y : Operand) (u : TypeId) : opA P ρ (.binOp op t x y u) h = rv h (binA P op t x y (ρ x) (ρ y)) := Eq.trans rfl rfl
@[simp ↓] theorem opA_unOp (op : UnOp) (t : TypeId) (x : Operand) : opA P ρ (.unOp op t x) h = rv h (unA op (ρ x)) := Eq.trans rfl rfl
@[simp ↓] theorem opA_convert (s d : TypeId) (x : Operand) : opA P ρ (.convert s d x) h = rp (convA P s d (ρ x) h) := Eq.trans rfl rfl
@[simp ↓] theorem opA_makeInterface (t : TypeId) (x : Operand) : opA P ρ (.makeInterface t x) h = rv h (ifaceA P t (ρ x)) := Eq.trans rfl rfl
@[simp ↓] theorem opA_makeFunc (f : Nat) (a c : Array Operand) : opA P ρ (.makeFunc (.func f) a c) h = some (.val (.func (.func f) (a.map ρ) (c.map ρ)) h) := Eq.trans rfl rfl
@[simp ↓] theorem opA_makeMap (t : TypeId) : opA P ρ (.makeMap t none) h = some (.val (.map (some h.length)) (h ++ [.map []])) := Eq.trans rfl rfl
@[simp ↓] theorem opA_makeSlice (t : TypeId) (l c : Operand) : opA P ρ (.makeSlice t l c) h = rp (makeSliceA P t (ρ l) (ρ c) h) := Eq.trans rfl rfl
@[simp ↓] theorem opA_slice (t : TypeId) (x : Operand) (lo hi mx : Option Operand) : opA P ρ (.slice t x lo hi mx) h = rv h (sliceA P t (ρ x) (lo.map ρ) (hi.map ρ) (mx.map ρ) h) := Eq.trans rfl rfl
@[simp ↓] theorem opA_fieldAddr (t : TypeId) (x : Operand) (f : Nat) : opA P ρ (.fieldAddr t x f) h = rv h (fieldAddrA P t (ρ x) f) := Eq.trans rfl rfl
@[simp ↓] theorem opA_field (t : TypeId) (x : Operand) (f : Nat) : opA P ρ (.field t x f) h = rv h (fieldA P t (ρ x) f) := Eq.trans rfl rfl
@[simp ↓] theorem opA_indexAddr (t : TypeId) (x i : Operand) : opA P ρ (.indexAddr t x i) h = rv h (indexAddrA P t (ρ x) (ρ i)) := Eq.trans rfl rfl
@[simp ↓] theorem opA_index (t : TypeId) (x i : Operand) : opA P ρ (.index t x i) h = rv h (indexA P t (ρ x) (ρ i)) := Eq.trans rfl rfl
@[simp ↓] theorem opA_lookup (t : TypeId) (m k : Operand) (ok : Bool) : opA P ρ (.lookup t m k ok) h = rv h (lookupA P t (ρ m) (ρ k) ok h) := Eq.trans rfl rfl
@[simp ↓] theorem opA_mapUpdate (t : TypeId) (m k x : Operand) : opA P ρ (.mapUpdate t m k x) h = ru (mapUpdateA P t (ρ m) (ρ k) (ρ x) h) := Eq.trans rfl rfl
@[simp ↓] theorem opA_insert (t : TypeId) (m k x : Operand) : opA P ρ (.insert t m k x) h = ru (mapUpdateA P t (ρ m) (ρ k) (ρ x) h) := Eq.trans rfl rfl
@[simp ↓] theorem opA_range (t : TypeId) (x : Operand) : opA P ρ (.range t x) h = rp (rangeA P t (ρ x) h) := Eq.trans rfl rfl
@[simp ↓] theorem opA_next (it : Operand) (s : Bool) : opA P ρ (.next it s) h = rp (nextA (ρ it) s h) := Eq.trans rfl rfl
@[simp ↓] theorem opA_extract (t : Operand) (i : Nat) : opA P ρ (.extract t i) h = rv h (extractA (ρ t) i) := Eq.trans rfl rfl
@[simp ↓] theorem opA_typeAssert (x : Operand) (u t : TypeId) (ok : Bool) : opA P ρ (.typeAssert x u t ok) h = rv h (typeAssertA P (ρ x) t ok) := Eq.trans rfl rfl
@[simp ↓] theorem opA_builtin (b : Builtin) (args : Array Operand) (ts : Array TypeId) : opA P ρ (.call ⟨.builtin b, args, ts⟩) h = builtinA P b ts.toList (args.toList.map ρ) h := Eq.trans rfl rfl
@[simp ↓] theorem opA_call (f : Operand) (args : Array Operand) (ts : Array TypeId) : opA P ρ (.call ⟨.value f, args, ts⟩) h =
    (match ρ f with | .func (.func g) first captured => some (.enter g (first.toList ++ args.toList.map ρ ++ captured.toList)) | .func (.yield b) _ _ => some (.round b (args.toList.map ρ)) | _ => none) := Eq.trans rfl rfl

@[simp] theorem bi_append (t tx : TypeId) (s x : Value) : builtinA P .append [t, tx] [s, x] h = rp (appendA P t tx s x h) := Eq.trans rfl rfl
@[simp] theorem bi_copy (t tx : TypeId) (d x : Value) : builtinA P .copy [t, tx] [d, x] h = rp (copyA P t d x h) := Eq.trans rfl rfl
@[simp] theorem bi_len (t : TypeId) (x : Value) : builtinA P .len [t] [x] h = rv h (lenA P t x h) := Eq.trans rfl rfl
@[simp] theorem bi_clear (t : TypeId) (x : Value) : builtinA P .clear [t] [x] h = ru (clearA P t x h) := Eq.trans rfl rfl
@[simp] theorem bi_cap (t : TypeId) (x : Value) : builtinA P .cap [t] [x] h = rv h (capA P t x) := Eq.trans rfl rfl
@[simp] theorem bi_delete (t tk : TypeId) (m k : Value) : builtinA P .delete [t, tk] [m, k] h = ru (deleteA P t m k h) := Eq.trans rfl rfl
@[simp] theorem bi_max (ts : List TypeId) (xs : List Value) : builtinA P .max ts xs h = rv h (mmA true xs) := by unfold builtinA; split <;> simp_all
@[simp] theorem bi_min (ts : List TypeId) (xs : List Value) : builtinA P .min ts xs h = rv h (mmA false xs) := by unfold builtinA; split <;> simp_all

@[simp] theorem nilCheck_ptr (a : Addr) : nilCheckA (.pointer (some a)) = some (.pointer (some a)) := Eq.trans rfl rfl
@[simp] theorem nilCheck_func (f : Nat) (a c : Array Value) : nilCheckA (.func (.func f) a c) = some (.func (.func f) a c) := Eq.trans rfl rfl
@[simp] theorem nilCheck_yield (f : Nat) (a c : Array Value) : nilCheckA (.func (.yield f) a c) = some (.func (.yield f) a c) := Eq.trans rfl rfl
@[simp] theorem nilCheck_iface (t : TypeId) (v : Value) : nilCheckA (.iface t v) = some (.iface t v) := Eq.trans rfl rfl
@[simp] theorem extract_tup (vs : Array Value) (i : Nat) : extractA (.tuple vs) i = vs[i]? := Eq.trans rfl rfl
@[simp] theorem pick_bool (t : Bool) (a b : Value) : pickA (.bool t) a b = some (if t then a else b) := Eq.trans rfl rfl
@[simp] theorem cellsOf_bool (b : Bool) : cellsOf (.bool b) = some [.bool b] := Eq.trans rfl rfl
@[simp] theorem cellsOf_int (k : IntKind) (i : Int) : cellsOf (.int k i) = some [.int k i] := Eq.trans rfl rfl
@[simp] theorem cellsOf_string (s : ByteArray) : cellsOf (.string s) = some [.string s] := Eq.trans rfl rfl
@[simp] theorem cellsOf_ptr (a : Option Addr) : cellsOf (.pointer a) = some [.pointer a] := Eq.trans rfl rfl
@[simp] theorem cellsOf_slice (a : Option Addr) (i c : Nat) : cellsOf (.slice a i c) = some [.slice a i c] := Eq.trans rfl rfl
@[simp] theorem cellsOf_map (m : Option Nat) : cellsOf (.map m) = some [.map m] := Eq.trans rfl rfl
@[simp] theorem cellsOf_func (f : Fn) (a c : Array Value) : cellsOf (.func f a c) = some [.func f a c] := Eq.trans rfl rfl
@[simp] theorem cellsOf_nilFunc : cellsOf .nilFunc = some [.nilFunc] := Eq.trans rfl rfl
@[simp] theorem cellsOf_nilIface : cellsOf .nilIface = some [.nilIface] := Eq.trans rfl rfl
@[simp] theorem cellsOf_iface (t : TypeId) (v : Value) : cellsOf (.iface t v) = some [.iface t v] := Eq.trans rfl rfl
@[simp] theorem cellsOf_agg (cs : Array Value) : cellsOf (.agg cs) = some cs.toList := Eq.trans rfl rfl
@[simp] theorem oneA_bool (b : Bool) : oneA (.bool b) = true := Eq.trans rfl rfl
@[simp] theorem oneA_int (k : IntKind) (i : Int) : oneA (.int k i) = true := Eq.trans rfl rfl
@[simp] theorem oneA_string (s : ByteArray) : oneA (.string s) = true := Eq.trans rfl rfl
@[simp] theorem oneA_ptr (a : Option Addr) : oneA (.pointer a) = true := Eq.trans rfl rfl
@[simp] theorem oneA_slice (a : Option Addr) (i c : Nat) : oneA (.slice a i c) = true := Eq.trans rfl rfl
@[simp] theorem oneA_map (m : Option Nat) : oneA (.map m) = true := Eq.trans rfl rfl
@[simp] theorem oneA_func (f : Fn) (a c : Array Value) : oneA (.func f a c) = true := Eq.trans rfl rfl
@[simp] theorem oneA_nilFunc : oneA .nilFunc = true := Eq.trans rfl rfl
@[simp] theorem oneA_nilIface : oneA .nilIface = true := Eq.trans rfl rfl
@[simp] theorem oneA_iface (t : TypeId) (v : Value) : oneA (.iface t v) = true := Eq.trans rfl rfl
@[simp] theorem box_of {x : Value} {cs : List Value} (hx : cellsOf x = some cs) : boxA x h = some (.pointer (some ⟨h.length, 0, none⟩), h ++ [.cells cs false none]) := by simp [boxA, hx]
@[simp] theorem alloc_of {t : TypeId} {cs : List Value} (hz : zeroT P t = some cs) : allocA P t h = some (.pointer (some ⟨h.length, 0, none⟩), h ++ [.cells cs false none]) := by simp [allocA, hz]
@[simp] theorem load_ptr (t : TypeId) (b o : Nat) : loadA P t (.pointer (some ⟨b, o, none⟩)) h = (match h[b]? with
    | some (.cells cs _ _) =>
      match aggT P t with
      | some false => cs[o]?
      | some true =>
        match sizeT P t with
        | some n => if o + n ≤ cs.length then some (.agg ((cs.drop o).take n).toArray) else none
        | none => none
      | none => none
    | _ => none) := Eq.trans rfl rfl
@[simp] theorem store_ptr (t : TypeId) (b o : Nat) (x : Value) : storeA P t (.pointer (some ⟨b, o, none⟩)) x h = (match h[b]? with
    | some (.cells cs false op) =>
      match cellsOf x with
      | some xs => if sizeT P t = some xs.length ∧ o + xs.length ≤ cs.length ∧ xs.all oneA = true then some (h.set b (.cells (spl cs o xs) false op)) else none
      | none => none
    | _ => none) := Eq.trans rfl rfl
@[simp] theorem spl_nil (cs : List Value) (o : Nat) : spl cs o [] = cs := Eq.trans rfl rfl
@[simp] theorem spl_cons (cs : List Value) (o : Nat) (x : Value) (xs : List Value) : spl cs o (x :: xs) = spl (cs.set o x) (o + 1) xs := Eq.trans rfl rfl

/-! blocks: 'h' is what there was, behind it what was made since -/
@[simp] theorem hp_len (h : Hp) : (h ++ [] : List Blk) = h := List.append_nil h
@[simp] theorem hp_get0 (h t : Hp) : (h ++ t)[h.length]? = t[0]? := by rw [List.getElem?_append_right (Nat.le_refl _), Nat.sub_self]
@[simp] theorem hp_get (h t : Hp) (k : Nat) : (h ++ t)[h.length + k]? = t[k]? := by rw [List.getElem?_append_right (Nat.le_add_right _ _), Nat.add_sub_cancel_left]
@[simp] theorem hp_set0 (h t : Hp) (B : Blk) : (h ++ t).set h.length B = h ++ t.set 0 B := by rw [List.set_append_right _ _ (Nat.le_refl _), Nat.sub_self]
@[simp] theorem hp_set (h t : Hp) (k : Nat) (B : Blk) : (h ++ t).set (h.length + k) B = h ++ t.set k B := by rw [List.set_append_right _ _ (Nat.le_add_right _ _), Nat.add_sub_cancel_left]
theorem hp_old {h t : Hp} {b : Nat} {B : Blk} (hB : h[b]? = some B) : (h ++ t)[b]? = some B := by
  have : b < h.length := by
    rcases Nat.lt_or_ge b h.length with h' | h'
    · exact h'
    · rw [List.getElem?_eq_none h'] at hB; simp at hB
  rw [List.getElem?_append_left this]; exact hB
theorem hp_lt {h : Hp} {b : Nat} {B : Blk} (hB : h[b]? = some B) : b < h.length := by
  rcases Nat.lt_or_ge b h.length with h' | h'
  · exact h'
  · rw [List.getElem?_eq_none h'] at hB; simp at hB

/-! numbers and texts -/
section
variable (t : TypeId) (x y : Operand) (k : IntKind) (a b : Int)
@[simp] theorem bin_add : binA P .add t x y (.int k a) (.int k b) = some (.int k (k.wrap (a + b))) := by simp [binA, intA]
@[simp] theorem bin_sub : binA P .sub t x y (.int k a) (.int k b) = some (.int k (k.wrap (a - b))) := by simp [binA, intA]
@[simp] theorem bin_mul : binA P .mul t x y (.int k a) (.int k b) = some (.int k (k.wrap (a * b))) := by simp [binA, intA]
@[simp] theorem bin_quo : binA P .quo t x y (.int k a) (.int k b) = if b = 0 then none else some (.int k (k.wrap (a.tdiv b))) := by simp [binA, intA]
@[simp] theorem bin_rem : binA P .rem t x y (.int k a) (.int k b) = if b = 0 then none else some (.int k (a.tmod b)) := by simp [binA, intA]
theorem bin_and : binA P .and t x y (.int k a) (.int k b) = some (.int k (k.wrap (BitVec.ofInt k.bits a &&& BitVec.ofInt k.bits b).toNat)) := by simp only [binA, intA, if_true]
theorem bin_or : binA P .or t x y (.int k a) (.int k b) = some (.int k (k.wrap (BitVec.ofInt k.bits a ||| BitVec.ofInt k.bits b).toNat)) := by simp only [binA, intA, if_true]
theorem bin_xor : binA P .xor t x y (.int k a) (.int k b) = some (.int k (k.wrap (BitVec.ofInt k.bits a ^^^ BitVec.ofInt k.bits b).toNat)) := by simp only [binA, intA, if_true]
theorem bin_andNot : binA P .andNot t x y (.int k a) (.int k b) = some (.int k (k.wrap (BitVec.ofInt k.bits a &&& ~~~BitVec.ofInt k.bits b).toNat)) := by simp only [binA, intA, if_true]
@[simp] theorem bin_eql : binA P .eql t x y (.int k a) (.int k b) = some (.bool (a == b)) := by simp [binA, intA]
@[simp] theorem bin_neq : binA P .neq t x y (.int k a) (.int k b) = some (.bool (a != b)) := by simp [binA, intA]
@[simp] theorem bin_lss : binA P .lss t x y (.int k a) (.int k b) = some (.bool (decide (a < b))) := by simp [binA, intA]
@[simp] theorem bin_leq : binA P .leq t x y (.int k a) (.int k b) = some (.bool (decide (a ≤ b))) := by simp [binA, intA]
@[simp] theorem bin_gtr : binA P .gtr t x y (.int k a) (.int k b) = some (.bool (decide (b < a))) := by simp [binA, intA]
@[simp] theorem bin_geq : binA P .geq t x y (.int k a) (.int k b) = some (.bool (decide (b ≤ a))) := by simp [binA, intA]
@[simp] theorem bin_shl (k' : IntKind) : binA P .shl t x y (.int k a) (.int k' b) = if b < 0 then none else some (.int k (k.wrap (a * 2 ^ (min b.toNat k.bits)))) := Eq.trans rfl rfl
@[simp] theorem bin_shr (k' : IntKind) : binA P .shr t x y (.int k a) (.int k' b) = if b < 0 then none else some (.int k (a / (2 ^ (min b.toNat k.bits)))) := by
  simp only [binA]
  rw [Int.fdiv_eq_ediv_of_nonneg]
  exact Int.pow_nonneg (by decide)
variable (s u : ByteArray)
@[simp] theorem bin_sadd : binA P .add t x y (.string s) (.string u) = if s.size + u.size ≤ 9223372036854775807 then some (.string (s ++ u)) else none := Eq.trans rfl rfl
theorem bytes_beq_list (s u : ByteArray) : (s.toList == u.toList) = decide (s = u) := by
  rw [← beq_toListBytes, Bool.eq_iff_iff, bytes_beq, decide_eq_true_eq]
@[simp] theorem bin_seql : binA P .eql t x y (.string s) (.string u) = some (.bool (decide (s = u))) := by simp [binA, strA, bytes_beq_list]
@[simp] theorem bin_sneq : binA P .neq t x y (.string s) (.string u) = some (.bool (!decide (s = u))) := by simp [binA, strA, bytes_beq_list]
@[simp] theorem bin_slss : binA P .lss t x y (.string s) (.string u) = some (.bool (Op.bytesLess s.toList u.toList)) := Eq.trans rfl rfl
@[simp] theorem bin_sleq : binA P .leq t x y (.string s) (.string u) = some (.bool (Op.bytesLess s.toList u.toList || decide (s = u))) := by simp [binA, strA, bytes_beq_list]
@[simp] theorem bin_sgtr : binA P .gtr t x y (.string s) (.string u) = some (.bool (!(Op.bytesLess s.toList u.toList || decide (s = u)))) := by simp [binA, strA, bytes_beq_list]
@[simp] theorem bin_sgeq : binA P .geq t x y (.string s) (.string u) = some (.bool (!(Op.bytesLess s.toList u.toList))) := Eq.trans rfl rfl
@[simp] theorem un_not (b : Bool) : unA .not (.bool b) = some (.bool (!b)) := Eq.trans rfl rfl
@[simp] theorem un_neg (k : IntKind) (a : Int) : unA .neg (.int k a) = some (.int k (k.wrap (0 - a))) := Eq.trans rfl rfl
end

/-! == of other values -/
section
variable (d : Nat) (t : TypeId)
@[simp] theorem eq_bool (a b : Bool) : eqA P (d + 1) t (.bool a) (.bool b) = (match P.underlying t with | some .bool => some (a == b) | _ => none) := by
  simp only [eqA]; generalize P.underlying t = u; cases u with | none => rfl | some u => cases u <;> first | rfl | simp [bytes_beq_list]
@[simp] theorem eq_int (k : IntKind) (a b : Int) : eqA P (d + 1) t (.int k a) (.int k b) = (match P.underlying t with | some (.int _) => some (a == b) | _ => none) := by
  simp only [eqA]; generalize P.underlying t = u; cases u with | none => rfl | some u => cases u <;> first | rfl | simp [bytes_beq_list]
@[simp] theorem eq_string (a b : ByteArray) : eqA P (d + 1) t (.string a) (.string b) = (match P.underlying t with | some .string => some (decide (a = b)) | _ => none) := by
  simp only [eqA]; generalize P.underlying t = u; cases u with | none => rfl | some u => cases u <;> first | rfl | simp [bytes_beq_list]
@[simp] theorem eq_ptr0 (a : Option Addr) : eqA P (d + 1) t (.pointer none) (.pointer a) = (match P.underlying t with | some (.pointer _) => some a.isNone | _ => none) := by
  simp only [eqA]; generalize P.underlying t = u; cases u with | none => rfl | some u => cases u <;> first | rfl | simp [bytes_beq_list]
@[simp] theorem eq_ptr1 (a : Addr) : eqA P (d + 1) t (.pointer (some a)) (.pointer none) = (match P.underlying t with | some (.pointer _) => some false | _ => none) := by
  simp only [eqA]; generalize P.underlying t = u; cases u with | none => rfl | some u => cases u <;> first | rfl | simp [bytes_beq_list]
@[simp] theorem eq_slice0 (a : Option Addr) (i c i' c' : Nat) : eqA P (d + 1) t (.slice none i c) (.slice a i' c') = (match P.underlying t with | some (.slice _) => some a.isNone | _ => none) := by
  simp only [eqA]; generalize P.underlying t = u; cases u with | none => rfl | some u => cases u <;> first | rfl | simp [bytes_beq_list]
@[simp] theorem eq_slice1 (a : Addr) (i c i' c' : Nat) : eqA P (d + 1) t (.slice (some a) i c) (.slice none i' c') = (match P.underlying t with | some (.slice _) => some false | _ => none) := by
  simp only [eqA]; generalize P.underlying t = u; cases u with | none => rfl | some u => cases u <;> first | rfl | simp [bytes_beq_list]
@[simp] theorem eq_map0 (a : Option Nat) : eqA P (d + 1) t (.map none) (.map a) = (match P.underlying t with | some (.map _ _) => some a.isNone | _ => none) := by
  simp only [eqA]; generalize P.underlying t = u; cases u with | none => rfl | some u => cases u <;> first | rfl | simp [bytes_beq_list]
@[simp] theorem eq_map1 (a : Nat) : eqA P (d + 1) t (.map (some a)) (.map none) = (match P.underlying t with | some (.map _ _) => some false | _ => none) := by
  simp only [eqA]; generalize P.underlying t = u; cases u with | none => rfl | some u => cases u <;> first | rfl | simp [bytes_beq_list]
@[simp] theorem eq_nil_nil : eqA P (d + 1) t .nilIface .nilIface = (match P.underlying t with | some (.interface _) => some true | _ => none) := by
  simp only [eqA]; generalize P.underlying t = u; cases u with | none => rfl | some u => cases u <;> first | rfl | simp [bytes_beq_list]
@[simp] theorem eq_nil_if (u : TypeId) (v : Value) : eqA P (d + 1) t .nilIface (.iface u v) = (match P.underlying t with | some (.interface _) => some false | _ => none) := by
  simp only [eqA]; generalize P.underlying t = u; cases u with | none => rfl | some u => cases u <;> first | rfl | simp [bytes_beq_list]
@[simp] theorem eq_if_nil (u : TypeId) (v : Value) : eqA P (d + 1) t (.iface u v) .nilIface = (match P.underlying t with | some (.interface _) => some false | _ => none) := by
  simp only [eqA]; generalize P.underlying t = u; cases u with | none => rfl | some u => cases u <;> first | rfl | simp [bytes_beq_list]
end

/-! statements -/
section
variable {Q : QA}
@[simp ↓] theorem Run_skip : Run P n .skip Q fr h = Q .normal fr h := Eq.trans rfl rfl
theorem Run_region (id : Nat) (ops : Array Oper) : Run P n (.region id ops false) Q fr h = runOps P n ops (fun fr h => Q .normal fr h) ops.toList fr h := rfl
theorem Run_seq (x y : Code) : Run P n (.seq x y) Q fr h = Run P n x (fun e fr h => match e with | .normal => Run P n y Q fr h | e => Q e fr h) fr h := rfl
theorem Run_cond (c : Operand) (x y : Code) : Run P n (.cond c x y) Q fr h = (match evalA fr c with | .bool b => (b = true → Run P n x Q fr h) ∧ (b = false → Run P n y Q fr h) | _ => False) := rfl
theorem Run_block (id : Nat) (c : Code) : Run P n (.block id c) Q fr h = Run P n c (fun e fr h => match e with | .exit id' => if id' = id then Q .normal fr h else Q (.exit id') fr h | e => Q e fr h) fr h := rfl
@[simp ↓] theorem Run_ret : Run P n .ret Q fr h = Q .ret fr h := Eq.trans rfl rfl
@[simp ↓] theorem Run_exit (id : Nat) : Run P n (.exit id) Q fr h = Q (.exit id) fr h := Eq.trans rfl rfl
theorem Run_loop (c : Code) : Run P n (.loop c) Q fr h = WpA P n (.loop c) Q fr h := rfl
@[simp ↓] theorem bodyQ_ret (rs : List ResultVar) (Q : Value → Hp → Prop) : bodyQ P rs Q .ret fr h = (match resultsA P fr h rs with | some vs => Q (tupA vs) h | none => False) := Eq.trans rfl rfl
@[simp ↓] theorem bodyQ_normal (rs : List ResultVar) (Q : Value → Hp → Prop) : bodyQ P rs Q .normal fr h = (match resultsA P fr h rs with | some vs => Q (tupA vs) h | none => False) := Eq.trans rfl rfl
@[simp ↓] theorem res_nil : resultsA P fr h [] = some [] := Eq.trans rfl rfl
@[simp ↓] theorem res_tmp (t : Nat) (rs : List ResultVar) : resultsA P fr h (.tmp t :: rs) = (match resultsA P fr h rs with | some vs => some (fr t :: vs) | none => none) := by
  simp only [resultsA, resA]; cases resultsA P fr h rs <;> rfl
@[simp ↓] theorem res_cell (a t : Nat) (rs : List ResultVar) : resultsA P fr h (.cell a t :: rs) = (match loadA P t (fr a) h, resultsA P fr h rs with | some v, some vs => some (v :: vs) | _, _ => none) := Eq.trans rfl rfl
@[simp] theorem tup_one (v : Value) : tupA [v] = v := Eq.trans rfl rfl
@[simp] theorem tup_none : tupA [] = .tuple #[] := Eq.trans rfl rfl
@[simp] theorem tup_two (v u : Value) (vs : List Value) : tupA (v :: u :: vs) = .tuple (v :: u :: vs).toArray := Eq.trans rfl rfl
@[simp ↓] theorem roundQ_normal (I : Nat → Fr → Hp → Prop) (k : Nat) : roundQ I k Q .normal fr h = ∃ m, m < k ∧ I m fr h := Eq.trans rfl rfl
@[simp ↓] theorem roundQ_ret (I : Nat → Fr → Hp → Prop) (k : Nat) : roundQ I k Q .ret fr h = Q .ret fr h := Eq.trans rfl rfl
@[simp ↓] theorem roundQ_exit (I : Nat → Fr → Hp → Prop) (k id : Nat) : roundQ I k Q (.exit id) fr h = Q (.exit id) fr h := Eq.trans rfl rfl
end
end
end Go.Ab

/- A statement whose operations may come in several orders, on abstract values and blocks, and that the model's does the same in each of them; no condition. -/
namespace Go.Ab
open Go.RowKit

/-- what an operation makes anew: the block, and the value by the block's number -/
def newA (P : Program) (ρ : Operand → Value) : Op → Option (Blk × (Nat → Value))
  | .alloc t => (zeroT P t).map fun cs => (.cells cs false none, fun i => .pointer (some ⟨i, 0, none⟩))
  | .box _ x => (cellsOf (ρ x)).map fun cs => (.cells cs false none, fun i => .pointer (some ⟨i, 0, none⟩))
  | .buildSlice t n parts =>
    match buildSliceA P t n (parts.toList.map fun p => (p.1, ρ p.2)) [] with
    | some (_, [B]) => some (B, fun i => .slice (some ⟨i, 0, none⟩) n n)
    | _ => none
  | .makeSlice t l c =>
    match makeSliceA P t (ρ l) (ρ c) [] with
    | some (.slice _ n m, [B]) => some (B, fun i => .slice (some ⟨i, 0, none⟩) n m)
    | _ => none
  | .makeMap _ none => some (.map [], fun i => .map (some i))
  | .convert s d x =>
    match P.underlying s, P.underlying d, ρ x with
    | some .string, some (.slice e), .string s =>
      match P.underlying e with
      | some (.int .u8) => if s.size < 4611686018427387904 then some (.cells (s.data.toList.map byteV) false (some 1), fun i => .slice (some ⟨i, 0, none⟩) s.size (capO + s.size)) else none
      | _ => none
    | _, _, _ => none
  | _ => none
section
variable {P : Program} {μ : Emb} {h : Hp} {w : World} {n : Nat}

theorem buildSliceA_heap {t : TypeId} {len : Nat} {parts : List (Nat × Value)} {v : Value} {B : Blk} (hA : buildSliceA P t len parts [] = some (v, [B])) (h : Hp) :
    buildSliceA P t len parts h = some (.slice (some ⟨h.length, 0, none⟩) len len, h ++ [B]) := by
  unfold buildSliceA at hA ⊢
  split at hA <;> try (simp at hA; done)
  rename_i e he
  try simp only [he]
  split at hA <;> try (simp at hA; done)
  rename_i sz z hs hz
  try simp only [hs, hz]
  split at hA <;> try (simp at hA; done)
  rename_i hc
  try rw [if_pos hc]
  split at hA <;> try (simp at hA; done)
  rename_i cs hcs
  simp at hA
  simp [hA.2]
theorem makeSliceA_heap {t : TypeId} {l c : Value} {a : Option Addr} {i j : Nat} {B : Blk} (hA : makeSliceA P t l c [] = some (.slice a i j, [B])) (h : Hp) :
    makeSliceA P t l c h = some (.slice (some ⟨h.length, 0, none⟩) i j, h ++ [B]) := by
  unfold makeSliceA at hA ⊢
  split at hA <;> try (simp at hA; done)
  rename_i e k1 l k2 c he
  try simp only [he]
  split at hA <;> try (simp at hA; done)
  rename_i sz by' zs z hs hz
  try simp only [hs, hz]
  split at hA <;> try (simp at hA; done)
  rename_i hc
  try rw [if_pos hc]
  simp at hA
  obtain ⟨⟨_, rfl, rfl⟩, rfl⟩ := hA
  rfl
theorem newA_op {ρ : Operand → Value} {o : Op} {B : Blk} {f : Nat → Value} (hA : newA P ρ o = some (B, f)) (h : Hp) : opA P ρ o h = some (.val (f h.length) (h ++ [B])) := by
  unfold newA at hA
  split at hA
  · obtain ⟨cs, hc, he⟩ := Option.map_eq_some_iff.1 hA
    simp at he
    obtain ⟨rfl, rfl⟩ := he
    simp [allocA, hc]
  · obtain ⟨cs, hc, he⟩ := Option.map_eq_some_iff.1 hA
    simp at he
    obtain ⟨rfl, rfl⟩ := he
    simp [boxA, hc]
  · split at hA
    · rename_i hb
      simp at hA
      obtain ⟨rfl, rfl⟩ := hA
      rw [opA_buildSlice, buildSliceA_heap hb h]
      rfl
    · simp at hA
  · split at hA
    · rename_i hb
      simp at hA
      obtain ⟨rfl, rfl⟩ := hA
      rw [opA_makeSlice, makeSliceA_heap hb h]
      rfl
    · simp at hA
  · simp at hA
    obtain ⟨rfl, rfl⟩ := hA
    rfl
  · split at hA
    · rename_i e s h1 h2 h3
      split at hA
      · rename_i he
        split at hA
        · rename_i hs
          simp at hA
          obtain ⟨rfl, rfl⟩ := hA
          simp [convA, h1, h2, h3, he, hs]
        · simp at hA
      · simp at hA
    · simp at hA
  · simp at hA

/-- each cell of the block stands for something -/
def GoodB (μ : Emb) : Blk → Prop
  | .cells cs _ _ => ∀ v ∈ cs, ∃ x, VRel μ v x
  | .map es => es = []
  | _ => False
theorem good_of_rel {cs : List Value} {vs : List Value} (hr : LRel μ cs vs) {ro : Bool} {op : Option Nat} : GoodB μ (.cells cs ro op) := by
  intro v hv
  obtain ⟨i, hi⟩ := List.mem_iff_getElem?.1 hv
  obtain ⟨y, _, hy⟩ := hr.get hi
  exact ⟨y, hy⟩
theorem gr_good (μ : Emb) (v : Value) : ∃ x, VRel μ (gr v) x := ⟨v, VRel.gr μ v⟩
theorem zeroT_good {t : TypeId} {cs : List Value} (hz : zeroT P t = some cs) : ∀ v ∈ cs, ∃ x, VRel μ v x := by
  obtain ⟨z, _, rfl⟩ := zeroT_run hz
  intro v hv
  obtain ⟨u, _, rfl⟩ := List.mem_map.1 hv
  exact gr_good μ u
theorem zeros_good {z : List Value} (hz : ∀ v ∈ z, ∃ x, VRel μ v x) (n : Nat) : ∀ v ∈ zeros z n, ∃ x, VRel μ v x := by
  induction n with
  | zero => intro v hv; simp [zeros] at hv
  | succ n ih =>
    intro v hv
    simp only [zeros, List.mem_append] at hv
    rcases hv with hv | hv
    · exact hz v hv
    · exact ih v hv
theorem spl_mem {xs : List Value} : ∀ {cs : List Value} {o : Nat} {v : Value}, v ∈ spl cs o xs → v ∈ cs ∨ v ∈ xs := by
  induction xs with
  | nil => intro cs o v hv; exact .inl hv
  | cons x xs ih =>
    intro cs o v hv
    rcases ih (cs := cs.set o x) hv with h1 | h1
    · rcases List.mem_or_eq_of_mem_set h1 with h2 | rfl
      · exact .inl h2
      · exact .inr (by simp)
    · exact .inr (by simp [h1])
theorem fillA_good {place : Nat → Option (Nat × Nat)} : ∀ (ps : List (Nat × Value)) (cs r : List Value), (∀ v ∈ cs, ∃ x, VRel μ v x) → (∀ p ∈ ps, ∃ x, VRel μ p.2 x) → fillA place cs ps = some r → ∀ v ∈ r, ∃ x, VRel μ v x := by
  intro ps
  induction ps with
  | nil => intro cs r hc _ hA; simp [fillA] at hA; subst hA; exact hc
  | cons p ps ih =>
    intro cs r hc hp hA
    obtain ⟨i, u⟩ := p
    simp only [fillA] at hA
    split at hA
    · rename_i off size xs hpl hxs
      split at hA
      · refine ih _ _ ?_ (fun q hq => hp q (by simp [hq])) hA
        intro v hv
        rcases spl_mem hv with h1 | h1
        · exact hc v h1
        · obtain ⟨x, hx⟩ := hp (i, u) (by simp)
          exact good_of_rel (ro := false) (op := none) (hx.cells hxs) v h1
      · simp at hA
    · simp at hA
theorem newA_good {fr : Fr} {a : Act} (hf : FRel μ n fr a.tmps) {o : Op} {B : Blk} {f : Nat → Value} (hA : newA P (evalA fr) o = some (B, f)) : GoodB μ B := by
  have ev : ∀ x, ∃ y, VRel μ (evalA fr x) y := fun x => ⟨_, VRel.eval hf x⟩
  unfold newA at hA
  split at hA
  · obtain ⟨cs, hc, he⟩ := Option.map_eq_some_iff.1 hA
    simp at he
    obtain ⟨rfl, rfl⟩ := he
    exact zeroT_good hc
  · obtain ⟨cs, hc, he⟩ := Option.map_eq_some_iff.1 hA
    simp at he
    obtain ⟨rfl, rfl⟩ := he
    obtain ⟨y, hy⟩ := ev ‹_›
    exact good_of_rel (hy.cells hc)
  · split at hA
    · rename_i hb
      simp at hA
      obtain ⟨rfl, rfl⟩ := hA
      unfold buildSliceA at hb
      split at hb <;> try (simp at hb; done)
      split at hb <;> try (simp at hb; done)
      rename_i hz
      split at hb <;> try (simp at hb; done)
      split at hb <;> try (simp at hb; done)
      rename_i cs hcs
      simp at hb
      obtain ⟨_, rfl⟩ := hb
      refine fillA_good _ _ _ (zeros_good (zeroT_good hz) _) ?_ hcs
      intro p hp
      obtain ⟨q, _, rfl⟩ := List.mem_map.1 hp
      exact ev q.2
    · simp at hA
  · split at hA
    · rename_i hb
      simp at hA
      obtain ⟨rfl, rfl⟩ := hA
      unfold makeSliceA at hb
      split at hb <;> try (simp at hb; done)
      split at hb <;> try (simp at hb; done)
      rename_i hz
      split at hb <;> try (simp at hb; done)
      simp at hb
      obtain ⟨_, rfl⟩ := hb
      exact zeros_good (zeroT_good hz) _
    · simp at hA
  · simp at hA
    obtain ⟨rfl, rfl⟩ := hA
    rfl
  · split at hA
    · split at hA
      · split at hA
        · simp at hA
          obtain ⟨rfl, rfl⟩ := hA
          intro v hv
          obtain ⟨b, _, rfl⟩ := List.mem_map.1 hv
          exact ⟨_, VRel.int _ _⟩
        · simp at hA
      · simp at hA
    · simp at hA
  · simp at hA
theorem newA_shape {ρ : Operand → Value} {o : Op} {B : Blk} {f : Nat → Value} (hA : newA P ρ o = some (B, f)) :
    (f = fun i => .pointer (some ⟨i, 0, none⟩)) ∨ (∃ n m, f = fun i => .slice (some ⟨i, 0, none⟩) n m) ∨ (f = fun i => .map (some i)) := by
  unfold newA at hA
  split at hA
  · obtain ⟨cs, hc, he⟩ := Option.map_eq_some_iff.1 hA; simp at he; exact .inl he.2.symm
  · obtain ⟨cs, hc, he⟩ := Option.map_eq_some_iff.1 hA; simp at he; exact .inl he.2.symm
  · split at hA <;> simp at hA; exact .inr (.inl ⟨_, _, hA.2.symm⟩)
  · split at hA <;> simp at hA; exact .inr (.inl ⟨_, _, hA.2.symm⟩)
  · simp at hA; exact .inr (.inr hA.2.symm)
  · split at hA <;> try (simp at hA; done)
    split at hA <;> try (simp at hA; done)
    split at hA <;> simp at hA
    exact .inr (.inl ⟨_, _, hA.2.symm⟩)
  · simp at hA
end
end Go.Ab

/- A statement whose operations may come in several orders, on abstract values and blocks, and that the model's does the same in each of them; no condition. -/
namespace Go.Ab
open Go.RowKit

/-- what an operation was: one that acts, one that was passed by, one that only looks, one that made a block -/
inductive Kind where
  | eff
  | skip
  | quiet
  | made (B : Blk) (id : Nat)
structure Past where
  i : Nat
  v : Value
  k : Kind
def dstOf (ops : Array Oper) (i : Nat) : Option Tmp := (ops[i]?).bind (·.dst)
/-- the frame behind so many operations, the last one first -/
def FS (n : Nat) (ops : Array Oper) (fr : Fr) : List Past → Fr
  | [] => fr
  | p :: S => putF n (FS n ops fr S) (dstOf ops p.i) p.v
def isEff : Op → Bool
  | .store .. | .mapUpdate .. | .insert .. | .range .. | .next .. => true
  | .call ⟨.builtin b, _, _⟩ => b == .append || b == .copy || b == .clear || b == .delete
  | .call _ => true
  | _ => false
/-- an operation of the past would do the same now -/
def stillP (P : Program) (n : Nat) (ops : Array Oper) (fr : Fr) (h : Hp) (S : List Past) (p : Past) : Prop :=
  match p.k with
  | .eff | .skip => True
  | .quiet => ∃ o, ops[p.i]? = some o ∧ opA P (evalA (FS n ops fr S)) o.op h = some (.val p.v h)
  | .made B id => h[id]? = some B
def stillAll (P : Program) (n : Nat) (ops : Array Oper) (fr : Fr) (A : List Nat) (h : Hp) : List Past → Prop
  | [] => True
  | p :: S => (A.contains p.i = true ∨ stillP P n ops fr h S p) ∧ stillAll P n ops fr A h S
def preds (ops : Array Oper) (i : Nat) : List Nat := ((ops[i]?).map fun o => (o.after.toList.filter fun e => Region.binds .any e).map (·.on)).getD []
def ancs (ops : Array Oper) : Nat → Nat → List Nat
  | 0, _ => []
  | k + 1, i => (preds ops i).flatMap fun j => j :: ancs ops k j
/-- the operations in one order -/
def Can (P : Program) (n : Nat) (ops : Array Oper) (fr : Fr) (K : Fr → Hp → Prop) : List Nat → List Past → Hp → Prop
  | [], done, h => K (FS n ops fr done) h
  | i :: rem, done, h =>
    match ops[i]? with
    | none => False
    | some o =>
      match wantA ops o (FS n ops fr done) with
      | none => False
      | some t =>
        (t = false → Can P n ops fr K rem (⟨i, sk, .skip⟩ :: done) h) ∧
        (t = true →
          if isEff o.op = true then
            match opA P (evalA (FS n ops fr done)) o.op h with
            | none => False
            | some (.val v h') => stillAll P n ops fr (ancs ops ops.size i) h' done ∧ Can P n ops fr K rem (⟨i, v, .eff⟩ :: done) h'
            | some (.enter f args) => EvA P f args (fun r h' => stillAll P n ops fr (ancs ops ops.size i) h' done ∧ Can P n ops fr K rem (⟨i, r, .eff⟩ :: done) h') h
            | some (.round b args) => RoundA P b args (fun r h' => stillAll P n ops fr (ancs ops ops.size i) h' done ∧ Can P n ops fr K rem (⟨i, r, .eff⟩ :: done) h') h
          else
            match newA P (evalA (FS n ops fr done)) o.op with
            | some (B, f) => stillAll P n ops fr [] (h ++ [B]) done ∧ Can P n ops fr K rem (⟨i, f h.length, .made B h.length⟩ :: done) (h ++ [B])
            | none =>
              match opA P (evalA (FS n ops fr done)) o.op h with
              | some (.val v h') => h' = h ∧ Can P n ops fr K rem (⟨i, v, .quiet⟩ :: done) h
              | _ => False)

/-! ### the order -/
def looks (ops : Array Oper) (i : Nat) : List Tmp :=
  match ops[i]? with
  | none => []
  | some o => (o.op.operands.toList.filterMap fun x => match x with | .tmp t => some t | _ => none) ++ (match o.guard with | some (j, _) => (dstOf ops j).toList | none => [])
/-- each operation comes behind those on which it waits; behind one that acts come only those that wait for it, or for such; what one looks at is written ahead of it, or behind it, in any order -/
def planOk (n : Nat) (ops : Array Oper) (c : List Nat) : Bool :=
  c.length == ops.size && decide c.Nodup && c.all (fun i => decide (i < ops.size)) && (List.range ops.size).all (fun i => c.contains i) &&
  c.all (fun i => (preds ops i).all fun j => c.idxOf j < c.idxOf i) &&
  c.all (fun e => !(((ops[e]?).map fun o => isEff o.op).getD false) || c.all fun j => c.idxOf j ≤ c.idxOf e || (preds ops j).any fun k => c.idxOf e ≤ c.idxOf k) &&
  (List.range ops.size).all (fun i => (dstOf ops i).all fun d => d < n) &&
  (List.range ops.size).all (fun i => (List.range ops.size).all fun j => i == j || (dstOf ops i).isNone || dstOf ops i != dstOf ops j) &&
  (List.range ops.size).all (fun i => (looks ops i).all fun t => (List.range ops.size).all fun j => dstOf ops j != some t || (c.idxOf j < c.idxOf i && (ancs ops ops.size i).contains j) || (c.idxOf i < c.idxOf j && (ancs ops ops.size j).contains i))

section
variable {P : Program} {n : Nat} {ops : Array Oper} {fr : Fr}

/-- what the check says -/
structure Plan (n : Nat) (ops : Array Oper) (c : List Nat) : Prop where
  len : c.length = ops.size
  nodup : c.Nodup
  lt : ∀ i ∈ c, i < ops.size
  all : ∀ i, i < ops.size → i ∈ c
  pred : ∀ i ∈ c, ∀ j ∈ preds ops i, c.idxOf j < c.idxOf i
  eager : ∀ e ∈ c, ∀ o, ops[e]? = some o → isEff o.op = true → ∀ j ∈ c, c.idxOf j ≤ c.idxOf e ∨ ∃ k ∈ preds ops j, c.idxOf e ≤ c.idxOf k
  dst : ∀ i, i < ops.size → ∀ d, dstOf ops i = some d → d < n
  dsts : ∀ i, i < ops.size → ∀ j, j < ops.size → i ≠ j → ∀ d, dstOf ops i = some d → dstOf ops j ≠ some d
  look : ∀ i, i < ops.size → ∀ t ∈ looks ops i, ∀ j, j < ops.size → dstOf ops j = some t → (c.idxOf j < c.idxOf i ∧ j ∈ ancs ops ops.size i) ∨ (c.idxOf i < c.idxOf j ∧ i ∈ ancs ops ops.size j)
theorem planOk_spec {c : List Nat} (h : planOk n ops c = true) : Plan n ops c := by
  simp only [planOk, Bool.and_eq_true, List.all_eq_true, beq_iff_eq, List.mem_range, Bool.or_eq_true, Bool.not_eq_true', decide_eq_true_eq, List.contains_iff_mem, List.any_eq_true, bne_iff_ne, Option.isNone_iff_eq_none, ne_eq] at h
  obtain ⟨⟨⟨⟨⟨⟨⟨⟨h1, h0⟩, h8⟩, h2⟩, h3⟩, h4⟩, h5⟩, h6⟩, h7⟩ := h
  refine ⟨h1, h0, h8, h2, h3, ?_, ?_, ?_, ?_⟩
  · intro e he o ho heff j hj
    rcases h4 e he with hn | hn
    · simp [ho, heff] at hn
    · rcases hn j hj with h' | ⟨k, hk, hk'⟩
      · exact .inl h'
      · exact .inr ⟨k, hk, hk'⟩
  · intro i hi d hd
    have := h5 i hi
    rw [hd] at this
    simpa using this
  · intro i hi j hj hij d hd hjd
    rcases h6 i hi j hj with (h' | h') | h'
    · exact hij h'
    · rw [hd] at h'; simp at h'
    · exact h' (hd.trans hjd.symm)
  · intro i hi t ht j hj hjt
    rcases h7 i hi t ht j hj with (h' | h') | h'
    · exact absurd hjt h'
    · exact .inl h'
    · exact .inr h'

/-! ### frames -/
theorem FS_none {S : List Past} {t : Tmp} (h : ∀ p ∈ S, dstOf ops p.i ≠ some t) : FS n ops fr S t = fr t := by
  induction S with
  | nil => rfl
  | cons p S ih =>
    have hp := h p (by simp)
    simp only [FS]
    cases hd : dstOf ops p.i with
    | none => exact ih (fun q hq => h q (by simp [hq]))
    | some d =>
      rw [putF_some, if_neg (fun e => hp (by rw [hd, e]))]
      exact ih (fun q hq => h q (by simp [hq]))
theorem FS_some {S : List Past} {t : Tmp} {p : Past} (hp : p ∈ S) (hd : dstOf ops p.i = some t) (hn : t < n) (hone : ∀ q ∈ S, dstOf ops q.i = some t → q = p) : FS n ops fr S t = p.v := by
  induction S with
  | nil => simp at hp
  | cons q S ih =>
    simp only [FS]
    by_cases hq : dstOf ops q.i = some t
    · have := hone q (by simp) hq
      subst this
      rw [hq, putF_some, if_pos rfl, if_pos hn]
    · have hpS : p ∈ S := by
        rcases List.mem_cons.1 hp with rfl | h'
        · exact absurd hd hq
        · exact h'
      have := ih hpS (fun r hr => hone r (by simp [hr]))
      cases hdq : dstOf ops q.i with
      | none => exact this
      | some d =>
        rw [putF_some, if_neg (fun e => hq (by rw [hdq, e]))]
        exact this

theorem idx_lt {X Y : List Nat} {p j : Nat} (hn : (X ++ p :: Y).Nodup) : j ∈ X ↔ (X ++ p :: Y).idxOf j < (X ++ p :: Y).idxOf p := by
  have hp : p ∉ X := by
    intro hp
    rw [List.nodup_append] at hn
    exact hn.2.2 p hp p (by simp) rfl
  have h1 : (X ++ p :: Y).idxOf p = X.length := by
    rw [List.idxOf_append, if_neg hp]; simp
  rw [h1]
  constructor
  · intro hj
    rw [List.idxOf_append, if_pos hj]
    exact List.idxOf_lt_length_of_mem hj
  · intro h
    rw [List.idxOf_append] at h
    split at h
    · assumption
    · omega

theorem opA_congr {ρ ρ' : Operand → Value} {o : Op} (hr : ∀ x ∈ o.operands, ρ x = ρ' x) (h : Hp) : opA P ρ o h = opA P ρ' o h := by
  have hmap : ∀ (xs : Array Operand), (∀ x ∈ xs, ρ x = ρ' x) → xs.toList.map ρ = xs.toList.map ρ' := fun xs hx => List.map_congr_left fun x hx' => hx x (Array.mem_toList_iff.1 hx')
  have hmap' : ∀ (xs : Array Operand), (∀ x ∈ xs, ρ x = ρ' x) → xs.map ρ = xs.map ρ' := fun xs hx => Array.map_congr_left hx
  have hopt : ∀ (x : Option Operand), (∀ y ∈ x.toArray, ρ y = ρ' y) → x.map ρ = x.map ρ' := by
    intro x hx
    cases x with
    | none => rfl
    | some y => simp [hx y (by simp)]
  have hprt : ∀ (ps : Array (Nat × Operand)), (∀ x ∈ (ps.toList.map (·.2)).toArray, ρ x = ρ' x) → ps.toList.map (fun p => (p.1, ρ p.2)) = ps.toList.map (fun p => (p.1, ρ' p.2)) := by
    intro ps hx
    refine List.map_congr_left fun p hp => ?_
    rw [hx p.2 (by simp; exact ⟨p.1, by simpa using hp⟩)]
  cases o <;> simp only [Op.operands] at hr <;> try rfl
  case move x => simp [hr x (by simp)]
  case assign x => simp [hr x (by simp)]
  case pick c a b => simp [hr c (by simp), hr a (by simp), hr b (by simp)]
  case box t x => simp [hr x (by simp)]
  case build t ps => rw [opA_build, opA_build, hprt ps hr]
  case buildSlice t k ps => rw [opA_buildSlice, opA_buildSlice, hprt ps hr]
  case insert t m k x => simp [hr m (by simp), hr k (by simp), hr x (by simp)]
  case load t a => simp [hr a (by simp)]
  case store t a x => simp [hr a (by simp), hr x (by simp)]
  case nilCheck x => simp [hr x (by simp)]
  case binOp op t x y u => simp [hr x (by simp), hr y (by simp)]
  case unOp op t x => simp [hr x (by simp)]
  case convert s d x => simp [hr x (by simp)]
  case makeInterface t x => simp [hr x (by simp)]
  case makeFunc f a c =>
    cases f <;> try rfl
    rw [opA_makeFunc, opA_makeFunc, hmap' a (fun x hx => hr x (by simp [hx])), hmap' c (fun x hx => hr x (by simp [hx]))]
  case makeMap t r => cases r <;> rfl
  case makeSlice t l c => simp [hr l (by simp), hr c (by simp)]
  case slice t x lo hi mx =>
    rw [opA_slice, opA_slice, hr x (by simp), hopt lo (fun y hy => hr y (by simp [hy])), hopt hi (fun y hy => hr y (by simp [hy])), hopt mx (fun y hy => hr y (by simp [hy]))]
  case fieldAddr t x f => simp [hr x (by simp)]
  case field t x f => simp [hr x (by simp)]
  case indexAddr t x i => simp [hr x (by simp), hr i (by simp)]
  case index t x i => simp [hr x (by simp), hr i (by simp)]
  case lookup t m k ok => simp [hr m (by simp), hr k (by simp)]
  case mapUpdate t m k x => simp [hr m (by simp), hr k (by simp), hr x (by simp)]
  case range t x => simp [hr x (by simp)]
  case next it s => simp [hr it (by simp)]
  case extract t i => simp [hr t (by simp)]
  case typeAssert x u t ok => simp [hr x (by simp)]
  case call c =>
    obtain ⟨callee, args, ts⟩ := c
    cases callee with
    | value f =>
      rw [opA_call, opA_call, hr f (by simp [Call.operands]), hmap args (fun x hx => hr x (by simp [Call.operands, hx]))]
    | builtin b => rw [opA_builtin, opA_builtin, hmap args (fun x hx => hr x (by simp [Call.operands, hx]))]
    | invoke r m => rfl
theorem newA_congr {ρ ρ' : Operand → Value} {o : Op} (hr : ∀ x ∈ o.operands, ρ x = ρ' x) : newA P ρ o = newA P ρ' o := by
  have hprt : ∀ (ps : Array (Nat × Operand)), (∀ x ∈ (ps.toList.map (·.2)).toArray, ρ x = ρ' x) → ps.toList.map (fun p => (p.1, ρ p.2)) = ps.toList.map (fun p => (p.1, ρ' p.2)) := by
    intro ps hx
    refine List.map_congr_left fun p hp => ?_
    rw [hx p.2 (by simp; exact ⟨p.1, by simpa using hp⟩)]
  cases o <;> simp only [Op.operands] at hr <;> try rfl
  case box t x => simp only [newA, hr x (by simp)]
  case buildSlice t k ps => simp only [newA, hprt ps hr]
  case convert s d x => simp only [newA, hr x (by simp)]
  case makeMap t r => cases r <;> rfl
  case makeSlice t l c => simp only [newA, hr l (by simp), hr c (by simp)]
theorem evalA_congr {f g : Fr} {o : Oper} {i : Nat} (ho : ops[i]? = some o) (h : ∀ t ∈ looks ops i, f t = g t) : ∀ x ∈ o.op.operands, evalA f x = evalA g x := by
  intro x hx
  cases x with
  | tmp t =>
    refine h t ?_
    simp only [looks, ho]
    refine List.mem_append_left _ (List.mem_filterMap.2 ⟨.tmp t, Array.mem_toList_iff.2 hx, rfl⟩)
  | _ => rfl
theorem wantA_congr {f g : Fr} {o : Oper} {i : Nat} (ho : ops[i]? = some o) (h : ∀ t ∈ looks ops i, f t = g t) : wantA ops o f = wantA ops o g := by
  unfold wantA
  split
  · rfl
  · rename_i j want hg
    split
    · rfl
    · rename_i d hd
      have : f d = g d := by
        refine h d ?_
        simp only [looks, ho, hg, dstOf, hd]
        simp
      rw [this]
end
end Go.Ab

/- A statement whose operations may come in several orders: the model's does the same in each of them; no condition. -/
namespace Go.Ab
open Go.RowKit
section
variable {P : Program} {n : Nat} {ops : Array Oper} {fr : Fr} {μ : Emb} {h : Hp} {w : World}

theorem nodup_rev {l : List Nat} (h : l.reverse.Nodup) : l.Nodup := (List.pairwise_reverse.1 h).imp (fun h => Ne.symm h)
/-- more is told of blocks than there yet is -/
theorem Step.ext (hr : HRel μ h w) (B : Blk) : Step μ h w μ (h ++ [B]) w := by
  have hget : ∀ b e C, μ b = some e → (h ++ [B])[b]? = some C → h[b]? = some C := by
    intro b e C he hC
    rwa [List.getElem?_append_left (hr.dom b e he).1] at hC
  refine ⟨fun _ _ => rfl, by simp, ⟨fun b e he => ?_, fun b e C he hC => hr.obj b e C he (hget b e C he hC), fun b c e f C D hbc he hf hC hD h1 h2 => hr.sep b c e f C D hbc he hf (hget b e C he hC) (hget c f D hf hD) h1 h2⟩, Keeps.refl _ _, ?_⟩
  · have := hr.dom b e he; simp; omega
  · rintro k ⟨b, e, C, he, hC, h1, rfl⟩
    exact .inl ⟨b, e, C, he, hget b e C he hC, h1, rfl⟩

theorem GoodB.move {B : Blk} {μ' : Emb} {id N : Nat} {p : Place} {w' : World} (hg : GoodB μ B) (hup : ∀ b e, μ b = some e → μ' b = some e) (hid : μ id = none) (ho : ORel μ' p B w') : ORel (μ.put id p) p B w' := by
  have hup2 : ∀ b e, μ b = some e → (μ.put id p) b = some e := by
    intro b e hb
    simp only [Emb.put]
    split
    · rename_i h'; subst h'; rw [hid] at hb; simp at hb
    · exact hb
  cases B with
  | dead => trivial
  | cells cs ro op =>
    obtain ⟨b1, b2, b3, b4, b5⟩ := ho
    refine ⟨b1, b2, b3, fun o v hv => ?_, b5⟩
    obtain ⟨y, y1, y2⟩ := b4 o v hv
    obtain ⟨x, hx⟩ := hg v (List.mem_of_getElem? hv)
    exact ⟨y, y1, (hx.down hup y2).mono hup2⟩
  | map es =>
    obtain ⟨b1, l, c, b2, b3⟩ := ho
    have : es = [] := hg
    subst this
    exact ⟨b1, l, c, b2, b3.len, by simp, b3.born, b3.once⟩
  | siter s pos => exact hg.elim
  | loop L => exact hg.elim

/-- what was told is now made -/
theorem Step.fill {μ₀ : Emb} {h₀ : Hp} {w₀ : World} {μ' : Emb} {w' : World} {B : Blk} {id : Nat} {p : Place} (s0 : Step μ₀ h₀ w₀ μ h w) (s : Step μ h w μ' (h ++ [B]) w') (hp : μ' h.length = some p)
    (hB : h[id]? = some B) (hid : μ id = none) (hg : GoodB μ B) (hlt : h₀.length ≤ id) : Step μ₀ h₀ w₀ (μ.put id p) h w' := by
  have hr := s0.rel
  have hup := s.up hr
  have hidlt := hp_lt hB
  have hlast : (h ++ [B])[h.length]? = some B := by simp
  have hget : ∀ b e C, (μ.put id p) b = some e → h[b]? = some C → (b = id ∧ e = p ∧ C = B) ∨ (b ≠ id ∧ μ b = some e ∧ μ' b = some e ∧ (h ++ [B])[b]? = some C) := by
    intro b e C he hC
    by_cases hb : b = id
    · subst hb
      rw [hB] at hC
      simp [Emb.put] at he hC
      exact .inl ⟨rfl, he.symm, hC.symm⟩
    · simp only [Emb.put, if_neg hb] at he
      exact .inr ⟨hb, he, hup b e he, hp_old hC⟩
  have hrel : HRel (μ.put id p) h w' := by
    refine ⟨?_, ?_, ?_⟩
    · intro b e he
      by_cases hb : b = id
      · subst hb
        simp [Emb.put] at he; subst he
        exact ⟨hidlt, (s.rel.dom _ _ hp).2⟩
      · simp only [Emb.put, if_neg hb] at he
        exact ⟨(hr.dom b e he).1, (s.rel.dom b e (hup b e he)).2⟩
    · intro b e C he hC
      rcases hget b e C he hC with ⟨rfl, rfl, rfl⟩ | ⟨hb, he', he2, hC2⟩
      · exact hg.move (N := 0) hup hid (s.rel.obj _ _ _ hp hlast)
      · have h1 := (hr.obj b e C he' hC).down hup (s.rel.obj b e C he2 hC2)
        refine h1.congr (fun c f hc => ?_) (fun _ => rfl)
        simp only [Emb.put]
        split
        · rename_i h'; subst h'; rw [hid] at hc; simp at hc
        · exact hc
    · intro b c e f C D hbc he hf hC hD h1 h2
      rcases hget b e C he hC with ⟨rfl, rfl, rfl⟩ | ⟨hb, he', he2, hC2⟩ <;> rcases hget c f D hf hD with ⟨rfl, rfl, rfl⟩ | ⟨hc, hf', hf2, hD2⟩
      · exact absurd rfl hbc
      · exact s.rel.sep h.length c e f C D (by have := (hr.dom c f hf').1; omega) hp hf2 hlast hD2 h1 h2
      · exact s.rel.sep b h.length e f C D (by have := (hr.dom b e he').1; omega) he2 hp hC2 hlast h1 h2
      · exact s.rel.sep b c e f C D hbc he2 hf2 hC2 hD2 h1 h2
  have hown : ∀ k, Own (μ.put id p) h k → Own μ h k ∨ w.heap.size ≤ k := by
    rintro k ⟨b, e, C, he, hC, h1, rfl⟩
    rcases hget b e C he hC with ⟨rfl, rfl, rfl⟩ | ⟨hb, he', he2, hC2⟩
    · rcases s.own e.block ⟨h.length, e, C, hp, hlast, h1, rfl⟩ with h3 | h3
      · exact .inl h3
      · exact .inr h3
    · exact .inl ⟨b, e, C, he', hC, h1, rfl⟩
  refine ⟨fun b hb => ?_, s0.len, hrel, ⟨s.keeps.os.trans s0.keeps.os, s.keeps.tape.trans s0.keeps.tape, s.keeps.output.trans s0.keeps.output, Nat.le_trans s0.keeps.size s.keeps.size, ?_⟩, ?_⟩
  · simp only [Emb.put]
    rw [if_neg (by omega)]; exact s0.sub b hb
  · intro k hk hn
    refine (s.keeps.block k (Nat.lt_of_lt_of_le hk s0.keeps.size) ?_).trans (s0.keeps.block k hk hn)
    intro ho
    rcases s0.own k ho with h1 | h1
    · exact hn h1
    · omega
  · intro k hk
    rcases hown k hk with h1 | h1
    · exact s0.own k h1
    · exact .inr (Nat.le_trans s0.keeps.size h1)

variable {K : Fr → Hp → Prop} {c : List Nat} {μ₀ : Emb} {h₀ : Hp} {w₀ : World} {ds : List Deferred} {m : Nat} {r0 : Option Nat}

structure J (P : Program) (n : Nat) (ops : Array Oper) (fr : Fr) (K : Fr → Hp → Prop) (c : List Nat) (μ₀ : Emb) (h₀ : Hp) (w₀ : World) (ds : List Deferred) (L : Array Bool) (a : Act) (w : World)
    (done : List Past) (rem : List Nat) (h : Hp) (μ : Emb) : Prop where
  size : L.size = ops.size
  split : c = (done.map (·.i)).reverse ++ rem
  can : Can P n ops fr K rem done h
  down : ∀ i, L.getD i false = true → ∀ j ∈ preds ops i, L.getD j false = true
  inn : ∀ i, L.getD i false = true → ∃ p ∈ done, p.i = i
  eff : ∀ p ∈ done, p.k = .eff → L.getD p.i false = true
  step : Step μ₀ h₀ w₀ μ h w
  frame : FRel μ n (FS n ops fr (done.filter fun p => L.getD p.i false)) a.tmps
  defers : a.defers = ds
  made : ∀ p ∈ done, ∀ B id, p.k = .made B id → h₀.length ≤ id ∧ (L.getD p.i false = false → μ id = none)
  low : ∀ p ∈ done, ∀ B id, p.k = .made B id → id < h.length
  ids : ∀ p S T, done = T ++ p :: S → ∀ B id, p.k = .made B id → ∀ q ∈ S, ∀ B' id', q.k = .made B' id' → id' < id
  past : ∀ p S T, done = T ++ p :: S → (∃ o, ops[p.i]? = some o ∧ (p.k = .skip ∧ p.v = sk ∧ wantA ops o (FS n ops fr S) = some false ∨ p.k ≠ .skip ∧ wantA ops o (FS n ops fr S) = some true) ∧
    (∀ B id, p.k = .made B id → ∃ f, newA P (evalA (FS n ops fr S)) o.op = some (B, f) ∧ p.v = f id)) ∧ (L.getD p.i false = false → stillP P n ops fr h S p)

theorem stillAll_at {h : Hp} {A : List Nat} : ∀ (done : List Past), stillAll P n ops fr A h done → ∀ p S T, done = T ++ p :: S → A.contains p.i = true ∨ stillP P n ops fr h S p := by
  intro done
  induction done with
  | nil => intro _ p S T he; simp at he
  | cons q done ih =>
    intro hs p S T he
    cases T with
    | nil => simp at he; obtain ⟨rfl, rfl⟩ := he; exact hs.1
    | cons r T => simp at he; exact ih hs.2 p S T he.2

theorem J.lt (hpl : Plan n ops c) {L : Array Bool} {a : Act} {done : List Past} {rem : List Nat} (j : J P n ops fr K c μ₀ h₀ w₀ ds L a w done rem h μ) {p : Past} (hp : p ∈ done) : p.i < ops.size := by
  obtain ⟨T, S, rfl⟩ := List.append_of_mem hp
  obtain ⟨⟨o, ho, _⟩, _⟩ := j.past p S T rfl
  exact (Array.getElem?_eq_some_iff.1 ho).1

theorem J.advance (hpl : Plan n ops c) {L : Array Bool} {a : Act} : ∀ (rem : List Nat) (done : List Past) (h : Hp), J P n ops fr K c μ₀ h₀ w₀ ds L a w done rem h μ →
    ∃ done' rem' h', J P n ops fr K c μ₀ h₀ w₀ ds L a w done' rem' h' μ ∧ (rem' = [] ∨ ∃ e rest o, rem' = e :: rest ∧ ops[e]? = some o ∧ isEff o.op = true ∧ wantA ops o (FS n ops fr done') = some true) := by
  intro rem
  induction rem with
  | nil => intro done h j; exact ⟨done, [], h, j, .inl rfl⟩
  | cons i rem ih =>
    intro done h j
    have hcan := j.can
    simp only [Can] at hcan
    split at hcan
    · exact hcan.elim
    rename_i o ho
    split at hcan
    · exact hcan.elim
    rename_i t hw
    -- the operation isn't listed
    have hnd := hpl.nodup
    rw [j.split] at hnd
    have hiL : L.getD i false = false := by
      cases hL : L.getD i false with
      | false => rfl
      | true =>
        obtain ⟨p, hp, rfl⟩ := j.inn i hL
        rw [List.nodup_append] at hnd
        exact absurd rfl (hnd.2.2 p.i (by simp; exact ⟨p, hp, rfl⟩) p.i (by simp))
    have hsplit : ∀ v k, c = (((⟨i, v, k⟩ : Past) :: done).map (·.i)).reverse ++ rem := by
      intro v k; rw [j.split]; simp
    have hinn : ∀ v k, ∀ i', L.getD i' false = true → ∃ p ∈ (⟨i, v, k⟩ : Past) :: done, p.i = i' := by
      intro v k i' hi'
      obtain ⟨p, hp, h'⟩ := j.inn i' hi'
      exact ⟨p, by simp [hp], h'⟩
    have hfil : ∀ v k, (((⟨i, v, k⟩ : Past) :: done).filter fun p => L.getD p.i false) = done.filter fun p => L.getD p.i false := by
      intro v k
      rw [List.filter_cons, if_neg (by show ¬ L.getD i false = true; rw [hiL]; simp)]
    cases t with
    | false =>
      have hcan := hcan.1 rfl
      refine ih (⟨i, sk, .skip⟩ :: done) h ⟨j.size, hsplit _ _, hcan, j.down, hinn _ _, ?_, j.step, ?_, j.defers, ?_, ?_, ?_, ?_⟩
      · intro p hp hk
        rcases List.mem_cons.1 hp with rfl | hp
        · simp at hk
        · exact j.eff p hp hk
      · rw [hfil]; exact j.frame
      · intro p hp B id hk
        rcases List.mem_cons.1 hp with rfl | hp
        · simp at hk
        · exact j.made p hp B id hk
      · intro p hp B id hk
        rcases List.mem_cons.1 hp with rfl | hp
        · simp at hk
        · exact j.low p hp B id hk
      · intro p S T he B id hk
        cases T with
        | nil => simp at he; obtain ⟨rfl, rfl⟩ := he; simp at hk
        | cons q T => simp at he; exact j.ids p S T he.2 B id hk
      · intro p S T he
        cases T with
        | nil =>
          simp at he; obtain ⟨rfl, rfl⟩ := he
          exact ⟨⟨o, ho, .inl ⟨rfl, rfl, hw⟩, by simp⟩, fun _ => trivial⟩
        | cons q T => simp at he; exact j.past p S T he.2
    | true =>
      have hcan := hcan.2 rfl
      split at hcan
      · rename_i heff
        exact ⟨done, i :: rem, h, j, .inr ⟨i, rem, o, rfl, ho, heff, hw⟩⟩
      · split at hcan
        · rename_i B f hnew
          obtain ⟨hstill, hcan⟩ := hcan
          have hfree : μ h.length = none := by
            cases hm : μ h.length with
            | none => rfl
            | some e => have := (j.step.rel.dom _ e hm).1; omega
          refine ih (⟨i, f h.length, .made B h.length⟩ :: done) (h ++ [B]) ⟨j.size, hsplit _ _, hcan, j.down, hinn _ _, ?_, j.step.trans (Step.ext j.step.rel B), ?_, j.defers, ?_, ?_, ?_, ?_⟩
          · intro p hp hk
            rcases List.mem_cons.1 hp with rfl | hp
            · simp at hk
            · exact j.eff p hp hk
          · rw [hfil]; exact j.frame
          · intro p hp B' id hk
            rcases List.mem_cons.1 hp with rfl | hp
            · simp at hk; obtain ⟨rfl, rfl⟩ := hk; exact ⟨j.step.len, fun _ => hfree⟩
            · exact j.made p hp B' id hk
          · intro p hp B' id hk
            rcases List.mem_cons.1 hp with rfl | hp
            · simp at hk; obtain ⟨rfl, rfl⟩ := hk; simp
            · have := j.low p hp B' id hk; simp; omega
          · intro p S T he B' id hk
            cases T with
            | nil =>
              simp at he; obtain ⟨rfl, rfl⟩ := he
              simp at hk; obtain ⟨rfl, rfl⟩ := hk
              exact fun q hq B2 id2 hk2 => j.low q hq B2 id2 hk2
            | cons q T => simp at he; exact j.ids p S T he.2 B' id hk
          · intro p S T he
            cases T with
            | nil =>
              simp at he; obtain ⟨rfl, rfl⟩ := he
              refine ⟨⟨o, ho, .inr ⟨by simp, hw⟩, ?_⟩, fun _ => ?_⟩
              · intro B' id hk
                simp at hk; obtain ⟨rfl, rfl⟩ := hk
                exact ⟨f, hnew, rfl⟩
              · simp [stillP]
            | cons q T =>
              simp at he
              exact ⟨(j.past p S T he.2).1, fun _ => (stillAll_at done hstill p S T he.2).resolve_left (by simp)⟩
        · split at hcan
          · rename_i v h' hop
            obtain ⟨rfl, hcan⟩ := hcan
            refine ih (⟨i, v, .quiet⟩ :: done) h' ⟨j.size, hsplit _ _, hcan, j.down, hinn _ _, ?_, j.step, ?_, j.defers, ?_, ?_, ?_, ?_⟩
            · intro p hp hk
              rcases List.mem_cons.1 hp with rfl | hp
              · simp at hk
              · exact j.eff p hp hk
            · rw [hfil]; exact j.frame
            · intro p hp B id hk
              rcases List.mem_cons.1 hp with rfl | hp
              · simp at hk
              · exact j.made p hp B id hk
            · intro p hp B id hk
              rcases List.mem_cons.1 hp with rfl | hp
              · simp at hk
              · exact j.low p hp B id hk
            · intro p S T he B id hk
              cases T with
              | nil => simp at he; obtain ⟨rfl, rfl⟩ := he; simp at hk
              | cons q T => simp at he; exact j.ids p S T he.2 B id hk
            · intro p S T he
              cases T with
              | nil =>
                simp at he; obtain ⟨rfl, rfl⟩ := he
                exact ⟨⟨o, ho, .inr ⟨by simp, hw⟩, by simp⟩, fun _ => ⟨o, ho, hop⟩⟩
              | cons q T => simp at he; exact j.past p S T he.2
          · exact hcan.elim

theorem anc_mem (L : Array Bool) (hdown : ∀ i, L.getD i false = true → ∀ j ∈ preds ops i, L.getD j false = true) : ∀ (k i : Nat), (∀ j ∈ preds ops i, L.getD j false = true) → ∀ j ∈ ancs ops k i, L.getD j false = true := by
  intro k
  induction k with
  | zero => intro i _ j hj; simp [ancs] at hj
  | succ k ih =>
    intro i hi j hj
    simp only [ancs, List.mem_flatMap] at hj
    obtain ⟨q, hq, hj⟩ := hj
    have hqL := hi q hq
    rcases List.mem_cons.1 hj with rfl | hj
    · exact hqL
    · exact ih q (hdown q hqL) j hj

/-- what an operation looks at is as it was in the one order -/
theorem J.looks_eq (hpl : Plan n ops c) {L : Array Bool} {a : Act} {done : List Past} {rem : List Nat} (j : J P n ops fr K c μ₀ h₀ w₀ ds L a w done rem h μ) {S T : List Past} {i : Nat} (hi : i < ops.size)
    (hpr : ∀ q ∈ preds ops i, L.getD q false = true) (hiL : L.getD i false = false)
    (hS : done = T ++ S) (hbefore : ∀ q, q ∈ S.map (·.i) ↔ (q ∈ done.map (·.i) ∧ c.idxOf q < c.idxOf i)) :
    ∀ t ∈ looks ops i, FS n ops fr (done.filter fun p => L.getD p.i false) t = FS n ops fr S t := by
  intro t ht
  have hone : ∀ (X : List Past), (∀ p ∈ X, p ∈ done) → ∀ p ∈ X, ∀ q ∈ X, dstOf ops p.i = some t → dstOf ops q.i = some t → q = p := by
    intro X hX p hp q hq h1 h2
    have hpi := j.lt hpl (hX p hp)
    have hqi := j.lt hpl (hX q hq)
    have hii : q.i = p.i := by
      rcases Nat.lt_trichotomy q.i p.i with h' | h' | h'
      · exact absurd h1 (hpl.dsts _ hqi _ hpi (by omega) t h2)
      · exact h'
      · exact absurd h1 (hpl.dsts _ hqi _ hpi (by omega) t h2)
    -- one index, one entry
    have hnd : (done.map (·.i)).Nodup := by
      have := hpl.nodup
      rw [j.split, List.nodup_append] at this
      exact nodup_rev this.1
    obtain ⟨A, B, hAB⟩ := List.append_of_mem (hX p hp)
    rw [hAB] at hnd
    have hq' := hX q hq
    rw [hAB] at hq'
    simp only [List.map_append, List.map_cons, List.nodup_append, List.nodup_cons] at hnd
    rcases List.mem_append.1 hq' with h' | h'
    · exact absurd hii (hnd.2.2 q.i (List.mem_map.2 ⟨q, h', rfl⟩) p.i (by simp))
    · rcases List.mem_cons.1 h' with h' | h'
      · exact h'
      · exact absurd (List.mem_map.2 ⟨q, h', hii⟩) hnd.2.1.1
  by_cases hw : ∃ k, k < ops.size ∧ dstOf ops k = some t
  · obtain ⟨k, hk, hkt⟩ := hw
    rcases hpl.look i hi t ht k hk hkt with ⟨h1, h2⟩ | ⟨h1, h2⟩
    · have hkL := anc_mem L j.down _ i hpr k h2
      obtain ⟨p, hp, rfl⟩ := j.inn k hkL
      have hpS : p ∈ S := by
        have := (hbefore p.i).2 ⟨List.mem_map.2 ⟨p, hp, rfl⟩, h1⟩
        obtain ⟨q, hq, hqi⟩ := List.mem_map.1 this
        have hqd : q ∈ done := by rw [hS]; exact List.mem_append_right _ hq
        have := hone done (fun _ h => h) p hp q hqd hkt (by rw [hqi]; exact hkt)
        rw [← this]; exact hq
      have hn := hpl.dst _ hk t hkt
      rw [FS_some (p := p) (List.mem_filter.2 ⟨hp, hkL⟩) hkt hn (fun q hq hqt => hone done (fun _ h => h) p hp q (List.mem_filter.1 hq).1 hkt hqt),
        FS_some (p := p) hpS hkt hn (fun q hq hqt => hone done (fun _ h => h) p hp q (by rw [hS]; exact List.mem_append_right _ hq) hkt hqt)]
    · have hkL : L.getD k false = false := by
        cases hL : L.getD k false with
        | false => rfl
        | true =>
          have := anc_mem L j.down _ k (j.down k hL) i h2
          rw [hiL] at this; simp at this
      rw [FS_none, FS_none]
      · intro p hp hpt
        have hpd : p ∈ done := by rw [hS]; exact List.mem_append_right _ hp
        have hpk : p.i = k := by
          by_cases h' : p.i = k
          · exact h'
          · exact absurd hkt (hpl.dsts _ (j.lt hpl hpd) _ hk h' t hpt)
        have := ((hbefore p.i).1 (List.mem_map.2 ⟨p, hp, rfl⟩)).2
        rw [hpk] at this; omega
      · intro p hp hpt
        obtain ⟨hpd, hpL⟩ := List.mem_filter.1 hp
        have hpk : p.i = k := by
          by_cases h' : p.i = k
          · exact h'
          · exact absurd hkt (hpl.dsts _ (j.lt hpl hpd) _ hk h' t hpt)
        rw [hpk] at hpL; simp [hkL] at hpL
  · have hw' : ∀ p ∈ done, dstOf ops p.i ≠ some t := fun p hp hpt => hw ⟨p.i, j.lt hpl hp, hpt⟩
    rw [FS_none (fun p hp => hw' p (List.mem_filter.1 hp).1), FS_none (fun p hp => hw' p (by rw [hS]; exact List.mem_append_right _ hp))]

theorem getD_set (L : Array Bool) (i k : Nat) (hi : i < L.size) : (L.setIfInBounds i true).getD k false = if k = i then true else L.getD k false := by
  rw [Array.getD_eq_getD_getElem?, Array.getElem?_setIfInBounds]
  by_cases h : i = k
  · subst h; simp [hi]
  · rw [if_neg h, if_neg (fun h' => h h'.symm), Array.getD_eq_getD_getElem?]

/-- one of the past is now done -/
theorem frame_add (hpl : Plan n ops c) {L : Array Bool} {a : Act} {done : List Past} {rem : List Nat} (j : J P n ops fr K c μ₀ h₀ w₀ ds L a w done rem h μ) {μ' : Emb} (hup : ∀ b e, μ b = some e → μ' b = some e)
    {done' : List Past} {p : Past} (hdone : ∀ q, q ∈ done' ↔ (q = p ∨ q ∈ done)) (hpi : p.i < ops.size) (hpL : L.getD p.i false = false) (hnew : ∀ q ∈ done', q.i = p.i → q = p) {v' : Value} (hv : VRel μ' p.v v') :
    FRel μ' n (FS n ops fr (done'.filter fun q => (L.setIfInBounds p.i true).getD q.i false)) (a.put (dstOf ops p.i) v').tmps := by
  have hLs : p.i < L.size := by rw [j.size]; exact hpi
  have hmem : ∀ q, q ∈ done'.filter (fun q => (L.setIfInBounds p.i true).getD q.i false) ↔ (q = p ∨ q ∈ done.filter fun q => L.getD q.i false) := by
    intro q
    rw [List.mem_filter, List.mem_filter, hdone, getD_set L p.i q.i hLs]
    constructor
    · rintro ⟨h1, h2⟩
      by_cases hq : q = p
      · exact .inl hq
      · right
        have hqi : q.i ≠ p.i := fun h' => hq (hnew q ((hdone q).2 h1) h')
        rw [if_neg hqi] at h2
        exact ⟨h1.resolve_left hq, h2⟩
    · rintro (rfl | ⟨h1, h2⟩)
      · exact ⟨.inl rfl, by simp⟩
      · refine ⟨.inr h1, ?_⟩
        by_cases hqi : q.i = p.i
        · rw [if_pos hqi]
        · rw [if_neg hqi]; exact h2
  have hlt : ∀ q ∈ done', q.i < ops.size := by
    intro q hq
    rcases (hdone q).1 hq with rfl | h'
    · exact hpi
    · exact j.lt hpl h'
  have hdst : ∀ q ∈ done', ∀ t, dstOf ops p.i = some t → dstOf ops q.i = some t → q = p := by
    intro q hq t h1 h2
    by_cases hqi : q.i = p.i
    · exact hnew q hq hqi
    · exact absurd h1 (hpl.dsts _ (hlt q hq) _ hpi hqi t h2)
  refine ⟨?_, fun t => ?_⟩
  · have := j.frame.1
    cases hd : dstOf ops p.i <;> simpa [Act.put] using this
  by_cases ht : dstOf ops p.i = some t
  · have hn := hpl.dst _ hpi t ht
    rw [FS_some (p := p) ((hmem p).2 (.inl rfl)) ht hn (fun q hq hqt => hdst q (List.mem_filter.1 hq).1 t ht hqt), ht]
    have := j.frame.1
    simp only [Act.put]
    rw [← this] at hn
    simpa [Array.getD_eq_getD_getElem?, hn] using hv
  · have heq : FS n ops fr (done'.filter fun q => (L.setIfInBounds p.i true).getD q.i false) t = FS n ops fr (done.filter fun q => L.getD q.i false) t := by
      by_cases hex : ∃ q ∈ done.filter (fun q => L.getD q.i false), dstOf ops q.i = some t
      · obtain ⟨q, hq, hqt⟩ := hex
        have hqd := (List.mem_filter.1 hq).1
        have hn := hpl.dst _ (j.lt hpl hqd) t hqt
        have huniq : ∀ r ∈ done', dstOf ops r.i = some t → r.i = q.i := by
          intro r hr hrt
          by_cases hri : r.i = q.i
          · exact hri
          · exact absurd hqt (hpl.dsts _ (hlt r hr) _ (j.lt hpl hqd) hri t hrt)
        have hnd : (done.map (·.i)).Nodup := by
          have := hpl.nodup
          rw [j.split, List.nodup_append] at this
          exact nodup_rev this.1
        have huq : ∀ r ∈ done, r.i = q.i → r = q := by
          intro r hr hri
          obtain ⟨A, B, hAB⟩ := List.append_of_mem hqd
          rw [hAB] at hnd hr
          simp only [List.map_append, List.map_cons, List.nodup_append, List.nodup_cons] at hnd
          rcases List.mem_append.1 hr with h' | h'
          · exact absurd hri (hnd.2.2 r.i (List.mem_map.2 ⟨r, h', rfl⟩) q.i (by simp))
          · rcases List.mem_cons.1 h' with h' | h'
            · exact h'
            · exact absurd (List.mem_map.2 ⟨r, h', hri⟩) hnd.2.1.1
        rw [FS_some (p := q) ((hmem q).2 (.inr hq)) hqt hn, FS_some (p := q) hq hqt hn]
        · intro r hr hrt; exact huq r (List.mem_filter.1 hr).1 (huniq r ((hdone r).2 (.inr (List.mem_filter.1 hr).1)) hrt)
        · intro r hr hrt
          rcases (hmem r).1 hr with rfl | h'
          · exact absurd hrt ht
          · exact huq r (List.mem_filter.1 h').1 (huniq r ((hdone r).2 (.inr (List.mem_filter.1 h').1)) hrt)
      · rw [FS_none, FS_none]
        · intro q hq hqt; exact hex ⟨q, hq, hqt⟩
        · intro q hq hqt
          rcases (hmem q).1 hq with rfl | h'
          · exact ht hqt
          · exact hex ⟨q, h', hqt⟩
    rw [heq]
    have hf := (j.frame.mono hup).2 t
    cases hd : dstOf ops p.i with
    | none => exact hf
    | some d =>
      simp only [Act.put]
      rw [Array.getD_eq_getD_getElem?] at hf ⊢
      rw [Array.getElem?_setIfInBounds_ne (fun h => ht (by rw [hd, h]))]
      exact hf

theorem J.pos (hpl : Plan n ops c) {L : Array Bool} {a : Act} {done : List Past} {rem : List Nat} (j : J P n ops fr K c μ₀ h₀ w₀ ds L a w done rem h μ) {p : Past} {S T : List Past} (he : done = T ++ p :: S) :
    ∀ q, q ∈ S.map (·.i) ↔ (q ∈ done.map (·.i) ∧ c.idxOf q < c.idxOf p.i) := by
  intro q
  have hc : c = (S.map (·.i)).reverse ++ p.i :: ((T.map (·.i)).reverse ++ rem) := by rw [j.split, he]; simp
  have hn := hpl.nodup
  rw [hc] at hn
  have := idx_lt (j := q) hn
  rw [← hc] at this
  rw [← this, List.mem_reverse]
  constructor
  · intro h'; exact ⟨by rw [he]; simp at h' ⊢; exact .inr (.inr h'), h'⟩
  · exact fun h' => h'.2
theorem J.pos0 (hpl : Plan n ops c) {L : Array Bool} {a : Act} {done : List Past} {rem : List Nat} {e : Nat} (j : J P n ops fr K c μ₀ h₀ w₀ ds L a w done (e :: rem) h μ) :
    ∀ q, q ∈ done.map (·.i) ↔ (q ∈ done.map (·.i) ∧ c.idxOf q < c.idxOf e) := by
  intro q
  have hc : c = (done.map (·.i)).reverse ++ e :: rem := j.split
  have hn := hpl.nodup
  rw [hc] at hn
  have := idx_lt (j := q) hn
  rw [← hc, List.mem_reverse] at this
  exact ⟨fun h' => ⟨h', this.1 h'⟩, fun h' => h'.1⟩

theorem newA_value {ρ : Operand → Value} {o : Op} {B : Blk} {f : Nat → Value} (hA : newA P ρ o = some (B, f)) {N id : Nat} {v' : Value} {μ' μ'' : Emb} (hv : VRel μ' (f N) v') : ∃ p, μ' N = some p ∧ (μ'' id = some p → VRel μ'' (f id) v') := by
  rcases newA_shape hA with rfl | ⟨i, m, rfl⟩ | rfl
  · cases hv with
    | ptr _ hb => exact ⟨_, hb, fun h' => .ptr _ h'⟩
  · simp only at hv
    generalize hnn : (Value.slice (some ⟨N, 0, none⟩) i m) = x at hv
    cases hv <;> simp at hnn
    case sl o n c hb hc hn => obtain ⟨⟨rfl, rfl⟩, rfl, rfl⟩ := hnn; exact ⟨_, hb, fun h' => .sl _ _ _ h' hc hn⟩
    case slO o n l c hb hn hl hx => obtain ⟨⟨rfl, rfl⟩, rfl, rfl⟩ := hnn; exact ⟨_, hb, fun h' => .slO _ _ _ _ h' hn hl hx⟩
    case slE o o' hb => obtain ⟨⟨rfl, rfl⟩, rfl, rfl⟩ := hnn; exact ⟨_, hb, fun h' => .slE _ _ h'⟩
    case slZ o o' hb => obtain ⟨⟨rfl, rfl⟩, rfl, rfl⟩ := hnn; exact ⟨_, hb, fun h' => .slZ _ _ h'⟩
  · cases hv with
    | map hb => exact ⟨_, hb, fun h' => .map h'⟩

theorem countP_off {f g : Nat → Bool} {i : Nat} : ∀ (l : List Nat), l.Nodup → i ∈ l → f i = true → g i = false → (∀ j, j ≠ i → g j = f j) → l.countP g + 1 = l.countP f := by
  intro l
  induction l with
  | nil => intro _ hi; simp at hi
  | cons x l ih =>
    intro hn hi hf hg hfg
    rw [List.nodup_cons] at hn
    by_cases hx : x = i
    · subst hx
      have : l.countP g = l.countP f := by
        refine List.countP_congr fun j hj => ?_
        rw [hfg j (fun h => hn.1 (h ▸ hj))]
      rw [List.countP_cons, List.countP_cons, hf, hg, this]
      simp
    · have hil : i ∈ l := by
        rcases List.mem_cons.1 hi with h' | h'
        · exact absurd h'.symm hx
        · exact h'
      rw [List.countP_cons, List.countP_cons, hfg x hx, ← ih hn.2 hil hf hg hfg]
      omega
def unlisted (ops : Array Oper) (L : Array Bool) : Nat := (List.range ops.size).countP fun i => !L.getD i false

theorem preds_mem {i j : Nat} {o : Oper} (ho : ops[i]? = some o) : j ∈ preds ops i ↔ ∃ e ∈ o.after, Region.binds .any e = true ∧ e.on = j := by
  simp only [preds, ho, Option.map_some, Option.getD_some, List.mem_map, List.mem_filter, Array.mem_toList_iff]
  constructor
  · rintro ⟨e, ⟨h1, h2⟩, h3⟩; exact ⟨e, h1, h2, h3⟩
  · rintro ⟨e, h1, h2, h3⟩; exact ⟨e, ⟨h1, h2⟩, h3⟩
theorem getD_tf {L : Array Bool} {i : Nat} (hi : i < L.size) : L.getD i true = L.getD i false := by
  simp [Array.getD_eq_getD_getElem?, hi]
theorem ready_iff {L : Array Bool} (hs : L.size = ops.size) {i : Nat} : i ∈ Region.ready .any ops L ↔ (i < ops.size ∧ L.getD i false = false ∧ ∀ j ∈ preds ops i, L.getD j false = true) := by
  rw [mem_ready]
  constructor
  · rintro ⟨h1, o, ho, h2⟩
    have hi := (Array.getElem?_eq_some_iff.1 ho).1
    refine ⟨hi, by rw [← getD_tf (by omega)]; exact h1, fun j hj => ?_⟩
    obtain ⟨e, e1, e2, rfl⟩ := (preds_mem ho).1 hj
    exact h2 e e1 e2
  · rintro ⟨hi, h1, h2⟩
    have ho : ops[i]? = some ops[i] := Array.getElem?_eq_getElem hi
    refine ⟨by rw [getD_tf (by omega)]; exact h1, ops[i], ho, fun e he hb => h2 _ ((preds_mem ho).2 ⟨e, he, hb, rfl⟩)⟩

theorem J.final (hpl : Plan n ops c) (hds : DOk m ds μ₀ h₀ w₀) {L : Array Bool} {a : Act} {done : List Past} {rem : List Nat} (j : J P n ops fr K c μ₀ h₀ w₀ ds L a w done rem h μ) (hall : ∀ i, i < ops.size → L.getD i false = true) :
    CPost n m μ₀ h₀ w₀ (NQ K) .normal a w := by
  obtain ⟨done', rem', h', j', hr⟩ := J.advance hpl rem done h j
  rcases hr with rfl | ⟨e, rest, o, rfl, ho, _, _⟩
  · refine ⟨μ, FS n ops fr done', h', j'.step, ?_, by rw [j'.defers]; exact hds.step j'.step, j'.can⟩
    have hfil : done'.filter (fun p => L.getD p.i false) = done' := List.filter_eq_self.2 fun p hp => hall _ (j'.lt hpl hp)
    rw [← hfil]; exact j'.frame
  · have hel := (Array.getElem?_eq_some_iff.1 ho).1
    obtain ⟨p, hp, hpe⟩ := j'.inn e (hall e hel)
    have hn := hpl.nodup
    rw [j'.split, List.nodup_append] at hn
    exact absurd rfl (hn.2.2 e (by simp; exact ⟨p, hp, hpe⟩) e (by simp))

theorem J.listed (hpl : Plan n ops c) {L : Array Bool} {a : Act} {done : List Past} {rem : List Nat} (j : J P n ops fr K c μ₀ h₀ w₀ ds L a w done rem h μ) (hr : Region.ready .any ops L = []) : ∀ i, i < ops.size → L.getD i false = true := by
  have key : ∀ m i, i < ops.size → c.idxOf i = m → L.getD i false = true := by
    intro m
    induction m using Nat.strongRecOn with
    | _ m ih =>
      intro i hi him
      cases hL : L.getD i false with
      | true => rfl
      | false =>
        exfalso
        have : i ∈ Region.ready .any ops L := (ready_iff j.size).2 ⟨hi, hL, fun q hq => by
          have hlt := hpl.pred i (hpl.all i hi) q hq
          have hqc : q ∈ c := by
            by_cases h' : q ∈ c
            · exact h'
            · rw [List.idxOf_eq_length h'] at hlt
              have := List.idxOf_lt_length_of_mem (hpl.all i hi)
              omega
          exact ih (c.idxOf q) (by omega) q (hpl.lt q hqc) rfl⟩
        rw [hr] at this; simp at this
  exact fun i hi => key _ i hi rfl

theorem J.any (hpl : Plan n ops c) (hds : DOk m ds μ₀ h₀ w₀) : ∀ (fuel : Nat) (L : Array Bool) (a : Act) (w : World) (done : List Past) (rem : List Nat) (h : Hp) (μ : Emb), J P n ops fr K c μ₀ h₀ w₀ ds L a w done rem h μ → unlisted ops L = fuel →
    wpAnyIn (Wd r0) 0 P .any ops (CPost n m μ₀ h₀ w₀ (NQ K)) fuel L a w := by
  intro fuel
  induction fuel with
  | zero =>
    intro L a w done rem h μ j hu
    have hall : ∀ i, i < ops.size → L.getD i false = true := by
      intro i hi
      have := List.countP_eq_zero.1 hu i (List.mem_range.2 hi)
      simpa using this
    refine ⟨?_, j.final hpl hds hall⟩
    refine List.eq_nil_iff_forall_not_mem.2 fun i hi => ?_
    obtain ⟨h1, h2, _⟩ := (ready_iff j.size).1 hi
    rw [hall i h1] at h2; simp at h2
  | succ fuel ih =>
    intro L a w done0 rem0 h0 μ j0 hu
    refine ⟨fun hr => j0.final hpl hds (j0.listed hpl hr), ?_⟩
    intro i hi
    obtain ⟨hil, hiL, hpr⟩ := (ready_iff j0.size).1 hi
    have hoi : ops[i]? = some ops[i] := Array.getElem?_eq_getElem hil
    have hsz : i < L.size := by rw [j0.size]; exact hil
    have hu' : unlisted ops (L.setIfInBounds i true) = fuel := by
      have := countP_off (f := fun k => !L.getD k false) (g := fun k => !(L.setIfInBounds i true).getD k false) (i := i) (List.range ops.size) List.nodup_range (List.mem_range.2 hil) (by simp only [hiL]; rfl)
        (by simp only [getD_set L i i hsz]; simp) (fun k hk => by simp only [getD_set L i k hsz, if_neg hk])
      unfold unlisted at hu ⊢
      omega
    have hdown' : ∀ k, (L.setIfInBounds i true).getD k false = true → ∀ q ∈ preds ops k, (L.setIfInBounds i true).getD q false = true := by
      intro k hk q hq
      rw [getD_set L i q hsz]
      split
      · rfl
      · rw [getD_set L i k hsz] at hk
        by_cases hki : k = i
        · subst hki; exact hpr q hq
        · rw [if_neg hki] at hk; exact j0.down k hk q hq
    obtain ⟨done, rem, h, j, hrem⟩ := J.advance hpl rem0 done0 h0 j0
    have hnd : (done.map (·.i)).Nodup := by
      have := hpl.nodup
      rw [j.split, List.nodup_append] at this
      exact nodup_rev this.1
    have huniq : ∀ p ∈ done, ∀ q ∈ done, q.i = p.i → q = p := by
      intro p hp q hq hqi
      obtain ⟨A, B, hAB⟩ := List.append_of_mem hp
      rw [hAB] at hnd hq
      simp only [List.map_append, List.map_cons, List.nodup_append, List.nodup_cons] at hnd
      rcases List.mem_append.1 hq with h' | h'
      · exact absurd hqi (hnd.2.2 q.i (List.mem_map.2 ⟨q, h', rfl⟩) p.i (by simp))
      · rcases List.mem_cons.1 h' with h' | h'
        · exact h'
        · exact absurd (List.mem_map.2 ⟨q, h', hqi⟩) hnd.2.1.1
    unfold wpOpIn
    rw [hoi]
    simp only
    by_cases hin : ∃ p ∈ done, p.i = i
    · -- it was met in the one order
      obtain ⟨p, hp, hpi⟩ := hin
      obtain ⟨T, S, hTS⟩ := List.append_of_mem hp
      have hpos := j.pos hpl hTS
      have hlk := j.looks_eq hpl (S := S) (T := T ++ [p]) (i := i) hil hpr hiL (by rw [hTS]; simp) (by rw [← hpi]; exact hpos)
      obtain ⟨⟨o, ho, hwant, hmade⟩, hstill⟩ := j.past p S T hTS
      rw [hpi] at ho
      have hoo : o = ops[i] := Option.some.inj (ho.symm.trans hoi)
      have hstill := hstill (by rw [hpi]; exact hiL)
      -- the rest of the relation, once it is done
      have hJ : ∀ {a' : Act} {w' : World} {μ' : Emb}, (∀ b e, μ b = some e → μ' b = some e) → Step μ₀ h₀ w₀ μ' h w' → (∀ q ∈ done, q ≠ p → ∀ B id, q.k = .made B id → L.getD q.i false = false → μ' id = none) →
          FRel μ' n (FS n ops fr (done.filter fun q => (L.setIfInBounds i true).getD q.i false)) a'.tmps → a'.defers = ds →
          J P n ops fr K c μ₀ h₀ w₀ ds (L.setIfInBounds i true) a' w' done rem h μ' := by
        intro a' w' μ' hup hs hm hf hd
        refine ⟨by simpa using j.size, j.split, j.can, hdown', ?_, ?_, hs, hf, hd, ?_, j.low, j.ids, ?_⟩
        · intro k hk
          rw [getD_set L i k hsz] at hk
          by_cases hki : k = i
          · exact ⟨p, hp, by rw [hki]; exact hpi⟩
          · rw [if_neg hki] at hk; exact j.inn k hk
        · intro q hq hk
          rw [getD_set L i q.i hsz]
          split
          · rfl
          · exact j.eff q hq hk
        · intro q hq B id hk
          refine ⟨(j.made q hq B id hk).1, fun hL => ?_⟩
          rw [getD_set L i q.i hsz] at hL
          by_cases hqi : q.i = i
          · rw [if_pos hqi] at hL; simp at hL
          · rw [if_neg hqi] at hL
            exact hm q hq (fun h' => hqi (by rw [h']; exact hpi)) B id hk hL
        · intro q S' T' hq
          refine ⟨(j.past q S' T' hq).1, fun hL => (j.past q S' T' hq).2 ?_⟩
          rw [getD_set L i q.i hsz] at hL
          by_cases hqi : q.i = i
          · rw [if_pos hqi] at hL; simp at hL
          · rw [if_neg hqi] at hL; exact hL
      have hadd : ∀ {μ' : Emb} {v' : Value}, (∀ b e, μ b = some e → μ' b = some e) → VRel μ' p.v v' → FRel μ' n (FS n ops fr (done.filter fun q => (L.setIfInBounds i true).getD q.i false)) (a.put (ops[i]).dst v').tmps := by
        intro μ' v' hup hv
        have := frame_add hpl j hup (done' := done) (p := p) (fun q => ⟨fun h' => .inr h', fun h' => by rcases h' with rfl | h' <;> assumption⟩) (by rw [hpi]; exact hil) (by rw [hpi]; exact hiL) (fun q hq hqi => huniq p hp q hq hqi) hv
        rw [hpi] at this
        have hdd : dstOf ops i = (ops[i]).dst := by simp [dstOf, hoi]
        rw [hdd] at this
        exact this
      rcases hwant with ⟨hk, hv, hw⟩ | ⟨hk, hw⟩
      · have hw' : wantA ops ops[i] (FS n ops fr (done.filter fun p => L.getD p.i false)) = some false := by
          rw [wantA_congr hoi hlk, ← hoo]; exact hw
        rw [if_neg (by rw [wantA_ok j.frame hw']; simp)]
        refine ⟨fun _ _ => trivial, ?_⟩
        refine ih _ _ _ done rem h μ (hJ (fun _ _ h => h) j.step (fun q hq hne B id hk hL => (j.made q hq B id hk).2 hL) (hadd (fun _ _ h => h) (by rw [hv]; exact .sk)) (by rw [put_defers]; exact j.defers)) hu'
      · have hw' : wantA ops ops[i] (FS n ops fr (done.filter fun p => L.getD p.i false)) = some true := by
          rw [wantA_congr hoi hlk, ← hoo]; exact hw
        rw [if_pos (wantA_ok j.frame hw')]
        have hev := evalA_congr (o := ops[i]) hoi hlk
        unfold stillP at hstill
        split at hstill
        · rename_i hke
          have := j.eff p hp hke
          rw [hpi, hiL] at this; simp at this
        · rename_i hks
          exact absurd hks hk
        · obtain ⟨o', ho', hop⟩ := hstill
          rw [hpi] at ho'
          have hoo' : o' = ops[i] := Option.some.inj (ho'.symm.trans hoi)
          subst hoo'
          rw [← opA_congr hev] at hop
          obtain ⟨μ', v', w', e1, e2, e3⟩ := opA_ok (P := P) j.step.rel j.frame (o := ops[i]) hop
          have hup := e3.up j.step.rel
          have hcont : wpAnyIn (Wd r0) 0 P .any ops (CPost n m μ₀ h₀ w₀ (NQ K)) fuel (L.setIfInBounds i true) (a.put (ops[i]).dst v') w' := by
            refine ih _ _ _ done rem h μ' (hJ hup (j.step.trans e3) (fun q hq hne B id hk hL => ?_) (hadd hup e2) (by rw [put_defers]; exact j.defers)) hu'
            have h1 := (j.made q hq B id hk).2 hL
            obtain ⟨A, D, hAD⟩ := List.append_of_mem hq
            have h2 := (j.past q D A hAD).2 hL
            simp only [stillP, hk] at h2
            rw [e3.sub id (hp_lt h2)]; exact h1
          exact wpOper (opA_defer hop) (upon_value e1 hcont)
        · rename_i B id hkm
          obtain ⟨f, hnew, hpv⟩ := hmade B id hkm
          rw [hoo] at hnew
          rw [← newA_congr hev] at hnew
          have hgood := newA_good j.frame hnew
          obtain ⟨μ', v', w', e1, e2, e3⟩ := opA_ok (P := P) j.step.rel j.frame (o := ops[i]) (newA_op hnew h)
          obtain ⟨hlt, hnone⟩ := j.made p hp B id hkm
          have hnone := hnone (by rw [hpi]; exact hiL)
          obtain ⟨pl, hpl1, hpl2⟩ := newA_value hnew (id := id) (μ'' := μ.put id (((μ' h.length)).getD ⟨0, 0, 0, 0⟩)) e2
          rw [hpl1] at hpl2
          simp only [Option.getD_some] at hpl2
          have hv2 := hpl2 (Emb.put_new _ _ _)
          have hfill := Step.fill j.step e3 hpl1 hstill hnone hgood hlt
          have hup2 : ∀ b e, μ b = some e → (μ.put id pl) b = some e := by
            intro b e hb
            simp only [Emb.put]
            split
            · rename_i h'; subst h'; rw [hnone] at hb; simp at hb
            · exact hb
          have hcont : wpAnyIn (Wd r0) 0 P .any ops (CPost n m μ₀ h₀ w₀ (NQ K)) fuel (L.setIfInBounds i true) (a.put (ops[i]).dst v') w' := by
            refine ih _ _ _ done rem h (μ.put id pl) (hJ hup2 hfill (fun q hq hne B' id' hk hL => ?_) (hadd hup2 (by rw [hpv]; exact hv2)) (by rw [put_defers]; exact j.defers)) hu'
            have h1 := (j.made q hq B' id' hk).2 hL
            simp only [Emb.put]
            split
            · rename_i hidd
              exfalso
              subst hidd
              have hq' := hq
              rw [hTS] at hq'
              rcases List.mem_append.1 hq' with h' | h'
              · obtain ⟨A, D, hAD⟩ := List.append_of_mem h'
                have := j.ids q (D ++ p :: S) A (by rw [hTS, hAD]; simp) B' _ hk p (by simp) B _ hkm
                omega
              · rcases List.mem_cons.1 h' with h' | h'
                · exact hne h'
                · have := j.ids p S T hTS B _ hkm q h' B' _ hk
                  omega
            · exact h1
          exact wpOper (opA_defer (newA_op hnew h)) (upon_value e1 hcont)
    · -- it is the one that acts, next
      rcases hrem with rfl | ⟨e, rest, o, rfl, hoe, heff, hwe⟩
      · exfalso
        have hic := hpl.all i hil
        rw [j.split] at hic
        simp at hic
        obtain ⟨p, hp, hpi⟩ := hic
        exact hin ⟨p, hp, hpi⟩
      have hie : i = e := by
        by_cases hie : i = e
        · exact hie
        · exfalso
          have hec : e ∈ c := by rw [j.split]; simp
          have hidx : ∀ k, c.idxOf k < c.idxOf e ↔ ∃ p ∈ done, p.i = k := by
            intro k
            have hcc : c = (done.map (·.i)).reverse ++ e :: rest := j.split
            have hn := hpl.nodup
            rw [hcc] at hn
            have := idx_lt (j := k) hn
            rw [← hcc, List.mem_reverse, List.mem_map] at this
            exact this.symm
          have h1 : ¬ c.idxOf i < c.idxOf e := fun h' => hin ((hidx i).1 h')
          have hic := hpl.all i hil
          have hne : c.idxOf i ≠ c.idxOf e := fun h' => hie (by
            have h2 := List.getElem_idxOf (List.idxOf_lt_length_of_mem hic)
            have h3 := List.getElem_idxOf (List.idxOf_lt_length_of_mem hec)
            rw [← h2, ← h3]
            congr 1)
          rcases hpl.eager e hec o hoe heff i hic with h' | ⟨k, hk, hk'⟩
          · omega
          · obtain ⟨p, hp, hpk⟩ := j.inn k (hpr k hk)
            have := (hidx k).2 ⟨p, hp, hpk⟩
            omega
      subst hie
      have hoo : o = ops[i] := Option.some.inj (hoe.symm.trans hoi)
      subst hoo
      have hlk := j.looks_eq hpl (S := done) (T := []) (i := i) hil hpr hiL (by simp) (j.pos0 hpl)
      have hw' : wantA ops ops[i] (FS n ops fr (done.filter fun p => L.getD p.i false)) = some true := by
        rw [wantA_congr hoi hlk]; exact hwe
      rw [if_pos (wantA_ok j.frame hw')]
      have hev := evalA_congr (o := ops[i]) hoi hlk
      have hcan := j.can
      simp only [Can, hoi, hwe] at hcan
      have hcan := hcan.2 trivial
      rw [if_pos heff] at hcan
      -- the relation behind it
      have hJ : ∀ {v v' : Value} {h' : Hp} {w' : World} {μ' : Emb}, Step μ h w μ' h' w' → VRel μ' v v' → stillAll P n ops fr (ancs ops ops.size i) h' done → Can P n ops fr K rest (⟨i, v, .eff⟩ :: done) h' →
          J P n ops fr K c μ₀ h₀ w₀ ds (L.setIfInBounds i true) (a.put (ops[i]).dst v') w' (⟨i, v, .eff⟩ :: done) rest h' μ' := by
        intro v v' h' w' μ' hs hv hst hc
        have hup := hs.up j.step.rel
        refine ⟨by simpa using j.size, by rw [j.split]; simp, hc, hdown', ?_, ?_, j.step.trans hs, ?_, by rw [put_defers]; exact j.defers, ?_, ?_, ?_, ?_⟩
        · intro k hk
          rw [getD_set L i k hsz] at hk
          by_cases hki : k = i
          · exact ⟨⟨i, v, .eff⟩, by simp, hki.symm⟩
          · rw [if_neg hki] at hk
            obtain ⟨p, hp, hpk⟩ := j.inn k hk
            exact ⟨p, by simp [hp], hpk⟩
        · intro q hq hk
          rw [getD_set L i q.i hsz]
          split
          · rfl
          · rename_i hne
            rcases List.mem_cons.1 hq with rfl | hq
            · exact absurd rfl hne
            · exact j.eff q hq hk
        · have := frame_add hpl j hup (done' := ⟨i, v, .eff⟩ :: done) (p := ⟨i, v, .eff⟩) (fun q => List.mem_cons) hil hiL (fun q hq hqi => by
            rcases List.mem_cons.1 hq with h' | h'
            · exact h'
            · exact absurd ⟨q, h', hqi⟩ hin) hv
          have hdd : dstOf ops i = (ops[i]).dst := by simp [dstOf, hoi]
          simp only [hdd] at this
          exact this
        · intro q hq B id hk
          rcases List.mem_cons.1 hq with rfl | hq
          · simp at hk
          · refine ⟨(j.made q hq B id hk).1, fun hL => ?_⟩
            rw [getD_set L i q.i hsz] at hL
            by_cases hqi : q.i = i
            · rw [if_pos hqi] at hL; simp at hL
            · rw [if_neg hqi] at hL
              rw [hs.sub id (j.low q hq B id hk)]
              exact (j.made q hq B id hk).2 hL
        · intro q hq B id hk
          rcases List.mem_cons.1 hq with rfl | hq
          · simp at hk
          · exact Nat.lt_of_lt_of_le (j.low q hq B id hk) hs.len
        · intro q S T he B id hk
          cases T with
          | nil => simp at he; obtain ⟨rfl, rfl⟩ := he; simp at hk
          | cons r T => simp at he; exact j.ids q S T he.2 B id hk
        · intro q S T he
          cases T with
          | nil =>
            simp at he; obtain ⟨rfl, rfl⟩ := he
            exact ⟨⟨ops[i], hoi, .inr ⟨by simp, hwe⟩, by simp⟩, fun _ => trivial⟩
          | cons r T =>
            simp at he
            refine ⟨(j.past q S T he.2).1, fun hL => (stillAll_at done hst q S T he.2).resolve_left fun hc => ?_⟩
            have hq := anc_mem L j.down _ i hpr q.i (by simpa using hc)
            rw [getD_set L i q.i hsz] at hL
            split at hL
            · simp at hL
            · rw [hq] at hL; simp at hL
      split at hcan
      · exact hcan.elim
      · rename_i v h' hop
        rw [← opA_congr hev] at hop
        obtain ⟨μ', v', w', e1, e2, e3⟩ := opA_ok (P := P) j.step.rel j.frame (o := ops[i]) hop
        have hcont := ih _ _ _ _ _ _ _ (hJ e3 e2 hcan.1 hcan.2) hu'
        exact wpOper (opA_defer hop) (upon_value e1 hcont)
      · rename_i f args hop
        rw [← opA_congr hev] at hop
        obtain ⟨vs, e1, e2⟩ := opA_ok (P := P) j.step.rel j.frame (o := ops[i]) hop hcan.1
        refine wpOper (opA_defer hop) (upon_enter e1 (hcan.2 μ w vs j.step.rel e2) ?_)
        rintro en w' ⟨μ', h', r, v, rfl, s, hv, hq⟩
        exact ⟨v, rfl, ih _ _ _ _ _ _ _ (hJ s hv hq.1 hq.2) hu'⟩
      · rename_i b args hop
        rw [← opA_congr hev] at hop
        obtain ⟨e, vs, e1, e2, e3⟩ := opA_ok (P := P) j.step.rel j.frame (o := ops[i]) hop
        obtain ⟨r, g1, g2, g3⟩ := RoundA.ok r0 j.step.rel hcan e1 e2
        refine wpOper (opA_defer hop) (upon_round (e3 r g1 g2) g3 ?_)
        rintro en w' ⟨μ', h', r, v, rfl, s, hv, hq⟩
        exact ⟨v, rfl, ih _ _ _ _ _ _ _ (hJ s hv hq.1 hq.2) hu'⟩

/-- **A statement that may come in several orders**: by one of them. -/
theorem WpA.draw {id : Nat} {Q : QA} (c : List Nat) (hm : P.follows .mixedOrders = true) (hpl : planOk n ops c = true) (hc : Can P n ops fr (fun fr h => Q .normal fr h) c [] h) : WpA P n (.region id ops true) Q fr h := by
  intro r m μ w a _ hr hf hd
  have hd0 : { w with drawn := w.drawn + 1 } = w.drew := rfl
  refine wpIn_mono (wpIn_region_any hm (Q := CPost n m μ h w (NQ fun fr h => Q .normal fr h)) ?_) ?_
  · have hu : unlisted ops (Array.replicate ops.size false) = ops.size := by
      unfold unlisted
      have : (List.range ops.size).countP (fun i => !(Array.replicate ops.size false).getD i false) = (List.range ops.size).length := by
        refine List.countP_eq_length.2 fun i hi => ?_
        have := List.mem_range.1 hi
        simp [Array.getD_eq_getD_getElem?, this]
      rw [this]; simp
    refine J.any (planOk_spec hpl) hd ops.size _ _ _ [] c h μ ⟨by simp, by simp, hc, ?_, ?_, by simp, Step.drew hr, ?_, rfl, by simp, by simp, by simp, by simp⟩ hu
    · intro i hi
      simp [Array.getD_eq_getD_getElem?, Array.getElem?_replicate] at hi
      split at hi <;> simp at hi
    · intro i hi
      simp [Array.getD_eq_getD_getElem?, Array.getElem?_replicate] at hi
      split at hi <;> simp at hi
    · simpa [FS] using hf
  · rintro e a' w' ⟨μ', fr', h', s, r1, r2, r3⟩
    cases e <;> first | exact ⟨μ', fr', h', s, r1, r2, r3⟩ | exact r3.elim
end
end Go.Ab

/- Walks told by their text, lazily: what follows an operation is looked at when its value is seen; and numbers. No condition. -/
namespace Go.Ab
open Go.RowKit
section
variable {P : Program} {h : Hp} {n : Nat} {fr : Fr} {Q : QA}

/-- what 'simp' is to leave alone -/
inductive Lazy {α : Sort _} (a : α) : Type
  | mk : Lazy a
/-- what follows an operation -/
def after (P : Program) (h : Hp) (r : Option Res) (K : Value → Hp → Prop) (_ : Lazy K) : Prop :=
  match r with
  | none => False
  | some (.val v h') => K v h'
  | some (.enter f args) => EvA P f args K h
  | some (.round b args) => RoundA P b args K h
@[simp ↓] theorem after_none (K : Value → Hp → Prop) (d : Lazy K) : after P h none K d = False := Eq.trans rfl rfl
@[simp] theorem after_val (v : Value) (h' : Hp) (K : Value → Hp → Prop) (d : Lazy K) : after P h (some (.val v h')) K d = K v h' := Eq.trans rfl rfl
theorem after_call {f : Nat} {args : List Value} {K : Value → Hp → Prop} {d : Lazy K} {Q : Value → Hp → Prop} (he : EvA P f args Q h) (hk : ∀ r h', Q r h' → K r h') : after P h (some (.enter f args)) K d := he.mono hk
theorem after_round {b : Nat} {args : List Value} {K : Value → Hp → Prop} {d : Lazy K} (he : RoundA P b args K h) : after P h (some (.round b args)) K d := he
theorem after_of {r : Option Res} {v : Value} {h' : Hp} {K : Value → Hp → Prop} {d : Lazy K} (hr : r = some (.val v h')) (hk : K v h') : after P h r K d := by rw [hr]; exact hk
/-- an operation of which it is not yet seen whether it is wanted -/
def wanted (w : Option Bool) (A B : Prop) (_ : Lazy A) (_ : Lazy B) : Prop :=
  match w with
  | none => False
  | some true => A
  | some false => B
@[simp] theorem wanted_true (A B : Prop) (d : Lazy A) (e : Lazy B) : wanted (some true) A B d e = A := Eq.trans rfl rfl
@[simp] theorem wanted_false (A B : Prop) (d : Lazy A) (e : Lazy B) : wanted (some false) A B d e = B := Eq.trans rfl rfl
@[simp] theorem wanted_none (A B : Prop) (d : Lazy A) (e : Lazy B) : wanted none A B d e = False := Eq.trans rfl rfl
theorem wanted_bool (b : Bool) (A B : Prop) (d : Lazy A) (e : Lazy B) : wanted (some b) A B d e = ((b = true → A) ∧ (b = false → B)) := by cases b <;> simp
@[simp ↓] theorem runOps_nil (ops : Array Oper) (K : Fr → Hp → Prop) : runOps P n ops K [] fr h = K fr h := Eq.trans rfl rfl
theorem runOps_cons' (ops : Array Oper) (K : Fr → Hp → Prop) (o : Oper) (rest : List Oper) :
    runOps P n ops K (o :: rest) fr h = wanted (wantA ops o fr) (after P h (opA P (evalA fr) o.op h) (fun v h' => runOps P n ops K rest (putF n fr o.dst v) h') .mk) (runOps P n ops K rest (putF n fr o.dst sk) h) .mk .mk := by
  rw [runOps]
  cases wantA ops o fr with
  | none => rfl
  | some t =>
    cases t
    · simp
    · simp only [Bool.true_eq_false, false_imp_iff, and_true, true_imp_iff, wanted_true, after]
      cases opA P (evalA fr) o.op h with
      | none => rfl
      | some r => cases r <;> rfl
@[simp ↓] theorem runOps_cons (ops : Array Oper) (K : Fr → Hp → Prop) (dst : Option Tmp) (op : Op) (ty : TypeId) (pos : String) (aft : Array Edge) (rest : List Oper) :
    runOps P n ops K (⟨dst, op, ty, pos, aft, none⟩ :: rest) fr h = after P h (opA P (evalA fr) op h) (fun v h' => runOps P n ops K rest (putF n fr dst v) h') .mk := by
  rw [runOps_cons']
  rfl
@[simp ↓] theorem runOps_guard (ops : Array Oper) (K : Fr → Hp → Prop) (dst : Option Tmp) (op : Op) (ty : TypeId) (pos : String) (aft : Array Edge) (g : Nat × Bool) (rest : List Oper) :
    runOps P n ops K (⟨dst, op, ty, pos, aft, some g⟩ :: rest) fr h = wanted (wantA ops ⟨dst, op, ty, pos, aft, some g⟩ fr) (after P h (opA P (evalA fr) op h) (fun v h' => runOps P n ops K rest (putF n fr dst v) h') .mk) (runOps P n ops K rest (putF n fr dst sk) h) .mk .mk := runOps_cons' _ _ _ _
def normK (Q : QA) : Fr → Hp → Prop := fun fr h => Q .normal fr h
@[simp ↓] theorem normK_eq : normK Q fr h = Q .normal fr h := Eq.trans rfl rfl
def seqQ (P : Program) (n : Nat) (y : Code) (Q : QA) : QA := fun e fr h => match e with
  | .normal => Run P n y Q fr h
  | e => Q e fr h
@[simp ↓] theorem seqQ_normal (y : Code) : seqQ P n y Q .normal fr h = Run P n y Q fr h := Eq.trans rfl rfl
@[simp ↓] theorem seqQ_ret (y : Code) : seqQ P n y Q .ret fr h = Q .ret fr h := Eq.trans rfl rfl
@[simp ↓] theorem seqQ_exit (y : Code) (id : Nat) : seqQ P n y Q (.exit id) fr h = Q (.exit id) fr h := Eq.trans rfl rfl
def blkQ (id : Nat) (Q : QA) : QA := fun e fr h => match e with
  | .exit id' => if id' = id then Q .normal fr h else Q (.exit id') fr h
  | e => Q e fr h
@[simp ↓] theorem blkQ_normal (id : Nat) : blkQ id Q .normal fr h = Q .normal fr h := Eq.trans rfl rfl
@[simp ↓] theorem blkQ_ret (id : Nat) : blkQ id Q .ret fr h = Q .ret fr h := Eq.trans rfl rfl
theorem blkQ_exit (id id' : Nat) : blkQ id Q (.exit id') fr h = if id' = id then Q .normal fr h else Q (.exit id') fr h := rfl
@[simp ↓] theorem blkQ_same (id : Nat) : blkQ id Q (.exit id) fr h = Q .normal fr h := by rw [blkQ_exit, if_pos rfl]
@[simp ↓] theorem blkQ_other (id id' : Nat) (hne : (id' == id) = false) : blkQ id Q (.exit id') fr h = Q (.exit id') fr h := by rw [blkQ_exit, if_neg (by simpa using hne)]
@[simp ↓] theorem Run_seq' (x y : Code) : Run P n (.seq x y) Q fr h = Run P n x (seqQ P n y Q) fr h := Eq.trans rfl rfl
@[simp ↓] theorem Run_block' (id : Nat) (c : Code) : Run P n (.block id c) Q fr h = Run P n c (blkQ id Q) fr h := Eq.trans rfl rfl
@[simp ↓] theorem Run_region' (id : Nat) (l : List Oper) : Run P n (.region id l.toArray false) Q fr h = runOps P n l.toArray (normK Q) l fr h := Eq.trans rfl rfl
def wantV (v : Value) (want : Bool) : Option Bool :=
  match v with
  | .bool b => some (b == want)
  | .float .f32 0 => some false
  | _ => none
def wantD (d : Option Tmp) (want : Bool) (fr : Fr) : Option Bool :=
  match d with
  | none => some false
  | some d => wantV (fr d) want
@[simp] theorem wantV_true (b : Bool) : wantV (.bool b) true = some b := by cases b <;> rfl
@[simp] theorem wantV_false (b : Bool) : wantV (.bool b) false = some (!b) := by cases b <;> rfl
@[simp] theorem wantV_sk (want : Bool) : wantV sk want = some false := Eq.trans rfl rfl
@[simp] theorem wantD_some (d : Tmp) (want : Bool) : wantD (some d) want fr = wantV (fr d) want := Eq.trans rfl rfl
@[simp] theorem wantD_none (want : Bool) : wantD none want fr = some false := Eq.trans rfl rfl
@[simp ↓] theorem wantA_some (ops : Array Oper) (d op ty pos aft) (j : Nat) (want : Bool) : wantA ops ⟨d, op, ty, pos, aft, some (j, want)⟩ fr = wantD ((ops[j]?).bind (·.dst)) want fr := by
  simp only [wantA, wantD, wantV]
  cases h : (ops[j]?).bind (·.dst) with
  | none => rfl
  | some d => simp only; cases fr d <;> first | rfl | (rename_i a b; cases a <;> cases b <;> rfl)
theorem wanted_cases {b : Bool} {A B : Prop} {d : Lazy A} {e : Lazy B} (ha : b = true → A) (hb : b = false → B) : wanted (some b) A B d e := by cases b <;> first | exact hb rfl | exact ha rfl
/-- where 'simp' stops -/
def stop (p : Prop) (_ : Lazy p) : Prop := p
@[simp ↓] theorem Run_loop' (c : Code) : Run P n (.loop c) Q fr h = stop (WpA P n (.loop c) Q fr h) .mk := Eq.trans rfl rfl
@[simp ↓] theorem Run_rangeFunc' (g : Operand) (ps : Array Tmp) (x y : Code) : Run P n (.rangeFunc g ps x y) Q fr h = stop (WpA P n (.rangeFunc g ps x y) Q fr h) .mk := Eq.trans rfl rfl
@[simp ↓] theorem Run_draw' (id : Nat) (ops : Array Oper) : Run P n (.region id ops true) Q fr h = stop (WpA P n (.region id ops true) Q fr h) .mk := Eq.trans rfl rfl
/-- a branch -/
def branch (v : Value) (A B : Prop) (_ : Lazy A) (_ : Lazy B) : Prop :=
  match v with
  | .bool true => A
  | .bool false => B
  | _ => False
@[simp] theorem branch_true (A B : Prop) (d : Lazy A) (e : Lazy B) : branch (.bool true) A B d e = A := Eq.trans rfl rfl
@[simp] theorem branch_false (A B : Prop) (d : Lazy A) (e : Lazy B) : branch (.bool false) A B d e = B := Eq.trans rfl rfl
theorem branch_bool (b : Bool) (A B : Prop) (d : Lazy A) (e : Lazy B) : branch (.bool b) A B d e = ((b = true → A) ∧ (b = false → B)) := by cases b <;> simp
theorem branch_cases {b : Bool} {A B : Prop} {d : Lazy A} {e : Lazy B} (ha : b = true → A) (hb : b = false → B) : branch (.bool b) A B d e := by cases b <;> first | exact hb rfl | exact ha rfl
@[simp ↓] theorem Run_branch (c : Operand) (x y : Code) : Run P n (.cond c x y) Q fr h = branch (evalA fr c) (Run P n x Q fr h) (Run P n y Q fr h) .mk .mk := by
  rw [Run_cond]
  unfold branch
  cases evalA fr c with
  | bool b => cases b <;> simp
  | _ => rfl
/-- how a call's answer is used -/
theorem EvA.use {f : FuncId} {args : List Value} {K K' : Value → Hp → Prop} (he : EvA P f args K h) (hk : ∀ r h', K r h' → K' r h') : EvA P f args K' h := he.mono hk

/-! numbers -/
@[simp] theorem bits_i8 : IntKind.i8.bits = 8 := Eq.trans rfl rfl
@[simp] theorem bits_u8 : IntKind.u8.bits = 8 := Eq.trans rfl rfl
@[simp] theorem bits_i16 : IntKind.i16.bits = 16 := Eq.trans rfl rfl
@[simp] theorem bits_u16 : IntKind.u16.bits = 16 := Eq.trans rfl rfl
@[simp] theorem bits_i32 : IntKind.i32.bits = 32 := Eq.trans rfl rfl
@[simp] theorem bits_u32 : IntKind.u32.bits = 32 := Eq.trans rfl rfl
@[simp] theorem bits_i64 : IntKind.i64.bits = 64 := Eq.trans rfl rfl
@[simp] theorem bits_u64 : IntKind.u64.bits = 64 := Eq.trans rfl rfl
theorem wrap_id {k : IntKind} {a : Int} (h0 : k.min ≤ a) (h1 : a ≤ k.max) : k.wrap a = a := by
  cases k <;> simp [IntKind.wrap, IntKind.min, IntKind.max, IntKind.bits, IntKind.signed] at * <;> omega
theorem wrap_i64 {a : Int} (h0 : -9223372036854775808 ≤ a) (h1 : a ≤ 9223372036854775807) : IntKind.i64.wrap a = a := by
  simp [IntKind.wrap, IntKind.signed]; omega
theorem wrap_i32 {a : Int} (h0 : -2147483648 ≤ a) (h1 : a ≤ 2147483647) : IntKind.i32.wrap a = a := by
  simp [IntKind.wrap, IntKind.signed]; omega
theorem wrap_u64 {a : Int} (h0 : 0 ≤ a) (h1 : a ≤ 18446744073709551615) : IntKind.u64.wrap a = a := by
  simp [IntKind.wrap, IntKind.signed]; omega
theorem wrap_u32 {a : Int} (h0 : 0 ≤ a) (h1 : a ≤ 4294967295) : IntKind.u32.wrap a = a := by
  simp [IntKind.wrap, IntKind.signed]; omega
theorem wrap_u8 {a : Int} (h0 : 0 ≤ a) (h1 : a ≤ 255) : IntKind.u8.wrap a = a := by
  simp [IntKind.wrap, IntKind.signed]; omega
@[simp] theorem wrap_i64_lit (n : Nat) (h : Nat.ble n 9223372036854775807 = true) : IntKind.i64.wrap (no_index (OfNat.ofNat n)) = (OfNat.ofNat n : Int) :=
  wrap_i64 (a := (OfNat.ofNat n : Int)) (by have : (0 : Int) ≤ OfNat.ofNat n := Int.natCast_nonneg n; omega) (by have := Nat.le_of_ble_eq_true h; exact Int.ofNat_le.2 this)
@[simp] theorem wrap_u64_lit (n : Nat) (h : Nat.ble n 18446744073709551615 = true) : IntKind.u64.wrap (no_index (OfNat.ofNat n)) = (OfNat.ofNat n : Int) :=
  wrap_u64 (a := (OfNat.ofNat n : Int)) (Int.natCast_nonneg n) (by have := Nat.le_of_ble_eq_true h; exact Int.ofNat_le.2 this)
@[simp] theorem wrap_u8_lit (n : Nat) (h : Nat.ble n 255 = true) : IntKind.u8.wrap (no_index (OfNat.ofNat n)) = (OfNat.ofNat n : Int) :=
  wrap_u8 (a := (OfNat.ofNat n : Int)) (Int.natCast_nonneg n) (by have := Nat.le_of_ble_eq_true h; exact Int.ofNat_le.2 this)
theorem wrap_u8_mod (a : Int) : IntKind.u8.wrap a = a % 256 := by simp [IntKind.wrap, IntKind.signed]
theorem wrap_u64_mod (a : Int) : IntKind.u64.wrap a = a % 18446744073709551616 := by simp [IntKind.wrap, IntKind.signed]
theorem fdiv_pos {a b : Int} (hb : 0 ≤ b) : a.fdiv b = a / b := Int.fdiv_eq_ediv_of_nonneg a hb

/-! operations at values whose form is seen -/
@[simp] theorem conv_int {s d : TypeId} {k0 k k' : IntKind} {m : Int} (hs : P.underlying s = some (.int k0)) (hd : P.underlying d = some (.int k)) : convA P s d (.int k' m) h = some (.int k (k.wrap m), h) := by
  simp [convA, hs, hd]
@[simp] theorem conv_sb {s d e : TypeId} {u : ByteArray} (hs : P.underlying s = some .string) (hd : P.underlying d = some (.slice e)) (he : P.underlying e = some (.int .u8)) :
    convA P s d (.string u) h = if u.size < 4611686018427387904 then some (.slice (some ⟨h.length, 0, none⟩) u.size (capO + u.size), h ++ [.cells (u.data.toList.map byteV) false (some 1)]) else none := by
  simp [convA, hs, hd, he]
@[simp] theorem index_string {t : TypeId} {u : ByteArray} {k : IntKind} {i : Int} (ht : P.underlying t = some .string) : indexA P t (.string u) (.int k i) = if 0 ≤ i then (u[i.toNat]?).map fun b => .int .u8 b.toNat else none := by
  simp [indexA, ht]
@[simp] theorem len_string {t : TypeId} {u : ByteArray} (ht : P.underlying t = some .string) : lenA P t (.string u) h = some (.int .i64 (u.size : Nat)) := by
  simp [lenA, ht]
@[simp] theorem bnd_none (d m : Nat) : bndA none d m = some d := Eq.trans rfl rfl
@[simp] theorem bnds_lh (n c : Nat) (k k' : IntKind) (l u : Int) : bndsA n c (some (.int k l)) (some (.int k' u)) none = if 0 ≤ l ∧ l ≤ u ∧ u ≤ c then some (l.toNat, u.toNat, c) else none := by
  simp only [bndsA, bndA]
  by_cases h1 : 0 ≤ u ∧ u ≤ (c : Int)
  · rw [if_pos h1]
    by_cases h2 : 0 ≤ l ∧ l ≤ u
    · simp only
      rw [if_pos (by omega), if_pos (by omega)]
    · simp only
      rw [if_neg (by omega), if_neg (by omega)]
  · rw [if_neg h1, if_neg (by omega)]
@[simp] theorem bnds_l (n c : Nat) (k : IntKind) (l : Int) : bndsA n c (some (.int k l)) none none = if 0 ≤ l ∧ l ≤ n then some (l.toNat, n, c) else none := by
  simp only [bndsA, bndA]
  by_cases h2 : 0 ≤ l ∧ l ≤ (n : Int)
  · rw [if_pos h2, if_pos h2]
  · rw [if_neg h2, if_neg h2]
@[simp] theorem bnds_h (n c : Nat) (k : IntKind) (u : Int) : bndsA n c none (some (.int k u)) none = if 0 ≤ u ∧ u ≤ c then some (0, u.toNat, c) else none := by
  simp only [bndsA, bndA]
  by_cases h1 : 0 ≤ u ∧ u ≤ (c : Int)
  · rw [if_pos h1, if_pos h1]
  · rw [if_neg h1, if_neg h1]
@[simp] theorem bnds_none (n c : Nat) : bndsA n c none none none = some (0, n, c) := Eq.trans rfl rfl
@[simp] theorem slice_string {t : TypeId} {u : ByteArray} {lo hi : Option Value} (ht : P.underlying t = some .string) : sliceA P t (.string u) lo hi none h = (bndsA u.size u.size lo hi none).map fun p => .string (u.extract p.1 p.2.1) := by
  simp only [sliceA, ht]
  cases bndsA u.size u.size lo hi none with
  | none => rfl
  | some p => rfl
@[simp] theorem bin_eql_ptr10 {t : TypeId} {x y : Operand} {e : TypeId} (a : Addr) (ht : P.underlying t = some (.pointer e)) : binA P .eql t x y (.pointer (some a)) (.pointer none) = some (.bool false) := by
  simp only [binA, guardA, if_true]
  rw [show (10000 : Nat) = 9999 + 1 from rfl]
  simp [eqA, ht]
@[simp] theorem bin_neq_ptr10 {t : TypeId} {x y : Operand} {e : TypeId} (a : Addr) (ht : P.underlying t = some (.pointer e)) : binA P .neq t x y (.pointer (some a)) (.pointer none) = some (.bool true) := by
  simp only [binA, guardA, if_true]
  rw [show (10000 : Nat) = 9999 + 1 from rfl]
  simp [eqA, ht]
@[simp] theorem bin_eql_ptr01 {t : TypeId} {x y : Operand} {e : TypeId} (a : Addr) (ht : P.underlying t = some (.pointer e)) : binA P .eql t x y (.pointer none) (.pointer (some a)) = some (.bool false) := by
  simp only [binA, guardA, if_true]
  rw [show (10000 : Nat) = 9999 + 1 from rfl]
  simp [eqA, ht]
@[simp] theorem bin_neq_ptr01 {t : TypeId} {x y : Operand} {e : TypeId} (a : Addr) (ht : P.underlying t = some (.pointer e)) : binA P .neq t x y (.pointer none) (.pointer (some a)) = some (.bool true) := by
  simp only [binA, guardA, if_true]
  rw [show (10000 : Nat) = 9999 + 1 from rfl]
  simp [eqA, ht]
@[simp] theorem bin_eql_ptr00 {t : TypeId} {x y : Operand} {e : TypeId} (ht : P.underlying t = some (.pointer e)) : binA P .eql t x y (.pointer none) (.pointer none) = some (.bool true) := by
  simp only [binA, guardA, if_true]
  rw [show (10000 : Nat) = 9999 + 1 from rfl]
  simp [eqA, ht]
@[simp] theorem bin_neq_ptr00 {t : TypeId} {x y : Operand} {e : TypeId} (ht : P.underlying t = some (.pointer e)) : binA P .neq t x y (.pointer none) (.pointer none) = some (.bool false) := by
  simp only [binA, guardA, if_true]
  rw [show (10000 : Nat) = 9999 + 1 from rfl]
  simp [eqA, ht]
@[simp] theorem bin_eql_sl10 {t : TypeId} {x y : Operand} {e : TypeId} (a : Addr) (i c j d : Nat) (ht : P.underlying t = some (.slice e)) : binA P .eql t x y (.slice (some a) i c) (.slice none j d) = some (.bool false) := by
  simp only [binA, guardA, if_true]
  rw [show (10000 : Nat) = 9999 + 1 from rfl]
  simp [eqA, ht]
@[simp] theorem bin_neq_sl10 {t : TypeId} {x y : Operand} {e : TypeId} (a : Addr) (i c j d : Nat) (ht : P.underlying t = some (.slice e)) : binA P .neq t x y (.slice (some a) i c) (.slice none j d) = some (.bool true) := by
  simp only [binA, guardA, if_true]
  rw [show (10000 : Nat) = 9999 + 1 from rfl]
  simp [eqA, ht]
@[simp] theorem bin_eql_sl00 {t : TypeId} {x y : Operand} {e : TypeId} (i c j d : Nat) (ht : P.underlying t = some (.slice e)) : binA P .eql t x y (.slice none i c) (.slice none j d) = some (.bool true) := by
  simp only [binA, guardA, if_true]
  rw [show (10000 : Nat) = 9999 + 1 from rfl]
  simp [eqA, ht]
@[simp] theorem bin_neq_sl00 {t : TypeId} {x y : Operand} {e : TypeId} (i c j d : Nat) (ht : P.underlying t = some (.slice e)) : binA P .neq t x y (.slice none i c) (.slice none j d) = some (.bool false) := by
  simp only [binA, guardA, if_true]
  rw [show (10000 : Nat) = 9999 + 1 from rfl]
  simp [eqA, ht]
@[simp] theorem bin_eql_map10 {t : TypeId} {x y : Operand} {k e : TypeId} (a : Nat) (ht : P.underlying t = some (.map k e)) : binA P .eql t x y (.map (some a)) (.map none) = some (.bool false) := by
  simp only [binA, guardA, if_true]
  rw [show (10000 : Nat) = 9999 + 1 from rfl]
  simp [eqA, ht]
@[simp] theorem bin_neq_map10 {t : TypeId} {x y : Operand} {k e : TypeId} (a : Nat) (ht : P.underlying t = some (.map k e)) : binA P .neq t x y (.map (some a)) (.map none) = some (.bool true) := by
  simp only [binA, guardA, if_true]
  rw [show (10000 : Nat) = 9999 + 1 from rfl]
  simp [eqA, ht]
@[simp] theorem bin_eql_map00 {t : TypeId} {x y : Operand} {k e : TypeId} (ht : P.underlying t = some (.map k e)) : binA P .eql t x y (.map none) (.map none) = some (.bool true) := by
  simp only [binA, guardA, if_true]
  rw [show (10000 : Nat) = 9999 + 1 from rfl]
  simp [eqA, ht]
@[simp] theorem bin_neq_map00 {t : TypeId} {x y : Operand} {k e : TypeId} (ht : P.underlying t = some (.map k e)) : binA P .neq t x y (.map none) (.map none) = some (.bool false) := by
  simp only [binA, guardA, if_true]
  rw [show (10000 : Nat) = 9999 + 1 from rfl]
  simp [eqA, ht]
@[simp] theorem bin_eql_if10 {t : TypeId} {x y : Operand} {ms : Array (String × TypeId)} (u : TypeId) (v : Value) (ht : P.underlying t = some (.interface ms)) : binA P .eql t x y (.iface u v) (.nilIface) = some (.bool false) := by
  simp only [binA, guardA, if_true]
  rw [show (10000 : Nat) = 9999 + 1 from rfl]
  simp [eqA, ht]
@[simp] theorem bin_neq_if10 {t : TypeId} {x y : Operand} {ms : Array (String × TypeId)} (u : TypeId) (v : Value) (ht : P.underlying t = some (.interface ms)) : binA P .neq t x y (.iface u v) (.nilIface) = some (.bool true) := by
  simp only [binA, guardA, if_true]
  rw [show (10000 : Nat) = 9999 + 1 from rfl]
  simp [eqA, ht]
@[simp] theorem bin_eql_if01 {t : TypeId} {x y : Operand} {ms : Array (String × TypeId)} (u : TypeId) (v : Value) (ht : P.underlying t = some (.interface ms)) : binA P .eql t x y (.nilIface) (.iface u v) = some (.bool false) := by
  simp only [binA, guardA, if_true]
  rw [show (10000 : Nat) = 9999 + 1 from rfl]
  simp [eqA, ht]
@[simp] theorem bin_neq_if01 {t : TypeId} {x y : Operand} {ms : Array (String × TypeId)} (u : TypeId) (v : Value) (ht : P.underlying t = some (.interface ms)) : binA P .neq t x y (.nilIface) (.iface u v) = some (.bool true) := by
  simp only [binA, guardA, if_true]
  rw [show (10000 : Nat) = 9999 + 1 from rfl]
  simp [eqA, ht]
@[simp] theorem bin_eql_bool {t : TypeId} {x y : Operand} (ht : P.underlying t = some .bool) (a b : Bool) : binA P .eql t x y (.bool a) (.bool b) = some (.bool (a == b)) := by
  simp only [binA, guardA, if_true]
  rw [show (10000 : Nat) = 9999 + 1 from rfl]
  simp [eqA, ht]
@[simp] theorem bin_neq_bool {t : TypeId} {x y : Operand} (ht : P.underlying t = some .bool) (a b : Bool) : binA P .neq t x y (.bool a) (.bool b) = some (.bool (a != b)) := by
  simp only [binA, guardA, if_true]
  rw [show (10000 : Nat) = 9999 + 1 from rfl]
  simp [eqA, ht, bne]
@[simp] theorem mm_two (mx : Bool) (k : IntKind) (a b : Int) : mmA mx [.int k a, .int k b] = some (.int k (if mx then max a b else min a b)) := by
  simp [mmA, mm2]
  cases mx <;> simp <;> omega
end
end Go.Ab

/- Rows of cells as lists, heaps that have changed but for some blocks, and rows that grow; no condition. -/
namespace Go.Ab
open Go.RowKit
section
variable {P : Program} {h h' h'' : Hp} {n z : Nat} {S S' : Nat → Prop}

/-- h' has what h had, but for the blocks of S. -/
def Upd (S : Nat → Prop) (h h' : Hp) : Prop := h.length ≤ h'.length ∧ ∀ b, b < h.length → ¬ S b → h'[b]? = h[b]?
def Same (h h' : Hp) : Prop := Upd (fun _ => False) h h'
theorem Upd.refl : Upd S h h := ⟨Nat.le_refl _, fun _ _ _ => rfl⟩
theorem Upd.trans (a : Upd S h h') (b : Upd S' h' h'') (hs : ∀ k, k < h.length → S' k → S k) : Upd S h h'' :=
  ⟨Nat.le_trans a.1 b.1, fun k hk hn => (b.2 k (Nat.lt_of_lt_of_le hk a.1) (fun hs' => hn (hs k hk hs'))).trans (a.2 k hk hn)⟩
theorem Upd.mono (a : Upd S h h') (hs : ∀ k, k < h.length → S k → S' k) : Upd S' h h' := ⟨a.1, fun k hk hn => a.2 k hk (fun h => hn (hs k hk h))⟩
theorem Upd.new (t : Hp) : Upd S h (h ++ t) := ⟨by simp, fun k hk _ => List.getElem?_append_left hk⟩
theorem Upd.set {b : Nat} (hb : S b) (B : Blk) : Upd S h (h.set b B) :=
  ⟨by simp, fun k _ hn => List.getElem?_set_ne (fun e => hn (by rw [← e]; exact hb))⟩
theorem Upd.at (a : Upd S h h') {b : Nat} {B : Blk} (hB : h[b]? = some B) (hn : ¬ S b) : h'[b]? = some B := (a.2 b (hp_lt hB) hn).trans hB
theorem Same.at (a : Same h h') {b : Nat} {B : Blk} (hB : h[b]? = some B) : h'[b]? = some B := Upd.at a hB (fun h => h)
theorem Same.refl : Same h h := Upd.refl
theorem Same.trans (a : Same h h') (b : Same h' h'') : Same h h'' := Upd.trans a b (fun _ _ h => h)
theorem Same.new (t : Hp) : Same h (h ++ t) := Upd.new t
theorem Same.len (a : Same h h') : h.length ≤ h'.length := a.1
theorem Upd.len (a : Upd S h h') : h.length ≤ h'.length := a.1
theorem Upd.none (a : Upd S h h') (hs : ∀ k, k < h.length → ¬ S k) : Same h h' := ⟨a.1, fun k hk _ => a.2 k hk (hs k hk)⟩

/-- the block of a row's value -/
def inRow (v : Value) (k : Nat) : Prop := ∃ a n c, v = .slice (some a) n c ∧ a.block = k
/-- v is a row of n elements of z cells: these -/
def Row (h : Hp) (z : Nat) (v : Value) (n : Nat) (xs : List Value) : Prop := (∃ a c, v = .slice a n c) ∧ srcA z v h = some (n, xs) ∧ xs.length = n * z
theorem Row.nil : Row h z (.slice none 0 0) 0 [] := ⟨⟨_, _, rfl⟩, rfl, by simp⟩
theorem Row.zero {b o c : Nat} : Row h z (.slice (some ⟨b, o, none⟩) 0 c) 0 [] := ⟨⟨_, _, rfl⟩, by simp [srcA], by simp⟩
theorem srcA_inv {v : Value} {m : Nat} {xs : List Value} {a : Option Addr} {c : Nat} (hs : srcA z (.slice a n c) h = some (m, xs)) :
    m = n ∧ ((n = 0 ∧ xs = []) ∨ (n ≠ 0 ∧ ∃ b o cs ro op, a = some ⟨b, o, none⟩ ∧ h[b]? = some (.cells cs ro op) ∧ o + n * z ≤ cs.length ∧ xs = (cs.drop o).take (n * z))) := by
  unfold srcA at hs
  split at hs
  · rename_i he; cases he; simp at hs; exact ⟨hs.1.symm, .inl ⟨rfl, hs.2⟩⟩
  · rename_i he; cases he; simp at hs; exact ⟨hs.1.symm, .inl ⟨rfl, hs.2⟩⟩
  · rename_i b o n' c' he
    cases he
    split at hs
    · rename_i hn; simp at hs; exact ⟨by omega, .inl ⟨hn, hs.2⟩⟩
    · rename_i hn
      split at hs
      · rename_i cs ro op hB
        split at hs
        · rename_i hl; simp at hs; exact ⟨hs.1.symm, .inr ⟨hn, b, o, cs, ro, op, rfl, hB, hl, hs.2.symm⟩⟩
        · simp at hs
      · simp at hs
  · rename_i he; cases he
  · simp at hs
theorem Row.inv {a : Option Addr} {c m : Nat} {xs : List Value} (hr : Row h z (.slice a n c) m xs) :
    m = n ∧ ((n = 0 ∧ xs = []) ∨ (n ≠ 0 ∧ ∃ b o cs ro op, a = some ⟨b, o, none⟩ ∧ h[b]? = some (.cells cs ro op) ∧ o + n * z ≤ cs.length ∧ xs = (cs.drop o).take (n * z))) :=
  ⟨by obtain ⟨a', c', he⟩ := hr.1; cases he; rfl, (srcA_inv (v := .nilFunc) hr.2.1).2⟩
theorem Row.upd {v : Value} {xs : List Value} (hr : Row h z v n xs) (u : Upd S h h') (hn : ∀ k, inRow v k → ¬ S k) : Row h' z v n xs := by
  obtain ⟨⟨a, c, rfl⟩, hs, hl⟩ := hr
  refine ⟨⟨a, c, rfl⟩, ?_, hl⟩
  have hs0 := hs
  obtain ⟨_, ⟨rfl, rfl⟩ | ⟨h0, b, o, cs, ro, op, rfl, hB, hle, rfl⟩⟩ := srcA_inv (v := .nilFunc) hs
  · unfold srcA at hs ⊢
    split at hs
    · rfl
    · rfl
    · rename_i he; cases he; simp
    · rename_i he; cases he
    · simp at hs
  · have hB' := u.at hB (hn b ⟨_, _, _, rfl, rfl⟩)
    simp [srcA, h0, hB', hle]
theorem Row.same {v : Value} {xs : List Value} (hr : Row h z v n xs) (u : Same h h') : Row h' z v n xs := hr.upd u (fun _ _ h => h)
theorem Row.len {t e : TypeId} {v : Value} {xs : List Value} (hr : Row h z v n xs) (ht : P.underlying t = some (.slice e)) : lenA P t v h = some (.int .i64 (n : Nat)) := by
  obtain ⟨⟨a, c, rfl⟩, hs, hl⟩ := hr
  obtain ⟨_, ⟨rfl, rfl⟩ | ⟨h0, b, o, cs, ro, op, rfl, hB, hle, rfl⟩⟩ := srcA_inv (v := .nilFunc) hs
  · unfold srcA at hs
    split at hs
    · rename_i he; cases he; simp [lenA, ht]
    · rename_i he; cases he; simp [lenA, ht]
    · rename_i he; cases he; simp [lenA, ht]
    · rename_i he; cases he
    · simp at hs
  · simp [lenA, ht]
/-- an element's place, and what lies there -/
theorem Row.addr {t e : TypeId} {v : Value} {xs : List Value} {k : IntKind} {i : Int} (hr : Row h z v n xs) (ht : P.underlying t = some (.slice e)) (he : sizeT P e = some z) (h0 : 0 ≤ i) (h1 : i < n) :
    ∃ b o cs ro op, indexAddrA P t v (.int k i) = some (.pointer (some ⟨b, o, none⟩)) ∧ inRow v b ∧ h[b]? = some (.cells cs ro op) ∧ o + z ≤ cs.length ∧ (cs.drop o).take z = (xs.drop (i.toNat * z)).take z := by
  obtain ⟨⟨a, c, rfl⟩, hs, hl⟩ := hr
  obtain ⟨_, ⟨rfl, rfl⟩ | ⟨hn, b, o, cs, ro, op, rfl, hB, hle, rfl⟩⟩ := srcA_inv (v := .nilFunc) hs
  · omega
  · refine ⟨b, o + i.toNat * z, cs, ro, op, by simp [indexAddrA, ht, he, h0, h1], ⟨_, _, _, rfl, rfl⟩, hB, ?_, ?_⟩
    · have : (i.toNat + 1) * z ≤ n * z := Nat.mul_le_mul_right z (by omega)
      rw [Nat.add_mul] at this; omega
    · have : (i.toNat + 1) * z ≤ n * z := Nat.mul_le_mul_right z (by omega)
      rw [Nat.add_mul] at this
      rw [List.drop_take, List.take_take, Nat.min_eq_left (by omega), List.drop_drop]
/-- an element of one cell -/
theorem Row.load {t e : TypeId} {v : Value} {xs : List Value} {k : IntKind} {i : Int} (hr : Row h 1 v n xs) (ht : P.underlying t = some (.slice e)) (he : sizeT P e = some 1) (ha : aggT P e = some false) (h0 : 0 ≤ i) (h1 : i < n) :
    ∃ b o y, indexAddrA P t v (.int k i) = some (.pointer (some ⟨b, o, none⟩)) ∧ xs[i.toNat]? = some y ∧ loadA P e (.pointer (some ⟨b, o, none⟩)) h = some y := by
  obtain ⟨b, o, cs, ro, op, e1, _, e2, e3, e4⟩ := hr.addr (k := k) ht he h0 h1
  have hi : i.toNat < xs.length := by rw [hr.2.2]; omega
  refine ⟨b, o, xs[i.toNat], e1, List.getElem?_eq_getElem hi, ?_⟩
  have h2 : cs[o]? = some xs[i.toNat] := by
    have := congrArg (·[0]?) e4
    simp only [List.getElem?_take, List.getElem?_drop] at this
    simpa [hi] using this
  simp [loadA, e2, ha, h2]
/-- an element of several cells -/
theorem Row.loads {t e : TypeId} {v : Value} {xs : List Value} {k : IntKind} {i : Int} (hr : Row h z v n xs) (ht : P.underlying t = some (.slice e)) (he : sizeT P e = some z) (ha : aggT P e = some true) (h0 : 0 ≤ i) (h1 : i < n) :
    ∃ b o, indexAddrA P t v (.int k i) = some (.pointer (some ⟨b, o, none⟩)) ∧ loadA P e (.pointer (some ⟨b, o, none⟩)) h = some (.agg ((xs.drop (i.toNat * z)).take z).toArray) := by
  obtain ⟨b, o, cs, ro, op, e1, _, e2, e3, e4⟩ := hr.addr (k := k) ht he h0 h1
  exact ⟨b, o, e1, by simp [loadA, e2, ha, he, e3, e4]⟩
/-- one cell of an element of several -/
theorem Row.cell {t e : TypeId} {v : Value} {xs : List Value} {k : IntKind} {i : Int} (hr : Row h z v n xs) (ht : P.underlying t = some (.slice e)) (he : sizeT P e = some z) (h0 : 0 ≤ i) (h1 : i < n) :
    ∃ b o, indexAddrA P t v (.int k i) = some (.pointer (some ⟨b, o, none⟩)) ∧ ∀ j f, j < z → aggT P f = some false → loadA P f (.pointer (some ⟨b, o + j, none⟩)) h = xs[i.toNat * z + j]? := by
  obtain ⟨b, o, cs, ro, op, e1, _, e2, e3, e4⟩ := hr.addr (k := k) ht he h0 h1
  refine ⟨b, o, e1, fun j f hj hf => ?_⟩
  have := congrArg (·[j]?) e4
  simp only [List.getElem?_take, List.getElem?_drop, hj, if_true] at this
  simp [loadA, e2, hf, this]

/-! bytes -/
def Bytes (h : Hp) (v : Value) (l : List UInt8) : Prop := Row h 1 v l.length (l.map byteV)
theorem Bytes.same {v : Value} {l : List UInt8} (hb : Bytes h v l) (u : Same h h') : Bytes h' v l := Row.same hb u
theorem Bytes.len {t e : TypeId} {v : Value} {l : List UInt8} (hb : Bytes h v l) (ht : P.underlying t = some (.slice e)) : lenA P t v h = some (.int .i64 (l.length : Nat)) := Row.len hb ht
theorem Bytes.load {t e : TypeId} {v : Value} {l : List UInt8} {k : IntKind} {i : Int} (hb : Bytes h v l) (ht : P.underlying t = some (.slice e)) (he : sizeT P e = some 1) (ha : aggT P e = some false) (h0 : 0 ≤ i) (h1 : i < l.length) :
    ∃ b o, indexAddrA P t v (.int k i) = some (.pointer (some ⟨b, o, none⟩)) ∧ loadA P e (.pointer (some ⟨b, o, none⟩)) h = some (.int .u8 ((l.getD i.toNat 0).toNat : Nat)) := by
  obtain ⟨b, o, y, e1, e2, e3⟩ := Row.load hb ht he ha h0 h1 (k := k)
  refine ⟨b, o, e1, e3.trans ?_⟩
  rw [List.getElem?_map] at e2
  have hi : i.toNat < l.length := by omega
  rw [List.getElem?_eq_getElem hi] at e2
  simp [byteV] at e2
  simp [← e2, List.getD_eq_getElem?_getD, List.getElem?_eq_getElem hi]
theorem Bytes.str {t u e : TypeId} {v : Value} {l : List UInt8} (hb : Bytes h v l) (ht : P.underlying t = some (.slice e)) (hu : P.underlying u = some .string) (he : P.underlying e = some (.int .u8)) :
    convA P t u v h = some (.string ⟨l.toArray⟩, h) := by
  obtain ⟨⟨a, c, rfl⟩, hs, hl⟩ := hb
  obtain ⟨_, ⟨h0, hx⟩ | ⟨h0, b, o, cs, ro, op, rfl, hB, hle, hx⟩⟩ := srcA_inv (v := .nilFunc) hs
  · have hl0 : l = [] := by cases l <;> simp_all
    subst hl0
    unfold srcA at hs
    split at hs
    · rename_i heq; cases heq; simp [convA, ht, hu, he]
    · rename_i heq; cases heq; simp [convA, ht, hu, he]
    · rename_i heq; cases heq; simp [convA, ht, hu, he]
    · rename_i heq; cases heq
    · simp at hs
  · simp only [convA, ht, hu, he]
    rw [if_neg h0, hB]
    simp only
    rw [if_pos (by simpa using hle)]
    simp only [Nat.mul_one] at hx
    rw [← hx, bytesOf_enc]

theorem spl_append (ys : List Value) : ∀ (xs rest : List Value), ys.length ≤ rest.length → spl (xs ++ rest) xs.length ys = xs ++ ys ++ rest.drop ys.length := by
  induction ys with
  | nil => intro xs rest _; simp [spl]
  | cons y ys ih =>
    intro xs rest hl
    cases rest with
    | nil => simp at hl
    | cons r rest =>
      simp only [spl]
      have h1 : (xs ++ r :: rest).set xs.length y = (xs ++ [y]) ++ rest := by simp [List.set_append_right]
      have := ih (xs ++ [y]) rest (by simpa using hl)
      rw [h1]
      simpa using this

/-! rows that grow: of this call's own, above the block k; v is all of its block, whose end is open, or empty, or its block has room behind it -/
def Acc (k : Nat) (h : Hp) (z : Nat) (v : Value) (n : Nat) (xs : List Value) : Prop :=
  xs.length = n * z ∧ ((v = .slice none 0 0 ∧ n = 0) ∨ (∃ b, v = .slice (some ⟨b, 0, none⟩) 0 0 ∧ n = 0 ∧ k ≤ b ∧ b < h.length) ∨
    (∃ b, v = .slice (some ⟨b, 0, none⟩) n (capO + n) ∧ k ≤ b ∧ h[b]? = some (.cells xs false (some z))) ∨
    ∃ b c rest op, v = .slice (some ⟨b, 0, none⟩) n c ∧ n ≤ c ∧ c < capO ∧ k ≤ b ∧ h[b]? = some (.cells (xs ++ rest) false op) ∧ (xs ++ rest).length = c * z)
theorem Acc.nil (k : Nat) : Acc k h z (.slice none 0 0) 0 [] := ⟨by simp, .inl ⟨rfl, rfl⟩⟩
/-- as a composite literal, or 'make', lays it -/
theorem Acc.lit {k b c : Nat} {rest xs : List Value} {op : Option Nat} (hk : k ≤ b) (hB : h[b]? = some (.cells (xs ++ rest) false op)) (hx : xs.length = n * z) (hl : (xs ++ rest).length = c * z) (hn : n ≤ c) (hc : c < capO) :
    Acc k h z (.slice (some ⟨b, 0, none⟩) n c) n xs := ⟨hx, .inr (.inr (.inr ⟨b, c, rest, op, rfl, hn, hc, hk, hB, hl⟩))⟩
theorem Acc.row {k : Nat} {v : Value} {xs : List Value} (ha : Acc k h z v n xs) : Row h z v n xs := by
  obtain ⟨hl, ⟨rfl, rfl⟩ | ⟨b, rfl, rfl, hk, hb⟩ | ⟨b, rfl, hk, hB⟩ | ⟨b, c, rest, op, rfl, hn, hc, hk, hB, hr⟩⟩ := ha
  · simp at hl; subst hl; exact Row.nil
  · simp at hl; subst hl; exact Row.zero
  · refine ⟨⟨_, _, rfl⟩, ?_, hl⟩
    by_cases h0 : n = 0
    · subst h0; simp at hl; subst hl; simp [srcA]
    · simp [srcA, h0, hB, hl]
      exact List.take_of_length_le (by omega)
  · refine ⟨⟨_, _, rfl⟩, ?_, hl⟩
    by_cases h0 : n = 0
    · subst h0; simp at hl; subst hl; simp [srcA]
    · simp [srcA, h0, hB, hl]
theorem Acc.upd {k : Nat} {v : Value} {xs : List Value} (ha : Acc k h z v n xs) (u : Upd S h h') (hn : ∀ k, inRow v k → ¬ S k) : Acc k h' z v n xs := by
  obtain ⟨hl, ⟨rfl, rfl⟩ | ⟨b, rfl, rfl, hk, hb⟩ | ⟨b, rfl, hk, hB⟩ | ⟨b, c, rest, op, rfl, hn', hc, hk, hB, hr⟩⟩ := ha
  · exact ⟨hl, .inl ⟨rfl, rfl⟩⟩
  · exact ⟨hl, .inr (.inl ⟨b, rfl, rfl, hk, Nat.lt_of_lt_of_le hb u.1⟩)⟩
  · exact ⟨hl, .inr (.inr (.inl ⟨b, rfl, hk, u.at hB (hn b ⟨_, _, _, rfl, rfl⟩)⟩))⟩
  · exact ⟨hl, .inr (.inr (.inr ⟨b, c, rest, op, rfl, hn', hc, hk, u.at hB (hn b ⟨_, _, _, rfl, rfl⟩), hr⟩))⟩
theorem Acc.same {k : Nat} {v : Value} {xs : List Value} (ha : Acc k h z v n xs) (u : Same h h') : Acc k h' z v n xs := ha.upd u (fun _ _ h => h)
theorem Acc.above {k : Nat} {v : Value} {xs : List Value} (ha : Acc k h z v n xs) (j : Nat) (hj : inRow v j) : k ≤ j ∧ j < h.length := by
  obtain ⟨a, m, c, rfl, rfl⟩ := hj
  obtain ⟨hl, ⟨he, _⟩ | ⟨b, he, rfl, hk, hb⟩ | ⟨b, he, hk, hB⟩ | ⟨b, c, rest, op, he, hn', hc, hk, hB, hr⟩⟩ := ha
  · cases he
  · cases he; exact ⟨hk, hb⟩
  · cases he; exact ⟨hk, hp_lt hB⟩
  · cases he; exact ⟨hk, hp_lt hB⟩
/-- what is put behind -/
theorem Acc.append {k by_ : Nat} {m : Nat} {t tx e : TypeId} {dx : TypeDesc} {v x : Value} {xs ys : List Value} (ha : Acc k h z v n xs) (hk : k ≤ h.length)
    (ht : P.underlying t = some (.slice e)) (hi : infoT P e = some (z, by_, z)) (htx : P.underlying tx = some dx) (hsx : isSrc dx = true) (hs : srcA z x h = some (m, ys)) (hy : ys.length = m * z) (ho : ys.all oneA = true)
    (hb : (n + m) * by_ ≤ 140737488355328) (hc : n + m < 4611686018427387904) :
    ∃ v' h', appendA P t tx v x h = some (v', h') ∧ Acc k h' z v' (n + m) (xs ++ ys) ∧ Upd (inRow v) h h' ∧ (∀ j, inRow v' j → inRow v j ∨ h.length ≤ j) := by
  have hmb : m * by_ ≤ (n + m) * by_ := Nat.mul_le_mul_right _ (by omega)
  by_cases hm : m = 0
  · subst hm
    simp at hy; subst hy
    refine ⟨v, h, ?_, by simpa using ha, Upd.refl, fun j hj => .inl hj⟩
    obtain ⟨hl, ⟨rfl, rfl⟩ | ⟨b, rfl, rfl, hkb, hb'⟩ | ⟨b, rfl, hkb, hB⟩ | ⟨b, c, rest, op, rfl, hn', hc, hkb, hB, hr⟩⟩ := ha <;> simp [appendA, ht, hi, htx, hsx, hs]
  · have hnew : ∀ (g : Hp) (l : List Value) (j : Nat), g.length = h.length → inRow (growA z l (n + m) g).1 j → h.length ≤ j := by
      rintro g l j hg ⟨a, p, q, he, rfl⟩
      simp only [growA] at he
      cases he
      simp [hg]
    obtain ⟨hl, ⟨rfl, rfl⟩ | ⟨b, rfl, rfl, hkb, hb'⟩ | ⟨b, rfl, hkb, hB⟩ | ⟨b, c, rest, op, rfl, hn', hcc, hkb, hB, hr⟩⟩ := ha
    · simp at hl; subst hl
      refine ⟨(growA z ys (0 + m) h).1, (growA z ys (0 + m) h).2, ?_, ?_, Upd.new _, fun j hj => .inr (hnew _ _ _ rfl hj)⟩
      · simp only [appendA, ht, hi, htx, hsx, hs]
        simp [hm, growA]; omega
      · exact ⟨by simp [hy], .inr (.inr (.inl ⟨h.length, rfl, hk, by simp [growA]⟩))⟩
    · simp at hl; subst hl
      refine ⟨(growA z ys (0 + m) h).1, (growA z ys (0 + m) h).2, ?_, ?_, Upd.new _, fun j hj => .inr (hnew _ _ _ rfl hj)⟩
      · simp only [appendA, ht, hi, htx, hsx, hs]
        simp [hm, growA, capO, oldsA]; omega
      · exact ⟨by simp [hy], .inr (.inr (.inl ⟨h.length, rfl, hk, by simp [growA]⟩))⟩
    · have hlt := hp_lt hB
      refine ⟨(growA z (xs ++ ys) (n + m) (h.set b .dead)).1, (growA z (xs ++ ys) (n + m) (h.set b .dead)).2, ?_, ?_, ?_, fun j hj => .inr (hnew _ _ _ (by simp) hj)⟩
      · simp only [appendA, ht, hi, htx, hsx, hs]
        have hx : List.take (n * z) xs = xs := List.take_of_length_le (by omega)
        have hnc : ¬ (capO + n < capO) := by omega
        have hng : ¬ (n + m ≤ capO + n - capO) := by omega
        simp only [Bool.true_eq_false, if_false, ne_eq, not_true, hm, hB, hnc, hng, false_and, List.drop_zero, hx, ho, and_true, Nat.zero_add, hl, Nat.le_refl, true_and, if_true]
        rw [if_pos ⟨by omega, by omega⟩]
      · exact ⟨by simp [hy, hl, Nat.add_mul], .inr (.inr (.inl ⟨h.length, by simp [growA], hk, by simp [growA]⟩))⟩
      · refine Upd.trans (Upd.set (S := inRow (.slice (some ⟨b, 0, none⟩) n (capO + n))) ⟨_, _, _, rfl, rfl⟩ .dead) (Upd.new (S := fun _ => False) _) (fun _ _ h => h.elim)
    · have hlt := hp_lt hB
      by_cases hfit : n + m ≤ c
      · have h1 : (n + m) * z ≤ c * z := Nat.mul_le_mul_right z hfit
        rw [Nat.add_mul] at h1
        have h2 : ys.length ≤ rest.length := by simp at hr; omega
        have h3 := spl_append ys xs rest h2
        rw [hl] at h3
        refine ⟨.slice (some ⟨b, 0, none⟩) (n + m) c, h.set b (.cells (xs ++ ys ++ rest.drop ys.length) false op), ?_, ?_, Upd.set ⟨_, _, _, rfl, rfl⟩ _, fun j hj => .inl ?_⟩
        · simp only [appendA, ht, hi, htx, hsx, hs]
          simp only [Bool.true_eq_false, if_false, ne_eq, not_true, hm, hcc, hfit, hB, ho, and_true, Nat.zero_add, if_true, h3]
          rw [if_pos ⟨by omega, by omega⟩, if_pos (by rw [hr, Nat.add_mul]; omega)]
        · refine ⟨by simp [hl, hy, Nat.add_mul], .inr (.inr (.inr ⟨b, c, rest.drop ys.length, op, rfl, hfit, hcc, hkb, by simp [hlt], ?_⟩))⟩
          simp at hr ⊢; omega
        · obtain ⟨a, p, q, he, rfl⟩ := hj
          cases he
          exact ⟨_, _, _, rfl, rfl⟩
      · have holds : oldsA z n b 0 h = some xs := by
          by_cases h0 : n = 0
          · subst h0; simp at hl; simp [oldsA, hl]
          · have h1 : n * z ≤ (xs ++ rest).length := by rw [hr]; exact Nat.mul_le_mul_right z hn'
            simp only [oldsA, h0, if_false, hB, Nat.zero_add, h1, if_true, List.drop_zero]
            rw [List.take_append_of_le_length (by omega), List.take_of_length_le (by omega)]
        refine ⟨(growA z (xs ++ ys) (n + m) h).1, (growA z (xs ++ ys) (n + m) h).2, ?_, ?_, Upd.new _, fun j hj => .inr (hnew _ _ _ rfl hj)⟩
        · simp only [appendA, ht, hi, htx, hsx, hs]
          simp only [Bool.true_eq_false, if_false, ne_eq, not_true, hm, hcc, hfit, if_true, holds]
          rw [if_pos ⟨by omega, by omega⟩]
        · exact ⟨by simp [hy, hl, Nat.add_mul], .inr (.inr (.inl ⟨h.length, by simp [growA], hk, by simp [growA]⟩))⟩
theorem Acc.since {h0 : Hp} {v : Value} {xs : List Value} (ha : Acc h0.length h z v n xs) (hs : Same h0 h) (hu : Upd (inRow v) h h') : Same h0 h' :=
  Upd.trans hs hu fun k hk hin => absurd (ha.above k hin).1 (by omega)
/-- bytes of this call's own -/
def BAcc (k : Nat) (h : Hp) (v : Value) (l : List UInt8) : Prop := Acc k h 1 v l.length (l.map byteV)
theorem BAcc.nil (k : Nat) : BAcc k h (.slice none 0 0) [] := Acc.nil k
theorem BAcc.bytes {k : Nat} {v : Value} {l : List UInt8} (ha : BAcc k h v l) : Bytes h v l := Acc.row ha
theorem BAcc.same {k : Nat} {v : Value} {l : List UInt8} (ha : BAcc k h v l) (u : Same h h') : BAcc k h' v l := Acc.same ha u
theorem Bytes.src {v : Value} {l : List UInt8} (hb : Bytes h v l) : srcA 1 v h = some (l.length, l.map byteV) := hb.2.1
theorem src_string (s : ByteArray) : srcA 1 (.string s) h = some (s.data.toList.length, s.data.toList.map byteV) := by
  have : s.data.toList.length = s.size := by simp
  rw [this]; simp [srcA]
theorem src_one (b : UInt8) : srcA 1 (.slice (some ⟨h.length, 0, none⟩) 1 1) (h ++ [.cells [.int .u8 (b.toNat : Nat)] false none]) = some ([b].length, [b].map byteV) := by
  simp [srcA, byteV]
theorem BAcc.append {h0 : Hp} {t tx e : TypeId} {dx : TypeDesc} {v x : Value} {l m : List UInt8} (ha : BAcc h0.length h v l) (hs : Same h0 h)
    (ht : P.underlying t = some (.slice e)) (hi : infoT P e = some (1, 1, 1)) (htx : P.underlying tx = some dx) (hsx : isSrc dx = true) (hx : srcA 1 x h = some (m.length, m.map byteV))
    (hb : l.length + m.length ≤ 109951162777600) : ∃ v' h', appendA P t tx v x h = some (v', h') ∧ BAcc h0.length h' v' (l ++ m) ∧ Same h0 h' := by
  obtain ⟨v', h', e1, e2, e3, _⟩ := Acc.append (P := P) ha hs.len ht hi htx hsx hx (by simp) (by simp [byteV]) (by omega) (by omega)
  exact ⟨v', h', e1, by simpa [BAcc] using e2, Acc.since ha hs e3⟩
theorem Acc.down {k j : Nat} {v : Value} {xs : List Value} (hj : j ≤ k) (ha : Acc k h z v n xs) : Acc j h z v n xs := by
  obtain ⟨hl, ⟨rfl, rfl⟩ | ⟨b, rfl, rfl, hk, hb⟩ | ⟨b, rfl, hk, hB⟩ | ⟨b, c, rest, op, rfl, hn', hc, hk, hB, hr⟩⟩ := ha
  · exact ⟨hl, .inl ⟨rfl, rfl⟩⟩
  · exact ⟨hl, .inr (.inl ⟨b, rfl, rfl, by omega, hb⟩)⟩
  · exact ⟨hl, .inr (.inr (.inl ⟨b, rfl, by omega, hB⟩))⟩
  · exact ⟨hl, .inr (.inr (.inr ⟨b, c, rest, op, rfl, hn', hc, by omega, hB, hr⟩))⟩
theorem BAcc.down {k j : Nat} {v : Value} {l : List UInt8} (hj : j ≤ k) (ha : BAcc k h v l) : BAcc j h v l := Acc.down hj ha
end
end Go.Ab
