/- What an operation does to abstract values and blocks, and that the model's operation does the same: min, max, iterators over strings, maps whose keys are numbers, texts or truth values; no condition. -/
import Derived.Test.YtojdhmkjegkfkaaAb6
namespace Go.Ab
open Go.RowKit
section
variable {P : Program} {μ : Emb} {h : Hp} {w : World}

def mm2 (mx : Bool) : Value → Value → Option Value
  | .int k x, .int _ y => some (.int k (if mx then (if y > x then y else x) else (if y < x then y else x)))
  | _, _ => none
def mmA (mx : Bool) : List Value → Option Value
  | x :: y :: rest => (y :: rest).foldlM (mm2 mx) x
  | _ => none
theorem mm2_ok {mx : Bool} {x y x' y' v : Value} (hx : VRel μ x x') (hy : VRel μ y y') (hA : mm2 mx x y = some v) (w : World) :
    ((if mx then Builtin.max2 x' y' else Builtin.min2 x' y') : Sem Value).run P w = .ok v w ∧ VRel μ v v := by
  unfold mm2 at hA
  split at hA
  · cases hx; cases hy; simp at hA; subst hA
    cases mx <;> exact ⟨by simp [Builtin.max2, Builtin.min2], .int _ _⟩
  · simp at hA
theorem mm_key {mx : Bool} (w : World) : ∀ (rest : List Value) (x y : Value) (ys : List Value) (v : Value), VRel μ x y → (rest = [] → VRel μ x x ∧ x = y) → LRel μ rest ys → rest.foldlM (mm2 mx) x = some v →
    (ys.foldlM (fun a b => if mx then Builtin.max2 a b else Builtin.min2 a b) y : Sem Value).run P w = .ok v w ∧ VRel μ v v := by
  intro rest
  induction rest with
  | nil =>
    intro x y ys v hv hn hr hA
    rw [LRel.nil_inv hr]
    simp at hA; subst hA
    obtain ⟨h3, rfl⟩ := hn rfl
    exact ⟨by simp, h3⟩
  | cons r rest ih =>
    intro x y ys v hv hn hr hA
    obtain ⟨s, ss, rfl, g1, g2⟩ := LRel.cons_inv hr
    simp only [List.foldlM_cons] at hA ⊢
    cases hm : mm2 mx x r with
    | none => rw [hm] at hA; simp at hA
    | some u =>
      rw [hm] at hA
      simp at hA
      obtain ⟨m1, m2⟩ := mm2_ok (P := P) hv g1 hm w
      simp only [Sem.run_bind, m1, Result.andThen_ok]
      exact ih u u ss v m2 (fun _ => ⟨m2, rfl⟩) g2 hA
theorem mmA_ok {mx : Bool} {xs xs' : List Value} {v : Value} (hx : LRel μ xs xs') (hA : mmA mx xs = some v) (at' : Array TypeId) (ty : TypeId) (w : World) :
    (if mx then Builtin.max_ at' ty xs'.toArray else Builtin.min_ at' ty xs'.toArray).run P w = .ok v w ∧ VRel μ v v := by
  unfold mmA at hA
  split at hA
  · rename_i x r rest
    obtain ⟨y, ys, rfl, h1, h2⟩ := LRel.cons_inv hx
    have := mm_key (P := P) w (r :: rest) x y ys v h1 (by simp) h2 hA
    refine ⟨?_, this.2⟩
    cases mx <;> simpa [Builtin.max_, Builtin.min_] using this.1
  · simp at hA

/-! ### iterators over strings -/
def rangeA (P : Program) (t : TypeId) (x : Value) (h : Hp) : Option (Value × Hp) :=
  match P.underlying t, x with
  | some .string, .string s => some (.pointer (some ⟨h.length, 0, none⟩), h ++ [.siter s 0])
  | _, _ => none
theorem rangeA_ok (hr : HRel μ h w) {t : TypeId} {x x' v : Value} {h' : Hp} (hx : VRel μ x x') (hA : rangeA P t x h = some (v, h')) : Ran P μ h w (Instr.range t x') v h' := by
  unfold rangeA at hA
  split at hA
  · rename_i s hu
    cases hx
    simp at hA; obtain ⟨rfl, rfl⟩ := hA
    have hv := VRel.ptr (μ := μ.put h.length ⟨w.heap.size, 0, 0, 0⟩) (b := h.length) 0 (Emb.put_new _ _ _)
    refine ⟨μ.put h.length ⟨w.heap.size, 0, 0, 0⟩, .pointer (some ⟨w.heap.size, 0, none⟩), w.alloc (.stringIter s 0), by simp [Instr.range, run_underlying hu], by simpa using hv, Step.new hr _ _ _ rfl ⟨rfl, ?_⟩⟩
    show (w.heap.push _)[w.heap.size]? = _
    simp
  · simp at hA
def nextA (it : Value) (isString : Bool) (h : Hp) : Option (Value × Hp) :=
  match it, isString with
  | .pointer (some ⟨b, 0, none⟩), true =>
    match h[b]? with
    | some (.siter s pos) =>
      if pos < s.size then some (.tuple #[.bool true, .int .i64 (pos : Nat), .int .i32 (Utf8.decode s pos).1], h.set b (.siter s (pos + (Utf8.decode s pos).2)))
      else some (.tuple #[.bool false], h)
    | _ => none
  | _, _ => none
theorem nextA_ok (hr : HRel μ h w) {it it' v : Value} {isString : Bool} {h' : Hp} (hx : VRel μ it it') (ty : TypeId) (hA : nextA it isString h = some (v, h')) : Ran P μ h w (Instr.next it' isString ty) v h' := by
  unfold nextA at hA
  split at hA
  · rename_i b
    cases hx with
    | ptr o hb =>
      rename_i p
      split at hA
      · rename_i s pos hB
        obtain ⟨q1, q2⟩ := hr.obj b p _ hb hB
        rw [q1]
        split at hA
        · rename_i hlt
          simp at hA; obtain ⟨rfl, rfl⟩ := hA
          refine ⟨μ, .tuple #[.bool true, .int .i64 (pos : Nat), .int .i32 (Utf8.decode s pos).1], { w with heap := w.heap.setIfInBounds p.block (.stringIter s (pos + (Utf8.decode s pos).2)) }, ?_, ?_, ?_⟩
          · simp [Instr.next, run_getObj (P := P) q2 (by simp), hlt, setObj, Sem.run, q2, goInt]
          · refine LRel.tup ?_
            exact LRel.cons (.bool _) (LRel.cons (.int _ _) (LRel.cons (.int _ _) LRel.nil))
          · have hlt' := (hr.dom b p hb).2
            refine Step.write hr hb hB rfl _ (fun _ => rfl) rfl rfl rfl (by simp) (fun k hk => ?_) ⟨q1, ?_⟩
            · simp only [Array.getElem?_setIfInBounds]
              rw [if_neg (by omega)]
            · simp [hlt']
        · rename_i hlt
          simp at hA; obtain ⟨rfl, rfl⟩ := hA
          refine Ran.pure hr (v' := .tuple #[.bool false]) ?_ (LRel.tup (LRel.cons (.bool _) LRel.nil))
          simp [Instr.next, run_getObj (P := P) q2 (by simp), hlt]
      · simp at hA
  · simp at hA

/-! ### maps -/
def grV : Value → Value
  | .agg cs => .agg (cs.map gr)
  | v => gr v
theorem VRel.grV (μ : Emb) (v : Value) : VRel μ (grV v) v := by
  unfold Ab.grV
  split
  · rename_i cs; exact LRel.agg (by simpa [ARel] using LRel.grs μ cs.toList)
  · exact VRel.gr μ _
def zeroV (P : Program) (t : TypeId) : Option Value := ((P.info? t).bind (·.zero)).map grV
theorem zeroV_run {t : TypeId} {v : Value} (hz : zeroV P t = some v) : ∃ z, (∀ w, (zeroValue t).run P w = .ok z w) ∧ ∀ μ, VRel μ v z := by
  unfold zeroV at hz
  obtain ⟨z, h1, rfl⟩ := Option.map_eq_some_iff.1 hz
  obtain ⟨i, h2, h3⟩ := Option.bind_eq_some_iff.1 h1
  exact ⟨z, fun w => run_zeroValue h2 h3 w, fun μ => VRel.grV μ z⟩

/-- a key of one of these kinds, and what holds it against another one -/
def keyOk (d : TypeDesc) (k : Value) : Bool :=
  match d, k with
  | .int _, .int _ _ | .string, .string _ | .bool, .bool _ => true
  | _, _ => false
def findA (d : TypeDesc) (k : Value) : List (Value × Value) → Nat → Option (Option (Nat × Value))
  | [], _ => some none
  | x :: es, i =>
    match Instr.sameNow d k x.1 with
    | some true => some (some (i, x.2))
    | some false => findA d k es (i + 1)
    | none => none
theorem sameNow_rel {d : TypeDesc} {k x x' : Value} (hx : VRel μ x x') {b : Bool} (hA : Instr.sameNow d k x = some b) : Instr.sameNow d k x' = some b ∧ x' = x := by
  cases d <;> cases k <;> simp [Instr.sameNow] at hA <;> cases x <;> simp at hA <;> cases hx <;> exact ⟨by simp [Instr.sameNow, hA], rfl⟩
theorem findA_ok {d : TypeDesc} {k : Value} : ∀ (es : List (Value × Value)) (l : List MapEntry) (i : Nat) (r : Option (Nat × Value)),
    es.length = l.length → (∀ (j : Nat) (x : Value × Value) (e : MapEntry), es[j]? = some x → l[j]? = some e → VRel μ x.1 e.key ∧ VRel μ x.2 e.val) → findA d k es i = some r →
    (r = none ∧ Instr.findNow d k l i = some none) ∨ ∃ j v v', r = some (i + j, v) ∧ Instr.findNow d k l i = some (some (i + j, v')) ∧ VRel μ v v' ∧ (∃ x e, es[j]? = some x ∧ l[j]? = some e ∧ x.2 = v ∧ e.key = x.1 ∧ Instr.sameNow d k x.1 = some true) := by
  intro es
  induction es with
  | nil =>
    intro l i r hlen hrel hA
    cases l with
    | cons _ _ => simp at hlen
    | nil => simp [findA] at hA; subst hA; exact .inl ⟨rfl, rfl⟩
  | cons x es ih =>
    intro l i r hlen hrel hA
    cases l with
    | nil => simp at hlen
    | cons e l =>
      have h0 := hrel 0 x e rfl rfl
      simp only [findA] at hA
      split at hA
      · rename_i hs
        obtain ⟨s1, s2⟩ := sameNow_rel h0.1 hs
        simp at hA; subst hA
        exact .inr ⟨0, x.2, e.val, rfl, by simp [Instr.findNow, s1], h0.2, x, e, rfl, rfl, rfl, s2, hs⟩
      · rename_i hs
        obtain ⟨s1, s2⟩ := sameNow_rel h0.1 hs
        rcases ih l (i + 1) r (by simpa using hlen) (fun j x e hx he => hrel (j + 1) x e (by simpa using hx) (by simpa using he)) hA with ⟨r1, r2⟩ | ⟨j, v, v', r1, r2, r3, y, f, r4, r5, r6⟩
        · exact .inl ⟨r1, by simp [Instr.findNow, s1, r2]⟩
        · refine .inr ⟨j + 1, v, v', ?_, ?_, r3, y, f, by simpa using r4, by simpa using r5, r6⟩
          · rw [r1]; congr 2; omega
          · simp only [Instr.findNow, s1, r2]; congr 3; omega
      · simp at hA

theorem bytes_beq (a b : ByteArray) : (a == b) = true ↔ a = b := by
  rw [beq_toListBytes, ByteArray.toList_eq, ByteArray.toList_eq, beq_iff_eq]
  constructor
  · intro h
    have := Array.ext' (xs := a.data) (ys := b.data) h
    cases a; cases b; simp_all
  · rintro rfl; rfl
theorem checkKey_any {t : TypeId} {d : TypeDesc} {k : Value} (hu : P.underlying t = some d) (hk : keyOk d k = true) (e : Bool) (n : Nat) (w : World) : (Instr.checkKey e (n + 1) t k).run P w = .ok () w := by
  cases d <;> cases k <;> simp [keyOk] at hk <;> simp [Instr.checkKey, run_underlying hu]
theorem checkKey_ok {t : TypeId} {d : TypeDesc} {k : Value} (hu : P.underlying t = some d) (hk : keyOk d k = true) (e : Bool) (w : World) : (Instr.checkKey e 10000 t k).run P w = .ok () w :=
  checkKey_any hu hk e 9999 w

def lookupA (P : Program) (t : TypeId) (m k : Value) (ok : Bool) (h : Hp) : Option Value :=
  match P.underlying t with
  | some (.map kt et) =>
    match P.underlying kt, zeroV P et with
    | some d, some z =>
      if keyOk d k = true then
        match m with
        | .map none => some (if ok then .tuple #[z, .bool false] else z)
        | .map (some b) =>
          match h[b]? with
          | some (.map es) =>
            match findA d k es 0 with
            | some (some (_, v)) => some (if ok then .tuple #[v, .bool true] else v)
            | some none => some (if ok then .tuple #[z, .bool false] else z)
            | none => none
          | _ => none
        | _ => none
      else none
    | _, _ => none
  | _ => none
theorem keyOk_rel {d : TypeDesc} {k k' : Value} (hk : keyOk d k = true) (hr : VRel μ k k') : k' = k := by
  cases d <;> cases k <;> simp [keyOk] at hk <;> cases hr <;> rfl
theorem lookupA_ok (hr : HRel μ h w) {t : TypeId} {m k m' k' v : Value} {ok : Bool} (hm : VRel μ m m') (hk : VRel μ k k') (hA : lookupA P t m k ok h = some v) :
    ∃ v', (Instr.lookup t m' k' ok).run P w = .ok v' w ∧ VRel μ v v' := by
  unfold lookupA at hA
  split at hA
  case h_2 => simp at hA
  rename_i kt et hu
  split at hA
  case h_2 => simp at hA
  rename_i d z hd hz
  obtain ⟨zv, hzr, hzv⟩ := zeroV_run hz
  split at hA
  case isFalse => simp at hA
  rename_i hko
  have hkk := keyOk_rel hko hk
  subst hkk
  have hck := fun e => checkKey_ok (P := P) hd hko e w
  have hnil : ∀ v, (some (if ok = true then Value.tuple #[z, .bool false] else z) = some v) → VRel μ v (if ok = true then .tuple #[zv, .bool false] else zv) := by
    intro v hv
    simp at hv; subst hv
    cases ok
    · exact hzv μ
    · exact LRel.tup (LRel.cons (hzv μ) (LRel.cons (.bool _) LRel.nil))
  split at hA
  · cases hm
    refine ⟨_, ?_, hnil v hA⟩
    simp [Instr.lookup, run_underlying hu, hck, Instr.findKey, run_underlying hd, Instr.findNow, hzr]
  · rename_i b
    cases hm with
    | map hb =>
      rename_i p
      split at hA
      case h_2 => simp at hA
      rename_i es hB
      obtain ⟨l, clock, h1, h2⟩ := hr.map hb hB
      split at hA
      · rename_i i v0 hf
        rcases findA_ok (μ := μ) es l.toList 0 _ h2.len (fun j x e => h2.each j x e) hf with ⟨r1, _⟩ | ⟨j, v1, v', r1, r2, r3, _⟩
        · simp at r1
        · simp at r1
          obtain ⟨_, rfl⟩ := r1
          simp at hA; subst hA
          refine ⟨if ok then .tuple #[v', .bool true] else v', ?_, ?_⟩
          · simp [Instr.lookup, run_underlying hu, run_getObj (P := P) h1 (by simp), hck, Instr.findKey, run_underlying hd, r2]
          · cases ok
            · exact r3
            · exact LRel.tup (LRel.cons r3 (LRel.cons (.bool _) LRel.nil))
      · rename_i hf
        rcases findA_ok (μ := μ) es l.toList 0 _ h2.len (fun j x e => h2.each j x e) hf with ⟨_, r2⟩ | ⟨j, v1, v', r1, _⟩
        · refine ⟨_, ?_, hnil v hA⟩
          simp [Instr.lookup, run_underlying hu, run_getObj (P := P) h1 (by simp), hck, Instr.findKey, run_underlying hd, r2, hzr]
        · simp at r1
      · simp at hA
  · simp at hA

def putA (d : TypeDesc) (k v : Value) (es : List (Value × Value)) : Option (List (Value × Value)) :=
  match findA d k es 0 with
  | some (some (i, _)) => some (es.set i (k, v))
  | some none => some (es ++ [(k, v)])
  | none => none
def mapUpdateA (P : Program) (t : TypeId) (m k v : Value) (h : Hp) : Option Hp :=
  match P.underlying t, m with
  | some (.map kt _), .map (some b) =>
    match P.underlying kt, h[b]? with
    | some d, some (.map es) => if keyOk d k = true then (putA d k v es).map fun es' => h.set b (.map es') else none
    | _, _ => none
  | _, _ => none
theorem sameNow_eq {d : TypeDesc} {k x : Value} (h : Instr.sameNow d k x = some true) : x = k := by
  cases d <;> cases k <;> simp [Instr.sameNow] at h <;> cases x <;> simp [bytes_beq] at h <;> simp_all
theorem ERel.set {es : List (Value × Value)} {l : Array MapEntry} {clock i : Nat} (hE : ERel μ es l.toList clock) {k v v' : Value} (hk : VRel μ k k) (hv : VRel μ v v') :
    ERel μ (es.set i (k, v)) (l.modify i fun e => { e with key := k, val := v' }).toList clock := by
  have hget : ∀ j e, (l.modify i fun e => { e with key := k, val := v' }).toList[j]? = some e → ∃ f, l.toList[j]? = some f ∧ (if i = j then e = { f with key := k, val := v' } else e = f) := by
    intro j e he
    rw [Array.getElem?_toList, Array.getElem?_modify] at he
    split at he
    · rename_i hij
      subst hij
      obtain ⟨f, hf, rfl⟩ := Option.map_eq_some_iff.1 he
      exact ⟨f, by rw [Array.getElem?_toList]; exact hf, by simp⟩
    · rename_i hij
      exact ⟨e, by rw [Array.getElem?_toList]; exact he, by rw [if_neg hij]⟩
  refine ⟨by simpa using hE.len, ?_, ?_, ?_⟩
  · intro j x e hx he
    obtain ⟨f, hf, hfe⟩ := hget j e he
    rw [List.getElem?_set] at hx
    by_cases hij : i = j
    · subst hij
      rw [if_pos rfl] at hfe
      simp only [if_true] at hx
      split at hx
      · simp at hx; subst hx; subst hfe; exact ⟨hk, hv⟩
      · simp at hx
    · rw [if_neg hij] at hfe hx
      subst hfe
      exact hE.each j x e hx hf
  · intro j e he
    obtain ⟨f, hf, hfe⟩ := hget j e he
    have := hE.born j f hf
    split at hfe <;> subst hfe <;> exact this
  · intro j j' e e' hj he he'
    obtain ⟨f, hf, hfe⟩ := hget j e he
    obtain ⟨f', hf', hfe'⟩ := hget j' e' he'
    have := hE.once j j' f f' hj hf hf'
    split at hfe <;> split at hfe' <;> subst hfe <;> subst hfe' <;> exact this
theorem ERel.push {es : List (Value × Value)} {l : Array MapEntry} {clock : Nat} (hE : ERel μ es l.toList clock) {k v v' : Value} (hk : VRel μ k k) (hv : VRel μ v v') :
    ERel μ (es ++ [(k, v)]) (l.push { key := k, val := v', born := clock }).toList (clock + 1) := by
  have hget : ∀ j e, (l.push { key := k, val := v', born := clock }).toList[j]? = some e → l.toList[j]? = some e ∨ (j = es.length ∧ e = { key := k, val := v', born := clock }) := by
    intro j e he
    rw [Array.toList_push, List.getElem?_append] at he
    split at he
    · exact .inl he
    · rename_i hj
      right
      have hl := hE.len
      have hj' : j - l.toList.length = 0 := by
        rcases Nat.eq_zero_or_pos (j - l.toList.length) with h' | h'
        · exact h'
        · rw [List.getElem?_eq_none (by simpa using Nat.succ_le_of_lt h')] at he; simp at he
      rw [hj'] at he
      simp at he
      exact ⟨by omega, he.symm⟩
  refine ⟨by simpa using hE.len, ?_, ?_, ?_⟩
  · intro j x e hx he
    rcases hget j e he with h1 | ⟨rfl, rfl⟩
    · have hj : j < es.length := by
        rw [hE.len]
        rcases Nat.lt_or_ge j l.toList.length with h' | h'
        · exact h'
        · rw [List.getElem?_eq_none h'] at h1; simp at h1
      rw [List.getElem?_append_left hj] at hx
      exact hE.each j x e hx h1
    · simp at hx; subst hx; exact ⟨hk, hv⟩
  · intro j e he
    rcases hget j e he with h1 | ⟨rfl, rfl⟩
    · have := hE.born j e h1; omega
    · simp
  · intro j j' e e' hj he he'
    rcases hget j e he with h1 | ⟨rfl, rfl⟩ <;> rcases hget j' e' he' with h2 | ⟨rfl, rfl⟩
    · exact hE.once j j' e e' hj h1 h2
    · exact hE.born j e h1
    · have : j' < es.length := by
        rw [hE.len]
        rcases Nat.lt_or_ge j' l.toList.length with h' | h'
        · exact h'
        · rw [List.getElem?_eq_none h'] at h2; simp at h2
      omega
    · omega
theorem keyOk_self {d : TypeDesc} {k : Value} (hk : keyOk d k = true) : VRel μ k k ∧ Instr.sameBits 10000 k k = true := by
  cases d <;> cases k <;> simp [keyOk] at hk
  · exact ⟨.bool _, by simp [Instr.sameBits]⟩
  · exact ⟨.int _ _, by simp [Instr.sameBits]⟩
  · exact ⟨.string _, by simp [Instr.sameBits, bytes_beq]⟩
theorem mapUpdateA_ok (hr : HRel μ h w) {t : TypeId} {m k v m' k' v' : Value} {h' : Hp} (hm : VRel μ m m') (hk : VRel μ k k') (hv : VRel μ v v') (hA : mapUpdateA P t m k v h = some h') :
    RanU P μ h w (Instr.mapUpdate t m' k' v') h' := by
  unfold mapUpdateA at hA
  split at hA
  case h_2 => simp at hA
  rename_i kt et b hu
  split at hA
  case h_2 => simp at hA
  rename_i d es hd hB
  split at hA
  case isFalse => simp at hA
  rename_i hko
  have hkk := keyOk_rel hko hk
  subst hkk
  have hck := fun e => checkKey_ok (P := P) hd hko e w
  obtain ⟨es', hes, rfl⟩ := Option.map_eq_some_iff.1 hA
  obtain ⟨hself, hbits⟩ := keyOk_self (μ := μ) hko
  cases hm with
  | map hb =>
    rename_i p
    obtain ⟨l, clock, h1, h2⟩ := hr.map hb hB
    unfold putA at hes
    split at hes
    · rename_i i v0 hf
      simp at hes; subst hes
      rcases findA_ok (μ := μ) es l.toList 0 _ h2.len (fun j x e => h2.each j x e) hf with ⟨r1, _⟩ | ⟨j, v1, v1', r1, r2, r3, x, e, x1, x2, x3, x4, x5⟩
      · simp at r1
      · simp at r1
        obtain ⟨rfl, rfl⟩ := r1
        have hek : e.key = k' := by rw [x4]; exact sameNow_eq x5
        obtain ⟨s1, s2⟩ := Step.setMap (P := P) hr hb hB (h2.set (i := i) hself hv)
        refine ⟨μ, _, ?_, s2⟩
        rw [Array.getElem?_toList] at x2
        simp [Instr.mapUpdate, run_underlying hu, run_getObj (P := P) h1 (by simp), hck, Instr.findKey, run_underlying hd, r2, x2, hek, Instr.keyThatStays, hbits, s1]
    · rename_i hf
      simp at hes; subst hes
      rcases findA_ok (μ := μ) es l.toList 0 _ h2.len (fun j x e => h2.each j x e) hf with ⟨_, r2⟩ | ⟨j, v1, v1', r1, _⟩
      · obtain ⟨s1, s2⟩ := Step.setMap (P := P) hr hb hB (h2.push hself hv)
        exact ⟨μ, _, by simp [Instr.mapUpdate, run_underlying hu, run_getObj (P := P) h1 (by simp), hck, Instr.findKey, run_underlying hd, r2, s1], s2⟩
      · simp at r1
    · simp at hes

/-! ### what an interface value holds; room; a key that goes -/
def typeAssertA (P : Program) (x : Value) (t : TypeId) (ok : Bool) : Option Value :=
  match P.underlying t, x with
  | some (.interface _), .nilIface => if ok then (zeroV P t).map fun z => .tuple #[z, .bool false] else none
  | some (.interface _), _ => none
  | some _, .nilIface => if ok then (zeroV P t).map fun z => .tuple #[z, .bool false] else none
  | some _, .iface u v => if u = t then some (if ok then .tuple #[v, .bool true] else v) else if ok then (zeroV P t).map fun z => .tuple #[z, .bool false] else none
  | _, _ => none
theorem typeAssertA_ok {x x' v : Value} {t xt : TypeId} {ok : Bool} (hx : VRel μ x x') (hA : typeAssertA P x t ok = some v) (w : World) : ∃ v', (Instr.typeAssert x' xt t ok).run P w = .ok v' w ∧ VRel μ v v' := by
  have hz : ∀ {v : Value}, (zeroV P t).map (fun z => Value.tuple #[z, .bool false]) = some v → ∃ z, (∀ w, (zeroValue t).run P w = .ok z w) ∧ VRel μ v (.tuple #[z, .bool false]) := by
    intro v h
    obtain ⟨z, h1, rfl⟩ := Option.map_eq_some_iff.1 h
    obtain ⟨zv, h2, h3⟩ := zeroV_run h1
    exact ⟨zv, h2, LRel.tup (LRel.cons (h3 μ) (LRel.cons (.bool _) LRel.nil))⟩
  unfold typeAssertA at hA
  split at hA
  · rename_i hu
    cases hx
    cases ok with
    | false => simp at hA
    | true =>
      obtain ⟨z, h1, h2⟩ := hz (by simpa using hA)
      exact ⟨_, by simp [Instr.typeAssert, run_underlying hu, h1], h2⟩
  · simp at hA
  · rename_i d hni hu
    cases hx
    cases ok with
    | false => simp at hA
    | true =>
      obtain ⟨z, h1, h2⟩ := hz (by simpa using hA)
      refine ⟨.tuple #[z, .bool false], ?_, h2⟩
      cases d <;> first | (simp [Instr.typeAssert, run_underlying hu, h1]; done) | exact absurd rfl (hni _)
  · rename_i d u y hni hu
    cases hx with
    | iface u hy =>
    rename_i y'
    split at hA
    · rename_i hut
      subst hut
      simp at hA; subst hA
      refine ⟨if ok then .tuple #[y', .bool true] else y', ?_, ?_⟩
      · cases d <;> first | (simp [Instr.typeAssert, run_underlying hu]; done) | exact absurd rfl (hni _)
      · cases ok
        · exact hy
        · exact LRel.tup (LRel.cons hy (LRel.cons (.bool _) LRel.nil))
    · rename_i hut
      cases ok with
      | false => simp at hA
      | true =>
        obtain ⟨z, h1, h2⟩ := hz (by simpa using hA)
        refine ⟨.tuple #[z, .bool false], ?_, h2⟩
        cases d <;> first | (simp [Instr.typeAssert, run_underlying hu, hut, h1]; done) | exact absurd rfl (hni _)
  · simp at hA
def capA (P : Program) (t : TypeId) (x : Value) : Option Value :=
  match P.underlying t, x with
  | some (.slice _), .slice none 0 0 => some (.int .i64 0)
  | some (.slice _), .slice (some ⟨_, _, none⟩) _ c => if c < capO then some (.int .i64 (c : Nat)) else none
  | _, _ => none
theorem capA_ok {t ty : TypeId} {x x' v : Value} (hx : VRel μ x x') (hA : capA P t x = some v) (w : World) : (Builtin.cap_ #[t] ty #[x']).run P w = .ok v w ∧ VRel μ v v := by
  unfold capA at hA
  split at hA
  · rename_i hu; cases hx; simp at hA; subst hA; exact ⟨by simp [Builtin.cap_, run_underlying hu, goInt], .int _ _⟩
  · rename_i hu
    split at hA
    · simp at hA; subst hA
      cases hx with
      | sl o n c hb hc hn => exact ⟨by simp [Builtin.cap_, run_underlying hu, goInt], .int _ _⟩
      | slO => omega
      | slE => omega
      | slZ => exact ⟨by simp [Builtin.cap_, run_underlying hu, goInt], .int _ _⟩
    · simp at hA
  · simp at hA
def deleteA (P : Program) (t : TypeId) (m k : Value) (h : Hp) : Option Hp :=
  match P.underlying t with
  | some (.map kt _) =>
    match P.underlying kt with
    | some d =>
      if keyOk d k = true then
        match m with
        | .map none => some h
        | .map (some b) =>
          match h[b]? with
          | some (.map es) =>
            match findA d k es 0 with
            | some (some (i, _)) => some (h.set b (.map (es.eraseIdx i)))
            | some none => some h
            | none => none
          | _ => none
        | _ => none
      else none
    | none => none
  | _ => none
theorem eraseIdx_get {α : Type} : ∀ (l : List α) (i j : Nat), (l.eraseIdx i)[j]? = if j < i then l[j]? else l[j + 1]? := by
  intro l i j
  rw [List.getElem?_eraseIdx]
theorem ERel.erase {es : List (Value × Value)} {l : Array MapEntry} {clock i : Nat} (hE : ERel μ es l.toList clock) : ERel μ (es.eraseIdx i) (l.eraseIdxIfInBounds i).toList clock := by
  have hl : (l.eraseIdxIfInBounds i).toList = l.toList.eraseIdx i := by simp
  rw [hl]
  refine ⟨by simp [List.length_eraseIdx, hE.len], ?_, ?_, ?_⟩
  · intro j x e hx he
    rw [eraseIdx_get] at hx he
    split at hx
    · rename_i h1; rw [if_pos h1] at he; exact hE.each j x e hx he
    · rename_i h1; rw [if_neg h1] at he; exact hE.each (j + 1) x e hx he
  · intro j e he
    rw [eraseIdx_get] at he
    split at he
    · exact hE.born j e he
    · exact hE.born (j + 1) e he
  · intro j k e f hjk he hf
    rw [eraseIdx_get] at he hf
    split at he <;> split at hf
    · exact hE.once j k e f hjk he hf
    · exact hE.once j (k + 1) e f (by omega) he hf
    · omega
    · exact hE.once (j + 1) (k + 1) e f (by omega) he hf
theorem deleteA_ok (hr : HRel μ h w) {t ty tk : TypeId} {m k m' k' : Value} {h' : Hp} (hm : VRel μ m m') (hk : VRel μ k k') (hA : deleteA P t m k h = some h') : Ran P μ h w (Builtin.delete_ #[t, tk] ty #[m', k']) any h' := by
  unfold deleteA at hA
  split at hA
  case h_2 => simp at hA
  rename_i kt et hu
  split at hA
  case h_2 => simp at hA
  rename_i d hd
  split at hA
  case isFalse => simp at hA
  rename_i hko
  have hkk := keyOk_rel hko hk
  subst hkk
  have hck := fun e => checkKey_ok (P := P) hd hko e w
  split at hA
  · cases hm
    simp at hA; subst hA
    exact Ran.pure hr (v' := .tuple #[]) (by simp [Builtin.delete_, run_underlying hu, hck]) (.any _)
  · rename_i b
    cases hm with
    | map hb =>
      rename_i p
      split at hA
      case h_2 => simp at hA
      rename_i es hB
      obtain ⟨l, clock, h1, h2⟩ := hr.map hb hB
      split at hA
      · rename_i i v0 hf
        simp at hA; subst hA
        rcases findA_ok (μ := μ) es l.toList 0 _ h2.len (fun j x e => h2.each j x e) hf with ⟨r1, _⟩ | ⟨j, v1, v', r1, r2, r3, _⟩
        · simp at r1
        · simp at r1
          obtain ⟨rfl, _⟩ := r1
          obtain ⟨s1, s2⟩ := Step.setMap (P := P) hr hb hB (h2.erase (i := i))
          exact ⟨μ, .tuple #[], _, by simp [Builtin.delete_, run_underlying hu, run_getObj (P := P) h1 (by simp), hck, Instr.findKey, run_underlying hd, r2, s1], .any _, s2⟩
      · rename_i hf
        simp at hA; subst hA
        rcases findA_ok (μ := μ) es l.toList 0 _ h2.len (fun j x e => h2.each j x e) hf with ⟨_, r2⟩ | ⟨j, v1, v', r1, _⟩
        · obtain ⟨s1, s2⟩ := Step.setMap (P := P) hr hb hB h2
          rw [set_same hB] at s2
          exact ⟨μ, .tuple #[], _, by simp [Builtin.delete_, run_underlying hu, run_getObj (P := P) h1 (by simp), hck, Instr.findKey, run_underlying hd, r2, s1], .any _, s2⟩
        · simp at r1
      · simp at hA
  · simp at hA
end
end Go.Ab
